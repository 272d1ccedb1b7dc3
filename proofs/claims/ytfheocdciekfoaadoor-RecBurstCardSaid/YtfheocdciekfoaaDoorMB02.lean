/- The law RecBurst walked. -/
import Derived.Test.YtfheocdciekfoaaDoorMA39
import Derived.Test.YtfheocdciekfoaaDoorMB01
namespace Go.Proofs.YtfheocdciekfoaaDoor
open Go.RowKit

theorem half_step {turn z : Nat} (h : turn / 2 ^ z % 2 = 0) (hz : ∀ i, i < z → turn.testBit i = false) : ∀ i, i < z + 1 → turn.testBit i = false := by
  intro i hi
  by_cases he : i = z
  · subst he
    rw [Nat.testBit_eq_decide_div_mod_eq, h]
    rfl
  · exact hz i (by omega)
set_option maxRecDepth 100000 in
set_option maxHeartbeats 4000000 in
theorem recBurst_any (rs : List RecD) (A : Option Addr) (n c B : Nat) (a : Int) (turn : Nat) (w : World) (h : SlR eRec w B (.slice A n c) rs) (hB : B ≤ w.heap.size) (ha : -9223372036854775808 ≤ a ∧ a ≤ 9223372036854775807) (ht : turn < 4294967296) :
    Calls Tryd.prog 6 #[.slice A n c, .int .i64 a, .int .u32 turn] w fun e w' => e = .returned (.bool true) ∧ Below w.heap.size w w' := by
  have hnn := h.n_eq
  subst hnn
  have hcl := h.n_le
  have HS := Lib.hid h
  have HBW := Lib.hid hB
  clear h hB
  go_enter Tryd.func6, Tryd.ntmps6
  by_cases h12 : 12 < rs.length
  · go_wp2_with fail
    refine (awake32_any w).mono ?_
    rintro e w2 ⟨rfl, hb2⟩
    go_wp2_with fail
    go_ret
    exact ⟨rfl, hb2⟩
  by_cases ht0 : turn = 0
  · subst ht0
    go_wp2_with fail
    refine (awake32_any w).mono ?_
    rintro e w2 ⟨rfl, hb2⟩
    go_wp2_with fail
    go_ret
    exact ⟨rfl, hb2⟩
  have ht0b : ((turn : Int) == 0) = false := by simp; omega
  go_wp2_with fail
  refine (lines_any rs A rs.length c B w HS.out HBW.out (by omega)).mono ?_
  rintro e w2 ⟨hb2, hcase⟩
  have HB2 := Lib.hid hb2
  rcases hcase with ⟨x, y, rfl⟩ | ⟨va, ve, rfl, hoa, hoe, hgood⟩
  · clear hb2
    go_wp2_with fail
    refine (awake32_any w2).mono ?_
    rintro e w3 ⟨rfl, hb3⟩
    go_wp2_with fail
    go_ret
    exact ⟨rfl, HB2.out.trans (hb3.mono HB2.out.size)⟩
  have hml := lines_le rs hgood
  obtain ⟨L, hL⟩ : ∃ L, L = rs.flatMap lineL := ⟨_, rfl⟩
  rw [← hL] at hoa hml
  obtain ⟨m, hm⟩ : ∃ m, m = L.length := ⟨_, rfl⟩
  rw [← hm] at hoa hml
  obtain ⟨Ab, cb, rfl, hcb, hcb2⟩ := own_form hoa
  obtain ⟨Ae, ce, rfl, hce, _⟩ := own_form hoe
  have HL := Lib.hid hL
  have HM := Lib.hid hm
  have HG := Lib.hid hgood
  have HOA := Lib.hid hoa
  have HOE := Lib.hid hoe
  clear hb2 hL hm hgood hoa hoe
  have hm12 : m ≤ 240000 := by omega
  by_cases hneg : a < 0
  · go_wp2_with fail
    refine (awake32_any w2).mono ?_
    rintro e w3 ⟨rfl, hb3⟩
    go_wp2_with fail
    go_ret
    exact ⟨rfl, HB2.out.trans (hb3.mono HB2.out.size)⟩
  obtain ⟨p, rfl⟩ : ∃ p : Nat, a = (p : Int) := ⟨a.toNat, by omega⟩
  by_cases hbig : 8 * (m : Int) - 32 < (p : Int)
  · go_wp2_with fail
    refine (awake32_any w2).mono ?_
    rintro e w3 ⟨rfl, hb3⟩
    go_wp2_with fail
    go_ret
    exact ⟨rfl, HB2.out.trans (hb3.mono HB2.out.size)⟩
  have hp32 : p + 32 ≤ 8 * m := by omega
  go_wp2_with fail
  go_loopw [10, 11] (fun v10 v11 wr => ∃ z q : Nat, v10 = .int .i64 ((p + z : Nat) : Int) ∧ v11 = .int .u32 (q : Nat) ∧ 0 < q ∧ q < 4294967296 ∧ z < 32 ∧ Hid (q = turn / 2 ^ z ∧ ∀ i, i < z → turn.testBit i = false) ∧ wr = w2) (fun _ v11 _ => (intOf v11).toNat)
  case atStart => exact ⟨0, turn, rfl, rfl, by omega, ht, by omega, Lib.hid ⟨by simp, fun i hi => absurd hi (by omega)⟩, rfl⟩
  case round =>
    obtain ⟨z, q, rfl, rfl, hq0, hq32, hz32, HQ, rfl⟩ := hrel
    obtain ⟨b, hb⟩ : ∃ b, b = p + z := ⟨_, rfl⟩
    rw [← hb]
    have hb31 : b ≤ p + 31 := by omega
    by_cases hq2 : q % 2 = 0
    · have HQ2 := Lib.hid (show q / 2 = turn / 2 ^ (z + 1) ∧ ∀ i, i < z + 1 → turn.testBit i = false from ⟨by rw [HQ.out.1, Nat.div_div_eq_div_mul, ← Nat.pow_succ], half_step (by rw [← HQ.out.1]; exact hq2) HQ.out.2⟩)
      have hz31 : z + 1 < 32 := by
        apply Classical.byContradiction
        intro hn
        have h1 : turn / 2 ^ (z + 1) = 0 := Nat.div_eq_of_lt (Nat.lt_of_lt_of_le ht (Nat.pow_le_pow_right (by omega : 0 < 2) (by omega : 32 ≤ z + 1)))
        have h2 := HQ2.out.1
        omega
      have HBZ := Lib.hid (show ((b : Int) + 1) = ((p + (z + 1) : Nat) : Int) by omega)
      clear hb
      go_wp2_with fail
      refine ⟨⟨z + 1, q / 2, vint HBZ.out, by go_num, by omega, by omega, hz31, HQ2, trivial⟩, ?_⟩
      simp [intOf]; omega
    · have hbit : turn.testBit z = true := by rw [Nat.testBit_eq_decide_div_mod_eq, ← HQ.out.1]; simp; omega
      have HBIT := Lib.hid hbit
      have hq1 : ((q : Int) % 2 == 0) = false := by simp; omega
      have hTA := turned_any L Ab cb wr.heap.size p turn wr (Rd.of_own HOA.out) (Nat.le_refl _) (by rw [← HM.out]; exact hp32) (by rw [← HM.out]; omega) ht
      rw [← HM.out] at hTA
      have HTA := Lib.hid hTA
      have HB := Lib.hid hb
      clear hb hbit hTA
      go_wp2_with fail
      refine HTA.out.mono ?_
      rintro e w4 ⟨g, cc, M, rfl, hcc, hturn, hrd, hb4⟩
      have hMl : M.length = m := by rw [hturn.1, HM.out]
      have HE4 := Lib.hid (own_below HOE.out hb4)
      have HB4 := Lib.hid (HB2.out.trans (hb4.mono HB2.out.size))
      have HBU := Lib.hid (turned_burst hturn (by rw [← HM.out]; exact hp32) hz32 HBIT.out HQ.out.2)
      rw [← HB.out] at HBU
      obtain ⟨F, hF⟩ : ∃ F, F = b / 8 := ⟨_, rfl⟩
      have HAT := Lib.hid (by have := burst_all rs M F HG.out (by rw [← HL.out, hF]; exact HBU.out); exact this)
      have hAL := all32_any M (some ⟨g, 0, none⟩) cc w4.heap.size w4 hrd (Nat.le_refl _) (by rw [hMl]; omega) (by rw [hMl]; exact hcc)
      rw [hMl] at hAL
      have HAL := Lib.hid hAL
      have hFb : (b : Int) / 8 = (F : Int) := by omega
      have hrs : rs.length ≤ 12 := by omega
      clear hturn hrd hb4 hMl hAL hF HTA
      go_wp2_with fail
      refine HAL.out.mono ?_
      rintro e w5 ⟨got, nn, vg, rfl, hat, hog, hb5⟩
      obtain ⟨hgot, hnn⟩ := all_one hat HAT.out
      obtain ⟨k, hk⟩ : ∃ k, k = wholeN rs F := ⟨_, rfl⟩
      rw [← hk] at hgot hnn
      have hkr : k ≤ rs.length := by rw [hk]; exact wholeN_le _ _
      have hgl : got.length = k := by rw [hgot, List.length_take]; omega
      obtain ⟨Ag, cg, rfl, hcg, _⟩ := hog.form
      have HB5 := Lib.hid (HB4.out.trans (hb5.mono HB4.out.size))
      have HE5 := Lib.hid (own_below HE4.out hb5)
      have HOG := Lib.hid hog.sl
      have HSE := Lib.hid (ncell_sl (by rw [endsL_length]; exact HE5.out) (ends_bd HG.out hrs))
      have HW := Lib.hid (whole_any32 _ _ (F : Int) _ w5 HSE.out (by rw [List.length_map, endsL_length]; omega))
      rw [countP_cast, countP_ends, ← hk] at HW
      have HN := Lib.hid hnn
      have HGOT := Lib.hid hgot
      have HGL := Lib.hid hgl
      rw [hgl] at hcg HOG ⊢
      clear hat hb5 hog hk hnn hgot hgl HAL HE4 HB4
      go_wp2_with fail
      refine HW.out.mono ?_
      rintro e w6 ⟨rfl, rfl⟩
      clear HW
      by_cases hk0 : k = 0
      · subst hk0
        have hn0 : nn = 0 := by rw [HN.out]; simp
        subst hn0
        go_wp2_with fail
        go_loopw [15] (fun v15 wr2 => v15 = .int .i64 0 ∧ wr2 = w5) (fun v15 _ => (intOf v15).toNat)
        case atStart => exact ⟨rfl, rfl⟩
        case round =>
          obtain ⟨rfl, rfl⟩ := hrel
          go_wp2_with fail
          refine (awake32_any _).mono ?_
          rintro e w7 ⟨rfl, hb7⟩
          go_wp2_with fail
          go_ret
          exact ⟨rfl, HB5.out.trans (hb7.mono HB5.out.size)⟩
      · have hkp : 0 < k := by omega
        obtain ⟨q, rfl⟩ : ∃ q, k = q + 1 := ⟨k - 1, by omega⟩
        obtain ⟨be, oe, cs, rfl, _, hbe, hrep, hcell⟩ := HSE.out.get (k := q) (by rw [List.length_map, endsL_length]; omega) (by decide)
        obtain ⟨rfl, _, _⟩ := hrep
        have hce0 := hcell 0 _ rfl
        clear hcell
        simp only [show eInt.size = 1 from rfl, Nat.mul_one, Nat.add_zero, List.getElem_map, endsL_get, ← HN.out] at hce0
        have hqr : q < rs.length := by omega
        have hgot := HGOT.out
        subst hgot
        clear HGOT HGL
        go_wp2_with fail
        go_loopw [15] (fun v15 wr2 => ∃ i2 : Nat, i2 ≤ q + 1 ∧ v15 = .int .i64 i2 ∧ Hid (Below w5.heap.size w5 wr2)) (fun v15 _ => q + 1 - (intOf v15).toNat)
        case atStart => exact ⟨0, by omega, rfl, Below.refl _ _⟩
        case round =>
          obtain ⟨i2, hi2, rfl, HB6⟩ := hrel
          by_cases hlt2 : i2 < q + 1
          · obtain ⟨b1, o1, A5, c5, rfl, hq1, hb1, hhs1, hks1, hcell1⟩ := rec_at (HOG.out.below HB6.out) (k := i2) (by rw [List.length_take]; omega)
            obtain ⟨b2, o2, A6, c6, rfl, hq2, hb2, hhs2, hks2, hcell2⟩ := rec_at (HS.out.below ((HB5.out.trans (HB6.out.mono HB5.out.size)).mono HBW.out)) (k := i2) (by omega)
            simp only [List.getElem_take] at hhs1 hks1 hcell1
            obtain ⟨r, hr⟩ : ∃ r, r = rs[i2] := ⟨_, rfl⟩
            rw [← hr] at hhs1 hks1 hcell1 hhs2 hks2 hcell2
            have HHS := Lib.hid hhs1
            have HK1 := Lib.hid hks1
            have HK2 := Lib.hid hks2
            have HC1 := Lib.hid hcell1
            have HC2 := Lib.hid hcell2
            have HSAME := Lib.hid (show sameD r r = true by simp [sameD])
            clear hr hhs1 hks1 hcell1 hhs2 hks2 hcell2
            have hi2r : i2 < rs.length := by omega
            go_wp2_with fail
            refine wpT_grow [8] [3, 7] [] (by kernel_rfl) (by kernel_rfl) ?_
            refine wpT_seg 3 (by decide) (fun Q1 hQ1 => ?_)
            simp only [List.take_succ_cons, List.take_zero]
            go_wp2_with fail
            try simp only [List.drop_succ_cons, List.drop_zero]
            refine wpT_seg 1 (by decide) (fun Q1 hQ1 => ?_)
            simp only [List.take_succ_cons, List.take_zero]
            refine wpList_load_agg rfl 29 rfl rfl recTy_u rfl (rec_size _ _ _ _ _ _ _ HHS.out.1 HHS.out.2) HC1.out ?_
            refine hQ1 _ _ ?_
            simp only [List.drop_succ_cons, List.drop_zero]
            generalize hac : Act.put _ _ _ = a9
            simp [Act.put] at hac
            subst hac
            refine wpT_seg 3 (by decide) (fun Q1 hQ1 => ?_)
            simp only [List.take_succ_cons, List.take_zero]
            go_wp2_with fail
            try simp only [List.drop_succ_cons, List.drop_zero]
            refine wpT_seg 1 (by decide) (fun Q1 hQ1 => ?_)
            simp only [List.take_succ_cons, List.take_zero]
            refine wpList_load_agg rfl 29 rfl rfl recTy_u rfl (rec_size _ _ _ _ _ _ _ HHS.out.1 HHS.out.2) HC2.out ?_
            refine hQ1 _ _ ?_
            simp only [List.drop_succ_cons, List.drop_zero]
            generalize hac : Act.put _ _ _ = a9
            simp [Act.put] at hac
            subst hac
            refine wpT_one (fun Q1 hQ1 => ?_)
            go_wp2_with fail
            refine (same_any r r A5 A6 r.keys.length c5 r.keys.length c6 w5.heap.size B _ HHS.out HHS.out (HK1.out.below (Below.refl _ _).drew) (HK2.out.below (Below.refl _ _).drew) HB6.out.size (Nat.le_trans HBW.out (Nat.le_trans HB5.out.size HB6.out.size))).mono ?_
            rw [HSAME.out]
            rintro e w7 ⟨rfl, hb7⟩
            have HB7 := Lib.hid hb7
            clear hb7
            go_wp2_with fail
            refine ⟨HB7.out, ?_⟩
            refine wpT_seg 1 (by decide) (fun Q1 hQ1 => ?_)
            simp only [List.take_succ_cons, List.take_zero]
            go_wp2_with fail
            try simp only [List.drop_succ_cons, List.drop_zero]
            refine wpT_end ⟨by rfl, ⟨(fun _ => ⟨_, _, rfl, by simpa using HC1.out 0 _ rfl⟩), (fun _ => ⟨_, _, rfl, by simpa using HC2.out 0 _ rfl⟩), trivial⟩, ?_⟩
            go_wp2_with fail
            have HB8 := Lib.hid (HB6.out.trans ((below_drew HB7.out).mono HB6.out.size))
            refine ⟨⟨i2 + 1, by omega, by go_num, HB8⟩, ?_⟩
            simp [intOf]; omega
          · go_wp2_with fail
            refine (awake32_any _).mono ?_
            rintro e w7 ⟨rfl, hb7⟩
            go_wp2_with fail
            go_ret
            exact ⟨rfl, (HB5.out.trans (HB6.out.mono HB5.out.size)).trans (hb7.mono (Nat.le_trans HB5.out.size HB6.out.size))⟩
end Go.Proofs.YtfheocdciekfoaaDoor
