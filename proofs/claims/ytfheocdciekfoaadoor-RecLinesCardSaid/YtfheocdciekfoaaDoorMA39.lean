/- Texts of this proof joined: RecLostLaw, RecOpen, Laid32. -/
import Derived.Test.YtfheocdciekfoaaDoorMA38
import Derived.Deep.Cut
import Derived.Deep.CutBlock
import Derived.Deep.DeepCutAuto
import Derived.Test.YtfheocdciekfoaaDoorMA19
import Derived.Test.YtfheocdciekfoaaDoorCards
import Derived.Test.YtfheocdciekfoaaDoorTie
import Derived.Test.YtfheocdciekfoaaDoorMA06
import Derived.WalkKit
import Derived.ProofKit
import Derived.OpenShut
import Derived.Deep.DeepHandedRow
/- The law RecLost walked. -/
namespace Go.Proofs.YtfheocdciekfoaaDoor
open Go.RowKit

theorem ncell_sl {w : World} {base : Nat} {v : Value} {xs : List Nat} (h : w.ownsRow base 3 1 v xs.length (xs.map ncell)) (hb : ∀ x ∈ xs, x ≤ 9223372036854775807) : SlR eInt w w.heap.size v (xs.map fun x : Nat => (x : Int)) := by
  obtain ⟨A, c, rfl, h1, h2⟩ := own_form h
  refine ⟨A, c, xs.map fun x => [ncell x], by rw [List.length_map], by rw [List.length_map]; exact h1, h2, by simp, ?_, fun i cs x hc hx => ?_⟩
  · have := Rd.of_own h
    have hf : (xs.map fun x => [ncell x]).flatten = xs.map ncell := by
      clear h h1 h2 hb this
      induction xs with
      | nil => rfl
      | cons x xs ih => rw [List.map_cons, List.flatten_cons, ih]; rfl
    rwa [hf]
  · rw [List.getElem?_map] at hc hx
    cases hq : xs[i]? with
    | none => rw [hq] at hc; cases hc
    | some y =>
      rw [hq] at hc hx
      cases hc
      cases hx
      have := hb y (List.mem_of_getElem? hq)
      exact ⟨rfl, (show -9223372036854775808 ≤ (y : Int) by omega), (show (y : Int) ≤ 9223372036854775807 by omega)⟩
theorem countP_cast (xs : List Nat) (a : Nat) : (xs.map fun x : Nat => (x : Int)).countP (fun e => decide (e ≤ (a : Int))) = xs.countP (fun e => decide (e ≤ a)) := by
  rw [List.countP_map]
  congr 1
  funext x
  show decide ((x : Int) ≤ (a : Int)) = decide (x ≤ a)
  rw [decide_eq_decide]
  omega
theorem ends_bd {rs : List RecD} (h : ∀ r ∈ rs, GoodR r) (hn : rs.length ≤ 12) : ∀ x ∈ endsL rs, x ≤ 9223372036854775807 := by
  intro x hx
  obtain ⟨i, hi, rfl⟩ := List.getElem_of_mem hx
  rw [endsL_get]
  have := lines_le (rs.take (i + 1)) fun r hr => h r (List.mem_of_mem_take hr)
  rw [List.length_take] at this
  omega
theorem Lost.set_ {b m : List UInt8} {F x : Nat} (h : Lost b m F) (hx : x < m.length) : Lost b (m.set x 0) (if x < F then x else F) := by
  have hle := h.le
  by_cases hxF : x < F
  · rw [if_pos hxF]
    refine ⟨by rw [List.length_set]; omega, by rw [List.length_set]; exact h.len, ?_, fun _ => ?_⟩
    · rw [List.take_set_of_le (Nat.le_refl _)]
      have h2 := congrArg (List.take x) h.same
      rwa [List.take_take, List.take_take, Nat.min_eq_left (by omega)] at h2
    · rw [List.getElem?_set_self hx]
  · rw [if_neg hxF]
    refine ⟨by rw [List.length_set]; exact hle, by rw [List.length_set]; exact h.len, ?_, fun h3 => ?_⟩
    · rw [List.take_set_of_le (by omega)]
      exact h.same
    · rw [List.length_set] at h3
      by_cases he : x = F
      · subst he
        rw [List.getElem?_set_self hx]
      · rw [List.getElem?_set_ne he]
        exact h.zero h3
theorem Lost.start (b : List UInt8) (K : Nat) (h : K ≤ b.length) : Lost b (b.take K) K :=
  ⟨by rw [List.length_take]; omega, by rw [List.length_take]; omega, by rw [List.take_take, Nat.min_self], fun h2 => by rw [List.length_take] at h2; omega⟩
set_option maxRecDepth 100000 in
set_option maxHeartbeats 4000000 in
theorem recLost_any (rs : List RecD) (xs : List Int) (A A2 : Option Addr) (n c n2 c2 B : Nat) (cut : Int) (w : World) (h : SlR eRec w B (.slice A n c) rs) (hx : SlR eInt w B (.slice A2 n2 c2) xs) (hB : B ≤ w.heap.size) (hcut : -9223372036854775808 ≤ cut ∧ cut ≤ 9223372036854775807) :
    Calls Tryd.prog 5 #[.slice A n c, .int .i64 cut, .slice A2 n2 c2] w fun e w' => e = .returned (.bool true) ∧ Below w.heap.size w w' := by
  have hnn := h.n_eq
  subst hnn
  have hnn2 := hx.n_eq
  subst hnn2
  have hcl := h.n_le
  have hcl2 := hx.n_le
  have HS := Lib.hid h
  have HX := Lib.hid hx
  have HBW := Lib.hid hB
  clear h hx hB
  go_enter Tryd.func5, Tryd.ntmps5
  by_cases h12 : 12 < rs.length
  · go_wp2_with fail
    refine (awake32_any w).mono ?_
    rintro e w2 ⟨rfl, hb2⟩
    go_wp2_with fail
    go_ret
    exact ⟨rfl, hb2⟩
  by_cases h40 : 40 < xs.length
  · go_wp2_with fail
    refine (awake32_any w).mono ?_
    rintro e w2 ⟨rfl, hb2⟩
    go_wp2_with fail
    go_ret
    exact ⟨rfl, hb2⟩
  go_wp2_with fail
  refine (lines_any rs A rs.length c B w HS.out HBW.out (by omega)).mono ?_
  rintro e w2 ⟨hb2, hcase⟩
  have HB2 := Lib.hid hb2
  rcases hcase with ⟨x, y, rfl⟩ | ⟨va, ve, rfl, hoa, hoe, hgood⟩
  · clear hb2
    go_wp2_with fail
    refine (awake32_any w2).mono ?_
    rintro e w3 ⟨rfl, hb3⟩
    go_wp2_with fail
    go_ret
    exact ⟨rfl, HB2.out.trans (hb3.mono HB2.out.size)⟩
  have hml := lines_le rs hgood
  obtain ⟨L, hL⟩ : ∃ L, L = rs.flatMap lineL := ⟨_, rfl⟩
  rw [← hL] at hoa hml
  obtain ⟨m, hm⟩ : ∃ m, m = L.length := ⟨_, rfl⟩
  rw [← hm] at hoa hml
  obtain ⟨Ab, cb, rfl, hcb, hcb2⟩ := own_form hoa
  obtain ⟨Ae, ce, rfl, hce, _⟩ := own_form hoe
  have HL := Lib.hid hL
  have HM := Lib.hid hm
  have HG := Lib.hid hgood
  have HOA := Lib.hid hoa
  have HOE := Lib.hid hoe
  clear hb2 hL hm hgood hoa hoe
  obtain ⟨K, hK⟩ : ∃ K : Nat, (K : Int) = if cut < 0 ∨ (m : Int) < cut then (m : Int) else cut := by
    by_cases hc : cut < 0 ∨ (m : Int) < cut
    · exact ⟨m, by rw [if_pos hc]⟩
    · exact ⟨cut.toNat, by rw [if_neg hc]; omega⟩
  have hKm : K ≤ m := by
    by_cases hc : cut < 0 ∨ (m : Int) < cut
    · rw [if_pos hc] at hK; omega
    · rw [if_neg hc] at hK; omega
  have hu1 := u8_upto Ab m cb K (by omega)
  go_upto_region 6 with fail
  go_cut [41] (fun v41 wc => v41 = .bool (decide (cut < 0 ∨ (m : Int) < cut)) ∧ wc = w2)
  case first =>
    by_cases h1 : cut < 0
    · have e : decide (cut < 0 ∨ (m : Int) < cut) = true := decide_eq_true (.inl h1)
      go_wp2_with fail
      go_meet
      case rel => exact ⟨by rw [e], rfl⟩
    · by_cases h2 : (m : Int) < cut
      · have e : decide (cut < 0 ∨ (m : Int) < cut) = true := decide_eq_true (.inr h2)
        go_wp2_with fail
        go_meet
        case rel => exact ⟨by rw [e], rfl⟩
      · have e : decide (cut < 0 ∨ (m : Int) < cut) = false := decide_eq_false (by omega)
        go_wp2_with fail
        go_meet
        case rel => exact ⟨by rw [e], rfl⟩
  case rest =>
    obtain ⟨rfl, rfl⟩ := hcut
    go_upto_if 41 with fail
    go_cut [1] (fun v1 wc' => v1 = .int .i64 (K : Nat) ∧ wc' = wc)
    case first =>
      by_cases hc : cut < 0 ∨ (m : Int) < cut
      · have e : decide (cut < 0 ∨ (m : Int) < cut) = true := decide_eq_true hc
        rw [if_pos hc] at hK
        go_wp2_with fail
        go_meet
        case rel => exact ⟨vint hK.symm, rfl⟩
      · have e : decide (cut < 0 ∨ (m : Int) < cut) = false := decide_eq_false hc
        rw [if_neg hc] at hK
        go_wp2_with fail
        go_meet
        case rel => exact ⟨vint hK.symm, rfl⟩
    case rest =>
      obtain ⟨rfl, rfl⟩ := hcut
      clear hK
      have HOK := Lib.hid (own_takeA HOA.out hKm)
      rw [show (bcells L).take K = bcells (L.take K) by simp [bcells]] at HOK
      have HLT := Lib.hid (show (L.take K).length = K by rw [List.length_take, ← HM.out]; omega)
      have HLS := Lib.hid (Lost.start L K (by rw [← HM.out]; exact hKm))
      go_wp2_with fail
      go_loopw [10, 11] (fun v10 v11 wr => ∃ (i F : Nat) (M : List UInt8), i ≤ xs.length ∧ v11 = .int .i64 i ∧ v10 = .int .i64 F ∧ F ≤ K ∧ Hid (M.length = K ∧ Lost L M F) ∧ Hid (wr.ownsRow w.heap.size 5 1 (.slice Ab K cb) K (bcells M)) ∧
        Hid (wr.ownsRow w.heap.size 3 1 (.slice Ae rs.length ce) rs.length ((endsL rs).map ncell)) ∧ Hid (Below w.heap.size w wr)) (fun _ v11 _ => xs.length - (intOf v11).toNat)
      case atStart => exact ⟨0, K, L.take K, by omega, rfl, rfl, by omega, Lib.hid ⟨HLT.out, HLS.out⟩, HOK, HOE, HB2⟩
      case round =>
        clear HOA HOE HB2 HOK HLT HLS
        obtain ⟨i, F, M, hi, rfl, rfl, hFK, HML, HO, HE, HB⟩ := hrel
        by_cases hlt : i < xs.length
        · obtain ⟨b2, o2, cs, rfl, _, hb2, hrep, hcell⟩ := (HX.out.below (HB.out.mono HBW.out)).get hlt (by decide)
          obtain ⟨rfl, hx1, hx2⟩ := hrep
          have hc0 := hcell 0 _ rfl
          clear hcell
          simp only [show eInt.size = 1 from rfl, Nat.mul_one, Nat.add_zero] at hc0
          obtain ⟨x, hxd⟩ : ∃ x, x = xs[i] := ⟨_, rfl⟩
          rw [← hxd] at hc0 hx1 hx2
          clear hxd
          by_cases h0 : x < 0
          · go_wp2_with fail
            refine ⟨⟨i + 1, F, M, by omega, by go_num, rfl, hFK, HML, HO, HE, HB⟩, ?_⟩
            simp [intOf]; omega
          by_cases hK1 : (K : Int) ≤ x
          · go_wp2_with fail
            refine ⟨⟨i + 1, F, M, by omega, by go_num, rfl, hFK, HML, HO, HE, HB⟩, ?_⟩
            simp [intOf]; omega
          obtain ⟨j, rfl⟩ : ∃ j : Nat, x = (j : Int) := ⟨x.toNat, by omega⟩
          have hjK : j < K := by omega
          obtain ⟨g, cap, hge⟩ := own_some2 HO.out (by omega)
          injection hge with e1 _ e3
          subst e1 e3
          have hcell : wr.cell? ⟨g, j, none⟩ = some (.int .u8 ((M.getD j 0).toNat : Nat)) := by
            have hjM : j < M.length := by rw [HML.out.1]; exact hjK
            rw [HO.out.cellAt j (by omega)]
            simp [bcells, bcell, List.getElem?_eq_getElem hjM]
          have hfz := HO.out.frozenAt j
          have HST := Lib.hid (HO.out.stored j (.int .u8 0))
          have HE2 := Lib.hid (own_set_apart (j := j) HE.out HO.out (by decide) (.int .u8 0))
          have HB3 := Lib.hid (HB.out.setCell (p := ⟨g, j, none⟩) (HO.out.lt g rfl).1 (.int .u8 0))
          have HML2 := Lib.hid (show (M.set j 0).length = K ∧ Lost L (M.set j 0) (if j < F then j else F) from ⟨by rw [List.length_set]; exact HML.out.1, HML.out.2.set_ (by rw [HML.out.1]; exact hjK)⟩)
          have HBC := Lib.hid (show (bcells M).set j (.int .u8 0) = bcells (M.set j 0) by unfold bcells; rw [List.map_set]; rfl)
          rw [HBC.out] at HST
          obtain ⟨d, hd⟩ : ∃ d, d = (M.getD j 0).toNat := ⟨_, rfl⟩
          rw [← hd] at hcell
          clear hd
          have hgb : b2 ≠ g := by have := (HO.out.lt g rfl).1; have := HBW.out; omega
          have hc1 : (wr.setCell ⟨g, j, none⟩ (.int .u8 0)).cell? ⟨b2, o2 + i, none⟩ = some (.int .i64 j) := by
            rw [← hc0]
            exact World.cell?_of_block (w := wr) (heap_setCell_other _ _ _ _ hgb)
          by_cases hjF : j < F
          · rw [if_pos hjF] at HML2
            go_wp2_with fail
            refine ⟨⟨i + 1, j, M.set j 0, by omega, by go_num, rfl, by omega, HML2, Lib.hid HST.out.1, HE2, HB3⟩, ?_⟩
            simp [intOf]; omega
          · rw [if_neg hjF] at HML2
            go_wp2_with fail
            refine ⟨⟨i + 1, F, M.set j 0, by omega, by go_num, rfl, hFK, HML2, Lib.hid HST.out.1, HE2, HB3⟩, ?_⟩
            simp [intOf]; omega
        · have HAT := Lib.hid (by have := lost_all rs M F HG.out (by rw [← HL.out]; exact HML.out.2); exact this)
          have HRM := Lib.hid (Rd.of_own HO.out)
          have HAL := Lib.hid (all32_any M Ab cb wr.heap.size wr HRM.out (Nat.le_refl _) (by rw [HML.out.1]; omega) (by rw [HML.out.1]; omega))
          rw [HML.out.1] at HAL
          have hFb : F ≤ 240000 := by omega
          have hrs : rs.length ≤ 12 := by omega
          go_wp2_with fail
          refine HAL.out.mono ?_
          rintro e w5 ⟨got, nn, vg, rfl, hat, hog, hb5⟩
          obtain ⟨hgot, hnn⟩ := all_one hat HAT.out
          obtain ⟨k, hk⟩ : ∃ k, k = wholeN rs F := ⟨_, rfl⟩
          rw [← hk] at hgot hnn
          have hkr : k ≤ rs.length := by rw [hk]; exact wholeN_le _ _
          have hgl : got.length = k := by rw [hgot, List.length_take]; omega
          obtain ⟨Ag, cg, rfl, hcg, _⟩ := hog.form
          have HB5 := Lib.hid (HB.out.trans (hb5.mono HB.out.size))
          have HE5 := Lib.hid (own_below HE.out hb5)
          have HOG := Lib.hid hog.sl
          have HSE := Lib.hid (ncell_sl (by rw [endsL_length]; exact HE5.out) (ends_bd HG.out hrs))
          have HW := Lib.hid (whole_any32 _ _ (F : Int) _ w5 HSE.out (by rw [List.length_map, endsL_length]; omega))
          rw [countP_cast, countP_ends, ← hk] at HW
          have HN := Lib.hid hnn
          have HGOT := Lib.hid hgot
          have HGL := Lib.hid hgl
          rw [hgl] at hcg HOG ⊢
          clear hat hb5 hog hk hnn hgot hgl HAL HO HE HB
          go_wp2_with fail
          refine HW.out.mono ?_
          rintro e w6 ⟨rfl, rfl⟩
          clear HW
          by_cases hk0 : k = 0
          · subst hk0
            have hn0 : nn = 0 := by rw [HN.out]; simp
            subst hn0
            go_wp2_with fail
            go_loopw [15] (fun v15 wr2 => v15 = .int .i64 0 ∧ wr2 = w5) (fun v15 _ => (intOf v15).toNat)
            case atStart => exact ⟨rfl, rfl⟩
            case round =>
              obtain ⟨rfl, rfl⟩ := hrel
              go_wp2_with fail
              refine (awake32_any _).mono ?_
              rintro e w7 ⟨rfl, hb7⟩
              go_wp2_with fail
              go_ret
              exact ⟨rfl, HB5.out.trans (hb7.mono HB5.out.size)⟩
          · have hkp : 0 < k := by omega
            obtain ⟨q, rfl⟩ : ∃ q, k = q + 1 := ⟨k - 1, by omega⟩
            obtain ⟨be, oe, cs, rfl, _, hbe, hrep, hcell⟩ := HSE.out.get (k := q) (by rw [List.length_map, endsL_length]; omega) (by decide)
            obtain ⟨rfl, _, _⟩ := hrep
            have hce0 := hcell 0 _ rfl
            clear hcell
            simp only [show eInt.size = 1 from rfl, Nat.mul_one, Nat.add_zero, List.getElem_map, endsL_get, ← HN.out] at hce0
            have hqr : q < rs.length := by omega
            have hgot := HGOT.out
            subst hgot
            clear HGOT HGL
            go_wp2_with fail
            go_loopw [15] (fun v15 wr2 => ∃ i2 : Nat, i2 ≤ q + 1 ∧ v15 = .int .i64 i2 ∧ Hid (Below w5.heap.size w5 wr2)) (fun v15 _ => q + 1 - (intOf v15).toNat)
            case atStart => exact ⟨0, by omega, rfl, Below.refl _ _⟩
            case round =>
              obtain ⟨i2, hi2, rfl, HB6⟩ := hrel
              by_cases hlt2 : i2 < q + 1
              · obtain ⟨b1, o1, A5, c5, rfl, hq1, hb1, hhs1, hks1, hcell1⟩ := rec_at (HOG.out.below HB6.out) (k := i2) (by rw [List.length_take]; omega)
                obtain ⟨b2, o2, A6, c6, rfl, hq2, hb2, hhs2, hks2, hcell2⟩ := rec_at (HS.out.below ((HB5.out.trans (HB6.out.mono HB5.out.size)).mono HBW.out)) (k := i2) (by omega)
                simp only [List.getElem_take] at hhs1 hks1 hcell1
                obtain ⟨r, hr⟩ : ∃ r, r = rs[i2] := ⟨_, rfl⟩
                rw [← hr] at hhs1 hks1 hcell1 hhs2 hks2 hcell2
                have HHS := Lib.hid hhs1
                have HK1 := Lib.hid hks1
                have HK2 := Lib.hid hks2
                have HC1 := Lib.hid hcell1
                have HC2 := Lib.hid hcell2
                have HSAME := Lib.hid (show sameD r r = true by simp [sameD])
                clear hr hhs1 hks1 hcell1 hhs2 hks2 hcell2
                have hi2r : i2 < rs.length := by omega
                go_wp2_with fail
                refine wpT_grow [8] [3, 7] [] (by kernel_rfl) (by kernel_rfl) ?_
                refine wpT_seg 3 (by decide) (fun Q1 hQ1 => ?_)
                simp only [List.take_succ_cons, List.take_zero]
                go_wp2_with fail
                try simp only [List.drop_succ_cons, List.drop_zero]
                refine wpT_seg 1 (by decide) (fun Q1 hQ1 => ?_)
                simp only [List.take_succ_cons, List.take_zero]
                refine wpList_load_agg rfl 29 rfl rfl recTy_u rfl (rec_size _ _ _ _ _ _ _ HHS.out.1 HHS.out.2) HC1.out ?_
                refine hQ1 _ _ ?_
                simp only [List.drop_succ_cons, List.drop_zero]
                generalize hac : Act.put _ _ _ = a9
                simp [Act.put] at hac
                subst hac
                refine wpT_seg 3 (by decide) (fun Q1 hQ1 => ?_)
                simp only [List.take_succ_cons, List.take_zero]
                go_wp2_with fail
                try simp only [List.drop_succ_cons, List.drop_zero]
                refine wpT_seg 1 (by decide) (fun Q1 hQ1 => ?_)
                simp only [List.take_succ_cons, List.take_zero]
                refine wpList_load_agg rfl 29 rfl rfl recTy_u rfl (rec_size _ _ _ _ _ _ _ HHS.out.1 HHS.out.2) HC2.out ?_
                refine hQ1 _ _ ?_
                simp only [List.drop_succ_cons, List.drop_zero]
                generalize hac : Act.put _ _ _ = a9
                simp [Act.put] at hac
                subst hac
                refine wpT_one (fun Q1 hQ1 => ?_)
                go_wp2_with fail
                refine (same_any r r A5 A6 r.keys.length c5 r.keys.length c6 w5.heap.size B _ HHS.out HHS.out (HK1.out.below (Below.refl _ _).drew) (HK2.out.below (Below.refl _ _).drew) HB6.out.size (Nat.le_trans HBW.out (Nat.le_trans HB5.out.size HB6.out.size))).mono ?_
                rw [HSAME.out]
                rintro e w7 ⟨rfl, hb7⟩
                have HB7 := Lib.hid hb7
                clear hb7
                go_wp2_with fail
                refine ⟨HB7.out, ?_⟩
                refine wpT_seg 1 (by decide) (fun Q1 hQ1 => ?_)
                simp only [List.take_succ_cons, List.take_zero]
                go_wp2_with fail
                try simp only [List.drop_succ_cons, List.drop_zero]
                refine wpT_end ⟨by rfl, ⟨(fun _ => ⟨_, _, rfl, by simpa using HC1.out 0 _ rfl⟩), (fun _ => ⟨_, _, rfl, by simpa using HC2.out 0 _ rfl⟩), trivial⟩, ?_⟩
                go_wp2_with fail
                have HB8 := Lib.hid (HB6.out.trans ((below_drew HB7.out).mono HB6.out.size))
                refine ⟨⟨i2 + 1, by omega, by go_num, HB8⟩, ?_⟩
                simp [intOf]; omega
              · go_wp2_with fail
                refine (awake32_any _).mono ?_
                rintro e w7 ⟨rfl, hb7⟩
                go_wp2_with fail
                go_ret
                exact ⟨rfl, (HB5.out.trans (HB6.out.mono HB5.out.size)).trans (hb7.mono (Nat.le_trans HB5.out.size HB6.out.size))⟩
end Go.Proofs.YtfheocdciekfoaaDoor
/- Records and slices of records as arguments opened. -/
namespace Go.Proofs.YtfheocdciekfoaaDoor
open Go.ChangeShapes Go.WideShapes Go.ChangeAt Go.RowKit

section
variable {H : Type} {enc : TypeId × Value → H}
theorem opens_key32 : Opens enc Tryd.prog eKey 24 := opens_two Tryd.underlying24 (opens_bytes Tryd.underlying22 Tryd.underlying5 (by kernel_rfl) (by kernel_rfl)) (opens_int Tryd.underlying3) (by kernel_rfl) (by kernel_rfl) rfl rfl (by kernel_rfl)
theorem opens_mark32 : Opens enc Tryd.prog eKey 26 := opens_two Tryd.underlying26 (opens_bytes Tryd.underlying22 Tryd.underlying5 (by kernel_rfl) (by kernel_rfl)) (opens_int Tryd.underlying3) (by kernel_rfl) (by kernel_rfl) rfl rfl (by kernel_rfl)
theorem opens_keys32 : Opens enc Tryd.prog (eSl eKey) 27 := opens_sl opens_key32 Tryd.underlying27 (by kernel_rfl) (by decide)
theorem opens_rec32 : Opens enc Tryd.prog eRec 29 := by
  intro W fuel cs x h
  obtain ⟨xs, n, _, _, hl, hlen, hf⟩ := DataW.trod_struct Tryd.underlying29 h
  obtain ⟨a0, h0⟩ := opens_field hlen hf 0 _ rfl (opens_int Tryd.underlying3)
  obtain ⟨a1, h1⟩ := opens_field hlen hf 1 _ rfl (opens_int Tryd.underlying3)
  obtain ⟨a2, h2⟩ := opens_field hlen hf 2 _ rfl opens_key32
  obtain ⟨a3, h3⟩ := opens_field hlen hf 3 _ rfl opens_mark32
  obtain ⟨a4, h4⟩ := opens_field hlen hf 4 _ rfl opens_keys32
  have h0 : eInt.rep W W.heap.size ((cs.drop 0).take (Tryd.prog.cellsOf 3)) a0 := h0
  have h1 : eInt.rep W W.heap.size ((cs.drop 1).take (Tryd.prog.cellsOf 3)) a1 := h1
  have h2 : eKey.rep W W.heap.size ((cs.drop 2).take (Tryd.prog.cellsOf 24)) a2 := h2
  have h3 : eKey.rep W W.heap.size ((cs.drop 35).take (Tryd.prog.cellsOf 26)) a3 := h3
  have h4 : (eSl eKey).rep W W.heap.size ((cs.drop 68).take (Tryd.prog.cellsOf 27)) a4 := h4
  rw [show Tryd.prog.cellsOf 3 = 1 by kernel_rfl] at h0 h1
  rw [show Tryd.prog.cellsOf 24 = 33 by kernel_rfl] at h2
  rw [show Tryd.prog.cellsOf 26 = 33 by kernel_rfl] at h3
  rw [show Tryd.prog.cellsOf 27 = 1 by kernel_rfl] at h4
  have hcl : cs.length = 69 := by rw [hl]; kernel_rfl
  obtain ⟨h0, _⟩ := h0
  obtain ⟨h1, _⟩ := h1
  obtain ⟨h2, l2, _⟩ := eKey_rep h2
  obtain ⟨h3, l3, _⟩ := eKey_rep h3
  obtain ⟨v, h4, hs⟩ := h4
  refine ⟨⟨a0, a1, a2.1, a2.2, a3.1, a3.2, a4⟩, v, ?_, l2, l3, hs⟩
  have e : cs = (cs.drop 0).take 1 ++ ((cs.drop 1).take 1 ++ ((cs.drop 2).take 33 ++ ((cs.drop 35).take 33 ++ (cs.drop 68).take 1))) := by
    have s0 := (List.take_append_drop 1 (cs.drop 0)).symm
    have s1 := (List.take_append_drop 1 (cs.drop 1)).symm
    have s2 := (List.take_append_drop 33 (cs.drop 2)).symm
    have s3 := (List.take_append_drop 33 (cs.drop 35)).symm
    have s4 : (cs.drop 68).take 1 = cs.drop 68 := List.take_of_length_le (by rw [List.length_drop]; omega)
    rw [List.drop_drop] at s0 s1 s2 s3
    rw [s4]
    conv => lhs; rw [← List.drop_zero (l := cs), s0, s1, s2, s3]
  rw [e]
  rw [h0, h1, h2, h3, h4]
  rfl
theorem opens_recs32 : Opens enc Tryd.prog (eSl eRec) 47 := opens_sl opens_rec32 Tryd.underlying47 (by kernel_rfl) (by decide)
theorem opens_ints32 : Opens enc Tryd.prog (eSl eInt) 54 := opens_sl (opens_int Tryd.underlying3) Tryd.underlying54 (by kernel_rfl) (by decide)
end
def zkeyD32 {H : Type} : DataW H := .agg [.agg (List.replicate 32 (.lit (.int .u8 0))), .lit (.int .i64 0)]
theorem i64_bd {n : Int} (h : (Lit.int .i64 n).wf = true) : -9223372036854775808 ≤ n ∧ n ≤ 9223372036854775807 := by
  simp [Lit.wf, IntKind.min, IntKind.max, IntKind.signed, IntKind.bits] at h
  omega
theorem u32_bd {n : Int} (h : (Lit.int .u32 n).wf = true) : ∃ t : Nat, n = (t : Int) ∧ t < 4294967296 := by
  simp [Lit.wf, IntKind.min, IntKind.max, IntKind.signed, IntKind.bits] at h
  exact ⟨n.toNat, by omega, by omega⟩
end Go.Proofs.YtfheocdciekfoaaDoor
/- A world in which the tables that the rows of law 32 list lie as the program's text lays them. -/
namespace Go.Proofs.YtfheocdciekfoaaDoor
open Go.ChangeShapes Go.WideShapes Go.ChangeAt Go.RowKit

theorem own : ownKnob Tryd.prog.godebug = none := by kernel_rfl
theorem laidOut : laidOutB Tryd.prog = true := by kernel_rfl
abbrev list32 : List (String × DataW Unit) := Rows.recLinesRow.laid
def tab32 : Array Value := (#[0, 1, 28, 2, 29, 14, 24, 3, 30, 22, 20, 15, 25, 17, 4, 8, 31, 27, 13, 23, 21, 19, 16, 7, 26, 12, 18, 6, 11, 5, 10, 9] : Array Int).map fun z => .int .u8 z
def tab64 : Array Value := (#[0, 1, 56, 2, 57, 49, 28, 3, 61, 58, 42, 50, 38, 29, 17, 4, 62, 47, 59, 36, 45, 43, 51, 22, 53, 39, 33, 30, 24, 18, 12, 5, 63, 55, 48, 27, 60, 41, 37, 16, 46, 35, 44, 21, 52, 32, 23, 11, 54, 26, 40, 15, 34, 20, 31, 10, 25, 14, 19, 9, 13, 8, 7, 6] : Array Int).map fun z => .int .u8 z
def tabPow : Array Value := (#[1, 10, 100, 1000, 10000, 100000, 1000000, 10000000, 100000000, 1000000000, 10000000000, 100000000000, 1000000000000, 10000000000000, 100000000000000, 1000000000000000, 10000000000000000, 100000000000000000, 1000000000000000000, 10000000000000000000] : Array Int).map fun z => .int .u64 z
def putIn (cs : Array Value) : Obj → Obj
  | .cells _ t frozen => .cells cs t frozen
  | o => o
/-- a world in which the listed variables lie as the program's text lays them -/
noncomputable def laidWorld (os : Os) : World :=
  let w0 := World.holding Tryd.prog os ⟨#[], #[], []⟩
  { w0 with heap := ((w0.heap.modify 4 (putIn tab32)).modify 5 (putIn tab64)).modify 3 (putIn tabPow) }
theorem laid32_met (os : Os) (args : Array Value) : laidMet Tryd.prog list32 ((laidWorld os).forCall (fun _ _ => 0) ⟨#[], args, []⟩).memory :=
  laidMet_of_run' 8 (by kernel_rfl) (by kernel_rfl)
end Go.Proofs.YtfheocdciekfoaaDoor
