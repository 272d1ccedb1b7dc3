/- The walk of the law KeyReads. -/
import Derived.Test.YtfheocdciekfoaaDoorKeyParsesLaw
import Derived.Test.YtfheocdciekfoaaDoorName3
namespace Go.Proofs.YtfheocdciekfoaaDoor
open Go.RowKit

theorem hasPre_two (l : List UInt8) (h0 : l.length > 1) : l = l[0] :: l[1] :: l.drop 2 := by
  rw [← List.drop_eq_getElem_cons, ← List.drop_eq_getElem_cons]
  rfl
/-- where no name is read: no key stands behind the first front -/
theorem noKey (l : List UInt8) (h : tryL 1 l = none) (hl : 1 < l.length) (h0 : l[0] = 111) (h1 : l[1] = 45) : keyOf (l.drop 2) = none := by
  refine read_nokey (l.drop 2) ?_
  rw [show [111, 45] ++ l.drop 2 = l by rw [← h0, ← h1]; exact (hasPre_two l hl).symm]
  exact h
set_option maxRecDepth 100000 in
set_option maxHeartbeats 1000000 in
theorem keyReads_any (l : List UInt8) (w : World) (ht : Tabs w) :
    Calls Tryd.prog 9 #[.string ⟨l.toArray⟩] w fun e w' => e = .returned (.bool true) ∧ Below w.heap.size w w' := by
  obtain ⟨s, hs⟩ : ∃ s : ByteArray, s = ⟨l.toArray⟩ := ⟨_, rfl⟩
  have hsz : s.size = l.length := by rw [hs]; rfl
  have htl : s.toList = l := by rw [hs]; simp
  rw [← hs]
  have HS := Lib.hid hs
  have HTL := Lib.hid htl
  have HT := Lib.hid ht
  clear hs htl ht
  by_cases h100 : l.length ≤ 100
  · have HL := Lib.hid (show l.length ≤ 1099511627776 by omega)
    have hd : decide ((100 : Int) < l.length) = false := by simp; omega
    have HXL := Lib.hid (readL_len l)
    have HRN := Lib.hid (read_name l)
    obtain ⟨x, hx⟩ : ∃ x, x = readL l := ⟨_, rfl⟩
    rw [← hx] at HXL HRN
    have HX := Lib.hid hx
    clear hx
    go_enter Tryd.func9, Tryd.ntmps9
    go_wp2_with (refine stop_at (some 11) rfl ?_)
    refine Stop.go (wpList_seg 1 _ _ _ (fun Q' hQ' => ?_))
    simp only [List.take_succ_cons, List.take_zero]
    go_wp2_with (go_at_call 32; rw [HS.out]; refine (kread_any l _ HL.out HT.out).mono ?_; rw [← HS.out, ← HX.out]; rintro e w1 ⟨rfl, hb1⟩)
    try simp only [List.drop_succ_cons, List.drop_zero]
    refine Stop.go (wpList_alloc rfl 68 rfl zero_nm rfl ?_)
    refine wpList_store_agg rfl 68 rfl rfl rfl (store_new2 (g := w1.heap.size) rfl (nmv_cells _) (nm_size _ HXL.out) (by rw [List.size_toArray, nmCells_length, nmCells_length, HXL.out]; rfl) (nmCells_one _)) ?_
    have hb2 : Below w.heap.size w (w1.alloc (.cells (nmCells x).toArray 68)) := hb1.trans ((Below.refl _ _).alloc hb1.size _)
    have HN2 := Lib.hid (NmAt.new w1 68 HXL.out)
    have HB2 := Lib.hid hb2
    have HT2 := Lib.hid (HT.out.below hb2)
    clear hb1 hb2
    generalize w1.alloc (.cells (nmCells x).toArray 68) = w2 at *
    generalize w1.heap.size = m1 at *
    have c0 := HN2.out.kind_
    have c34 := HN2.out.n_
    rcases HRN.out with ⟨hn, hk⟩ | ⟨hx0, hj, hjn, ht1⟩
    · have hk0 : (x.kind == 0) = false := by rw [beq_eq_false_iff_ne]; exact hk
      have HNM := Lib.hid hn
      clear hn hk HRN
      have hE : (s.toList == s.toList) = true := by simp
      go_wp2_with (refine stop_at (some 60) rfl ?_)
      refine Stop.go (wpList_load_agg rfl 68 rfl rfl nmTy_u rfl (nm_size x HXL.out) HN2.out.all_ ?_)
      refine wpList_seg 4 _ _ _ (fun Q' hQ' => ?_)
      simp only [List.take_succ_cons, List.take_zero]
      go_wp2_with (go_at_call 30; refine (kwrite_any x _ HXL.out HT2.out).mono ?_; rw [HNM.out, ← HS.out]; rintro e w3 ⟨rfl, hb3⟩)
      try simp only [List.drop_succ_cons, List.drop_zero]
      have HN3 := Lib.hid (HN2.out.later hb3)
      have HB3 := Lib.hid (HB2.out.trans (hb3.mono HB2.out.size))
      have HT3 := Lib.hid (HT2.out.below hb3)
      clear hb3 c0 c34 HN2 HB2 HT2
      refine Stop.go (wpList_load_aggG (by rfl) 68 rfl rfl nmTy_u rfl (nm_size x HXL.out) HN3.out.all_ ?_)
      go_wp2_with (first | (go_at_call 31; refine (name_any x _ HXL.out).mono ?_; rw [HNM.out, ← HS.out]; rintro e w4 ⟨rfl, hb4⟩; have HT4 := Lib.hid (HT3.out.below hb4)) | (go_at_call 26; refine (awake17_any _ HT4.out).mono ?_; rintro e w5 ⟨rfl, hb5⟩))
      go_ret
      exact ⟨rfl, HB3.out.trans ((hb4.mono HB3.out.size).trans (hb5.mono (Nat.le_trans HB3.out.size hb4.size)))⟩
    · subst hx0
      simp only [noName] at c0 c34
      obtain ⟨b, kk, o, hres, hb, ho1, ho2⟩ := key_res (l.drop 2)
      have HRES := Lib.hid (show ∀ w e w', KeyTo w (parse17 (l.drop 2)) e w' → e = .returned (.tuple #[hkv b kk, .bool o]) ∧ Below w.heap.size w w' by rw [← keyOf_eq]; exact hres)
      have HB := Lib.hid hb
      have hoT := fun (h2 : 1 < l.length) (h0 : l[0] = 111) (h1 : l[1] = 45) => noKey l ht1 h2 h0 h1
      have HNO := Lib.hid (show ∀ (h2 : 1 < l.length), o = true → l[0] = 111 → l[1] = 45 → False from fun h2 h3 h4 h5 => by
        have h6 := hoT h2 h4 h5
        rw [(ho1 h3).2] at h6
        cases h6)
      have hj1 : (s.toList == [106, 111, 117, 114, 110, 97, 108]) = false := by rw [HTL.out, beq_eq_false_iff_ne]; exact hj
      have hj2 : (s.toList == [106, 111, 117, 114, 110, 97, 108, 46, 110, 101, 119]) = false := by rw [HTL.out, beq_eq_false_iff_ne]; exact hjn
      clear hres hb ho1 ho2 hoT HRN
      go_wp2_with (refine stop_at (some 17) rfl ?_)
      refine Stop.go (wpList_seg 5 _ _ _ (fun Q' hQ' => ?_))
      simp only [List.take_succ_cons, List.take_zero]
      go_wp2_with (first | (go_at_call 33; rw [HS.out]; refine (tail_any l _ HL.out).mono ?_; rw [← HS.out]; rintro e w3 ⟨rfl, rfl⟩) | (go_at_call 28; refine (parse17_any (l.drop 2) _ (Nat.le_trans (by rw [List.length_drop]; omega) HL.out)).mono ?_; intro e w3 hp; obtain ⟨rfl, hb3⟩ := HRES.out _ _ _ hp; clear hp))
      try simp only [List.drop_succ_cons, List.drop_zero]
      refine Stop.go (wpList_alloc rfl 24 rfl zero_key rfl ?_)
      refine wpList_store_agg rfl 24 rfl rfl rfl (store_new2 (g := w3.heap.size) rfl (hkv_cells _ _) (key_size _ _ HB.out) (by rw [List.size_toArray, hkCells_length, hkCells_length, HB.out]; rfl) (hkCells_one _ _)) ?_
      have hb4 := hb3.trans ((Below.refl _ _).alloc hb3.size (.cells (hkCells b kk).toArray 24))
      have HN4 := Lib.hid (HN2.out.later hb4)
      have HB4 := Lib.hid (HB2.out.trans (hb4.mono HB2.out.size))
      have HT4 := Lib.hid (HT2.out.below hb4)
      clear hb3 hb4 HN2 HB2 HT2 c0 c34
      generalize w3.alloc (.cells (hkCells b kk).toArray 24) = w4 at *
      generalize w3.heap.size = m2 at *
      have c34 := HN4.out.n_
      simp only [noName] at c34
      go_wp2_with (refine stop_at (some 21) rfl ?_)
      refine Stop.go (wpList_seg 5 _ _ _ (fun Q' hQ' => ?_))
      simp only [List.take_succ_cons, List.take_zero]
      go_wp2_with fail
      try simp only [List.drop_succ_cons, List.drop_zero]
      refine Stop.go (wpList_load_aggG (by rfl) 24 rfl rfl keyTy.ut rfl (key_size z32 0 rfl) HN4.out.key_ ?_)
      refine wpList_buildG (by rfl) 24 rfl (vs := #[]) (by rfl) (build_key0 _) ?_
      refine wpList_binG (by rfl) .eql 24 rfl rfl rfl (hkv_guard keyTy.gd ..) (hkv_eql keyTy rfl rfl) ?_
      rw [show (decide (z32 = z32) && decide ((0 : Int) = 0)) = true by simp]
      cases o
      · go_wp2_with (go_at_call 26; refine (awake17_any _ HT4.out).mono ?_; rintro e w5 ⟨rfl, hb5⟩)
        go_ret
        exact ⟨rfl, HB4.out.trans (hb5.mono HB4.out.size)⟩
      · by_cases h2 : 1 < l.length
        · have p0 : 0 < s.size := by omega
          have p1 : 1 < s.size := by omega
          have e0 : s[0] = l[0] := by
            have := HS.out
            subst this
            rfl
          have e1 : s[1] = l[1] := by
            have := HS.out
            subst this
            rfl
          have HNN := Lib.hid (show ((s[0].toNat : Int) == 111) = true → ((s[1].toNat : Int) == 45) = true → False from fun h3 h4 => by
            rw [beq_iff_eq] at h3 h4
            rw [e0] at h3
            rw [e1] at h4
            exact HNO.out h2 rfl (UInt8.toNat_inj.1 (Int.ofNat_inj.1 h3)) (UInt8.toNat_inj.1 (Int.ofNat_inj.1 h4)))
          clear e0 e1
          rcases Bool.eq_false_or_eq_true ((s[0].toNat : Int) == 111) with q0 | q0
          · rcases Bool.eq_false_or_eq_true ((s[1].toNat : Int) == 45) with q1 | q1
            · exact absurd q1 (fun h => HNN.out q0 h)
            · go_wp2_with (go_at_call 26; refine (awake17_any _ HT4.out).mono ?_; rintro e w5 ⟨rfl, hb5⟩)
              go_ret
              exact ⟨rfl, HB4.out.trans (hb5.mono HB4.out.size)⟩
          · go_wp2_with (go_at_call 26; refine (awake17_any _ HT4.out).mono ?_; rintro e w5 ⟨rfl, hb5⟩)
            go_ret
            exact ⟨rfl, HB4.out.trans (hb5.mono HB4.out.size)⟩
        · have hd2 : decide ((1 : Int) < l.length) = false := by simp; omega
          go_wp2_with (go_at_call 26; refine (awake17_any _ HT4.out).mono ?_; rintro e w5 ⟨rfl, hb5⟩)
          go_ret
          exact ⟨rfl, HB4.out.trans (hb5.mono HB4.out.size)⟩
  · have hd : decide ((100 : Int) < l.length) = true := by simp; omega
    go_enter Tryd.func9, Tryd.ntmps9
    go_wp2_with (go_at_call 26; refine (awake17_any _ HT.out).mono ?_; rintro e w1 ⟨rfl, hb1⟩)
    go_ret
    exact ⟨rfl, hb1⟩
end Go.Proofs.YtfheocdciekfoaaDoor
