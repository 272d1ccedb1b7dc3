/- The walk of the law KeyTexts. -/
import Derived.Test.YtfheocdciekfoaaDoorKeyAwake
import Derived.Test.YtfheocdciekfoaaDoorKey3
namespace Go.Proofs.YtfheocdciekfoaaDoor
open Go.RowKit

set_option maxRecDepth 100000 in
set_option maxHeartbeats 1000000 in
theorem keyTexts_any (a b : List UInt8) (ka kb : Int) (w : World) (ha : a.length = 32) (hb : b.length = 32) (ht : Tabs w) :
    Calls Tryd.prog 10 #[hkv a ka, hkv b kb] w fun e w' => e = .returned (.bool true) ∧ Below w.heap.size w w' := by
  have HA := Lib.hid ha
  have HB := Lib.hid hb
  have HT := Lib.hid ht
  clear ha hb ht
  obtain ⟨S, hS⟩ : ∃ S : ByteArray, S = ⟨(keyText a ka).toArray⟩ := ⟨_, rfl⟩
  have HST := Lib.hid (show S.toList = keyText a ka by rw [hS]; simp)
  have HSZ := Lib.hid (show (keyText a ka).length ≤ 66 from by cases hk : kOk ka; rw [(keyText_ne a ka).2 hk]; decide; rw [keyText_len a ka HA.out hk]; exact Nat.le_refl _)
  have HUZ := Lib.hid (show (keyText b kb).length ≤ 66 from by cases hk : kOk kb; rw [(keyText_ne b kb).2 hk]; decide; rw [keyText_len b kb HB.out hk]; exact Nat.le_refl _)
  have HS := Lib.hid hS
  obtain ⟨U, hU⟩ : ∃ U : ByteArray, U = ⟨(keyText b kb).toArray⟩ := ⟨_, rfl⟩
  have HU := Lib.hid hU
  clear hS hU
  have hE : (S.toList == S.toList) = true := by simp
  obtain ⟨Lb, hLb⟩ : ∃ Lb : Bool, Lb = keyLess a ka b kb := ⟨_, rfl⟩
  have HLB := Lib.hid hLb
  clear hLb
  have HG1 := Lib.hid (Go.heap_alloc2_old w (.cells (hkCells a ka).toArray 24) (.cells (hkCells b kb).toArray 24))
  have HG2 := Lib.hid (Go.heap_alloc2_new w (.cells (hkCells a ka).toArray 24) (.cells (hkCells b kb).toArray 24))
  have HB1 := Lib.hid (((Below.refl _ _).alloc (Nat.le_refl _) _).alloc (Nat.le_of_lt (by show _ < (Array.push _ _).size; rw [Array.size_push]; exact Nat.lt_succ_self _)) _ : Below w.heap.size w ((w.alloc (.cells (hkCells a ka).toArray 24)).alloc (.cells (hkCells b kb).toArray 24)))
  go_enter Tryd.func10, Tryd.ntmps10
  go_wp2_with (refine stop_at (some 2) rfl ?_)
  refine Stop.go (wpList_box rfl _ rfl rfl (hkv_cells a ka) (wpList_box rfl _ rfl rfl (hkv_cells b kb) ?_))
  rw [show (w.alloc (.cells (hkCells a ka).toArray 24)).heap.size = w.heap.size + 1 from Array.size_push _]
  generalize (w.alloc (.cells (hkCells a ka).toArray 24)).alloc (.cells (hkCells b kb).toArray 24) = w1 at *
  go_wp2_with (refine stop_at (some 8) rfl ?_)
  refine Stop.go (wpList_load_agg rfl 24 rfl rfl keyTy.ut rfl (key_size a ka HA.out) (row_cells HG1.out) ?_)
  go_wp2_with (go_at_call 29; refine (text_any a ka _ HA.out).mono ?_; rw [← HS.out]; rintro e w2 ⟨rfl, hb2⟩; have HB2 := Lib.hid (HB1.out.trans (hb2.mono HB1.out.size)); have HG3 := Lib.hid ((hb2.block _ (Array.getElem?_eq_some_iff.1 HG1.out).1).trans HG1.out); have HG4 := Lib.hid ((hb2.block _ (Array.getElem?_eq_some_iff.1 HG2.out).1).trans HG2.out); clear hb2)
  refine Text.wp_grow [2, 7, 9, 11, 12] [1, 5, 6, 8, 10] [] (by kernel_rfl) (by kernel_rfl) ?_
  refine Text.wpS_seg 2 _ _ _ _ (by decide) (fun Q' hQ' => ?_)
  simp only [List.take_succ_cons, List.take_zero]
  refine wpList_val rfl (v := .string S) rfl ?_
  refine wpList_load_agg rfl 24 rfl rfl keyTy.ut rfl (key_size a ka HA.out) (row_cells HG3.out) ?_
  refine hQ' _ _ ?_
  simp only [List.drop_succ_cons, List.drop_zero]
  generalize hac : Act.put _ _ _ = a9
  simp [Act.put] at hac
  subst hac
  refine Text.wpS_one (fun Q1 hQ1 => ?_)
  go_wp2_with fail
  refine (refText_any a ka _ HA.out).mono ?_
  rw [← HS.out]
  rintro e w3 ⟨rfl, hb3⟩
  have HG5 := Lib.hid ((hb3.block _ (Array.getElem?_eq_some_iff.1 HG3.out).1).trans HG3.out)
  have HG6 := Lib.hid ((hb3.block _ (Array.getElem?_eq_some_iff.1 HG4.out).1).trans HG4.out)
  have HB3 := Lib.hid hb3
  clear hb3
  go_wp2_with fail
  refine ⟨HB3.out, ?_⟩
  refine Text.wpS_seg 2 _ _ _ _ (by decide) (fun Q2 hQ2 => ?_)
  simp only [List.take_succ_cons, List.take_zero]
  go_wp2_with fail
  simp only [List.drop_succ_cons, List.drop_zero]
  refine Text.wpS_seg 2 _ _ _ _ (by decide) (fun Q2 hQ2 => ?_)
  simp only [List.take_succ_cons, List.take_zero]
  refine wpList_load_aggG (by rfl) 24 rfl rfl keyTy.ut rfl (key_size a ka HA.out) (row_cells HG5.out) ?_
  refine wpList_load_aggG (by rfl) 24 rfl rfl keyTy.ut rfl (key_size b kb HB.out) (row_cells HG6.out) ?_
  refine hQ2 _ _ ?_
  simp only [List.drop_succ_cons, List.drop_zero]
  generalize hac : Act.put _ _ _ = a9
  simp [Act.put] at hac
  subst hac
  refine Text.wpS_one (fun Q3 hQ3 => ?_)
  go_wp2_with fail
  refine (keyLess_any a b ka kb _ HA.out HB.out).mono ?_
  rw [← HLB.out]
  rintro e w4 ⟨rfl, hb4⟩
  have HG7 := Lib.hid ((hb4.block _ (Array.getElem?_eq_some_iff.1 HG5.out).1).trans HG5.out)
  have HG8 := Lib.hid ((hb4.block _ (Array.getElem?_eq_some_iff.1 HG6.out).1).trans HG6.out)
  have HB4 := Lib.hid (HB3.out.trans (hb4.mono HB3.out.size))
  clear hb4
  go_wp2_with fail
  refine ⟨HB4.out, ?_⟩
  refine Text.wpS_seg 1 _ _ _ _ (by decide) (fun Q2 hQ2 => ?_)
  simp only [List.take_succ_cons, List.take_zero]
  refine wpList_load_aggG (by rfl) 24 rfl rfl keyTy.ut rfl (key_size a ka HA.out) (row_cells HG7.out) ?_
  refine hQ2 _ _ ?_
  simp only [List.drop_succ_cons, List.drop_zero]
  generalize hac : Act.put _ _ _ = a9
  simp [Act.put] at hac
  subst hac
  refine Text.wpS_one (fun Q3 hQ3 => ?_)
  go_wp2_with fail
  refine (refText_any a ka _ HA.out).mono ?_
  rw [← HS.out]
  rintro e w5 ⟨rfl, hb5⟩
  have HG9 := Lib.hid ((hb5.block _ (Array.getElem?_eq_some_iff.1 HG7.out).1).trans HG7.out)
  have HG10 := Lib.hid ((hb5.block _ (Array.getElem?_eq_some_iff.1 HG8.out).1).trans HG8.out)
  have HB5 := Lib.hid (HB4.out.trans (hb5.mono HB4.out.size))
  clear hb5
  go_wp2_with fail
  refine ⟨HB5.out, ?_⟩
  refine Text.wpS_seg 1 _ _ _ _ (by decide) (fun Q2 hQ2 => ?_)
  simp only [List.take_succ_cons, List.take_zero]
  refine wpList_load_aggG (by rfl) 24 rfl rfl keyTy.ut rfl (key_size b kb HB.out) (row_cells HG10.out) ?_
  refine hQ2 _ _ ?_
  simp only [List.drop_succ_cons, List.drop_zero]
  generalize hac : Act.put _ _ _ = a9
  simp [Act.put] at hac
  subst hac
  refine Text.wpS_one (fun Q3 hQ3 => ?_)
  go_wp2_with fail
  refine (refText_any b kb _ HB.out).mono ?_
  rw [← HU.out]
  rintro e w6 ⟨rfl, hb6⟩
  have HG11 := Lib.hid ((hb6.block _ (Array.getElem?_eq_some_iff.1 HG9.out).1).trans HG9.out)
  have HG12 := Lib.hid ((hb6.block _ (Array.getElem?_eq_some_iff.1 HG10.out).1).trans HG10.out)
  have HB6 := Lib.hid (HB5.out.trans (hb6.mono HB5.out.size))
  clear hb6
  go_wp2_with fail
  refine ⟨HB6.out, ?_⟩
  refine Text.wpS_one (fun Q3 hQ3 => ?_)
  go_wp2_with fail
  rw [HS.out, HU.out]
  refine (less09_any (keyText a ka) (keyText b kb) _ (Nat.le_trans HSZ.out (by decide)) (Nat.le_trans HUZ.out (by decide))).mono ?_
  rw [show Op.bytesLess (keyText a ka) (keyText b kb) = Lb from HLB.out.symm, ← HS.out, ← HU.out]
  rintro e w7 ⟨rfl, hb7⟩
  have HG13 := Lib.hid ((hb7.block _ (Array.getElem?_eq_some_iff.1 HG11.out).1).trans HG11.out)
  have HG14 := Lib.hid ((hb7.block _ (Array.getElem?_eq_some_iff.1 HG12.out).1).trans HG12.out)
  have HB7 := Lib.hid (HB6.out.trans (hb7.mono HB6.out.size))
  clear hb7
  go_wp2_with fail
  refine ⟨HB7.out, ?_⟩
  refine Text.wpS_seg 2 _ _ _ _ (by decide) (fun Q2 hQ2 => ?_)
  simp only [List.take_succ_cons, List.take_zero]
  have hLL : (Lb != Lb) = false := by simp
  go_wp2_with fail
  simp only [List.drop_succ_cons, List.drop_zero]
  refine ⟨by rfl, ⟨fun _ => ⟨_, _, rfl, row_cells HG3.out 0 _ (List.getElem?_eq_getElem (by rw [hkCells_length]; omega))⟩, fun _ => ⟨_, _, rfl, row_cells HG3.out 0 _ (List.getElem?_eq_getElem (by rw [hkCells_length]; omega))⟩, fun _ => ⟨_, _, rfl, row_cells HG4.out 0 _ (List.getElem?_eq_getElem (by rw [hkCells_length]; omega))⟩, fun _ => ⟨_, _, rfl, row_cells HG3.out 0 _ (List.getElem?_eq_getElem (by rw [hkCells_length]; omega))⟩, fun _ => ⟨_, _, rfl, row_cells HG4.out 0 _ (List.getElem?_eq_getElem (by rw [hkCells_length]; omega))⟩, trivial⟩, ?_⟩
  have HB8 := Lib.hid (HB2.out.trans ((below_drew HB7.out).mono HB2.out.size))
  clear HB1 HB2 HB3 HB4 HB5 HB6 HB7 HG1 HG2 HG3 HG4 HG5 HG6 HG7 HG8 HG9 HG10 HG11 HG12
  cases hk : kOk ka
  · have hz : S.toList.isEmpty = true := by rw [HST.out]; have := keyText_ne a ka; rw [hk] at this; simpa using this
    have HKO := Lib.hid (show keyOf (keyText a ka) = none by rw [keyOf_text a ka HA.out, hk]; rfl)
    clear hk
    go_wp2_with (refine stop_at (some 27) rfl ?_)
    refine Stop.go (wpList_seg 4 _ _ _ (fun Q' hQ' => ?_))
    simp only [List.take_succ_cons, List.take_zero]
    go_wp2_with (go_at_call 27; rw [HS.out]; refine (keyParse_any (keyText a ka) _ (Nat.le_trans HSZ.out (by decide))).mono ?_; rw [HKO.out, ← HS.out]; rintro e w9 ⟨rfl, hb8⟩)
    try simp only [List.drop_succ_cons, List.drop_zero]
    refine Stop.go (wpList_alloc rfl 24 rfl zero_key rfl ?_)
    refine wpList_store_agg rfl 24 rfl rfl rfl (store_new2 (g := w9.heap.size) rfl (hkv_cells _ _) (key_size _ _ rfl) rfl (hkCells_one _ _)) ?_
    have hb9 := hb8.trans ((Below.refl _ _).alloc hb8.size (.cells (hkCells z32 0).toArray 24))
    have HG20 := Lib.hid (Go.heap_alloc_new w9 (.cells (hkCells z32 0).toArray 24))
    have HG21 := Lib.hid ((hb9.block _ (Array.getElem?_eq_some_iff.1 HG13.out).1).trans HG13.out)
    have HB9 := Lib.hid (HB8.out.trans (hb9.mono HB8.out.size))
    have HT9 := Lib.hid (HT.out.below HB9.out)
    clear hb8 hb9
    generalize w9.alloc (.cells (hkCells z32 0).toArray 24) = w10 at *
    generalize w9.heap.size = m9 at *
    go_wp2_with (go_at_call 26; refine (awake17_any _ HT9.out).mono ?_; rintro e w11 ⟨rfl, hb11⟩)
    go_ret
    exact ⟨rfl, HB9.out.trans (hb11.mono HB9.out.size)⟩
  · have hz : S.toList.isEmpty = false := by rw [HST.out]; have := keyText_ne a ka; rw [hk] at this; simpa using this
    have HKO := Lib.hid (show keyOf (keyText a ka) = some (a, ka) by rw [keyOf_text a ka HA.out, hk]; rfl)
    clear hk
    go_wp2_with (refine stop_at (some 27) rfl ?_)
    refine Stop.go (wpList_seg 4 _ _ _ (fun Q' hQ' => ?_))
    simp only [List.take_succ_cons, List.take_zero]
    go_wp2_with (go_at_call 27; rw [HS.out]; refine (keyParse_any (keyText a ka) _ (Nat.le_trans HSZ.out (by decide))).mono ?_; rw [HKO.out, ← HS.out]; rintro e w9 ⟨⟨_, rfl⟩, hb8⟩)
    try simp only [List.drop_succ_cons, List.drop_zero]
    refine Stop.go (wpList_alloc rfl 24 rfl zero_key rfl ?_)
    refine wpList_store_agg rfl 24 rfl rfl rfl (store_new2 (g := w9.heap.size) rfl (hkv_cells _ _) (key_size _ _ HA.out) (by rw [List.size_toArray, hkCells_length, hkCells_length, HA.out]; rfl) (hkCells_one _ _)) ?_
    have hb9 := hb8.trans ((Below.refl _ _).alloc hb8.size (.cells (hkCells a ka).toArray 24))
    have HG20 := Lib.hid (Go.heap_alloc_new w9 (.cells (hkCells a ka).toArray 24))
    have HG21 := Lib.hid ((hb9.block _ (Array.getElem?_eq_some_iff.1 HG13.out).1).trans HG13.out)
    have HB9 := Lib.hid (HB8.out.trans (hb9.mono HB8.out.size))
    have HT9 := Lib.hid (HT.out.below HB9.out)
    clear hb8 hb9
    generalize w9.alloc (.cells (hkCells a ka).toArray 24) = w10 at *
    generalize w9.heap.size = m9 at *
    go_wp2_with (refine stop_at (some 32) rfl ?_)
    refine Stop.go (wpList_seg 6 _ _ _ (fun Q' hQ' => ?_))
    simp only [List.take_succ_cons, List.take_zero]
    go_wp2_with fail
    try simp only [List.drop_succ_cons, List.drop_zero]
    refine Stop.go (wpList_load_aggG (by rfl) 24 rfl rfl keyTy.ut rfl (key_size a ka HA.out) (row_cells HG20.out) ?_)
    refine wpList_load_aggG (by rfl) 24 rfl rfl keyTy.ut rfl (key_size a ka HA.out) (row_cells HG21.out) ?_
    refine wpList_binG (by rfl) .eql 24 rfl rfl rfl (hkv_guard keyTy.gd ..) (hkv_eql keyTy HA.out HA.out) ?_
    rw [show (decide (a = a) && decide (ka = ka)) = true by simp]
    go_wp2_with (go_at_call 26; refine (awake17_any _ HT9.out).mono ?_; rintro e w11 ⟨rfl, hb11⟩)
    go_ret
    exact ⟨rfl, HB9.out.trans (hb11.mono HB9.out.size)⟩
end Go.Proofs.YtfheocdciekfoaaDoor
