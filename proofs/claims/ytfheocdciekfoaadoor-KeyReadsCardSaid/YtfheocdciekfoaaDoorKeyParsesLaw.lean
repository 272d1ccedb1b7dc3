/- The walk of the law KeyParses. -/
import Derived.Test.YtfheocdciekfoaaDoorKeyAwake
import Derived.Test.YtfheocdciekfoaaDoorKeyRef
namespace Go.Proofs.YtfheocdciekfoaaDoor
open Go.RowKit

theorem key_res (l : List UInt8) : ∃ b kk o, (∀ w e w', KeyTo w (keyOf l) e w' → e = .returned (.tuple #[hkv b kk, .bool o]) ∧ Below w.heap.size w w') ∧ b.length = 32 ∧ (o = true → keyText b kk = l ∧ keyOf l = some (b, kk)) ∧ (o = false → b = z32 ∧ kk = 0 ∧ keyOf l = none) := by
  cases hk : keyOf l with
  | none => exact ⟨z32, 0, false, fun w e w' h => h, rfl, (fun h => by cases h), fun _ => ⟨rfl, rfl, rfl⟩⟩
  | some p =>
    obtain ⟨b, kk⟩ := p
    have h := text_keyOf l b kk hk
    exact ⟨b, kk, true, fun w e w' h => ⟨h.1.2, h.2⟩, h.2.1, fun _ => ⟨h.1, rfl⟩, (fun h => by cases h)⟩
set_option maxRecDepth 100000 in
set_option maxHeartbeats 1000000 in
theorem keyParses_any (l : List UInt8) (w : World) (ht : Tabs w) :
    Calls Tryd.prog 7 #[.string ⟨l.toArray⟩] w fun e w' => e = .returned (.bool true) ∧ Below w.heap.size w w' := by
  obtain ⟨s, hs⟩ : ∃ s : ByteArray, s = ⟨l.toArray⟩ := ⟨_, rfl⟩
  have hsz : s.size = l.length := by rw [hs]; rfl
  have htl : s.toList = l := by rw [hs]; simp
  rw [← hs]
  have HS := Lib.hid hs
  have HTL := Lib.hid htl
  have HT := Lib.hid ht
  clear hs htl ht
  by_cases h100 : l.length ≤ 100
  · have HL := Lib.hid (show l.length ≤ 1099511627776 by omega)
    have hd : decide ((100 : Int) < l.length) = false := by simp; omega
    obtain ⟨b, kk, o, hres, hb, ho1, ho2⟩ := key_res l
    have HRES := Lib.hid hres
    have HRES17 := Lib.hid (show ∀ w e w', KeyTo w (parse17 l) e w' → e = .returned (.tuple #[hkv b kk, .bool o]) ∧ Below w.heap.size w w' by rw [← keyOf_eq]; exact hres)
    have HB := Lib.hid hb
    have HO := Lib.hid ho1
    clear hres hb ho1 ho2
    go_enter Tryd.func7, Tryd.ntmps7
    go_wp2_with (refine stop_at (some 13) rfl ?_)
    refine Stop.go (wpList_seg 4 _ _ _ (fun Q' hQ' => ?_))
    simp only [List.take_succ_cons, List.take_zero]
    go_wp2_with (go_at_call 27; rw [HS.out]; refine (keyParse_any l _ HL.out).mono ?_; rw [← HS.out]; intro e w1 hp; obtain ⟨rfl, hb1⟩ := HRES.out _ _ _ hp; clear hp)
    simp only [List.drop_succ_cons, List.drop_zero]
    refine Stop.go (wpList_alloc rfl 24 rfl zero_key rfl ?_)
    refine wpList_store_agg rfl 24 rfl rfl rfl (store_new2 (g := w1.heap.size) rfl (hkv_cells _ _) (key_size _ _ HB.out) (by rw [List.size_toArray, hkCells_length, hkCells_length, HB.out]; rfl) (hkCells_one _ _)) ?_
    have hb2 : Below w.heap.size w (w1.alloc (.cells (hkCells b kk).toArray 24)) := hb1.trans ((Below.refl _ _).alloc hb1.size _)
    have HG2 := Lib.hid (Go.heap_alloc_new w1 (.cells (hkCells b kk).toArray 24))
    have HB2 := Lib.hid hb2
    clear hb1 hb2
    generalize w1.alloc (.cells (hkCells b kk).toArray 24) = w2 at *
    generalize w1.heap.size = m1 at *
    go_wp2_with (refine stop_at (some 18) rfl ?_)
    refine Stop.go (wpList_seg 4 _ _ _ (fun Q' hQ' => ?_))
    simp only [List.take_succ_cons, List.take_zero]
    go_wp2_with (go_at_call 28; rw [HS.out]; refine (parse17_any l _ HL.out).mono ?_; rw [← HS.out]; intro e w3 hp; obtain ⟨rfl, hb3⟩ := HRES17.out _ _ _ hp; clear hp)
    simp only [List.drop_succ_cons, List.drop_zero]
    refine Stop.go (wpList_alloc rfl 24 rfl zero_key rfl ?_)
    refine wpList_store_agg rfl 24 rfl rfl rfl (store_new2 (g := w3.heap.size) rfl (hkv_cells _ _) (key_size _ _ HB.out) (by rw [List.size_toArray, hkCells_length, hkCells_length, HB.out]; rfl) (hkCells_one _ _)) ?_
    have hb4 : Below w2.heap.size w2 (w3.alloc (.cells (hkCells b kk).toArray 24)) := hb3.trans ((Below.refl _ _).alloc hb3.size _)
    have HG4 := Lib.hid (Go.heap_alloc_new w3 (.cells (hkCells b kk).toArray 24))
    have HG3 := Lib.hid ((hb4.block _ (Array.getElem?_eq_some_iff.1 HG2.out).1).trans HG2.out)
    have HB4 := Lib.hid (HB2.out.trans (hb4.mono HB2.out.size))
    have HT4 := Lib.hid (HT.out.below HB4.out)
    clear hb3 hb4 HB2 HG2
    generalize w3.alloc (.cells (hkCells b kk).toArray 24) = w4 at *
    generalize w3.heap.size = m2 at *
    go_wp2_with (refine stop_at (some 23) rfl ?_)
    refine Stop.go (wpList_seg 2 _ _ _ (fun Q' hQ' => ?_))
    simp only [List.take_succ_cons, List.take_zero]
    go_wp2_with fail
    simp only [List.drop_succ_cons, List.drop_zero]
    refine Stop.go (wpList_load_aggG (by rfl) 24 rfl rfl keyTy.ut rfl (key_size _ _ HB.out) (row_cells HG3.out) ?_)
    refine wpList_load_aggG (by rfl) 24 rfl rfl keyTy.ut rfl (key_size _ _ HB.out) (row_cells HG4.out) ?_
    refine wpList_binG (by rfl) .eql 24 rfl rfl rfl (hkv_guard keyTy.gd ..) (hkv_eql keyTy HB.out HB.out) ?_
    rw [show (decide (b = b) && decide (kk = kk)) = true by simp]
    cases o
    · go_wp2_with (go_at_call 26; refine (awake17_any _ HT4.out).mono ?_; rintro e w5 ⟨rfl, hb5⟩)
      go_ret
      exact ⟨rfl, HB4.out.trans (hb5.mono HB4.out.size)⟩
    · obtain ⟨htx, _⟩ := HO.out rfl
      have HTX := Lib.hid htx
      clear htx
      refine wpList_seg 5 _ _ _ (fun Q' hQ' => ?_)
      simp only [List.take_succ_cons, List.take_zero]
      go_wp2_with fail
      try simp only [List.drop_succ_cons, List.drop_zero]
      refine Stop.go (wpList_load_aggG (by rfl) 24 rfl rfl keyTy.ut rfl (key_size _ _ HB.out) (row_cells HG3.out) ?_)
      have hE : (s.toList == s.toList) = true := by simp
      go_wp2_with (first | (go_at_call 29; refine (text_any b kk _ HB.out).mono ?_; rintro e w5 ⟨rfl, hb5⟩; rw [HTX.out, ← HS.out]; have HT5 := Lib.hid (HT4.out.below hb5)) | (go_at_call 26; refine (awake17_any _ HT5.out).mono ?_; rintro e w6 ⟨rfl, hb6⟩))
      go_ret
      exact ⟨rfl, HB4.out.trans ((hb5.mono HB4.out.size).trans (hb6.mono (Nat.le_trans HB4.out.size hb5.size)))⟩
  · have hd : decide ((100 : Int) < l.length) = true := by simp; omega
    go_enter Tryd.func7, Tryd.ntmps7
    go_wp2_with (go_at_call 26; refine (awake17_any _ HT.out).mono ?_; rintro e w1 ⟨rfl, hb1⟩)
    go_ret
    exact ⟨rfl, hb1⟩
end Go.Proofs.YtfheocdciekfoaaDoor
