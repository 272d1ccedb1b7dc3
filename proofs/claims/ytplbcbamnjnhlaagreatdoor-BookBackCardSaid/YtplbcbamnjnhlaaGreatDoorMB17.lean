/- Texts of this proof joined: TakeNo, TakeAny, KeyApp, Seg3. -/
import Derived.Test.YtplbcbamnjnhlaaGreatDoorMB16
import Derived.Test.YtplbcbamnjnhlaaGreatDoorMB11
import Derived.Great.BuildSlice
namespace Go.Proofs.YtplbcbamnjnhlaaGreatDoor
open Go.RowKit

def TakeNo (g : Nat) (l : List UInt8) (w : World) (e : Ending) (w' : World) : Prop :=
  ∃ (h : List UInt8) (k : Int) (a : Nat), e = .returned (hkv h k) ∧ h.length = 32 ∧ (0 ≤ k ∧ k ≤ 16777215) ∧ RdrR w' g l a true ∧ w.grownBy w' (some g)
set_option maxRecDepth 100000 in
set_option maxHeartbeats 4000000 in
theorem takeKey_late (g : Nat) (l : List UInt8) (a : Nat) (w : World) (h : RdrR w g l a false) (hn : a + 32 ≤ l.length) (hno : l.length < a + 33) :
    Calls Tryz.prog 118 #[.pointer (some ⟨g, 0, none⟩)] w (TakeNo g l w) := by
  have HGW := Lib.hid h.lt
  have H := Lib.hid h
  clear h
  go_enter Tryz.func118, Tryz.ntmps118
  go_wp2_with (refine stop_at (some 2) rfl ?_)
  refine Stop.go (wpList_alloc rfl 34 rfl zero_key rfl ?_)
  have hb1 : Below w.heap.size w (w.alloc (.cells (hkCells z32 0).toArray 34)) := (Below.refl _ _).alloc (Nat.le_refl _) _
  have HG1 := Lib.hid (Go.heap_alloc_new w (.cells (hkCells z32 0).toArray 34))
  have HS1 := Lib.hid (show (w.alloc (.cells (hkCells z32 0).toArray 34)).heap.size = w.heap.size + 1 from Array.size_push _)
  have HR1 := Lib.hid (H.out.later hb1)
  have HB1 := Lib.hid hb1
  clear hb1
  generalize w.alloc (.cells (hkCells z32 0).toArray 34) = w1 at *
  go_wp2_with (refine stop_at (some 3) rfl ?_)
  refine Stop.go (wpList_alloc rfl 34 rfl zero_key rfl ?_)
  have hb2 : Below w1.heap.size w1 (w1.alloc (.cells (hkCells z32 0).toArray 34)) := (Below.refl _ _).alloc (Nat.le_refl _) _
  have HG2 := Lib.hid (Go.heap_alloc_new w1 (.cells (hkCells z32 0).toArray 34))
  have HG21 := Lib.hid ((hb2.block _ (Array.getElem?_eq_some_iff.1 HG1.out).1).trans HG1.out)
  have HR2 := Lib.hid (HR1.out.later hb2)
  have HB2 := Lib.hid (HB1.out.trans (hb2.mono HB1.out.size))
  clear hb2
  generalize w1.alloc (.cells (hkCells z32 0).toArray 34) = w2 at *
  generalize w1.heap.size = m at *
  go_wp2_with fail
  refine wpI_inv [3] [] [] (fun _ => True) trivial (by kernel_rfl) (by kernel_rfl) ?_
  refine wpI_seg 3 (by decide) (fun Q0 hQ0 => ?_)
  simp only [List.take_succ_cons, List.take_zero]
  go_wp2_with fail
  try simp only [List.drop_succ_cons, List.drop_zero]
  refine wpI_one (fun Q1 hQ1 => ?_)
  go_wp2_with fail
  refine (take_ok g l a 32 _ HR2.out.drew (by omega)).mono ?_
  rintro e w3 ⟨rfl, hr3, hrd3, hg3, hs3⟩
  have HGM := Lib.hid (show m < w2.heap.size from (Array.getElem?_eq_some_iff.1 HG2.out).1)
  have HMG := Lib.hid (show g < m by have := HGW.out; have := HS1.out; omega)
  have HG3 := Lib.hid ((hg3.block m HGM.out (by intro e; injection e with e; have := HMG.out; omega)).trans HG2.out)
  have HG31 := Lib.hid ((hg3.block w.heap.size (Nat.lt_trans (by rw [HS1.out]; omega) HGM.out) (by intro e; injection e with e; have := HGW.out; omega)).trans HG21.out)
  have HT3 := Lib.hid (Rd.row (B := w3.heap.size) hr3 hs3)
  have HR3 := Lib.hid hrd3
  have HS3 := Lib.hid hs3
  have HW3 := Lib.hid (show w.grownBy w3 (some g) from grown_trans (grown_below' HB2.out.drew) hg3)
  have HSM := Lib.hid (show m < w3.heap.size from Nat.lt_trans HGM.out hs3)
  clear hr3 hrd3 hg3 hs3
  go_wp2_with fail
  refine ⟨trivial, ?_⟩
  refine wpI_seg 1 (by decide) (fun Q3 hQ3 => ?_)
  simp only [List.take_succ_cons, List.take_zero]
  obtain ⟨hh, hhd⟩ : ∃ hh, hh = (l.drop a).take 32 := ⟨_, rfl⟩
  have HHL := Lib.hid (show hh.length = 32 by rw [hhd, List.length_take, List.length_drop]; omega)
  rw [← hhd] at HT3
  refine wpList_copy_hash rfl _ _ rfl rfl rfl rfl z32_len HHL.out HG3.out HT3.out (Below.refl m w3) (Nat.le_refl _) ?_
  intro w4 hg4 hb4 hs4
  refine hQ3 _ _ ?_
  simp only [List.drop_succ_cons, List.drop_zero]
  refine wpI_end ⟨by rfl, trivial, ?_⟩
  have HR4 := Lib.hid (HR3.out.low hb4 HMG.out)
  have HG41 := Lib.hid ((hb4.block w.heap.size (by rw [HS1.out]; omega)).trans HG31.out)
  have HW4 := Lib.hid (grown_low HW3.out hb4 (by rw [HS1.out]; omega) (by rw [hs4]; exact HW3.out.size))
  clear hb4
  have HS4 := Lib.hid hs4
  clear hs4
  go_wp2_with fail
  refine (num_no g l (a + 32) false 1 _ HR4.out (by decide) (by decide) (.inr (by omega))).mono ?_
  rintro e w5 ⟨rfl, hr5, hg5⟩
  have HS45 : Hid (w4.heap.size ≤ w5.heap.size) := hg5.size
  have HM4 := Lib.hid (show m < w4.heap.size by rw [HS4.out]; exact HSM.out)
  have HG5 := Lib.hid ((hg5.block m HM4.out (by intro e; injection e with e; have := HMG.out; omega)).trans hg4.out)
  have HG51 := Lib.hid ((hg5.block w.heap.size (Nat.lt_trans (by rw [HS1.out]; omega) HM4.out) (by intro e; injection e with e; have := HGW.out; omega)).trans HG41.out)
  have HR5 := Lib.hid hr5
  have HW5 := Lib.hid (grown_trans HW4.out hg5)
  clear hr5 hg5
  obtain ⟨w6, hst6, hg6, hot6, hbl6⟩ := store_field (P := Tryz.prog) w5 (g := m) (off := 32) (vs := [.int .i64 0]) (v := .int .i64 0) (ty := 3) rfl (by kernel_rfl) HG5.out (by simp [hkCells_length, HHL.out]) (fun u hu => by rw [List.mem_singleton.1 hu]; rfl) (row_num hh 0 0 HHL.out)
  have HR6 := Lib.hid (HR5.out.low (hbl6 m w5 (Below.refl m w5) (Nat.le_refl _)) HMG.out)
  have HW6 := Lib.hid (grown_low HW5.out (hbl6 m w5 (Below.refl m w5) (Nat.le_refl _)) (by rw [HS1.out]; omega) (Nat.le_trans HW5.out.size (hbl6 m w5 (Below.refl m w5) (Nat.le_refl _)).size))
  have HST6 := Lib.hid hst6
  have HG6 := Lib.hid hg6
  have HG61 := Lib.hid ((hot6 w.heap.size (by rw [HS1.out]; omega)).trans HG51.out)
  clear hst6 hg6 hot6 hbl6
  go_wp2_with (refine stop_at none rfl ?_)
  refine Stop.go (wpList_store_agg rfl 3 rfl rfl rfl HST6.out ?_)
  go_wp2_with (refine stop_at (some 13) rfl ?_)
  refine Stop.go (wpList_load_agg rfl 34 rfl rfl keyTy.ut rfl (key_size hh _ HHL.out) (row_cells HG6.out) ?_)
  refine wpList_store_agg rfl 34 rfl rfl rfl (store_row (hkv_cells _ _) (key_size _ _ HHL.out) HG61.out (by simp [hkCells_length, HHL.out, z32_len]) (hkCells_one _ _)) ?_
  go_wp2_with fail
  refine ret_key1 rfl HHL.out rfl rfl (setRow_heap _ _ _ _ _ _ HG61.out) ?_
  have hbz : Below w.heap.size w6 (w6.setRow w.heap.size (hkCells hh 0).toArray) := below_setRow (Below.refl _ _) (Nat.le_refl _) _
  exact ⟨hh, 0, _, rfl, HHL.out, ⟨by decide, by decide⟩, HR6.out.low hbz HGW.out, grown_low HW6.out hbz (Nat.le_refl _) (Nat.le_trans HW6.out.size hbz.size)⟩
set_option maxRecDepth 100000 in
set_option maxHeartbeats 4000000 in
theorem takeMark_late (g : Nat) (l : List UInt8) (a : Nat) (w : World) (h : RdrR w g l a false) (hn : a + 32 ≤ l.length) (hno : l.length < a + 35) :
    Calls Tryz.prog 119 #[.pointer (some ⟨g, 0, none⟩)] w (TakeNo g l w) := by
  have HGW := Lib.hid h.lt
  have H := Lib.hid h
  clear h
  go_enter Tryz.func119, Tryz.ntmps119
  go_wp2_with (refine stop_at (some 2) rfl ?_)
  refine Stop.go (wpList_alloc rfl 36 rfl zero_mark rfl ?_)
  have hb1 : Below w.heap.size w (w.alloc (.cells (hkCells z32 0).toArray 36)) := (Below.refl _ _).alloc (Nat.le_refl _) _
  have HG1 := Lib.hid (Go.heap_alloc_new w (.cells (hkCells z32 0).toArray 36))
  have HS1 := Lib.hid (show (w.alloc (.cells (hkCells z32 0).toArray 36)).heap.size = w.heap.size + 1 from Array.size_push _)
  have HR1 := Lib.hid (H.out.later hb1)
  have HB1 := Lib.hid hb1
  clear hb1
  generalize w.alloc (.cells (hkCells z32 0).toArray 36) = w1 at *
  go_wp2_with (refine stop_at (some 3) rfl ?_)
  refine Stop.go (wpList_alloc rfl 36 rfl zero_mark rfl ?_)
  have hb2 : Below w1.heap.size w1 (w1.alloc (.cells (hkCells z32 0).toArray 36)) := (Below.refl _ _).alloc (Nat.le_refl _) _
  have HG2 := Lib.hid (Go.heap_alloc_new w1 (.cells (hkCells z32 0).toArray 36))
  have HG21 := Lib.hid ((hb2.block _ (Array.getElem?_eq_some_iff.1 HG1.out).1).trans HG1.out)
  have HR2 := Lib.hid (HR1.out.later hb2)
  have HB2 := Lib.hid (HB1.out.trans (hb2.mono HB1.out.size))
  clear hb2
  generalize w1.alloc (.cells (hkCells z32 0).toArray 36) = w2 at *
  generalize w1.heap.size = m at *
  go_wp2_with fail
  refine wpI_inv [3] [] [] (fun _ => True) trivial (by kernel_rfl) (by kernel_rfl) ?_
  refine wpI_seg 3 (by decide) (fun Q0 hQ0 => ?_)
  simp only [List.take_succ_cons, List.take_zero]
  go_wp2_with fail
  try simp only [List.drop_succ_cons, List.drop_zero]
  refine wpI_one (fun Q1 hQ1 => ?_)
  go_wp2_with fail
  refine (take_ok g l a 32 _ HR2.out.drew (by omega)).mono ?_
  rintro e w3 ⟨rfl, hr3, hrd3, hg3, hs3⟩
  have HGM := Lib.hid (show m < w2.heap.size from (Array.getElem?_eq_some_iff.1 HG2.out).1)
  have HMG := Lib.hid (show g < m by have := HGW.out; have := HS1.out; omega)
  have HG3 := Lib.hid ((hg3.block m HGM.out (by intro e; injection e with e; have := HMG.out; omega)).trans HG2.out)
  have HG31 := Lib.hid ((hg3.block w.heap.size (Nat.lt_trans (by rw [HS1.out]; omega) HGM.out) (by intro e; injection e with e; have := HGW.out; omega)).trans HG21.out)
  have HT3 := Lib.hid (Rd.row (B := w3.heap.size) hr3 hs3)
  have HR3 := Lib.hid hrd3
  have HS3 := Lib.hid hs3
  have HW3 := Lib.hid (show w.grownBy w3 (some g) from grown_trans (grown_below' HB2.out.drew) hg3)
  have HSM := Lib.hid (show m < w3.heap.size from Nat.lt_trans HGM.out hs3)
  clear hr3 hrd3 hg3 hs3
  go_wp2_with fail
  refine ⟨trivial, ?_⟩
  refine wpI_seg 1 (by decide) (fun Q3 hQ3 => ?_)
  simp only [List.take_succ_cons, List.take_zero]
  obtain ⟨hh, hhd⟩ : ∃ hh, hh = (l.drop a).take 32 := ⟨_, rfl⟩
  have HHL := Lib.hid (show hh.length = 32 by rw [hhd, List.length_take, List.length_drop]; omega)
  rw [← hhd] at HT3
  refine wpList_copy_hash rfl _ _ rfl rfl rfl rfl z32_len HHL.out HG3.out HT3.out (Below.refl m w3) (Nat.le_refl _) ?_
  intro w4 hg4 hb4 hs4
  refine hQ3 _ _ ?_
  simp only [List.drop_succ_cons, List.drop_zero]
  refine wpI_end ⟨by rfl, trivial, ?_⟩
  have HR4 := Lib.hid (HR3.out.low hb4 HMG.out)
  have HG41 := Lib.hid ((hb4.block w.heap.size (by rw [HS1.out]; omega)).trans HG31.out)
  have HW4 := Lib.hid (grown_low HW3.out hb4 (by rw [HS1.out]; omega) (by rw [hs4]; exact HW3.out.size))
  clear hb4
  have HS4 := Lib.hid hs4
  clear hs4
  go_wp2_with fail
  refine (num_no g l (a + 32) false 3 _ HR4.out (by decide) (by decide) (.inr (by omega))).mono ?_
  rintro e w5 ⟨rfl, hr5, hg5⟩
  have HS45 : Hid (w4.heap.size ≤ w5.heap.size) := hg5.size
  have HM4 := Lib.hid (show m < w4.heap.size by rw [HS4.out]; exact HSM.out)
  have HG5 := Lib.hid ((hg5.block m HM4.out (by intro e; injection e with e; have := HMG.out; omega)).trans hg4.out)
  have HG51 := Lib.hid ((hg5.block w.heap.size (Nat.lt_trans (by rw [HS1.out]; omega) HM4.out) (by intro e; injection e with e; have := HGW.out; omega)).trans HG41.out)
  have HR5 := Lib.hid hr5
  have HW5 := Lib.hid (grown_trans HW4.out hg5)
  clear hr5 hg5
  obtain ⟨w6, hst6, hg6, hot6, hbl6⟩ := store_field (P := Tryz.prog) w5 (g := m) (off := 32) (vs := [.int .i64 0]) (v := .int .i64 0) (ty := 3) rfl (by kernel_rfl) HG5.out (by simp [hkCells_length, HHL.out]) (fun u hu => by rw [List.mem_singleton.1 hu]; rfl) (row_num hh 0 0 HHL.out)
  have HR6 := Lib.hid (HR5.out.low (hbl6 m w5 (Below.refl m w5) (Nat.le_refl _)) HMG.out)
  have HW6 := Lib.hid (grown_low HW5.out (hbl6 m w5 (Below.refl m w5) (Nat.le_refl _)) (by rw [HS1.out]; omega) (Nat.le_trans HW5.out.size (hbl6 m w5 (Below.refl m w5) (Nat.le_refl _)).size))
  have HST6 := Lib.hid hst6
  have HG6 := Lib.hid hg6
  have HG61 := Lib.hid ((hot6 w.heap.size (by rw [HS1.out]; omega)).trans HG51.out)
  clear hst6 hg6 hot6 hbl6
  go_wp2_with (refine stop_at none rfl ?_)
  refine Stop.go (wpList_store_agg rfl 3 rfl rfl rfl HST6.out ?_)
  go_wp2_with (refine stop_at (some 13) rfl ?_)
  refine Stop.go (wpList_load_agg rfl 36 rfl rfl markTy.ut rfl (mark_size hh _ HHL.out) (row_cells HG6.out) ?_)
  refine wpList_store_agg rfl 36 rfl rfl rfl (store_row (hkv_cells _ _) (mark_size _ _ HHL.out) HG61.out (by simp [hkCells_length, HHL.out, z32_len]) (hkCells_one _ _)) ?_
  go_wp2_with fail
  refine ret_mark1 rfl HHL.out rfl rfl (setRow_heap _ _ _ _ _ _ HG61.out) ?_
  have hbz : Below w.heap.size w6 (w6.setRow w.heap.size (hkCells hh 0).toArray) := below_setRow (Below.refl _ _) (Nat.le_refl _) _
  exact ⟨hh, 0, _, rfl, HHL.out, ⟨by decide, by decide⟩, HR6.out.low hbz HGW.out, grown_low HW6.out hbz (Nat.le_refl _) (Nat.le_trans HW6.out.size hbz.size)⟩
set_option maxRecDepth 100000 in
set_option maxHeartbeats 4000000 in
theorem takeKey_none (g : Nat) (l : List UInt8) (a : Nat) (w : World) (sp : Bool) (h : RdrR w g l a sp) (hno : sp = true ∨ l.length < a + 32) :
    Calls Tryz.prog 118 #[.pointer (some ⟨g, 0, none⟩)] w (TakeNo g l w) := by
  have HGW := Lib.hid h.lt
  have hal : a ≤ l.length := by obtain ⟨_, _, _, _, _, _, h5⟩ := h; exact h5
  have HNO := Lib.hid (show sp = true ∨ (32 : Int) < 0 ∨ ((l.length - a : Nat) : Int) < 32 by rcases hno with h | h; exact .inl h; exact .inr (.inr (by omega)))
  have H := Lib.hid h
  clear h hno hal
  go_enter Tryz.func118, Tryz.ntmps118
  go_wp2_with (refine stop_at (some 2) rfl ?_)
  refine Stop.go (wpList_alloc rfl 34 rfl zero_key rfl ?_)
  have hb1 : Below w.heap.size w (w.alloc (.cells (hkCells z32 0).toArray 34)) := (Below.refl _ _).alloc (Nat.le_refl _) _
  have HG1 := Lib.hid (Go.heap_alloc_new w (.cells (hkCells z32 0).toArray 34))
  have HS1 := Lib.hid (show (w.alloc (.cells (hkCells z32 0).toArray 34)).heap.size = w.heap.size + 1 from Array.size_push _)
  have HR1 := Lib.hid (H.out.later hb1)
  have HB1 := Lib.hid hb1
  clear hb1
  generalize w.alloc (.cells (hkCells z32 0).toArray 34) = w1 at *
  go_wp2_with (refine stop_at (some 3) rfl ?_)
  refine Stop.go (wpList_alloc rfl 34 rfl zero_key rfl ?_)
  have hb2 : Below w1.heap.size w1 (w1.alloc (.cells (hkCells z32 0).toArray 34)) := (Below.refl _ _).alloc (Nat.le_refl _) _
  have HG2 := Lib.hid (Go.heap_alloc_new w1 (.cells (hkCells z32 0).toArray 34))
  have HG21 := Lib.hid ((hb2.block _ (Array.getElem?_eq_some_iff.1 HG1.out).1).trans HG1.out)
  have HR2 := Lib.hid (HR1.out.later hb2)
  have HB2 := Lib.hid (HB1.out.trans (hb2.mono HB1.out.size))
  clear hb2
  generalize w1.alloc (.cells (hkCells z32 0).toArray 34) = w2 at *
  generalize w1.heap.size = m at *
  go_wp2_with fail
  refine wpI_inv [3] [] [] (fun _ => True) trivial (by kernel_rfl) (by kernel_rfl) ?_
  refine wpI_seg 3 (by decide) (fun Q0 hQ0 => ?_)
  simp only [List.take_succ_cons, List.take_zero]
  go_wp2_with fail
  try simp only [List.drop_succ_cons, List.drop_zero]
  refine wpI_one (fun Q1 hQ1 => ?_)
  go_wp2_with fail
  refine (take_no g l a sp 32 _ HR2.out.drew HNO.out).mono ?_
  rintro e w3 ⟨rfl, hrd3, hg3⟩
  have HGM := Lib.hid (show m < w2.heap.size from (Array.getElem?_eq_some_iff.1 HG2.out).1)
  have HMG := Lib.hid (show g < m by have := HGW.out; have := HS1.out; omega)
  have HG3 := Lib.hid ((hg3.block m HGM.out (by intro e; injection e with e; have := HMG.out; omega)).trans HG2.out)
  have HG31 := Lib.hid ((hg3.block w.heap.size (Nat.lt_trans (by rw [HS1.out]; omega) HGM.out) (by intro e; injection e with e; have := HGW.out; omega)).trans HG21.out)
  have HR3 := Lib.hid hrd3
  have HW3 := Lib.hid (show w.grownBy w3 (some g) from grown_trans (grown_below' HB2.out.drew) hg3)
  have HSM := Lib.hid (show m < w3.heap.size from Nat.lt_of_lt_of_le HGM.out hg3.size)
  clear hrd3 hg3
  go_wp2_with fail
  refine ⟨trivial, ?_⟩
  refine wpI_seg 1 (by decide) (fun Q3 hQ3 => ?_)
  simp only [List.take_succ_cons, List.take_zero]
  refine wpList_copy_nothing rfl _ _ 44 44 rfl 5 Tryz.underlying44 (by kernel_rfl) _ _ _ _ _ _ rfl rfl (by simp) ?_
  refine hQ3 _ _ ?_
  simp only [List.drop_succ_cons, List.drop_zero]
  refine wpI_end ⟨by rfl, trivial, ?_⟩
  go_wp2_with fail
  refine (num_no g l a true 1 _ HR3.out (by decide) (by decide) (.inl rfl)).mono ?_
  rintro e w5 ⟨rfl, hr5, hg5⟩
  have HG5 := Lib.hid ((hg5.block m HSM.out (by intro e; injection e with e; have := HMG.out; omega)).trans HG3.out)
  have HG51 := Lib.hid ((hg5.block w.heap.size (Nat.lt_trans (by rw [HS1.out]; omega) HSM.out) (by intro e; injection e with e; have := HGW.out; omega)).trans HG31.out)
  have HR5 := Lib.hid hr5
  have HW5 := Lib.hid (grown_trans HW3.out hg5)
  clear hr5 hg5
  obtain ⟨w6, hst6, hg6, hot6, hbl6⟩ := store_field (P := Tryz.prog) w5 (g := m) (off := 32) (vs := [.int .i64 0]) (v := .int .i64 0) (ty := 3) rfl (by kernel_rfl) HG5.out (by simp [hkCells_length, z32_len]) (fun u hu => by rw [List.mem_singleton.1 hu]; rfl) (row_num z32 0 0 z32_len)
  have HR6 := Lib.hid (HR5.out.low (hbl6 m w5 (Below.refl m w5) (Nat.le_refl _)) HMG.out)
  have HW6 := Lib.hid (grown_low HW5.out (hbl6 m w5 (Below.refl m w5) (Nat.le_refl _)) (by rw [HS1.out]; omega) (Nat.le_trans HW5.out.size (hbl6 m w5 (Below.refl m w5) (Nat.le_refl _)).size))
  have HST6 := Lib.hid hst6
  have HG6 := Lib.hid hg6
  have HG61 := Lib.hid ((hot6 w.heap.size (by rw [HS1.out]; omega)).trans HG51.out)
  clear hst6 hg6 hot6 hbl6
  go_wp2_with (refine stop_at none rfl ?_)
  refine Stop.go (wpList_store_agg rfl 3 rfl rfl rfl HST6.out ?_)
  go_wp2_with (refine stop_at (some 13) rfl ?_)
  refine Stop.go (wpList_load_agg rfl 34 rfl rfl keyTy.ut rfl (key_size z32 _ z32_len) (row_cells HG6.out) ?_)
  refine wpList_store_agg rfl 34 rfl rfl rfl (store_row (hkv_cells _ _) (key_size _ _ z32_len) HG61.out (by simp [hkCells_length, z32_len, z32_len]) (hkCells_one _ _)) ?_
  go_wp2_with fail
  refine ret_key1 rfl z32_len rfl rfl (setRow_heap _ _ _ _ _ _ HG61.out) ?_
  have hbz : Below w.heap.size w6 (w6.setRow w.heap.size (hkCells z32 0).toArray) := below_setRow (Below.refl _ _) (Nat.le_refl _) _
  exact ⟨z32, 0, _, rfl, z32_len, ⟨by decide, by decide⟩, HR6.out.low hbz HGW.out, grown_low HW6.out hbz (Nat.le_refl _) (Nat.le_trans HW6.out.size hbz.size)⟩
set_option maxRecDepth 100000 in
set_option maxHeartbeats 4000000 in
theorem takeMark_none (g : Nat) (l : List UInt8) (a : Nat) (w : World) (sp : Bool) (h : RdrR w g l a sp) (hno : sp = true ∨ l.length < a + 32) :
    Calls Tryz.prog 119 #[.pointer (some ⟨g, 0, none⟩)] w (TakeNo g l w) := by
  have HGW := Lib.hid h.lt
  have hal : a ≤ l.length := by obtain ⟨_, _, _, _, _, _, h5⟩ := h; exact h5
  have HNO := Lib.hid (show sp = true ∨ (32 : Int) < 0 ∨ ((l.length - a : Nat) : Int) < 32 by rcases hno with h | h; exact .inl h; exact .inr (.inr (by omega)))
  have H := Lib.hid h
  clear h hno hal
  go_enter Tryz.func119, Tryz.ntmps119
  go_wp2_with (refine stop_at (some 2) rfl ?_)
  refine Stop.go (wpList_alloc rfl 36 rfl zero_mark rfl ?_)
  have hb1 : Below w.heap.size w (w.alloc (.cells (hkCells z32 0).toArray 36)) := (Below.refl _ _).alloc (Nat.le_refl _) _
  have HG1 := Lib.hid (Go.heap_alloc_new w (.cells (hkCells z32 0).toArray 36))
  have HS1 := Lib.hid (show (w.alloc (.cells (hkCells z32 0).toArray 36)).heap.size = w.heap.size + 1 from Array.size_push _)
  have HR1 := Lib.hid (H.out.later hb1)
  have HB1 := Lib.hid hb1
  clear hb1
  generalize w.alloc (.cells (hkCells z32 0).toArray 36) = w1 at *
  go_wp2_with (refine stop_at (some 3) rfl ?_)
  refine Stop.go (wpList_alloc rfl 36 rfl zero_mark rfl ?_)
  have hb2 : Below w1.heap.size w1 (w1.alloc (.cells (hkCells z32 0).toArray 36)) := (Below.refl _ _).alloc (Nat.le_refl _) _
  have HG2 := Lib.hid (Go.heap_alloc_new w1 (.cells (hkCells z32 0).toArray 36))
  have HG21 := Lib.hid ((hb2.block _ (Array.getElem?_eq_some_iff.1 HG1.out).1).trans HG1.out)
  have HR2 := Lib.hid (HR1.out.later hb2)
  have HB2 := Lib.hid (HB1.out.trans (hb2.mono HB1.out.size))
  clear hb2
  generalize w1.alloc (.cells (hkCells z32 0).toArray 36) = w2 at *
  generalize w1.heap.size = m at *
  go_wp2_with fail
  refine wpI_inv [3] [] [] (fun _ => True) trivial (by kernel_rfl) (by kernel_rfl) ?_
  refine wpI_seg 3 (by decide) (fun Q0 hQ0 => ?_)
  simp only [List.take_succ_cons, List.take_zero]
  go_wp2_with fail
  try simp only [List.drop_succ_cons, List.drop_zero]
  refine wpI_one (fun Q1 hQ1 => ?_)
  go_wp2_with fail
  refine (take_no g l a sp 32 _ HR2.out.drew HNO.out).mono ?_
  rintro e w3 ⟨rfl, hrd3, hg3⟩
  have HGM := Lib.hid (show m < w2.heap.size from (Array.getElem?_eq_some_iff.1 HG2.out).1)
  have HMG := Lib.hid (show g < m by have := HGW.out; have := HS1.out; omega)
  have HG3 := Lib.hid ((hg3.block m HGM.out (by intro e; injection e with e; have := HMG.out; omega)).trans HG2.out)
  have HG31 := Lib.hid ((hg3.block w.heap.size (Nat.lt_trans (by rw [HS1.out]; omega) HGM.out) (by intro e; injection e with e; have := HGW.out; omega)).trans HG21.out)
  have HR3 := Lib.hid hrd3
  have HW3 := Lib.hid (show w.grownBy w3 (some g) from grown_trans (grown_below' HB2.out.drew) hg3)
  have HSM := Lib.hid (show m < w3.heap.size from Nat.lt_of_lt_of_le HGM.out hg3.size)
  clear hrd3 hg3
  go_wp2_with fail
  refine ⟨trivial, ?_⟩
  refine wpI_seg 1 (by decide) (fun Q3 hQ3 => ?_)
  simp only [List.take_succ_cons, List.take_zero]
  refine wpList_copy_nothing rfl _ _ 44 44 rfl 5 Tryz.underlying44 (by kernel_rfl) _ _ _ _ _ _ rfl rfl (by simp) ?_
  refine hQ3 _ _ ?_
  simp only [List.drop_succ_cons, List.drop_zero]
  refine wpI_end ⟨by rfl, trivial, ?_⟩
  go_wp2_with fail
  refine (num_no g l a true 3 _ HR3.out (by decide) (by decide) (.inl rfl)).mono ?_
  rintro e w5 ⟨rfl, hr5, hg5⟩
  have HG5 := Lib.hid ((hg5.block m HSM.out (by intro e; injection e with e; have := HMG.out; omega)).trans HG3.out)
  have HG51 := Lib.hid ((hg5.block w.heap.size (Nat.lt_trans (by rw [HS1.out]; omega) HSM.out) (by intro e; injection e with e; have := HGW.out; omega)).trans HG31.out)
  have HR5 := Lib.hid hr5
  have HW5 := Lib.hid (grown_trans HW3.out hg5)
  clear hr5 hg5
  obtain ⟨w6, hst6, hg6, hot6, hbl6⟩ := store_field (P := Tryz.prog) w5 (g := m) (off := 32) (vs := [.int .i64 0]) (v := .int .i64 0) (ty := 3) rfl (by kernel_rfl) HG5.out (by simp [hkCells_length, z32_len]) (fun u hu => by rw [List.mem_singleton.1 hu]; rfl) (row_num z32 0 0 z32_len)
  have HR6 := Lib.hid (HR5.out.low (hbl6 m w5 (Below.refl m w5) (Nat.le_refl _)) HMG.out)
  have HW6 := Lib.hid (grown_low HW5.out (hbl6 m w5 (Below.refl m w5) (Nat.le_refl _)) (by rw [HS1.out]; omega) (Nat.le_trans HW5.out.size (hbl6 m w5 (Below.refl m w5) (Nat.le_refl _)).size))
  have HST6 := Lib.hid hst6
  have HG6 := Lib.hid hg6
  have HG61 := Lib.hid ((hot6 w.heap.size (by rw [HS1.out]; omega)).trans HG51.out)
  clear hst6 hg6 hot6 hbl6
  go_wp2_with (refine stop_at none rfl ?_)
  refine Stop.go (wpList_store_agg rfl 3 rfl rfl rfl HST6.out ?_)
  go_wp2_with (refine stop_at (some 13) rfl ?_)
  refine Stop.go (wpList_load_agg rfl 36 rfl rfl markTy.ut rfl (mark_size z32 _ z32_len) (row_cells HG6.out) ?_)
  refine wpList_store_agg rfl 36 rfl rfl rfl (store_row (hkv_cells _ _) (mark_size _ _ z32_len) HG61.out (by simp [hkCells_length, z32_len, z32_len]) (hkCells_one _ _)) ?_
  go_wp2_with fail
  refine ret_mark1 rfl z32_len rfl rfl (setRow_heap _ _ _ _ _ _ HG61.out) ?_
  have hbz : Below w.heap.size w6 (w6.setRow w.heap.size (hkCells z32 0).toArray) := below_setRow (Below.refl _ _) (Nat.le_refl _) _
  exact ⟨z32, 0, _, rfl, z32_len, ⟨by decide, by decide⟩, HR6.out.low hbz HGW.out, grown_low HW6.out hbz (Nat.le_refl _) (Nat.le_trans HW6.out.size hbz.size)⟩
end Go.Proofs.YtplbcbamnjnhlaaGreatDoor
namespace Go.Proofs.YtplbcbamnjnhlaaGreatDoor
open Go.RowKit

def NextTo (l : List UInt8) (a : Nat) (sp : Bool) (n a' : Nat) (sp' : Bool) : Prop := sp' = (sp || decide (l.length < a + n)) ∧ (sp' = false → a' = a + n)
def NumAll (g : Nat) (l : List UInt8) (a : Nat) (sp : Bool) (n : Nat) (w : World) (e : Ending) (w' : World) : Prop :=
  ∃ (x a' : Nat) (sp' : Bool), e = .returned (.int .u64 (x : Int)) ∧ x < 256 ^ n ∧ NextTo l a sp n a' sp' ∧ (sp' = false → x = beVal ((l.drop a).take n)) ∧ RdrR w' g l a' sp' ∧ w.grownBy w' (some g)
theorem num_all (g : Nat) (l : List UInt8) (a : Nat) (sp : Bool) (n : Nat) (w : World) (h : RdrR w g l a sp) (h1 : 1 ≤ n) (h8 : n ≤ 8) :
    Calls Tryz.prog 117 #[.pointer (some ⟨g, 0, none⟩), .int .i64 n] w (NumAll g l a sp n w) := by
  by_cases hc : sp = false ∧ a + n ≤ l.length
  · obtain ⟨rfl, hn⟩ := hc
    refine (num_ok g l a n w h h1 h8 hn).mono ?_
    rintro e w' ⟨he, hr, hg⟩
    refine ⟨_, a + n, false, he, ?_, ⟨by simp; omega, fun _ => rfl⟩, fun _ => rfl, hr, hg⟩
    refine Nat.lt_of_lt_of_le (beVal_lt _) ?_
    rw [List.length_take, List.length_drop, Nat.min_eq_left (by omega)]
    exact Nat.le_refl _
  · have hn : sp = true ∨ l.length < a + n := by
      cases sp
      · exact .inr (by simpa using hc)
      · exact .inl rfl
    refine (num_no g l a sp n w h h1 h8 hn).mono ?_
    rintro e w' ⟨he, hr, hg⟩
    refine ⟨0, a, true, he, Nat.pow_pos (by decide), ⟨?_, fun h => nomatch h⟩, (fun h => nomatch h), hr, hg⟩
    rcases hn with rfl | h
    · rfl
    · simp [h]
theorem be_small (l : List UInt8) (n : Nat) (h : n ≤ 3) : 0 ≤ ((beVal (l.take n) : Nat) : Int) ∧ ((beVal (l.take n) : Nat) : Int) ≤ 16777215 := by
  have h1 := beVal_lt (l.take n)
  have h2 : (256 : Nat) ^ (l.take n).length ≤ 256 ^ 3 := Nat.pow_le_pow_right (by omega) (by rw [List.length_take]; omega)
  omega
def PairAll (g : Nat) (l : List UInt8) (a : Nat) (sp : Bool) (m : Nat) (w : World) (e : Ending) (w' : World) : Prop :=
  ∃ (h : List UInt8) (k : Int) (a' : Nat) (sp' : Bool), e = .returned (hkv h k) ∧ h.length = 32 ∧ NextTo l a sp m a' sp' ∧ (sp' = false → h = (l.drop a).take 32 ∧ k = beVal ((l.drop (a + 32)).take (m - 32))) ∧ RdrR w' g l a' sp' ∧ w.grownBy w' (some g) ∧ (0 ≤ k ∧ k ≤ 16777215)
theorem pair_no {g : Nat} {l : List UInt8} {a : Nat} {sp : Bool} {m : Nat} {w : World} {e : Ending} {w' : World} (h : TakeNo g l w e w') (hn : sp = true ∨ l.length < a + m) : PairAll g l a sp m w e w' := by
  obtain ⟨hh, k, a', he, hl, hkb, hr, hg⟩ := h
  refine ⟨hh, k, a', true, he, hl, ⟨?_, fun h => nomatch h⟩, (fun h => nomatch h), hr, hg, hkb⟩
  rcases hn with rfl | h
  · rfl
  · simp [h]
theorem takeKey_all (g : Nat) (l : List UInt8) (a : Nat) (sp : Bool) (w : World) (h : RdrR w g l a sp) :
    Calls Tryz.prog 118 #[.pointer (some ⟨g, 0, none⟩)] w (PairAll g l a sp 33 w) := by
  by_cases h0 : sp = true ∨ l.length < a + 32
  · exact (takeKey_none g l a w sp h h0).mono fun e w' hh => pair_no hh (by rcases h0 with h | h; exact .inl h; exact .inr (by omega))
  · have hsp : sp = false := by cases sp <;> simp_all
    subst hsp
    by_cases h1 : l.length < a + 33
    · exact (takeKey_late g l a w h (by simpa using h0) h1).mono fun e w' hh => pair_no hh (.inr h1)
    · refine (takeKey_ok g l a w h (by omega)).mono ?_
      rintro e w' ⟨he, hr, hg⟩
      exact ⟨_, _, a + 33, false, he, by rw [List.length_take, List.length_drop]; omega, ⟨by simp; omega, fun _ => rfl⟩, fun _ => ⟨rfl, rfl⟩, hr, hg, be_small _ _ (by omega)⟩
theorem takeMark_all (g : Nat) (l : List UInt8) (a : Nat) (sp : Bool) (w : World) (h : RdrR w g l a sp) :
    Calls Tryz.prog 119 #[.pointer (some ⟨g, 0, none⟩)] w (PairAll g l a sp 35 w) := by
  by_cases h0 : sp = true ∨ l.length < a + 32
  · exact (takeMark_none g l a w sp h h0).mono fun e w' hh => pair_no hh (by rcases h0 with h | h; exact .inl h; exact .inr (by omega))
  · have hsp : sp = false := by cases sp <;> simp_all
    subst hsp
    by_cases h1 : l.length < a + 35
    · exact (takeMark_late g l a w h (by simpa using h0) h1).mono fun e w' hh => pair_no hh (.inr h1)
    · refine (takeMark_ok g l a w h (by omega)).mono ?_
      rintro e w' ⟨he, hr, hg⟩
      exact ⟨_, _, a + 35, false, he, by rw [List.length_take, List.length_drop]; omega, ⟨by simp; omega, fun _ => rfl⟩, fun _ => ⟨rfl, rfl⟩, hr, hg, be_small _ _ (by omega)⟩
theorem left_all (g : Nat) (l : List UInt8) (a : Nat) (sp : Bool) (w : World) (h : RdrR w g l a sp) :
    Calls Tryz.prog 120 #[.pointer (some ⟨g, 0, none⟩)] w fun e w' => e = .returned (.int .i64 ((if sp then 0 else l.length - a : Nat) : Nat)) ∧ Below w.heap.size w w' ∧ w'.heap.size = w.heap.size := by
  cases sp
  · exact (left_ok g l a w h).mono fun e w' hh => ⟨by simpa using hh.1, hh.2 ▸ (Below.refl _ _).drew, hh.2 ▸ rfl⟩
  · exact (left_sp g l a w h).mono fun e w' hh => ⟨by simpa using hh.1, hh.2 ▸ Below.refl _ _, hh.2 ▸ rfl⟩
theorem all_all (g : Nat) (l : List UInt8) (a : Nat) (sp : Bool) (w : World) (h : RdrR w g l a sp) :
    Calls Tryz.prog 121 #[.pointer (some ⟨g, 0, none⟩)] w fun e w' => e = .returned (.bool (!sp && decide (a = l.length))) ∧ Below w.heap.size w w' ∧ w'.heap.size = w.heap.size := by
  cases sp
  · exact (all_ok g l a w h).mono fun e w' hh => ⟨by simpa using hh.1, hh.2 ▸ (Below.refl _ _).drew, hh.2 ▸ rfl⟩
  · exact (all_sp g l a w h).mono fun e w' hh => ⟨by simpa using hh.1, hh.2 ▸ Below.refl _ _, hh.2 ▸ rfl⟩
end Go.Proofs.YtplbcbamnjnhlaaGreatDoor
namespace Go.Proofs.YtplbcbamnjnhlaaGreatDoor
open Go.RowKit

theorem key_app : AppTy Tryz.prog 28 34 33 40 (hkv z32 0) := appTy Tryz.underlying28 (by kernel_rfl) rfl (by omega)
def rdLeft (n g : Nat) (w : World) : Nat := match w.cell? ⟨g, 1, none⟩, w.cell? ⟨g, 2, none⟩ with
  | some (.int _ z), some (.bool false) => n - z.toNat
  | _, _ => 0
theorem rdLeft_at {w : World} {g : Nat} {l : List UInt8} {a : Nat} {sp : Bool} (h : RdrR w g l a sp) : rdLeft l.length g w = if sp then 0 else l.length - a := by
  obtain ⟨A, c, _, c1, c2, _⟩ := h.cells
  unfold rdLeft
  rw [c1, c2]
  cases sp <;> simp
end Go.Proofs.YtplbcbamnjnhlaaGreatDoor
namespace Go.Proofs.YtplbcbamnjnhlaaGreatDoor
open Go.RowKit

theorem fill_one {s : Nat} (hs : 0 < s) {v : Value} {vs : List Value} (hv : v.cells = vs.toArray) (hl : vs.length = s) (cells : Array Value) (hc : cells.size = s) :
    Instr.fill (fun i => some (i * s, s)) cells [(0, v)] = some vs.toArray := by
  obtain ⟨r, h1, h2, h3⟩ := Great.fill_dense hs [v] 0 cells (fun u hu => by rw [List.mem_singleton.1 hu, hv, List.size_toArray, hl]) (by simp [hc])
  have e : (([v].zipIdx 0).map fun x => (x.2, x.1)) = [(0, v)] := rfl
  rw [e] at h1
  rw [h1]
  congr 1
  apply Array.ext_getElem?
  intro k
  rw [h3 k]
  by_cases hk : k < s
  · rw [if_pos (by simp; exact hk), Nat.div_eq_of_lt hk, Nat.mod_eq_of_lt hk, ← hv]
    rfl
  · rw [if_neg (by simp; omega)]
    rw [Array.getElem?_eq_none (by omega), Array.getElem?_eq_none (by simp; omega)]
section
variable {P : Program} {ops : Array Oper} {Q : Exit → Act → World → Prop} {a : Act} {w : World} {rest : List Oper} {o : Oper}
theorem run_build_one {t e : TypeId} {v : Value} {vs : List Value} (hu : P.underlying t = some (.slice e)) {z : Value} (hi : (P.info? e).map (fun i => (i.zero, i.size)) = some (some z, vs.length)) (hv : v.cells = vs.toArray) (h0 : 0 < vs.length) (hb : vs.length ≤ 16777216) :
    (Instr.buildSlice t 1 #[(0, v)]).run P w = .ok (.slice (some ⟨w.heap.size, 0, none⟩) 1 1) (w.alloc (.cells vs.toArray e)) := by
  cases hq : P.info? e with
  | none => simp [hq] at hi
  | some i =>
    simp only [hq, Option.map_some, Option.some.injEq, Prod.mk.injEq] at hi
    obtain ⟨hz, hs⟩ := hi
    refine run_buildSlice w t e 1 #[(0, v)] vs.toArray i z hu hq hz (by omega) (by omega) ?_
    rw [hs]
    exact fill_one h0 hv rfl _ (by simp)
theorem load_slice {ty e : TypeId} {v : Value} {p : Addr} (hu : P.underlying ty = some (.slice e)) (hc : w.cell? p = some v) : (Instr.loadAt ty (.pointer (some p))).run P w = .ok v w := by
  have hagg : (isAgg ty).run P w = .ok false w := by
    unfold isAgg
    rw [Sem.run_bind, run_underlying hu w]
    rfl
  simp [Instr.loadAt, Instr.sureAddr, loadVar, Sem.run_bind, hagg, hc]
theorem wpList_build_one (hgd : o.guard = none) (t e : TypeId) {x : Operand} (ho : o.op = .buildSlice t 1 #[(0, x)]) {v : Value} (hx : a.eval x = v) {vs : List Value} (hu : P.underlying t = some (.slice e)) {z : Value} (hi : (P.info? e).map (fun i => (i.zero, i.size)) = some (some z, vs.length))
    (hv : v.cells = vs.toArray) (h0 : 0 < vs.length) (hb : vs.length ≤ 16777216) (h : wpList P ops Q rest (a.put o.dst (.slice (some ⟨w.heap.size, 0, none⟩) 1 1)) (w.alloc (.cells vs.toArray e))) : wpList P ops Q (o :: rest) a w := by
  refine wpList_plain hgd fun K hK => ?_
  unfold Oper.wp execOp
  have hr := run_build_one (P := P) (w := w) hu hi hv h0 hb
  have e1 : (#[(0, x)] : Array (Nat × Operand)).map (fun (i, x) => (i, a.eval x)) = #[(0, v)] := by simp [hx]
  simp only [ho, e1, Sem.run_bind, hr, Result.andThen_ok, Sem.run_pure]
  exact hK _ _ h
end
end Go.Proofs.YtplbcbamnjnhlaaGreatDoor
