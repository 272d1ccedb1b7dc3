/- Contracts of rec.takeKey and rec.takeMark. -/
import Derived.Test.YtfheocdciekfoaaDoorMA28
import Derived.Test.YtfheocdciekfoaaDoorMA10
import Derived.Test.YtfheocdciekfoaaDoorMA20
import Derived.Test.YtfheocdciekfoaaDoorMA18
import Derived.Test.YtfheocdciekfoaaDoorMA23
namespace Go.Proofs.YtfheocdciekfoaaDoor
open Go.RowKit

section
variable {P : Program} {ops : Array Oper} {I : World → Prop} {G : List Nat}
theorem wpI_seg {Q : Act → World → Prop} (n : Nat) {k : Nat} {l : List Oper} {a : Act} {w : World} (hG : (List.range' k n).all (fun i => !G.contains i) = true)
    (h : ∀ Q' : Exit → Act → World → Prop, (∀ a w, Stop (TextI.wpS P ops I G Q (k + n) (l.drop n) a w) → Q' .normal a w) → wpList P ops Q' (l.take n) a w) : Stop (TextI.wpS P ops I G Q k l a w) :=
  ⟨TextI.wpS_seg n k l a w hG fun Q' hQ' => h Q' fun a w hh => hQ' a w hh.out⟩
theorem wpI_one {Q : Act → World → Prop} {k : Nat} {o : Oper} {r : List Oper} {a : Act} {w : World}
    (h : ∀ Q' : Exit → Act → World → Prop, (∀ a' w', I w' ∧ Stop (TextI.wpS P ops I G Q (k + 1) r a' w') → Q' .normal a' w') → wpList P ops Q' [o] a w) : Stop (TextI.wpS P ops I G Q k (o :: r) a w) :=
  ⟨TextI.wpS_one fun Q' hQ' => h Q' fun a w hh => hQ' a w ⟨hh.1, hh.2.out⟩⟩
theorem wpI_skip {Q : Act → World → Prop} {k : Nat} {o : Oper} {r : List Oper} {a : Act} {w : World} (hg : Region.wanted o (yielded ops a.tmps) = false) (h : Stop (TextI.wpS P ops I G Q (k + 1) r (a.put o.dst undef) w)) : Stop (TextI.wpS P ops I G Q k (o :: r) a w) :=
  ⟨TextI.wpS_skip hg h.out⟩
theorem wpI_end {Q : Act → World → Prop} {k : Nat} {a : Act} {w : World} (h : Q a w) : Stop (TextI.wpS P ops I G Q k [] a w) := ⟨h⟩
theorem wpI_inv {id : Nat} {Q : Exit → Act → World → Prop} {a : Act} {w : World} {l : List Oper} (G LD ex : List Nat) (I : World → Prop) (hI : I w.drew) (hm : P.follows .mixedOrders = true) (hB : Text.growB P l.toArray G LD ex = true)
    (h : Stop (TextI.wpS P l.toArray I G (fun a' w' => Text.chk l.toArray ex a' = true ∧ TextI.oldAll P l.toArray I a' LD ∧ Q .normal a' w') 0 l a w.drew)) : (Code.region id l.toArray true).wp P Q a w :=
  TextI.wp_inv G LD ex I hI hm hB h.out
end
theorem RdrR.low {w w' : World} {g N : Nat} {l : List UInt8} {a : Nat} {sp : Bool} (h : RdrR w g l a sp) (hb : Below N w w') (hN : g < N) : RdrR w' g l a sp := by
  obtain ⟨A, c, h1, h2, h3⟩ := h
  exact ⟨A, c, (hb.block g hN).trans h1, h2.below (hb.mono (Nat.le_of_lt hN)), h3⟩
theorem grown_low {w w' w'' : World} {g N : Nat} (h : w.grownBy w' (some g)) (hb : Below N w' w'') (hN : w.heap.size ≤ N) (hs : w.heap.size ≤ w''.heap.size) : w.grownBy w'' (some g) :=
  ⟨hb.os.trans h.os, hb.tape.trans h.tape, hb.output.trans h.output, hs, fun k hk hne => (hb.block k (Nat.lt_of_lt_of_le hk hN)).trans (h.block k hk hne)⟩
theorem row_num (h : List UInt8) (k k' : Int) (hh : h.length = 32) : ((hkCells h k).toArray.toList.take 32 ++ [Value.int .i64 k'] ++ (hkCells h k).toArray.toList.drop (32 + 1)).toArray = (hkCells h k').toArray := by
  have hl : (bcells h).length = 32 := by rw [bcells_length, hh]
  unfold hkCells
  rw [List.take_append_of_le_length (by simp [hl]), List.take_of_length_le (by simp [hl]), List.drop_of_length_le (by simp [hl]), List.append_nil]
theorem ret_key1 {fn : Func} {p : Tmp} {Q : Ending → World → Prop} (h : fn.results = #[.cell p 24]) {a : Act} {w : World} {g : Nat} {hh : List UInt8} {k : Int} {fr : Nat × Nat} {t : TypeId} (hl : hh.length = 32) (hd : a.defers = [])
    (hp : a.tmps.getD p undef = .pointer (some ⟨g, 0, none⟩)) (hg : w.heap[g]? = some (.cells (hkCells hh k).toArray t fr)) (hq : Q (.returned (hkv hh k)) w) : bodyPost Tryd.prog fn Q .ret a w :=
  bodyPost_ret (v := hkv hh k) (results_cell_row h _ w g t _ fr _ hp hg keyTy_u rfl (key_size hh k hl)) hd hq
/-- a key that is taken -/
def KeyOk (g : Nat) (l : List UInt8) (a : Nat) (w : World) (e : Ending) (w' : World) : Prop :=
  e = .returned (hkv ((l.drop a).take 32) (beVal ((l.drop (a + 32)).take 1))) ∧ RdrR w' g l (a + 33) false ∧ w.grownBy w' (some g)
set_option maxRecDepth 100000 in
set_option maxHeartbeats 4000000 in
theorem takeKey_ok (g : Nat) (l : List UInt8) (a : Nat) (w : World) (h : RdrR w g l a false) (hn : a + 33 ≤ l.length) :
    Calls Tryd.prog 80 #[.pointer (some ⟨g, 0, none⟩)] w (KeyOk g l a w) := by
  have HGW := Lib.hid h.lt
  have H := Lib.hid h
  clear h
  go_enter Tryd.func80, Tryd.ntmps80
  go_wp2_with (refine stop_at (some 2) rfl ?_)
  refine Stop.go (wpList_alloc rfl 24 rfl zero_key rfl ?_)
  have hb1 : Below w.heap.size w (w.alloc (.cells (hkCells z32 0).toArray 24)) := (Below.refl _ _).alloc (Nat.le_refl _) _
  have HG1 := Lib.hid (Go.heap_alloc_new w (.cells (hkCells z32 0).toArray 24))
  have HS1 := Lib.hid (show (w.alloc (.cells (hkCells z32 0).toArray 24)).heap.size = w.heap.size + 1 from Array.size_push _)
  have HR1 := Lib.hid (H.out.later hb1)
  have HB1 := Lib.hid hb1
  clear hb1
  generalize w.alloc (.cells (hkCells z32 0).toArray 24) = w1 at *
  go_wp2_with (refine stop_at (some 3) rfl ?_)
  refine Stop.go (wpList_alloc rfl 24 rfl zero_key rfl ?_)
  have hb2 : Below w1.heap.size w1 (w1.alloc (.cells (hkCells z32 0).toArray 24)) := (Below.refl _ _).alloc (Nat.le_refl _) _
  have HG2 := Lib.hid (Go.heap_alloc_new w1 (.cells (hkCells z32 0).toArray 24))
  have HG21 := Lib.hid ((hb2.block _ (Array.getElem?_eq_some_iff.1 HG1.out).1).trans HG1.out)
  have HR2 := Lib.hid (HR1.out.later hb2)
  have HB2 := Lib.hid (HB1.out.trans (hb2.mono HB1.out.size))
  clear hb2
  generalize w1.alloc (.cells (hkCells z32 0).toArray 24) = w2 at *
  generalize w1.heap.size = m at *
  go_wp2_with fail
  refine wpI_inv [3] [] [] (fun _ => True) trivial (by kernel_rfl) (by kernel_rfl) ?_
  refine wpI_seg 3 (by decide) (fun Q0 hQ0 => ?_)
  simp only [List.take_succ_cons, List.take_zero]
  go_wp2_with fail
  try simp only [List.drop_succ_cons, List.drop_zero]
  refine wpI_one (fun Q1 hQ1 => ?_)
  go_wp2_with fail
  refine (take_ok g l a 32 _ HR2.out.drew (by omega)).mono ?_
  rintro e w3 ⟨rfl, hr3, hrd3, hg3, hs3⟩
  have HGM := Lib.hid (show m < w2.heap.size from (Array.getElem?_eq_some_iff.1 HG2.out).1)
  have HMG := Lib.hid (show g < m by have := HGW.out; have := HS1.out; omega)
  have HG3 := Lib.hid ((hg3.block m HGM.out (by intro e; injection e with e; have := HMG.out; omega)).trans HG2.out)
  have HG31 := Lib.hid ((hg3.block w.heap.size (Nat.lt_trans (by rw [HS1.out]; omega) HGM.out) (by intro e; injection e with e; have := HGW.out; omega)).trans HG21.out)
  have HT3 := Lib.hid (Rd.row (B := w3.heap.size) hr3 hs3)
  have HR3 := Lib.hid hrd3
  have HS3 := Lib.hid hs3
  have HW3 := Lib.hid (show w.grownBy w3 (some g) from grown_trans (grown_below' HB2.out.drew) hg3)
  have HSM := Lib.hid (show m < w3.heap.size from Nat.lt_trans HGM.out hs3)
  clear hr3 hrd3 hg3 hs3
  go_wp2_with fail
  refine ⟨trivial, ?_⟩
  refine wpI_seg 1 (by decide) (fun Q3 hQ3 => ?_)
  simp only [List.take_succ_cons, List.take_zero]
  obtain ⟨hh, hhd⟩ : ∃ hh, hh = (l.drop a).take 32 := ⟨_, rfl⟩
  have HHL := Lib.hid (show hh.length = 32 by rw [hhd, List.length_take, List.length_drop]; omega)
  rw [← hhd] at HT3
  refine wpList_copy_hash rfl _ _ rfl rfl rfl rfl z32_len HHL.out HG3.out HT3.out (Below.refl m w3) (Nat.le_refl _) ?_
  intro w4 hg4 hb4 hs4
  refine hQ3 _ _ ?_
  simp only [List.drop_succ_cons, List.drop_zero]
  refine wpI_end ⟨by rfl, trivial, ?_⟩
  have HR4 := Lib.hid (HR3.out.low hb4 HMG.out)
  have HG41 := Lib.hid ((hb4.block w.heap.size (by rw [HS1.out]; omega)).trans HG31.out)
  have HW4 := Lib.hid (grown_low HW3.out hb4 (by rw [HS1.out]; omega) (by rw [hs4]; exact HW3.out.size))
  clear hb4
  have HS4 := Lib.hid hs4
  clear hs4
  go_wp2_with fail
  refine (num_ok g l (a + 32) 1 _ HR4.out (by decide) (by decide) (by omega)).mono ?_
  rintro e w5 ⟨rfl, hr5, hg5⟩
  obtain ⟨k, hkd⟩ : ∃ k, k = beVal ((l.drop (a + 32)).take 1) := ⟨_, rfl⟩
  have hk8 : k < 256 := by
    rw [hkd]
    refine Nat.lt_of_lt_of_le (beVal_lt _) ?_
    rw [List.length_take, List.length_drop, Nat.min_eq_left (by omega)]
    decide
  rw [← hkd]
  have HS45 : Hid (w4.heap.size ≤ w5.heap.size) := hg5.size
  have HM4 := Lib.hid (show m < w4.heap.size by rw [HS4.out]; exact HSM.out)
  have HG5 := Lib.hid ((hg5.block m HM4.out (by intro e; injection e with e; have := HMG.out; omega)).trans hg4.out)
  have HG51 := Lib.hid ((hg5.block w.heap.size (Nat.lt_trans (by rw [HS1.out]; omega) HM4.out) (by intro e; injection e with e; have := HGW.out; omega)).trans HG41.out)
  have HR5 := Lib.hid hr5
  have HW5 := Lib.hid (grown_trans HW4.out hg5)
  clear hr5 hg5
  obtain ⟨w6, hst6, hg6, hot6, hbl6⟩ := store_field (P := Tryd.prog) w5 (g := m) (off := 32) (vs := [.int .i64 k]) (v := .int .i64 k) (ty := 3) rfl (by kernel_rfl) HG5.out (by simp [hkCells_length, HHL.out]) (fun u hu => by rw [List.mem_singleton.1 hu]; rfl) (row_num hh 0 k HHL.out)
  have HR6 := Lib.hid (HR5.out.low (hbl6 m w5 (Below.refl m w5) (Nat.le_refl _)) HMG.out)
  have HW6 := Lib.hid (grown_low HW5.out (hbl6 m w5 (Below.refl m w5) (Nat.le_refl _)) (by rw [HS1.out]; omega) (Nat.le_trans HW5.out.size (hbl6 m w5 (Below.refl m w5) (Nat.le_refl _)).size))
  have HST6 := Lib.hid hst6
  have HG6 := Lib.hid hg6
  have HG61 := Lib.hid ((hot6 w.heap.size (by rw [HS1.out]; omega)).trans HG51.out)
  have HKD := Lib.hid hkd
  clear hst6 hg6 hot6 hbl6 hkd
  go_wp2_with (refine stop_at none rfl ?_)
  refine Stop.go (wpList_store_agg rfl 3 rfl rfl rfl HST6.out ?_)
  go_wp2_with (refine stop_at (some 13) rfl ?_)
  refine Stop.go (wpList_load_agg rfl 24 rfl rfl keyTy.ut rfl (key_size hh _ HHL.out) (row_cells HG6.out) ?_)
  refine wpList_store_agg rfl 24 rfl rfl rfl (store_row (hkv_cells _ _) (key_size _ _ HHL.out) HG61.out (by simp [hkCells_length, HHL.out, z32_len]) (hkCells_one _ _)) ?_
  go_wp2_with fail
  refine ret_key1 rfl HHL.out rfl rfl (setRow_heap _ _ _ _ _ _ HG61.out) ?_
  have hbz : Below w.heap.size w6 (w6.setRow w.heap.size (hkCells hh k).toArray) := below_setRow (Below.refl _ _) (Nat.le_refl _) _
  refine ⟨?_, HR6.out.low hbz HGW.out, grown_low HW6.out hbz (Nat.le_refl _) (Nat.le_trans HW6.out.size hbz.size)⟩
  rw [← hhd, ← HKD.out]
theorem zero_mark : ∀ w, (zeroValue 26).run Tryd.prog w = .ok (hkv z32 0) w := fun _ => by kernel_rfl
theorem ret_mark1 {fn : Func} {p : Tmp} {Q : Ending → World → Prop} (h : fn.results = #[.cell p 26]) {a : Act} {w : World} {g : Nat} {hh : List UInt8} {k : Int} {fr : Nat × Nat} {t : TypeId} (hl : hh.length = 32) (hd : a.defers = [])
    (hp : a.tmps.getD p undef = .pointer (some ⟨g, 0, none⟩)) (hg : w.heap[g]? = some (.cells (hkCells hh k).toArray t fr)) (hq : Q (.returned (hkv hh k)) w) : bodyPost Tryd.prog fn Q .ret a w :=
  bodyPost_ret (v := hkv hh k) (results_cell_row h _ w g t _ fr _ hp hg markTy.ut rfl (mark_size hh k hl)) hd hq
/-- a mark that is taken -/
def MarkOk (g : Nat) (l : List UInt8) (a : Nat) (w : World) (e : Ending) (w' : World) : Prop :=
  e = .returned (hkv ((l.drop a).take 32) (beVal ((l.drop (a + 32)).take 3))) ∧ RdrR w' g l (a + 35) false ∧ w.grownBy w' (some g)
set_option maxRecDepth 100000 in
set_option maxHeartbeats 4000000 in
theorem takeMark_ok (g : Nat) (l : List UInt8) (a : Nat) (w : World) (h : RdrR w g l a false) (hn : a + 35 ≤ l.length) :
    Calls Tryd.prog 81 #[.pointer (some ⟨g, 0, none⟩)] w (MarkOk g l a w) := by
  have HGW := Lib.hid h.lt
  have H := Lib.hid h
  clear h
  go_enter Tryd.func81, Tryd.ntmps81
  go_wp2_with (refine stop_at (some 2) rfl ?_)
  refine Stop.go (wpList_alloc rfl 26 rfl zero_mark rfl ?_)
  have hb1 : Below w.heap.size w (w.alloc (.cells (hkCells z32 0).toArray 26)) := (Below.refl _ _).alloc (Nat.le_refl _) _
  have HG1 := Lib.hid (Go.heap_alloc_new w (.cells (hkCells z32 0).toArray 26))
  have HS1 := Lib.hid (show (w.alloc (.cells (hkCells z32 0).toArray 26)).heap.size = w.heap.size + 1 from Array.size_push _)
  have HR1 := Lib.hid (H.out.later hb1)
  have HB1 := Lib.hid hb1
  clear hb1
  generalize w.alloc (.cells (hkCells z32 0).toArray 26) = w1 at *
  go_wp2_with (refine stop_at (some 3) rfl ?_)
  refine Stop.go (wpList_alloc rfl 26 rfl zero_mark rfl ?_)
  have hb2 : Below w1.heap.size w1 (w1.alloc (.cells (hkCells z32 0).toArray 26)) := (Below.refl _ _).alloc (Nat.le_refl _) _
  have HG2 := Lib.hid (Go.heap_alloc_new w1 (.cells (hkCells z32 0).toArray 26))
  have HG21 := Lib.hid ((hb2.block _ (Array.getElem?_eq_some_iff.1 HG1.out).1).trans HG1.out)
  have HR2 := Lib.hid (HR1.out.later hb2)
  have HB2 := Lib.hid (HB1.out.trans (hb2.mono HB1.out.size))
  clear hb2
  generalize w1.alloc (.cells (hkCells z32 0).toArray 26) = w2 at *
  generalize w1.heap.size = m at *
  go_wp2_with fail
  refine wpI_inv [3] [] [] (fun _ => True) trivial (by kernel_rfl) (by kernel_rfl) ?_
  refine wpI_seg 3 (by decide) (fun Q0 hQ0 => ?_)
  simp only [List.take_succ_cons, List.take_zero]
  go_wp2_with fail
  try simp only [List.drop_succ_cons, List.drop_zero]
  refine wpI_one (fun Q1 hQ1 => ?_)
  go_wp2_with fail
  refine (take_ok g l a 32 _ HR2.out.drew (by omega)).mono ?_
  rintro e w3 ⟨rfl, hr3, hrd3, hg3, hs3⟩
  have HGM := Lib.hid (show m < w2.heap.size from (Array.getElem?_eq_some_iff.1 HG2.out).1)
  have HMG := Lib.hid (show g < m by have := HGW.out; have := HS1.out; omega)
  have HG3 := Lib.hid ((hg3.block m HGM.out (by intro e; injection e with e; have := HMG.out; omega)).trans HG2.out)
  have HG31 := Lib.hid ((hg3.block w.heap.size (Nat.lt_trans (by rw [HS1.out]; omega) HGM.out) (by intro e; injection e with e; have := HGW.out; omega)).trans HG21.out)
  have HT3 := Lib.hid (Rd.row (B := w3.heap.size) hr3 hs3)
  have HR3 := Lib.hid hrd3
  have HS3 := Lib.hid hs3
  have HW3 := Lib.hid (show w.grownBy w3 (some g) from grown_trans (grown_below' HB2.out.drew) hg3)
  have HSM := Lib.hid (show m < w3.heap.size from Nat.lt_trans HGM.out hs3)
  clear hr3 hrd3 hg3 hs3
  go_wp2_with fail
  refine ⟨trivial, ?_⟩
  refine wpI_seg 1 (by decide) (fun Q3 hQ3 => ?_)
  simp only [List.take_succ_cons, List.take_zero]
  obtain ⟨hh, hhd⟩ : ∃ hh, hh = (l.drop a).take 32 := ⟨_, rfl⟩
  have HHL := Lib.hid (show hh.length = 32 by rw [hhd, List.length_take, List.length_drop]; omega)
  rw [← hhd] at HT3
  refine wpList_copy_hash rfl _ _ rfl rfl rfl rfl z32_len HHL.out HG3.out HT3.out (Below.refl m w3) (Nat.le_refl _) ?_
  intro w4 hg4 hb4 hs4
  refine hQ3 _ _ ?_
  simp only [List.drop_succ_cons, List.drop_zero]
  refine wpI_end ⟨by rfl, trivial, ?_⟩
  have HR4 := Lib.hid (HR3.out.low hb4 HMG.out)
  have HG41 := Lib.hid ((hb4.block w.heap.size (by rw [HS1.out]; omega)).trans HG31.out)
  have HW4 := Lib.hid (grown_low HW3.out hb4 (by rw [HS1.out]; omega) (by rw [hs4]; exact HW3.out.size))
  clear hb4
  have HS4 := Lib.hid hs4
  clear hs4
  go_wp2_with fail
  refine (num_ok g l (a + 32) 3 _ HR4.out (by decide) (by decide) (by omega)).mono ?_
  rintro e w5 ⟨rfl, hr5, hg5⟩
  obtain ⟨k, hkd⟩ : ∃ k, k = beVal ((l.drop (a + 32)).take 3) := ⟨_, rfl⟩
  have hk8 : k < 16777216 := by
    rw [hkd]
    refine Nat.lt_of_lt_of_le (beVal_lt _) ?_
    rw [List.length_take, List.length_drop, Nat.min_eq_left (by omega)]
    decide
  rw [← hkd]
  have HS45 : Hid (w4.heap.size ≤ w5.heap.size) := hg5.size
  have HM4 := Lib.hid (show m < w4.heap.size by rw [HS4.out]; exact HSM.out)
  have HG5 := Lib.hid ((hg5.block m HM4.out (by intro e; injection e with e; have := HMG.out; omega)).trans hg4.out)
  have HG51 := Lib.hid ((hg5.block w.heap.size (Nat.lt_trans (by rw [HS1.out]; omega) HM4.out) (by intro e; injection e with e; have := HGW.out; omega)).trans HG41.out)
  have HR5 := Lib.hid hr5
  have HW5 := Lib.hid (grown_trans HW4.out hg5)
  clear hr5 hg5
  obtain ⟨w6, hst6, hg6, hot6, hbl6⟩ := store_field (P := Tryd.prog) w5 (g := m) (off := 32) (vs := [.int .i64 k]) (v := .int .i64 k) (ty := 3) rfl (by kernel_rfl) HG5.out (by simp [hkCells_length, HHL.out]) (fun u hu => by rw [List.mem_singleton.1 hu]; rfl) (row_num hh 0 k HHL.out)
  have HR6 := Lib.hid (HR5.out.low (hbl6 m w5 (Below.refl m w5) (Nat.le_refl _)) HMG.out)
  have HW6 := Lib.hid (grown_low HW5.out (hbl6 m w5 (Below.refl m w5) (Nat.le_refl _)) (by rw [HS1.out]; omega) (Nat.le_trans HW5.out.size (hbl6 m w5 (Below.refl m w5) (Nat.le_refl _)).size))
  have HST6 := Lib.hid hst6
  have HG6 := Lib.hid hg6
  have HG61 := Lib.hid ((hot6 w.heap.size (by rw [HS1.out]; omega)).trans HG51.out)
  have HKD := Lib.hid hkd
  clear hst6 hg6 hot6 hbl6 hkd
  go_wp2_with (refine stop_at none rfl ?_)
  refine Stop.go (wpList_store_agg rfl 3 rfl rfl rfl HST6.out ?_)
  go_wp2_with (refine stop_at (some 13) rfl ?_)
  refine Stop.go (wpList_load_agg rfl 26 rfl rfl markTy.ut rfl (mark_size hh _ HHL.out) (row_cells HG6.out) ?_)
  refine wpList_store_agg rfl 26 rfl rfl rfl (store_row (hkv_cells _ _) (mark_size _ _ HHL.out) HG61.out (by simp [hkCells_length, HHL.out, z32_len]) (hkCells_one _ _)) ?_
  go_wp2_with fail
  refine ret_mark1 rfl HHL.out rfl rfl (setRow_heap _ _ _ _ _ _ HG61.out) ?_
  have hbz : Below w.heap.size w6 (w6.setRow w.heap.size (hkCells hh k).toArray) := below_setRow (Below.refl _ _) (Nat.le_refl _) _
  refine ⟨?_, HR6.out.low hbz HGW.out, grown_low HW6.out hbz (Nat.le_refl _) (Nat.le_trans HW6.out.size hbz.size)⟩
  rw [← hhd, ← HKD.out]
end Go.Proofs.YtfheocdciekfoaaDoor
