/- Texts of this proof joined: Reader, Varint. -/
import Derived.Test.YtplbcbamnjnhlaaGreatDoorMT00
import Derived.Test.YtplbcbamnjnhlaaGreatDoorMT05
set_option maxRecDepth 100000
set_option maxHeartbeats 40000000
namespace Go.Proofs.YtplbcbamnjnhlaaGreatDoor
open Go.RowKit

theorem qfr (w : World) (r : Option Nat) : w.grownBy w r := ⟨rfl, rfl, rfl, nr _, fun _ _ _ => rfl⟩
theorem dy {w w' w'' : World} {r : Option Nat} (h : w.grownBy w' r) (h2 : w'.grownBy w'' r) : w.grownBy w'' r :=
 ⟨h2.os.trans h.os, h2.tape.trans h.tape, h2.output.trans h.output, Nat.le_trans h.size h2.size, fun k hk hne => (h2.block k (Nat.lt_of_lt_of_le hk h.size) hne).trans (h.block k hk hne)⟩
theorem qpg (w : World) (r : Option Nat) : w.grownBy w.drew r := ⟨rfl, rfl, rfl, nr _, fun _ _ _ => rfl⟩
theorem kj {w w' : World} {r : Option Nat} (h : Below w.heap.size w w') : w.grownBy w' r := ⟨h.os, h.tape, h.output, h.size, fun k hk _ => h.block k hk⟩
theorem qbw (w : World) (g i : Nat) (v : Value) : w.grownBy (w.setCell ⟨g, i, none⟩ v) (some g) :=
 ⟨rfl, rfl, rfl, by rw [World.size_setCell]; exact nr _, fun k _ hne => heap_setCell_other _ _ _ _ (show k ≠ g from fun e => hne (by rw [e]))⟩
theorem ib {w w' : World} {g B : Nat} (h : w.grownBy w' (some g)) (hB : B ≤ g) (hs : B ≤ w.heap.size) : Below B w w' :=
 ⟨h.os, h.tape, h.output, h.size, fun k hk => h.block k (by omega) (by intro e; injection e; omega)⟩

def RdrR (w : World) (g : Nat) (l : List UInt8) (at_ : Nat) (sp : Bool) : Prop :=
 ∃ A c, w.heap[g]? = some (.cells #[.slice A l.length c, .int .i64 at_, .bool sp] 206 (0, 0)) ∧ Rd w g A (ak l) ∧ l.length ≤ c ∧ c ≤ 1099511627776 ∧ at_ ≤ l.length
theorem RdrR.lt {w : World} {g : Nat} {l : List UInt8} {at_ : Nat} {sp : Bool} (h : RdrR w g l at_ sp) : g < w.heap.size := by
 obtain ⟨_, _, h1, _⟩ := h
 exact (gl h1)
theorem RdrR.later {w w' : World} {g : Nat} {l : List UInt8} {at_ : Nat} {sp : Bool} (h : RdrR w g l at_ sp) (hb : Below w.heap.size w w') : RdrR w' g l at_ sp := by
 have hlt := h.lt
 obtain ⟨A, c, h1, h2, h3, h4⟩ := h
 exact ⟨A, c, (hb.block g hlt).trans h1, h2.below (hb.mono (Nat.le_of_lt hlt)), h3, h4⟩
theorem RdrR.cells {w : World} {g : Nat} {l : List UInt8} {at_ : Nat} {sp : Bool} (h : RdrR w g l at_ sp) : ∃ A c, w.cell? ⟨g, 0, none⟩ = some (.slice A l.length c) ∧ w.cell? ⟨g, 1, none⟩ = some (.int .i64 at_) ∧ w.cell? ⟨g, 2, none⟩ = some (.bool sp) ∧
  w.frozen? ⟨g, 1, none⟩ = false ∧ w.frozen? ⟨g, 2, none⟩ = false ∧ Rd w g A (ak l) ∧ l.length ≤ c ∧ c ≤ 1099511627776 := by
 obtain ⟨A, c, h1, h2, h3, h4, _⟩ := h
 exact ⟨A, c, by rw [cell_of_row _ _ _ _ _ _ h1]; rfl, by rw [cell_of_row _ _ _ _ _ _ h1]; rfl, by rw [cell_of_row _ _ _ _ _ _ h1]; rfl, frozen_of_row _ _ _ _ _ h1, frozen_of_row _ _ _ _ _ h1, h2, h3, h4⟩
theorem RdrR.spend {w : World} {g : Nat} {l : List UInt8} {at_ : Nat} {sp : Bool} (h : RdrR w g l at_ sp) : RdrR (w.setCell ⟨g, 2, none⟩ (.bool true)) g l at_ true := by
 obtain ⟨A, c, h1, h2, h3, h4⟩ := h
 exact ⟨A, c, by simpa using heap_setCell_same w g 2 _ _ (.bool true) h1, h2.below (((br _ _).mono (Nat.le_of_lt (gl h1))).setCell (p := ⟨g, 2, none⟩) (nr _) _), h3, h4⟩
theorem RdrR.move {w : World} {g : Nat} {l : List UInt8} {at_ n : Nat} {sp : Bool} (h : RdrR w g l at_ sp) (hn : n ≤ l.length) : RdrR (w.setCell ⟨g, 1, none⟩ (.int .i64 (n : Nat))) g l n sp := by
 obtain ⟨A, c, h1, h2, h3, h4, _⟩ := h
 exact ⟨A, c, by simpa using heap_setCell_same w g 1 _ _ (.int .i64 (n : Nat)) h1, h2.below (((br _ _).mono (Nat.le_of_lt (gl h1))).setCell (p := ⟨g, 1, none⟩) (nr _) _), h3, h4, hn⟩
theorem RdrR.drew {w : World} {g : Nat} {l : List UInt8} {at_ : Nat} {sp : Bool} (h : RdrR w g l at_ sp) : RdrR w.drew g l at_ sp := h.later (br _ _).drew

theorem qlb (l : List UInt8) (A : Option Addr) (c B : Nat) (w : World) (hr : Rd w B A (ak l)) (hB : B ≤ w.heap.size) (hl : l.length ≤ 1099511627776) :
  Calls Tryz.prog 116 #[.slice A l.length c] w fun e w' => e = .returned (.pointer (some ⟨w.heap.size + 1, 0, none⟩)) ∧ RdrR w' (w.heap.size + 1) l 0 false ∧ Below w.heap.size w w' ∧ w'.heap.size = w.heap.size + 2 := by
 have HR := Lh hr
 clear hr
 have hmk := qdi l.length hl
 go_enter Tryz.func116, Tryz.ntmps116
 go_wp2_with (refine va rfl _ _ rfl rfl rfl rfl (hzn w _) (qfe _ _) (HR.o.below (((br _ _).mono hB).alloc hB _)) ((br _ _).alloc (nr _) _) (nr _) ?_)
 intro w2 h2 hb2 hs2
 go_wp2
 go_ret
 refine ⟨rfl, ?_, hb2.alloc (by omega) _, by simp [hs2]⟩
 rw [← hs2]
 refine ⟨some ⟨w.heap.size, 0, none⟩, l.length, hzn w2 _, ?_, nr _, hl, by omega⟩
 have hrow := (Rd.row (w := w2) (B := w2.heap.size) h2.o (by omega)).below ((br _ _).alloc (nr _) (.cells #[.slice (some ⟨w.heap.size, 0, none⟩) l.length l.length, .int .i64 0, .bool false] 206))
 simpa using hrow

theorem gr (g : Nat) (l : List UInt8) (a : Nat) (sp : Bool) (w : World) (h : RdrR w g l a sp) :
  Calls Tryz.prog 143 #[.pointer (some ⟨g, 0, none⟩)] w fun e w' => e = .returned (.bool sp) ∧ w = w' := by
 obtain ⟨A, c, c0, c1, c2, f1, f2, _⟩ := h.cells
 go_enter Tryz.func143, Tryz.ntmps143
 go_wp2
 go_ret
 exact ⟨rfl, rfl⟩
theorem qri (g : Nat) (l : List UInt8) (a : Nat) (w : World) (h : RdrR w g l a true) :
  Calls Tryz.prog 120 #[.pointer (some ⟨g, 0, none⟩)] w fun e w' => e = .returned (.int .i64 0) ∧ w = w' := by
 have H := Lh h
 clear h
 go_enter Tryz.func120, Tryz.ntmps120
 go_wp2_with fail
 refine (gr g l a true w H.o).mono ?_
 rintro e w' ⟨rfl, rfl⟩
 go_wp2
 go_ret
 exact ⟨rfl, rfl⟩
theorem qam (g : Nat) (l : List UInt8) (a : Nat) (w : World) (h : RdrR w g l a false) :
  Calls Tryz.prog 120 #[.pointer (some ⟨g, 0, none⟩)] w fun e w' => e = .returned (.int .i64 (l.length - a : Nat)) ∧ w.drew = w' := by
 obtain ⟨A, c, c0, c1, c2, f1, f2, _, hc1, hc2⟩ := h.cells
 have ha : a ≤ l.length := by obtain ⟨_, _, _, _, _, _, h5⟩ := h; exact h5
 have H := Lh h
 clear h
 go_enter Tryz.func120, Tryz.ntmps120
 go_wp2_with fail
 refine (gr g l a false w H.o).mono ?_
 rintro e w' ⟨rfl, rfl⟩
 go_wp2_with fail
 refine Text.wp_text [] (by kernel_rfl) (by kernel_rfl) (fun Q' hQ' => ?_)
 go_wp2
 refine ⟨by rfl, ?_⟩
 go_wp2
 go_ret
 exact ⟨rt1 (vint (by omega)), rfl⟩
theorem all_sp (g : Nat) (l : List UInt8) (a : Nat) (w : World) (h : RdrR w g l a true) :
  Calls Tryz.prog 121 #[.pointer (some ⟨g, 0, none⟩)] w fun e w' => e = .returned (.bool false) ∧ w = w' := by
 have H := Lh h
 clear h
 go_enter Tryz.func121, Tryz.ntmps121
 go_wp2_with fail
 refine (gr g l a true w H.o).mono ?_
 rintro e w' ⟨rfl, rfl⟩
 go_wp2
 go_ret
 exact ⟨rfl, rfl⟩
theorem all_ok (g : Nat) (l : List UInt8) (a : Nat) (w : World) (h : RdrR w g l a false) :
  Calls Tryz.prog 121 #[.pointer (some ⟨g, 0, none⟩)] w fun e w' => e = .returned (.bool (decide (a = l.length))) ∧ w.drew = w' := by
 have ha : a ≤ l.length := by obtain ⟨_, _, _, _, _, _, h5⟩ := h; exact h5
 have H := Lh h
 clear h
 go_enter Tryz.func121, Tryz.ntmps121
 go_wp2_with fail
 refine (gr g l a false w H.o).mono ?_
 rintro e w' ⟨rfl, rfl⟩
 go_wp2_with fail
 refine (qam g l a w H.o).mono ?_
 rintro e w' ⟨rfl, rfl⟩
 go_wp2
 go_ret
 refine ⟨rt1 (bu ?_), rfl⟩
 rw [Bool.eq_iff_iff]
 simp
 omega
def qdx (g : Nat) (l : List UInt8) (a : Nat) (v : Value) (w : World) (e : Ending) (w' : World) : Prop := e = .returned v ∧ RdrR w' g l a true ∧ w.grownBy w' (some g)
theorem has_no (g : Nat) (l : List UInt8) (a : Nat) (sp : Bool) (n : Int) (w : World) (h : RdrR w g l a sp) (hn : sp = true ∨ n < 0 ∨ ((l.length - a : Nat) : Int) < n) :
  Calls Tryz.prog 162 #[.pointer (some ⟨g, 0, none⟩), .int .i64 n] w (qdx g l a (.bool false) w) := by
 obtain ⟨A, c, c0, c1, c2, f1, f2, _⟩ := h.cells
 have H := Lh h
 have HS := Lh h.spend
 have HS2 := Lh h.drew.spend
 clear h
 cases sp with
 |true =>
  go_enter Tryz.func162, Tryz.ntmps162
  go_wp2_with fail
  refine (gr g l a true w H.o).mono ?_
  rintro e w' ⟨rfl, rfl⟩
  go_wp2
  go_ret
  exact ⟨rfl, H.o, qfr _ _⟩
 |false =>
  by_cases h0 : n < 0
  ·clear hn
   go_enter Tryz.func162, Tryz.ntmps162
   go_wp2_with fail
   refine (gr g l a false w H.o).mono ?_
   rintro e w' ⟨rfl, rfl⟩
   go_wp2
   go_ret
   exact ⟨rfl, HS.o, qbw _ _ _ _⟩
  ·have hn2 : ((l.length - a : Nat) : Int) < n := by rcases hn with h | h | h; cases h; omega; exact h
   clear hn
   generalize hk : l.length - a = k at hn2
   have HK := Lh hk
   clear hk
   go_enter Tryz.func162, Tryz.ntmps162
   go_wp2_with fail
   refine (gr g l a false w H.o).mono ?_
   rintro e w' ⟨rfl, rfl⟩
   go_wp2_with fail
   refine (qam g l a w H.o).mono ?_
   rintro e w' ⟨rfl, rfl⟩
   rw [HK.o]
   go_wp2
   go_ret
   exact ⟨rfl, HS2.o, dy (qpg _ _) (qbw _ _ _ _)⟩
theorem has_ok (g : Nat) (l : List UInt8) (a : Nat) (n : Nat) (w : World) (h : RdrR w g l a false) (hn : a + n ≤ l.length) :
  Calls Tryz.prog 162 #[.pointer (some ⟨g, 0, none⟩), .int .i64 n] w fun e w' => e = .returned (.bool true) ∧ w.drew = w' := by
 have hn2 : n ≤ l.length - a := by omega
 have H := Lh h
 clear h hn
 generalize hk : l.length - a = k at hn2
 have HK := Lh hk
 clear hk
 go_enter Tryz.func162, Tryz.ntmps162
 go_wp2_with fail
 refine (gr g l a false w H.o).mono ?_
 rintro e w' ⟨rfl, rfl⟩
 go_wp2_with fail
 refine (qam g l a w H.o).mono ?_
 rintro e w' ⟨rfl, rfl⟩
 rw [HK.o]
 go_wp2
 go_ret
 exact ⟨rfl, rfl⟩

def cutA (A : Option Addr) (c k : Nat) : Option Addr := if c = k then A else A.map (·.add k)
theorem qdj (A : Option Addr) (n c k : Nat) (h : k ≤ n) (w : World) : (Instr.sliceAt 44 (.slice A n c) (some (.int .i64 (k : Nat))) none none).run Tryz.prog w = .ok (.slice (cutA A c k) (n - k) (c - k)) w := by
 have hs : ∀ w : World, (sizeOf (Tryz.prog.elem 44)).run Tryz.prog w = .ok 1 w := fun _ => by kernel_rfl
 have ht : Tryz.prog.underlying 44 = some (.slice (Tryz.prog.elem 44)) := by kernel_rfl
 rw [run_sliceAt_slice _ _ _ _ _ _ ht, run_slice_l _ _ _ _ _ ht .i64 _ (by omega) (by omega), hs]
 simp [Result.andThen, sliced, cutA]
theorem qnr (A : Option Addr) (n c k m : Nat) (h : k ≤ m) (h2 : m ≤ c) (w : World) : (Instr.sliceAt 44 (.slice A n c) (some (.int .i64 (k : Nat))) (some (.int .i64 (m : Nat))) none).run Tryz.prog w = .ok (.slice (cutA A c k) (m - k) (c - k)) w := by
 have hs : ∀ w : World, (sizeOf (Tryz.prog.elem 44)).run Tryz.prog w = .ok 1 w := fun _ => by kernel_rfl
 have ht : Tryz.prog.underlying 44 = some (.slice (Tryz.prog.elem 44)) := by kernel_rfl
 rw [run_sliceAt_slice _ _ _ _ _ _ ht, run_slice_lh _ _ _ _ _ ht .i64 .i64 _ _ (by omega) (by omega) (by omega), hs]
 simp [Result.andThen, sliced, cutA]
theorem Rd.cut {w : World} {B : Nat} {A : Option Addr} {l : List UInt8} (h : Rd w B A (ak l)) (k c : Nat) (hc : l.length ≤ c) : Rd w B (cutA A c k) (ak (l.drop k)) := by
 have := h.drop_ k (cap := c) (fun h1 => by rw [am] at h1; omega)
 unfold cutA
 rw [show ak (l.drop k) = (ak l).drop k by simp [ak, List.map_drop]]
 exact this
theorem Rd.upto {w : World} {B : Nat} {A : Option Addr} {l : List UInt8} (h : Rd w B A (ak l)) (k : Nat) : Rd w B A (ak (l.take k)) := by
 rw [show ak (l.take k) = (ak l).take k by simp [ak, List.map_take]]
 exact h.take_ k
theorem zt {w : World} {ops : Array Oper} {rest : List Oper} {o : Oper} {a : Act} {Q : Exit → Act → World → Prop} (hgd : o.guard = none) (d s : Operand)
  (ho : o.op = .call { callee := .builtin .copy, args := #[d, s], argTypes := #[44, 44] })
  {A : Option Addr} {g n m c c1 : Nat} {l : List UInt8} (hd : a.eval d = .slice (some ⟨g, 0, none⟩) n c) (hs : a.eval s = .slice A m c1) (hn : m = l.length) (hnm : n ≤ m) {cur : Array Value} {t : TypeId}
  (hg : w.heap[g]? = some (.cells cur t (0, 0))) (hcur : cur.size = n) {B : Nat} (hr : Rd w B A (ak l)) {B0 : Nat} {w0 : World} (hb : Below B0 w0 w) (hBg : B0 ≤ g)
  (h : ∀ w', Hid (w'.heap[g]? = some (.cells (ak (l.take n)).toArray t (0, 0))) → Below B0 w0 w' → w'.heap.size = w.heap.size → wpList Tryz.prog ops Q rest (a.put o.dst (goInt n)) w') :
  wpList Tryz.prog ops Q (o :: rest) a w := by
 have hl2 : (l.take n).length = n := by rw [List.length_take]; omega
 have hlen : (ak (l.take n)).length = cur.toList.length := by rw [am, hl2, ← hcur]; simp
 by_cases h0 : n = 0
 ·have hcur0 : cur = #[] := Array.eq_empty_of_size_eq_zero (by omega)
  refine wpList_copy_nothing hgd d s 44 44 ho 5 Tryz.underlying44 (by kernel_rfl) _ _ _ _ _ _ hd hs (by rw [h0]; simp) ?_
  have := h w ?_ hb rfl
  ·rw [h0] at this; exact this
  ·show _ = _
   rw [hg, h0, hcur0]
   rfl
 ·have hne : ak (l.take n) ≠ [] := by intro e; apply h0; have := congrArg List.length e; rw [am, hl2] at this; simpa using this
  obtain ⟨ab, ao, rfl, hab, hcells⟩ := (hr.upto n) hne
  refine wpList_copy_own hgd d s 44 44 ho 5 Tryz.underlying44 (by kernel_rfl) g 0 n c ⟨ab, ao, none⟩ m c1 hd hs cur t hg (ak (l.take n)) (by rw [am, hl2]; exact (Nat.min_eq_right hnm).symm)
   (fun j v hv => by rw [Addr.add_lit]; exact hcells j v hv) (by rw [am, hl2, hcur]; omega) (ef _) ?_
  have hl3 : ((ak (l.take n)).length : Int) = (n : Int) := by rw [am, hl2]
  rw [hl3]
  refine h _ ?_ (below_setRow hb hBg _) (by simp)
  show _ = _
  rw [setRow_heap w g cur _ t _ hg]
  congr 2
  simp only [List.take_zero, List.nil_append, Nat.zero_add, hlen, List.drop_length, List.append_nil]

theorem tw (g : Nat) (l : List UInt8) (a : Nat) (sp : Bool) (n : Int) (w : World) (h : RdrR w g l a sp) (hn : sp = true ∨ n < 0 ∨ ((l.length - a : Nat) : Int) < n) :
  Calls Tryz.prog 145 #[.pointer (some ⟨g, 0, none⟩), .int .i64 n] w (qdx g l a (.slice none 0 0) w) := by
 have H := Lh h
 have HN := Lh hn
 clear h hn
 go_enter Tryz.func145, Tryz.ntmps145
 go_wp2_with fail
 refine (has_no g l a sp n w H.o HN.o).mono ?_
 rintro e w' ⟨rfl, h1, h2⟩
 have H1 := Lh h1
 have H2 := Lh h2
 clear h1 h2
 go_wp2
 go_ret
 exact ⟨rfl, H1.o, H2.o⟩
def TakenTo (g : Nat) (l : List UInt8) (a n : Nat) (w : World) (e : Ending) (w' : World) : Prop :=
 e = .returned (.slice (some ⟨w.heap.size, 0, none⟩) n n) ∧ w'.heap[w.heap.size]? = some (.cells (ak ((l.drop a).take n)).toArray 5 (0, 0)) ∧ RdrR w' g l (a + n) false ∧ w.grownBy w' (some g) ∧ w.heap.size < w'.heap.size
theorem tv (g : Nat) (l : List UInt8) (a n : Nat) (w : World) (h : RdrR w g l a false) (hn : a + n ≤ l.length) :
  Calls Tryz.prog 145 #[.pointer (some ⟨g, 0, none⟩), .int .i64 n] w (TakenTo g l a n w) := by
 have hgl := h.lt
 have h1 : RdrR (w.drew.alloc (.cells (madeCells #[.int .u8 0] n) 5)) g l a false := h.drew.later ((br _ _).alloc (nr _) _)
 obtain ⟨A, c, c0, c1, c2, f1, f2, hrd, hc, hc2⟩ := h.cells
 have hmk := qdi n (by omega)
 have hfr := qdj A l.length c a (by omega)
 have H := Lh h
 have H1 := Lh h1
 have HRD := Lh hrd
 clear h h1 hrd
 go_enter Tryz.func145, Tryz.ntmps145
 go_wp2_with fail
 refine (has_ok g l a n w H.o hn).mono ?_
 rintro e w' ⟨rfl, rfl⟩
 go_wp2_with fail
 refine Text.wp_text [] (by kernel_rfl) (by kernel_rfl) (fun Q' hQ' => ?_)
 go_wp2_with (refine zt rfl _ _ rfl rfl rfl (List.length_drop ..).symm (by omega) (hzn w _) (qfe _ _) ((HRD.o.cut a c hc).below (((br _ _).mono (Nat.le_of_lt hgl)).alloc (Nat.le_of_lt hgl) _).drew.drew) ((br _ _).alloc (nr _) _).drew.drew (nr _) ?_)
 intro w2 h2 hb2 hs2
 have H2 : Hid (RdrR w2 g l a false) := H.o.later hb2
 obtain ⟨A2, c3, d0, d1, d2, e1, _, _⟩ := H2.o.cells
 go_wp2
 refine ⟨by rfl, ?_⟩
 go_wp2
 go_ret
 refine ⟨rfl, ?_, H2.o.move hn, ?_, ?_⟩
 ·rw [heap_setCell_other _ _ _ _ (show w.heap.size ≠ g by omega)]
  exact h2.o
 ·exact dy (kj hb2) (qbw _ _ _ _)
 ·rw [World.size_setCell, hs2]; omega
theorem qbg (g : Nat) (l : List UInt8) (a : Nat) (sp : Bool) (w : World) (h : RdrR w g l a sp) :
  Calls Tryz.prog 161 #[.pointer (some ⟨g, 0, none⟩)] w (qdx g l a (.int .u64 0) w) := by
 have H := Lh h
 clear h
 go_enter Tryz.func161, Tryz.ntmps161
 go_wp2_with fail
 refine (tw g l a sp (-1) w H.o (.inr (.inl (by omega)))).mono ?_
 rintro e w' ⟨rfl, h1, h2⟩
 have H1 := Lh h1
 have H2 := Lh h2
 clear h1 h2
 go_wp2
 go_ret
 exact ⟨rfl, H1.o, H2.o⟩
def co (l : List UInt8) : Nat := l.foldl (fun v c => v * 256 + c.toNat) 0
theorem ux (l : List UInt8) (c : UInt8) : co (l ++ [c]) = co l * 256 + c.toNat := by simp [co]
theorem tr (l : List UInt8) : co l < 256 ^ l.length := by
 have h : ∀ (l : List UInt8) (v m : Nat), v < 256 ^ m → l.foldl (fun v c => v * 256 + c.toNat) v < 256 ^ (m + l.length) := by
  intro l
  induction l with
  |nil => intro v m h; simpa using h
  |cons c l ih =>
   intro v m h
   rw [List.foldl_cons, List.length_cons, show m + (l.length + 1) = (m + 1) + l.length by omega]
   apply ih
   have := c.toNat_lt
   rw [Nat.pow_succ]
   omega
 have := h l 0 0 (by simp)
 simpa [co] using this
theorem or_byte (v c : Nat) (hv : v < 72057594037927936) (hc : c < 256) : bits .or .u64 ((v : Int) * 256) (c : Int) = ((v * 256 + c : Nat) : Int) := by
 have e : v * 256 ||| c = v * 256 + c := by
  have := Nat.shiftLeft_add_eq_or_of_lt (a := v) (b := c) (i := 8) (by omega)
  rw [Nat.shiftLeft_eq] at this
  exact this.symm
 rw [show (v : Int) * 256 = ((v * 256 : Nat) : Int) by simp, u64_or_nat _ _ (by omega) (by omega), e]
theorem qbq (g : Nat) (l : List UInt8) (a : Nat) (sp : Bool) (n : Nat) (w : World) (h : RdrR w g l a sp) (h1 : 1 ≤ n) (h8 : n ≤ 8) (hn : sp = true ∨ l.length < a + n) :
  Calls Tryz.prog 117 #[.pointer (some ⟨g, 0, none⟩), .int .i64 n] w (qdx g l a (.int .u64 0) w) := by
 have H := Lh h
 have HN := Lh hn
 have ha : a ≤ l.length := by obtain ⟨_, _, _, _, _, _, h5⟩ := h; exact h5
 clear h hn
 go_enter Tryz.func117, Tryz.ntmps117
 go_wp2_with fail
 refine (tw g l a sp n w H.o (by rcases HN.o with h | h; exact .inl h; exact .inr (.inr (by omega)))).mono ?_
 rintro e w' ⟨rfl, h1, h2⟩
 have H1 := Lh h1
 have H2 := Lh h2
 clear h1 h2
 go_wp2
 go_loopw [5, 18] (fun v5 v18 wr => wr = w' ∧ v5 = .int .u64 0 ∧ v18 = .int .i64 0) (fun _ _ _ => 0)
 case atStart => exact ⟨rfl, rfl, rfl⟩
 case round =>
  obtain ⟨rfl, rfl, rfl⟩ := hrel
  go_wp2
  go_ret
  exact ⟨rfl, H1.o, H2.o⟩
def NumTo (g : Nat) (l : List UInt8) (a n : Nat) (w : World) (e : Ending) (w' : World) : Prop :=
 e = .returned (.int .u64 (co ((l.drop a).take n) : Nat)) ∧ RdrR w' g l (a + n) false ∧ w.grownBy w' (some g)
theorem qjk (g : Nat) (l : List UInt8) (a n : Nat) (w : World) (h : RdrR w g l a false) (h1 : 1 ≤ n) (h8 : n ≤ 8) (hn : a + n ≤ l.length) :
  Calls Tryz.prog 117 #[.pointer (some ⟨g, 0, none⟩), .int .i64 n] w (NumTo g l a n w) := by
 have H := Lh h
 clear h
 go_enter Tryz.func117, Tryz.ntmps117
 go_wp2_with fail
 refine (tv g l a n w H.o hn).mono ?_
 rintro e w' ⟨rfl, h1, h2, h3, h4⟩
 have HB := Lh h1
 have H2 := Lh h2
 have H3 := Lh h3
 clear h1 h2 h3 h4
 have hseg : ((l.drop a).take n).length = n := by rw [List.length_take, List.length_drop]; omega
 obtain ⟨seg, hs⟩ : ∃ seg, seg = (l.drop a).take n := ⟨_, rfl⟩
 rw [← hs] at hseg HB
 have HS := Lh hs
 clear hs
 have HRD := Lh (Rd.row (B := w.heap.size + 1) HB.o (by omega))
 go_wp2_with fail
 go_loop [5, 18] (fun v5 v18 => ∃ k : Nat, k ≤ n ∧ v18 = .int .i64 k ∧ v5 = .int .u64 (co (seg.take k) : Nat)) (fun _ v18 => n - (intOf v18).toNat)
 case atStart => exact ⟨0, by omega, rfl, rfl⟩
 case round =>
  obtain ⟨k, hk, rfl, rfl⟩ := hrel
  by_cases hlt : k < n
  ·have hlt2 : k < seg.length := by omega
   obtain ⟨ab, ao, e1, _, hcell⟩ := (show Rd w' (w.heap.size + 1) (some ⟨w.heap.size, 0, none⟩) (ak seg) by simpa using HRD.o).byte hlt2
   injection e1 with e1
   injection e1 with e1 e2
   subst e1 e2
   rw [Nat.zero_add] at hcell
   have hb8 := seg[k].toNat_lt
   have hv : co (seg.take k) < 72057594037927936 := by
    have h1 := tr (seg.take k)
    have h2 : 256 ^ (seg.take k).length ≤ 256 ^ 7 := Nat.pow_le_pow_right (by omega) (by rw [List.length_take]; omega)
    exact Nat.lt_of_lt_of_le h1 (by simpa using h2)
   have HV := Lh (show co (seg.take (k + 1)) = co (seg.take k) * 256 + seg[k].toNat by rw [List.take_succ_eq_append_getElem hlt2, ux])
   have HO := Lh (or_byte _ _ hv hb8)
   go_wp2
   go_round
   case rel => exact ⟨k + 1, by omega, by go_num, vint (by rw [HV.o]; exact HO.o)⟩
   case measure => simp [intOf]; omega
  ·have hkn : k = n := by omega
   subst hkn
   go_wp2
   go_ret
   refine ⟨rt1 (vint ?_), H2.o, H3.o⟩
   rw [List.take_of_length_le (by omega), HS.o]

def gy (v : Nat) : List UInt8 := if v < 128 then [UInt8.ofNat v] else UInt8.ofNat (v % 128 + 128) :: gy (v / 128)
termination_by v
decreasing_by omega
theorem ss {v : Nat} (h : v < 128) : gy v = [UInt8.ofNat v] := by rw [gy, if_pos h]
theorem vj {v : Nat} (h : ¬ v < 128) : gy v = UInt8.ofNat (v % 128 + 128) :: gy (v / 128) := by rw [gy, if_neg h]
theorem pi (x : Nat) (h : x < 256) : cb 1 x = [UInt8.ofNat x] := by simp [cb, dw, digs, Nat.mod_eq_of_lt h]
theorem tt (v : Nat) : ∀ k, v < 128 ^ (k + 1) → (gy v).length ≤ k + 1 := by
 intro k
 induction k generalizing v with
 |zero => intro h; rw [ss (by simpa using h)]; simp
 |succ k ih =>
  intro h
  by_cases hv : v < 128
  ·rw [ss hv]; simp
  ·rw [vj hv, List.length_cons]
   have := ih (v / 128) (by rw [Nat.pow_succ] at h; omega)
   omega

theorem put_any (g v : Nat) (l : List UInt8) (w : World) (hw : WrR w g l) (hl : l.length ≤ 549755813888) (hv : v < 18446744073709551616) :
  Calls Tryz.prog 80 #[.pointer (some ⟨g, 0, none⟩), .int .u64 v] w fun e w' => e = .returned (.tuple #[]) ∧ WrR w' g (l ++ gy v) ∧ Keep g w w' := by
 have HW := Lh hw
 have hlf := tt v 9 (by omega)
 clear hw
 go_enter Tryz.func80, Tryz.ntmps80
 go_wp2_with fail
 go_loopw [1] (fun v1 wr => ∃ (x : Nat) (t : List UInt8), v1 = .int .u64 x ∧ x < 18446744073709551616 ∧ Hid (t ++ gy x = gy v) ∧ t.length ≤ 10 ∧ WrR wr g (l ++ t) ∧ Keep g w wr) (fun v1 _ => (intOf v1).toNat)
 case atStart => exact ⟨v, [], rfl, hv, rfl, by simp, by simpa using HW.o, Keep.refl g w (Nat.le_of_lt HW.o.lt)⟩
 case round =>
  obtain ⟨x, t, rfl, hx64, ht, htl, hwr, hk⟩ := hrel
  have HR := Lh hwr
  clear hwr
  have hlen : (l ++ t).length ≤ 1099511627776 := by rw [List.length_append]; omega
  by_cases hlt : x < 128
  ·have HF := Lh (ss hlt)
   go_wp2_with fail
   refine (py g 1 x (l ++ t) wr HR.o (by omega) (by omega) (by omega) hlen).mono ?_
   rintro e w2 ⟨rfl, h1, h2⟩
   have H1 := Lh h1
   have H2 := Lh h2
   clear h1 h2
   go_wp2
   go_end0
   refine ⟨rfl, ?_, hk.trans H2.o⟩
   have := H1.o
   rw [pi x (by omega), ← HF.o, List.append_assoc, ht.o] at this
   exact this
  ·have HF := Lh (vj hlt)
   have htl2 : t.length + 1 ≤ 10 := by
    have h1 := congrArg List.length ht.o
    rw [HF.o] at h1
    have h2 : 1 ≤ (gy (x / 128)).length := by rw [gy]; split <;> simp
    simp at h1
    omega
   go_wp2_with fail
   refine (py g 1 (x % 128 + 128) (l ++ t) wr HR.o (by omega) (by omega) (by omega) hlen).mono ?_
   rintro e w2 ⟨rfl, h1, h2⟩
   have H1 := Lh h1
   have H2 := Lh h2
   clear h1 h2
   go_wp2
   go_roundw
   case rel =>
    refine ⟨x / 128, t ++ [UInt8.ofNat (x % 128 + 128)], by rfl, by omega, ?_, by simp; omega, ?_, hk.trans H2.o⟩
    ·show _ = _
     rw [← ht.o, HF.o]
     simp
    ·have := H1.o
     rw [pi _ (by omega), List.append_assoc] at this
     exact this
   case measure => simp [intOf]; omega

theorem form_any (v : Nat) (w : World) (hv : v < 18446744073709551616) :
  Calls Tryz.prog 99 #[.int .u64 v] w fun e w' => ∃ u, e = .returned u ∧ w'.ownsRow w.heap.size 5 1 u (gy v).length (ak (gy v)) ∧ Below w.heap.size w w' := by
 have hlf := tt v 9 (by omega)
 go_enter Tryz.func99, Tryz.ntmps99
 go_wp2_with fail
 go_loopw [0, 3] (fun v0 v3 wr => ∃ (x : Nat) (t : List UInt8), v0 = .int .u64 x ∧ x < 18446744073709551616 ∧ Hid (t ++ gy x = gy v) ∧ t.length ≤ 10 ∧ wr.ownsRow w.heap.size 5 1 v3 t.length (ak t) ∧ Below w.heap.size w wr) (fun v0 _ _ => (intOf v0).toNat)
 case atStart => exact ⟨v, [], rfl, hv, rfl, by simp, World.ownsRow_nil _ _ _ _, br _ _⟩
 case round =>
  obtain ⟨x, t, rfl, hx64, ht, htl, hown, hbr⟩ := hrel
  have hsz := hbr.size
  by_cases hlt : x < 128
  ·have HF := Lh (ss hlt)
   go_wp2_with (at_builtin; refine ay im rfl rfl rfl rfl (hown.alloc _) (Rd.row (B := wr.heap.size + 1) (hzn wr _) (by omega)) rfl (by simp [Value.oneCell']) ?h63 ?hby ?hbase ?_)
   case h63 => simp only [maxLen]; omega
   case hby => omega
   case hbase => simp; omega
   intro v1 w3 hown3 hg3 _ _
   have HO := Lh hown3
   have HG := Lh hg3
   clear hown3 hg3
   go_wp2
   go_ret
   refine ⟨v1, rfl, ?_, ax (hbr.alloc hsz _) HG.o (hown.alloc _) (nr _) (by simp; omega)⟩
   have h1 := HO.o
   have h2 : [Value.int .u8 (x : Int)] = ak [UInt8.ofNat x] := by simp [ak, ic]; omega
   rw [h2, ← bt, ← HF.o, ht.o] at h1
   have h3 := congrArg List.length ht.o
   rw [HF.o] at h3
   simp at h3
   rw [h3] at h1
   exact h1
  ·have HF := Lh (vj hlt)
   have htl2 : t.length + 1 ≤ 10 := by
    have h1 := congrArg List.length ht.o
    rw [HF.o] at h1
    have h2 : 1 ≤ (gy (x / 128)).length := by rw [gy]; split <;> simp
    simp at h1
    omega
   go_wp2_with (at_builtin; refine ay im rfl rfl rfl rfl (hown.alloc _) (Rd.row (B := wr.heap.size + 1) (hzn wr _) (by omega)) rfl (by simp [Value.oneCell']) ?h63 ?hby ?hbase ?_)
   case h63 => simp only [maxLen]; omega
   case hby => omega
   case hbase => simp; omega
   intro v1 w3 hown3 hg3 _ _
   have HO := Lh hown3
   have HG := Lh hg3
   clear hown3 hg3
   go_wp2
   go_roundw
   case rel =>
    refine ⟨x / 128, t ++ [UInt8.ofNat (x % 128 + 128)], by rfl, by omega, ?_, by simp; omega, ?_, ax (hbr.alloc hsz _) HG.o (hown.alloc _) (nr _) (by simp; omega)⟩
    ·show _ = _
     rw [← ht.o, HF.o]
     simp
    ·rw [bt, List.length_append]
     have h1 := HO.o
     have h2 : [Value.int .u8 ((x : Int) % 128 + 128)] = ak [UInt8.ofNat (x % 128 + 128)] := by simp [ak, ic]; omega
     rw [h2] at h1
     exact h1
   case measure => simp [intOf]; omega

def gp : List UInt8 → Nat → Nat → Option (Nat × Nat)
 |[], _, _ => none
 |c :: r, i, v => if 10 ≤ i then none else if (i = 9 ∧ 1 < c.toNat) ∨ (0 < i ∧ c.toNat = 0) then none
   else if c.toNat < 128 then some (v + c.toNat * 128 ^ i, i + 1) else gp r (i + 1) (v + c.toNat % 128 * 128 ^ i)
def VTo (g : Nat) (l : List UInt8) (a most : Nat) (w : World) (e : Ending) (w' : World) : Prop :=
 w.grownBy w' (some g) ∧ ((∃ v k, gp (l.drop a) 0 0 = some (v, k) ∧ v ≤ most ∧ e = .returned (.int .u64 (v : Nat)) ∧ RdrR w' g l (a + k) false) ∨
  ((∀ v k, gp (l.drop a) 0 0 = some (v, k) → most < v) ∧ e = .returned (.int .u64 0) ∧ ∃ a', RdrR w' g l a' true))
theorem qrc (g : Nat) (l : List UInt8) (a : Nat) (w : World) (h : RdrR w g l a false) (hn : a < l.length) :
  Calls Tryz.prog 117 #[.pointer (some ⟨g, 0, none⟩), .int .i64 1] w fun e w' => e = .returned (.int .u64 (l[a].toNat : Nat)) ∧ RdrR w' g l (a + 1) false ∧ w.grownBy w' (some g) := by
 refine (qjk g l a 1 w h (by omega) (by omega) (by omega)).mono ?_
 rintro e w' ⟨rfl, h1, h2⟩
 refine ⟨rt1 (vint ?_), h1, h2⟩
 rw [List.drop_eq_getElem_cons hn, List.take_succ_cons]
 simp [co]
theorem qhj (l : List UInt8) (V : Nat) : gp l 10 V = none := by cases l <;> simp [gp]
theorem qea (l : List UInt8) (i k V : Nat) (h : i < l.length) : gp (l.drop i) k V = if 10 ≤ k then none else if (k = 9 ∧ 1 < l[i].toNat) ∨ (0 < k ∧ l[i].toNat = 0) then none
   else if l[i].toNat < 128 then some (V + l[i].toNat * 128 ^ k, k + 1) else gp (l.drop (i + 1)) (k + 1) (V + l[i].toNat % 128 * 128 ^ k) := by
 rw [List.drop_eq_getElem_cons h, gp]
theorem or_var (V x k : Nat) (hV : V < 128 ^ k) (hx : x < 256) (hk : k ≤ 9) (hbad : ¬ ((k = 9 ∧ 1 < x) ∨ (0 < k ∧ x = 0))) :
  bits .or .u64 (V : Int) (IntKind.u64.wrap ((x : Int) % 128 * 2 ^ (7 * k))) = ((V + x % 128 * 128 ^ k : Nat) : Int) ∧ V + x % 128 * 128 ^ k < 128 ^ (k + 1) ∧ V + x % 128 * 128 ^ k < 18446744073709551616 := by
 have hp : (128 : Nat) ^ k = 2 ^ (7 * k) := by rw [show (128 : Nat) = 2 ^ 7 by decide, ← Nat.pow_mul]
 have h1 : V + x % 128 * 128 ^ k < 128 ^ (k + 1) := by
  have : x % 128 * 128 ^ k ≤ 127 * 128 ^ k := Nat.mul_le_mul_right _ (by omega)
  rw [Nat.pow_succ]; omega
 have h2 : x % 128 * 128 ^ k < 9223372036854775809 ∧ V + x % 128 * 128 ^ k < 18446744073709551616 := by
  by_cases h9 : k = 9
  ·subst h9
   have hx1 : x ≤ 1 := by omega
   have : x % 128 ≤ 1 := by omega
   have h3 : x % 128 * 128 ^ 9 ≤ 1 * 128 ^ 9 := Nat.mul_le_mul_right _ this
   have e9 : (128 : Nat) ^ 9 = 9223372036854775808 := by decide
   rw [e9] at h3 hV ⊢
   omega
  ·have : (128 : Nat) ^ (k + 1) ≤ 128 ^ 9 := Nat.pow_le_pow_right (by omega) (by omega)
   have e9 : (128 : Nat) ^ 9 = 9223372036854775808 := by decide
   omega
 refine ⟨?_, h1, h2.2⟩
 have e : ((x : Int) % 128 * 2 ^ (7 * k)) = ((x % 128 * 128 ^ k : Nat) : Int) := by rw [hp]; simp
 rw [e, IntKind.wrap_u64, Int.emod_eq_of_lt (by omega) (by omega), u64_or_nat _ _ (by omega) (by omega)]
 congr 1
 have h3 := Nat.shiftLeft_add_eq_or_of_lt (a := x % 128) (b := V) (i := 7 * k) (by rw [← hp]; exact hV)
 rw [Nat.shiftLeft_eq, ← hp] at h3
 rw [Nat.or_comm, ← h3, Nat.add_comm]
theorem take_var (g : Nat) (l : List UInt8) (a most : Nat) (w : World) (h : RdrR w g l a false) (hm : most < 18446744073709551616) :
  Calls Tryz.prog 142 #[.pointer (some ⟨g, 0, none⟩), .int .u64 most] w (VTo g l a most w) := by
 have H := Lh h
 have HM := Lh hm
 clear h hm
 go_enter Tryz.func142, Tryz.ntmps142
 go_wp2_with fail
 go_step3
 go_wp2_with fail
 go_step3
 go_wp2_with fail
 go_loopw [5, 6, 9] (fun v5 v6 v9 wr => ∃ k V : Nat, k ≤ 10 ∧ v9 = .int .i64 k ∧ v5 = .int .u64 V ∧ v6 = .bool false ∧ Hid (V < 128 ^ k) ∧ Hid (RdrR wr g l (a + k) false) ∧ Hid (w.grownBy wr (some g)) ∧ Hid (gp (l.drop (a + k)) k V = gp (l.drop a) 0 0)) (fun _ _ v9 _ => 10 - (intOf v9).toNat)
 case atStart => exact ⟨0, 0, by omega, rfl, rfl, rfl, by show _ < _; simp, H.o, qfr _ _, rfl⟩
 case round =>
  obtain ⟨k, V, hk, rfl, rfl, rfl, hV, HR, HG, HF⟩ := hrel
  have ha : a + k ≤ l.length := by obtain ⟨_, _, _, _, _, _, h5⟩ := HR.o; exact h5
  by_cases h10 : k = 10
  ·subst h10
   have HN := Lh (show gp (l.drop a) 0 0 = none by rw [← HF.o, qhj])
   go_wp2_with fail
   refine (qbg g l _ _ wr HR.o).mono ?_
   rintro e w3 ⟨rfl, h1, h2⟩
   have H3 := Lh h1
   have H4 := Lh (dy HG.o h2)
   clear h1 h2
   go_wp2
   rw [Exit.noGoto_ret]
   go_ret
   exact ⟨H4.o, .inr ⟨(fun v k h => by rw [HN.o] at h; cases h), rfl, _, H3.o⟩⟩
  ·by_cases hlt : a + k < l.length
   ·go_wp2_with fail
    refine (qrc g l (a + k) wr HR.o hlt).mono ?_
    rintro e w2 ⟨rfl, h1, h2⟩
    have H1 := Lh h1
    have H2 := Lh (dy HG.o h2)
    clear h1 h2
    go_wp2_with fail
    refine (gr g l (a + k + 1) false w2 H1.o).mono ?_
    rintro e w3 ⟨rfl, rfl⟩
    have HS := Lh (qea l (a + k) k V hlt)
    obtain ⟨x, hx⟩ : ∃ x, x = l[a + k].toNat := ⟨_, rfl⟩
    rw [← hx] at HS ⊢
    have hx8 : x < 256 := by rw [hx]; exact l[a + k].toNat_lt
    clear hx
    have hk9 : k ≤ 9 := by omega
    clear hk h10
    by_cases hbad : (k = 9 ∧ 1 < x) ∨ (0 < k ∧ x = 0)
    ·have HN := Lh (show gp (l.drop a) 0 0 = none by rw [← HF.o, HS.o, if_neg (by omega), if_pos hbad])
     have HB := Lh hbad
     clear hbad
     rcases Bool.eq_false_or_eq_true (((k : Nat) : Int) == 9) with b9 | b9 <;> rcases Bool.eq_false_or_eq_true (decide ((1 : Int) < (x : Nat))) with c1 | c1 <;>
      rcases Bool.eq_false_or_eq_true (decide (0 < k)) with b0 | b0 <;> rcases Bool.eq_false_or_eq_true (((x : Nat) : Int) == 0) with c0 | c0
     all_goals try (exfalso; have hb := HB.o; clear HS HF HN HR HG H HM hV; simp only [beq_iff_eq, beq_eq_false_iff_ne, decide_eq_true_eq, decide_eq_false_iff_not, ne_eq] at b9 c1 b0 c0; omega)
     all_goals
      go_wp2_with fail
      refine (qbg g l _ _ w2 H1.o).mono ?_
      rintro e w3 ⟨rfl, h1, h2⟩
      have H3 := Lh h1
      have H4 := Lh (dy H2.o h2)
      clear h1 h2
      go_wp2
      rw [Exit.noGoto_ret]
      go_ret
      exact ⟨H4.o, .inr ⟨(fun v k h => by rw [HN.o] at h; cases h), rfl, _, H3.o⟩⟩
    ·obtain ⟨ho, hv1, hv2⟩ := or_var V x k hV.o hx8 hk9 hbad
     obtain ⟨V', hV'⟩ : ∃ V', V' = V + x % 128 * 128 ^ k := ⟨_, rfl⟩
     rw [← hV'] at ho hv1 hv2
     have HV' := Lh hV'
     have HV1 := Lh hv1
     have HB := Lh hbad
     clear hV' hv1 hbad
     by_cases hx128 : x < 128
     ·have HN := Lh (show gp (l.drop a) 0 0 = some (V', k + 1) by rw [← HF.o, HS.o, if_neg (by omega), if_neg HB.o, if_pos hx128, HV'.o, Nat.mod_eq_of_lt hx128])
      have c2 : decide ((x : Int) < 128) = true := by simp; omega
      rcases Bool.eq_false_or_eq_true (((k : Nat) : Int) == 9) with b9 | b9 <;> rcases Bool.eq_false_or_eq_true (decide ((1 : Int) < (x : Nat))) with c1 | c1 <;>
       rcases Bool.eq_false_or_eq_true (decide (0 < k)) with b0 | b0 <;> rcases Bool.eq_false_or_eq_true (((x : Nat) : Int) == 0) with c0 | c0
      all_goals try (exfalso; have hb := HB.o; clear HS HF HN HR HG H HM hV ho HV' HV1 c2; simp only [beq_iff_eq, beq_eq_false_iff_ne, decide_eq_true_eq, decide_eq_false_iff_not, ne_eq] at b9 c1 b0 c0; omega)
      all_goals
       rcases Nat.lt_or_ge most V' with hmv | hmv
       ·have hmb : decide (most < V') = true := by simpa using hmv
        go_wp2_with fail
        refine (qbg g l _ _ w2 H1.o).mono ?_
        rintro e w3 ⟨rfl, h1, h2⟩
        have H3 := Lh h1
        have H4 := Lh (dy H2.o h2)
        clear h1 h2
        go_wp2
        rw [Exit.noGoto_ret]
        go_ret
        exact ⟨H4.o, .inr ⟨(fun v k h => by rw [HN.o] at h; injection h with h; injection h with h; omega), rfl, _, H3.o⟩⟩
       ·have hmb : decide (most < V') = false := by simpa using hmv
        go_wp2
        rw [Exit.noGoto_ret]
        go_ret
        exact ⟨H2.o, .inl ⟨V', k + 1, HN.o, hmv, rfl, H1.o⟩⟩
     ·have HN := Lh (show gp (l.drop (a + (k + 1))) (k + 1) V' = gp (l.drop a) 0 0 by rw [← HF.o, HS.o, if_neg (by omega), if_neg HB.o, if_neg hx128, HV'.o]; rfl)
      have c2 : decide ((x : Int) < 128) = false := by simp; omega
      have hkx : k ≠ 9 := by intro h; exact HB.o (.inl ⟨h, by omega⟩)
      have c1 : decide ((1 : Int) < (x : Nat)) = true := by simp; omega
      have b9 : (((k : Nat) : Int) == 9) = false := by rw [beq_eq_false_iff_ne]; omega
      have c0 : (((x : Nat) : Int) == 0) = false := by rw [beq_eq_false_iff_ne]; omega
      rcases Bool.eq_false_or_eq_true (decide (0 < k)) with b0 | b0
      all_goals
       go_wp2
       go_roundw
       case rel => exact ⟨k + 1, V', by omega, by go_num, rfl, rfl, HV1.o, H1.o, H2.o, HN.o⟩
       case measure => simp [intOf]; omega
   ·go_wp2_with fail
    refine (qbq g l (a + k) false 1 wr HR.o (by omega) (by omega) (.inr (by omega))).mono ?_
    rintro e w2 ⟨rfl, h1, h2⟩
    have H1 := Lh h1
    have H2 := Lh (dy HG.o h2)
    clear h1 h2
    go_wp2_with fail
    refine (gr g l (a + k) true w2 H1.o).mono ?_
    rintro e w3 ⟨rfl, rfl⟩
    have HN := Lh (show gp (l.drop a) 0 0 = none by rw [← HF.o, List.drop_eq_nil_of_le (by omega)]; rfl)
    go_wp2
    rw [Exit.noGoto_ret]
    go_ret
    exact ⟨H2.o, .inr ⟨(fun v k h => by rw [HN.o] at h; cases h), rfl, _, H1.o⟩⟩
end Go.Proofs.YtplbcbamnjnhlaaGreatDoor
