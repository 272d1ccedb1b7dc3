/- Contracts of octet's Reader, for any bytes and every world. -/
import Derived.Test.YtfheocdciekfoaaDoorMA09
namespace Go.Proofs.YtfheocdciekfoaaDoor
open Go.RowKit

theorem grown_refl (w : World) (r : Option Nat) : w.grownBy w r := ⟨rfl, rfl, rfl, Nat.le_refl _, fun _ _ _ => rfl⟩
theorem grown_trans {w w' w'' : World} {r : Option Nat} (h : w.grownBy w' r) (h2 : w'.grownBy w'' r) : w.grownBy w'' r :=
  ⟨h2.os.trans h.os, h2.tape.trans h.tape, h2.output.trans h.output, Nat.le_trans h.size h2.size, fun k hk hne => (h2.block k (Nat.lt_of_lt_of_le hk h.size) hne).trans (h.block k hk hne)⟩
theorem grown_drew (w : World) (r : Option Nat) : w.grownBy w.drew r := ⟨rfl, rfl, rfl, Nat.le_refl _, fun _ _ _ => rfl⟩
theorem grown_alloc (w : World) (o : Obj) (r : Option Nat) : w.grownBy (w.alloc o) r := ⟨rfl, rfl, rfl, by simp, fun k hk _ => Below.heap_alloc w o k hk⟩
theorem grown_below' {w w' : World} {r : Option Nat} (h : Below w.heap.size w w') : w.grownBy w' r := ⟨h.os, h.tape, h.output, h.size, fun k hk _ => h.block k hk⟩
theorem grown_set (w : World) (g i : Nat) (v : Value) : w.grownBy (w.setCell ⟨g, i, none⟩ v) (some g) :=
  ⟨rfl, rfl, rfl, by rw [World.size_setCell]; exact Nat.le_refl _, fun k _ hne => heap_setCell_other _ _ _ _ (show k ≠ g from fun e => hne (by rw [e]))⟩
theorem below_of_grown {w w' : World} {g B : Nat} (h : w.grownBy w' (some g)) (hB : B ≤ g) (hs : B ≤ w.heap.size) : Below B w w' :=
  ⟨h.os, h.tape, h.output, h.size, fun k hk => h.block k (by omega) (by intro e; injection e; omega)⟩

/-- a reader at block g: of the bytes l, at of them are taken; sp: it is spent -/
def RdrR (w : World) (g : Nat) (l : List UInt8) (at_ : Nat) (sp : Bool) : Prop :=
  ∃ A c, w.heap[g]? = some (.cells #[.slice A l.length c, .int .i64 at_, .bool sp] 150 (0, 0)) ∧ Rd w g A (bcells l) ∧ l.length ≤ c ∧ c ≤ 1099511627776 ∧ at_ ≤ l.length
theorem RdrR.lt {w : World} {g : Nat} {l : List UInt8} {at_ : Nat} {sp : Bool} (h : RdrR w g l at_ sp) : g < w.heap.size := by
  obtain ⟨_, _, h1, _⟩ := h
  exact (Array.getElem?_eq_some_iff.1 h1).1
theorem RdrR.later {w w' : World} {g : Nat} {l : List UInt8} {at_ : Nat} {sp : Bool} (h : RdrR w g l at_ sp) (hb : Below w.heap.size w w') : RdrR w' g l at_ sp := by
  have hlt := h.lt
  obtain ⟨A, c, h1, h2, h3, h4⟩ := h
  exact ⟨A, c, (hb.block g hlt).trans h1, h2.below (hb.mono (Nat.le_of_lt hlt)), h3, h4⟩
theorem RdrR.cells {w : World} {g : Nat} {l : List UInt8} {at_ : Nat} {sp : Bool} (h : RdrR w g l at_ sp) : ∃ A c, w.cell? ⟨g, 0, none⟩ = some (.slice A l.length c) ∧ w.cell? ⟨g, 1, none⟩ = some (.int .i64 at_) ∧ w.cell? ⟨g, 2, none⟩ = some (.bool sp) ∧
    w.frozen? ⟨g, 1, none⟩ = false ∧ w.frozen? ⟨g, 2, none⟩ = false ∧ Rd w g A (bcells l) ∧ l.length ≤ c ∧ c ≤ 1099511627776 := by
  obtain ⟨A, c, h1, h2, h3, h4, _⟩ := h
  exact ⟨A, c, by rw [cell_of_row _ _ _ _ _ _ h1]; rfl, by rw [cell_of_row _ _ _ _ _ _ h1]; rfl, by rw [cell_of_row _ _ _ _ _ _ h1]; rfl, frozen_of_row _ _ _ _ _ h1, frozen_of_row _ _ _ _ _ h1, h2, h3, h4⟩
theorem RdrR.spend {w : World} {g : Nat} {l : List UInt8} {at_ : Nat} {sp : Bool} (h : RdrR w g l at_ sp) : RdrR (w.setCell ⟨g, 2, none⟩ (.bool true)) g l at_ true := by
  obtain ⟨A, c, h1, h2, h3, h4⟩ := h
  exact ⟨A, c, by simpa using heap_setCell_same w g 2 _ _ (.bool true) h1, h2.below (((Below.refl _ _).mono (Nat.le_of_lt (Array.getElem?_eq_some_iff.1 h1).1)).setCell (p := ⟨g, 2, none⟩) (Nat.le_refl _) _), h3, h4⟩
theorem RdrR.move {w : World} {g : Nat} {l : List UInt8} {at_ n : Nat} {sp : Bool} (h : RdrR w g l at_ sp) (hn : n ≤ l.length) : RdrR (w.setCell ⟨g, 1, none⟩ (.int .i64 (n : Nat))) g l n sp := by
  obtain ⟨A, c, h1, h2, h3, h4, _⟩ := h
  exact ⟨A, c, by simpa using heap_setCell_same w g 1 _ _ (.int .i64 (n : Nat)) h1, h2.below (((Below.refl _ _).mono (Nat.le_of_lt (Array.getElem?_eq_some_iff.1 h1).1)).setCell (p := ⟨g, 1, none⟩) (Nat.le_refl _) _), h3, h4, hn⟩
theorem RdrR.drew {w : World} {g : Nat} {l : List UInt8} {at_ : Nat} {sp : Bool} (h : RdrR w g l at_ sp) : RdrR w.drew g l at_ sp := h.later (Below.refl _ _).drew

set_option maxRecDepth 100000 in
theorem read_any (l : List UInt8) (A : Option Addr) (c B : Nat) (w : World) (hr : Rd w B A (bcells l)) (hB : B ≤ w.heap.size) (hl : l.length ≤ 1099511627776) :
    Calls Tryd.prog 78 #[.slice A l.length c] w fun e w' => e = .returned (.pointer (some ⟨w.heap.size + 1, 0, none⟩)) ∧ RdrR w' (w.heap.size + 1) l 0 false ∧ Below w.heap.size w w' ∧ w'.heap.size = w.heap.size + 2 := by
  have HR := Lib.hid hr
  clear hr
  have hmk := u8_make l.length hl
  go_enter Tryd.func78, Tryd.ntmps78
  go_wp2_with (refine wpList_copy_all rfl _ _ rfl rfl rfl rfl (Go.heap_alloc_new w _) (made_len _ _) (HR.out.below (((Below.refl _ _).mono hB).alloc hB _)) ((Below.refl _ _).alloc (Nat.le_refl _) _) (Nat.le_refl _) ?_)
  intro w2 h2 hb2 hs2
  go_wp2
  go_ret
  refine ⟨rfl, ?_, hb2.alloc (by omega) _, by simp [hs2]⟩
  rw [← hs2]
  refine ⟨some ⟨w.heap.size, 0, none⟩, l.length, Go.heap_alloc_new w2 _, ?_, Nat.le_refl _, hl, by omega⟩
  have hrow := (Rd.row (w := w2) (B := w2.heap.size) h2.out (by omega)).below ((Below.refl _ _).alloc (Nat.le_refl _) (.cells #[.slice (some ⟨w.heap.size, 0, none⟩) l.length l.length, .int .i64 0, .bool false] 150))
  simpa using hrow

theorem spent_any (g : Nat) (l : List UInt8) (a : Nat) (sp : Bool) (w : World) (h : RdrR w g l a sp) :
    Calls Tryd.prog 102 #[.pointer (some ⟨g, 0, none⟩)] w fun e w' => e = .returned (.bool sp) ∧ w = w' := by
  obtain ⟨A, c, c0, c1, c2, f1, f2, _⟩ := h.cells
  go_enter Tryd.func102, Tryd.ntmps102
  go_wp2
  go_ret
  exact ⟨rfl, rfl⟩
theorem left_sp (g : Nat) (l : List UInt8) (a : Nat) (w : World) (h : RdrR w g l a true) :
    Calls Tryd.prog 82 #[.pointer (some ⟨g, 0, none⟩)] w fun e w' => e = .returned (.int .i64 0) ∧ w = w' := by
  have H := Lib.hid h
  clear h
  go_enter Tryd.func82, Tryd.ntmps82
  go_wp2_with fail
  refine (spent_any g l a true w H.out).mono ?_
  rintro e w' ⟨rfl, rfl⟩
  go_wp2
  go_ret
  exact ⟨rfl, rfl⟩
set_option maxRecDepth 100000 in
theorem left_ok (g : Nat) (l : List UInt8) (a : Nat) (w : World) (h : RdrR w g l a false) :
    Calls Tryd.prog 82 #[.pointer (some ⟨g, 0, none⟩)] w fun e w' => e = .returned (.int .i64 (l.length - a : Nat)) ∧ w.drew = w' := by
  obtain ⟨A, c, c0, c1, c2, f1, f2, _, hc1, hc2⟩ := h.cells
  have ha : a ≤ l.length := by obtain ⟨_, _, _, _, _, _, h5⟩ := h; exact h5
  have H := Lib.hid h
  clear h
  go_enter Tryd.func82, Tryd.ntmps82
  go_wp2_with fail
  refine (spent_any g l a false w H.out).mono ?_
  rintro e w' ⟨rfl, rfl⟩
  go_wp2_with fail
  refine Text.wp_text [] (by kernel_rfl) (by kernel_rfl) (fun Q' hQ' => ?_)
  go_wp2
  refine ⟨by rfl, ?_⟩
  go_wp2
  go_ret
  exact ⟨rt1 (vint (by omega)), rfl⟩
theorem all_sp (g : Nat) (l : List UInt8) (a : Nat) (w : World) (h : RdrR w g l a true) :
    Calls Tryd.prog 83 #[.pointer (some ⟨g, 0, none⟩)] w fun e w' => e = .returned (.bool false) ∧ w = w' := by
  have H := Lib.hid h
  clear h
  go_enter Tryd.func83, Tryd.ntmps83
  go_wp2_with fail
  refine (spent_any g l a true w H.out).mono ?_
  rintro e w' ⟨rfl, rfl⟩
  go_wp2
  go_ret
  exact ⟨rfl, rfl⟩
theorem all_ok (g : Nat) (l : List UInt8) (a : Nat) (w : World) (h : RdrR w g l a false) :
    Calls Tryd.prog 83 #[.pointer (some ⟨g, 0, none⟩)] w fun e w' => e = .returned (.bool (decide (a = l.length))) ∧ w.drew = w' := by
  have ha : a ≤ l.length := by obtain ⟨_, _, _, _, _, _, h5⟩ := h; exact h5
  have H := Lib.hid h
  clear h
  go_enter Tryd.func83, Tryd.ntmps83
  go_wp2_with fail
  refine (spent_any g l a false w H.out).mono ?_
  rintro e w' ⟨rfl, rfl⟩
  go_wp2_with fail
  refine (left_ok g l a w H.out).mono ?_
  rintro e w' ⟨rfl, rfl⟩
  go_wp2
  go_ret
  refine ⟨rt1 (vbool ?_), rfl⟩
  rw [Bool.eq_iff_iff]
  simp
  omega
/-- a take that does not succeed: the reader is spent -/
def SpentTo (g : Nat) (l : List UInt8) (a : Nat) (v : Value) (w : World) (e : Ending) (w' : World) : Prop := e = .returned v ∧ RdrR w' g l a true ∧ w.grownBy w' (some g)
theorem has_no (g : Nat) (l : List UInt8) (a : Nat) (sp : Bool) (n : Int) (w : World) (h : RdrR w g l a sp) (hn : sp = true ∨ n < 0 ∨ ((l.length - a : Nat) : Int) < n) :
    Calls Tryd.prog 117 #[.pointer (some ⟨g, 0, none⟩), .int .i64 n] w (SpentTo g l a (.bool false) w) := by
  obtain ⟨A, c, c0, c1, c2, f1, f2, _⟩ := h.cells
  have H := Lib.hid h
  have HS := Lib.hid h.spend
  have HS2 := Lib.hid h.drew.spend
  clear h
  cases sp with
  | true =>
    go_enter Tryd.func117, Tryd.ntmps117
    go_wp2_with fail
    refine (spent_any g l a true w H.out).mono ?_
    rintro e w' ⟨rfl, rfl⟩
    go_wp2
    go_ret
    exact ⟨rfl, H.out, grown_refl _ _⟩
  | false =>
    by_cases h0 : n < 0
    · clear hn
      go_enter Tryd.func117, Tryd.ntmps117
      go_wp2_with fail
      refine (spent_any g l a false w H.out).mono ?_
      rintro e w' ⟨rfl, rfl⟩
      go_wp2
      go_ret
      exact ⟨rfl, HS.out, grown_set _ _ _ _⟩
    · have hn2 : ((l.length - a : Nat) : Int) < n := by rcases hn with h | h | h; cases h; omega; exact h
      clear hn
      generalize hk : l.length - a = k at hn2
      have HK := Lib.hid hk
      clear hk
      go_enter Tryd.func117, Tryd.ntmps117
      go_wp2_with fail
      refine (spent_any g l a false w H.out).mono ?_
      rintro e w' ⟨rfl, rfl⟩
      go_wp2_with fail
      refine (left_ok g l a w H.out).mono ?_
      rintro e w' ⟨rfl, rfl⟩
      rw [HK.out]
      go_wp2
      go_ret
      exact ⟨rfl, HS2.out, grown_trans (grown_drew _ _) (grown_set _ _ _ _)⟩
theorem has_ok (g : Nat) (l : List UInt8) (a : Nat) (n : Nat) (w : World) (h : RdrR w g l a false) (hn : a + n ≤ l.length) :
    Calls Tryd.prog 117 #[.pointer (some ⟨g, 0, none⟩), .int .i64 n] w fun e w' => e = .returned (.bool true) ∧ w.drew = w' := by
  have hn2 : n ≤ l.length - a := by omega
  have H := Lib.hid h
  clear h hn
  generalize hk : l.length - a = k at hn2
  have HK := Lib.hid hk
  clear hk
  go_enter Tryd.func117, Tryd.ntmps117
  go_wp2_with fail
  refine (spent_any g l a false w H.out).mono ?_
  rintro e w' ⟨rfl, rfl⟩
  go_wp2_with fail
  refine (left_ok g l a w H.out).mono ?_
  rintro e w' ⟨rfl, rfl⟩
  rw [HK.out]
  go_wp2
  go_ret
  exact ⟨rfl, rfl⟩

/-! slices of bytes, cut -/
def cutA (A : Option Addr) (c k : Nat) : Option Addr := if c = k then A else A.map (·.add k)
theorem u8_from (A : Option Addr) (n c k : Nat) (h : k ≤ n) (w : World) : (Instr.sliceAt 34 (.slice A n c) (some (.int .i64 (k : Nat))) none none).run Tryd.prog w = .ok (.slice (cutA A c k) (n - k) (c - k)) w := by
  have hs : ∀ w : World, (sizeOf (Tryd.prog.elem 34)).run Tryd.prog w = .ok 1 w := fun _ => by kernel_rfl
  have ht : Tryd.prog.underlying 34 = some (.slice (Tryd.prog.elem 34)) := by kernel_rfl
  rw [run_sliceAt_slice _ _ _ _ _ _ ht, run_slice_l _ _ _ _ _ ht .i64 _ (by omega) (by omega), hs]
  simp [Result.andThen, sliced, cutA]
theorem u8_mid (A : Option Addr) (n c k m : Nat) (h : k ≤ m) (h2 : m ≤ c) (w : World) : (Instr.sliceAt 34 (.slice A n c) (some (.int .i64 (k : Nat))) (some (.int .i64 (m : Nat))) none).run Tryd.prog w = .ok (.slice (cutA A c k) (m - k) (c - k)) w := by
  have hs : ∀ w : World, (sizeOf (Tryd.prog.elem 34)).run Tryd.prog w = .ok 1 w := fun _ => by kernel_rfl
  have ht : Tryd.prog.underlying 34 = some (.slice (Tryd.prog.elem 34)) := by kernel_rfl
  rw [run_sliceAt_slice _ _ _ _ _ _ ht, run_slice_lh _ _ _ _ _ ht .i64 .i64 _ _ (by omega) (by omega) (by omega), hs]
  simp [Result.andThen, sliced, cutA]
theorem Rd.cut {w : World} {B : Nat} {A : Option Addr} {l : List UInt8} (h : Rd w B A (bcells l)) (k c : Nat) (hc : l.length ≤ c) : Rd w B (cutA A c k) (bcells (l.drop k)) := by
  have := h.drop_ k (cap := c) (fun h1 => by rw [bcells_length] at h1; omega)
  unfold cutA
  rw [show bcells (l.drop k) = (bcells l).drop k by simp [bcells, List.map_drop]]
  exact this
theorem Rd.upto {w : World} {B : Nat} {A : Option Addr} {l : List UInt8} (h : Rd w B A (bcells l)) (k : Nat) : Rd w B A (bcells (l.take k)) := by
  rw [show bcells (l.take k) = (bcells l).take k by simp [bcells, List.map_take]]
  exact h.take_ k
/-- a copy of the first bytes into a row that was just made -/
theorem wpList_copy_first {w : World} {ops : Array Oper} {rest : List Oper} {o : Oper} {a : Act} {Q : Exit → Act → World → Prop} (hgd : o.guard = none) (d s : Operand)
    (ho : o.op = .call { callee := .builtin .copy, args := #[d, s], argTypes := #[34, 34] })
    {A : Option Addr} {g n m c c1 : Nat} {l : List UInt8} (hd : a.eval d = .slice (some ⟨g, 0, none⟩) n c) (hs : a.eval s = .slice A m c1) (hn : m = l.length) (hnm : n ≤ m) {cur : Array Value} {t : TypeId}
    (hg : w.heap[g]? = some (.cells cur t (0, 0))) (hcur : cur.size = n) {B : Nat} (hr : Rd w B A (bcells l)) {B0 : Nat} {w0 : World} (hb : Below B0 w0 w) (hBg : B0 ≤ g)
    (h : ∀ w', Hid (w'.heap[g]? = some (.cells (bcells (l.take n)).toArray t (0, 0))) → Below B0 w0 w' → w'.heap.size = w.heap.size → wpList Tryd.prog ops Q rest (a.put o.dst (goInt n)) w') :
    wpList Tryd.prog ops Q (o :: rest) a w := by
  have hl2 : (l.take n).length = n := by rw [List.length_take]; omega
  have hlen : (bcells (l.take n)).length = cur.toList.length := by rw [bcells_length, hl2, ← hcur]; simp
  by_cases h0 : n = 0
  · have hcur0 : cur = #[] := Array.eq_empty_of_size_eq_zero (by omega)
    refine wpList_copy_nothing hgd d s 34 34 ho 5 Tryd.underlying34 (by kernel_rfl) _ _ _ _ _ _ hd hs (by rw [h0]; simp) ?_
    have := h w ?_ hb rfl
    · rw [h0] at this; exact this
    · show _ = _
      rw [hg, h0, hcur0]
      rfl
  · have hne : bcells (l.take n) ≠ [] := by intro e; apply h0; have := congrArg List.length e; rw [bcells_length, hl2] at this; simpa using this
    obtain ⟨ab, ao, rfl, hab, hcells⟩ := (hr.upto n) hne
    refine wpList_copy_own hgd d s 34 34 ho 5 Tryd.underlying34 (by kernel_rfl) g 0 n c ⟨ab, ao, none⟩ m c1 hd hs cur t hg (bcells (l.take n)) (by rw [bcells_length, hl2]; exact (Nat.min_eq_right hnm).symm)
      (fun j v hv => by rw [Addr.add_lit]; exact hcells j v hv) (by rw [bcells_length, hl2, hcur]; omega) (bcells_one _) ?_
    have hl3 : ((bcells (l.take n)).length : Int) = (n : Int) := by rw [bcells_length, hl2]
    rw [hl3]
    refine h _ ?_ (below_setRow hb hBg _) (by simp)
    show _ = _
    rw [setRow_heap w g cur _ t _ hg]
    congr 2
    simp only [List.take_zero, List.nil_append, Nat.zero_add, hlen, List.drop_length, List.append_nil]

theorem take_no (g : Nat) (l : List UInt8) (a : Nat) (sp : Bool) (n : Int) (w : World) (h : RdrR w g l a sp) (hn : sp = true ∨ n < 0 ∨ ((l.length - a : Nat) : Int) < n) :
    Calls Tryd.prog 104 #[.pointer (some ⟨g, 0, none⟩), .int .i64 n] w (SpentTo g l a (.slice none 0 0) w) := by
  have H := Lib.hid h
  have HN := Lib.hid hn
  clear h hn
  go_enter Tryd.func104, Tryd.ntmps104
  go_wp2_with fail
  refine (has_no g l a sp n w H.out HN.out).mono ?_
  rintro e w' ⟨rfl, h1, h2⟩
  have H1 := Lib.hid h1
  have H2 := Lib.hid h2
  clear h1 h2
  go_wp2
  go_ret
  exact ⟨rfl, H1.out, H2.out⟩
/-- a take that succeeds -/
def TakenTo (g : Nat) (l : List UInt8) (a n : Nat) (w : World) (e : Ending) (w' : World) : Prop :=
  e = .returned (.slice (some ⟨w.heap.size, 0, none⟩) n n) ∧ w'.heap[w.heap.size]? = some (.cells (bcells ((l.drop a).take n)).toArray 5 (0, 0)) ∧ RdrR w' g l (a + n) false ∧ w.grownBy w' (some g) ∧ w.heap.size < w'.heap.size
set_option maxRecDepth 100000 in
set_option maxHeartbeats 400000 in
theorem take_ok (g : Nat) (l : List UInt8) (a n : Nat) (w : World) (h : RdrR w g l a false) (hn : a + n ≤ l.length) :
    Calls Tryd.prog 104 #[.pointer (some ⟨g, 0, none⟩), .int .i64 n] w (TakenTo g l a n w) := by
  have hgl := h.lt
  have h1 : RdrR (w.drew.alloc (.cells (madeCells #[.int .u8 0] n) 5)) g l a false := h.drew.later ((Below.refl _ _).alloc (Nat.le_refl _) _)
  obtain ⟨A, c, c0, c1, c2, f1, f2, hrd, hc, hc2⟩ := h.cells
  have hmk := u8_make n (by omega)
  have hfr := u8_from A l.length c a (by omega)
  have H := Lib.hid h
  have H1 := Lib.hid h1
  have HRD := Lib.hid hrd
  clear h h1 hrd
  go_enter Tryd.func104, Tryd.ntmps104
  go_wp2_with fail
  refine (has_ok g l a n w H.out hn).mono ?_
  rintro e w' ⟨rfl, rfl⟩
  go_wp2_with fail
  refine Text.wp_text [] (by kernel_rfl) (by kernel_rfl) (fun Q' hQ' => ?_)
  go_wp2_with (refine wpList_copy_first rfl _ _ rfl rfl rfl (List.length_drop ..).symm (by omega) (Go.heap_alloc_new w _) (made_len _ _) ((HRD.out.cut a c hc).below (((Below.refl _ _).mono (Nat.le_of_lt hgl)).alloc (Nat.le_of_lt hgl) _).drew.drew) ((Below.refl _ _).alloc (Nat.le_refl _) _).drew.drew (Nat.le_refl _) ?_)
  intro w2 h2 hb2 hs2
  have H2 : Hid (RdrR w2 g l a false) := H.out.later hb2
  obtain ⟨A2, c3, d0, d1, d2, e1, _, _⟩ := H2.out.cells
  go_wp2
  refine ⟨by rfl, ?_⟩
  go_wp2
  go_ret
  refine ⟨rfl, ?_, H2.out.move hn, ?_, ?_⟩
  · rw [heap_setCell_other _ _ _ _ (show w.heap.size ≠ g by omega)]
    exact h2.out
  · exact grown_trans (grown_below' hb2) (grown_set _ _ _ _)
  · rw [World.size_setCell, hs2]; omega
theorem spend_any (g : Nat) (l : List UInt8) (a : Nat) (sp : Bool) (w : World) (h : RdrR w g l a sp) :
    Calls Tryd.prog 116 #[.pointer (some ⟨g, 0, none⟩)] w (SpentTo g l a (.int .u64 0) w) := by
  have H := Lib.hid h
  clear h
  go_enter Tryd.func116, Tryd.ntmps116
  go_wp2_with fail
  refine (take_no g l a sp (-1) w H.out (.inr (.inl (by omega)))).mono ?_
  rintro e w' ⟨rfl, h1, h2⟩
  have H1 := Lib.hid h1
  have H2 := Lib.hid h2
  clear h1 h2
  go_wp2
  go_ret
  exact ⟨rfl, H1.out, H2.out⟩
/-- a number's value, the highest byte first -/
def beVal (l : List UInt8) : Nat := l.foldl (fun v c => v * 256 + c.toNat) 0
theorem beVal_snoc (l : List UInt8) (c : UInt8) : beVal (l ++ [c]) = beVal l * 256 + c.toNat := by simp [beVal]
theorem beVal_lt (l : List UInt8) : beVal l < 256 ^ l.length := by
  have h : ∀ (l : List UInt8) (v m : Nat), v < 256 ^ m → l.foldl (fun v c => v * 256 + c.toNat) v < 256 ^ (m + l.length) := by
    intro l
    induction l with
    | nil => intro v m h; simpa using h
    | cons c l ih =>
      intro v m h
      rw [List.foldl_cons, List.length_cons, show m + (l.length + 1) = (m + 1) + l.length by omega]
      apply ih
      have := c.toNat_lt
      rw [Nat.pow_succ]
      omega
  have := h l 0 0 (by simp)
  simpa [beVal] using this
theorem or_byte (v c : Nat) (hv : v < 72057594037927936) (hc : c < 256) : bits .or .u64 ((v : Int) * 256) (c : Int) = ((v * 256 + c : Nat) : Int) := by
  have e : v * 256 ||| c = v * 256 + c := by
    have := Nat.shiftLeft_add_eq_or_of_lt (a := v) (b := c) (i := 8) (by omega)
    rw [Nat.shiftLeft_eq] at this
    exact this.symm
  rw [show (v : Int) * 256 = ((v * 256 : Nat) : Int) by simp, u64_or_nat _ _ (by omega) (by omega), e]
theorem num_no (g : Nat) (l : List UInt8) (a : Nat) (sp : Bool) (n : Nat) (w : World) (h : RdrR w g l a sp) (h1 : 1 ≤ n) (h8 : n ≤ 8) (hn : sp = true ∨ l.length < a + n) :
    Calls Tryd.prog 79 #[.pointer (some ⟨g, 0, none⟩), .int .i64 n] w (SpentTo g l a (.int .u64 0) w) := by
  have H := Lib.hid h
  have HN := Lib.hid hn
  have ha : a ≤ l.length := by obtain ⟨_, _, _, _, _, _, h5⟩ := h; exact h5
  clear h hn
  go_enter Tryd.func79, Tryd.ntmps79
  go_wp2_with fail
  refine (take_no g l a sp n w H.out (by rcases HN.out with h | h; exact .inl h; exact .inr (.inr (by omega)))).mono ?_
  rintro e w' ⟨rfl, h1, h2⟩
  have H1 := Lib.hid h1
  have H2 := Lib.hid h2
  clear h1 h2
  go_wp2
  go_loopw [5, 18] (fun v5 v18 wr => wr = w' ∧ v5 = .int .u64 0 ∧ v18 = .int .i64 0) (fun _ _ _ => 0)
  case atStart => exact ⟨rfl, rfl, rfl⟩
  case round =>
    obtain ⟨rfl, rfl, rfl⟩ := hrel
    go_wp2
    go_ret
    exact ⟨rfl, H1.out, H2.out⟩
/-- a number that is taken -/
def NumTo (g : Nat) (l : List UInt8) (a n : Nat) (w : World) (e : Ending) (w' : World) : Prop :=
  e = .returned (.int .u64 (beVal ((l.drop a).take n) : Nat)) ∧ RdrR w' g l (a + n) false ∧ w.grownBy w' (some g)
set_option maxRecDepth 100000 in
set_option maxHeartbeats 400000 in
theorem num_ok (g : Nat) (l : List UInt8) (a n : Nat) (w : World) (h : RdrR w g l a false) (h1 : 1 ≤ n) (h8 : n ≤ 8) (hn : a + n ≤ l.length) :
    Calls Tryd.prog 79 #[.pointer (some ⟨g, 0, none⟩), .int .i64 n] w (NumTo g l a n w) := by
  have H := Lib.hid h
  clear h
  go_enter Tryd.func79, Tryd.ntmps79
  go_wp2_with fail
  refine (take_ok g l a n w H.out hn).mono ?_
  rintro e w' ⟨rfl, h1, h2, h3, h4⟩
  have HB := Lib.hid h1
  have H2 := Lib.hid h2
  have H3 := Lib.hid h3
  clear h1 h2 h3 h4
  have hseg : ((l.drop a).take n).length = n := by rw [List.length_take, List.length_drop]; omega
  obtain ⟨seg, hs⟩ : ∃ seg, seg = (l.drop a).take n := ⟨_, rfl⟩
  rw [← hs] at hseg HB
  have HS := Lib.hid hs
  clear hs
  have HRD := Lib.hid (Rd.row (B := w.heap.size + 1) HB.out (by omega))
  go_wp2_with fail
  go_loop [5, 18] (fun v5 v18 => ∃ k : Nat, k ≤ n ∧ v18 = .int .i64 k ∧ v5 = .int .u64 (beVal (seg.take k) : Nat)) (fun _ v18 => n - (intOf v18).toNat)
  case atStart => exact ⟨0, by omega, rfl, rfl⟩
  case round =>
    obtain ⟨k, hk, rfl, rfl⟩ := hrel
    by_cases hlt : k < n
    · have hlt2 : k < seg.length := by omega
      obtain ⟨ab, ao, e1, _, hcell⟩ := (show Rd w' (w.heap.size + 1) (some ⟨w.heap.size, 0, none⟩) (bcells seg) by simpa using HRD.out).byte hlt2
      injection e1 with e1
      injection e1 with e1 e2
      subst e1 e2
      rw [Nat.zero_add] at hcell
      have hb8 := seg[k].toNat_lt
      have hv : beVal (seg.take k) < 72057594037927936 := by
        have h1 := beVal_lt (seg.take k)
        have h2 : 256 ^ (seg.take k).length ≤ 256 ^ 7 := Nat.pow_le_pow_right (by omega) (by rw [List.length_take]; omega)
        exact Nat.lt_of_lt_of_le h1 (by simpa using h2)
      have HV := Lib.hid (show beVal (seg.take (k + 1)) = beVal (seg.take k) * 256 + seg[k].toNat by rw [List.take_succ_eq_append_getElem hlt2, beVal_snoc])
      have HO := Lib.hid (or_byte _ _ hv hb8)
      go_wp2
      go_round
      case rel => exact ⟨k + 1, by omega, by go_num, vint (by rw [HV.out]; exact HO.out)⟩
      case measure => simp [intOf]; omega
    · have hkn : k = n := by omega
      subst hkn
      go_wp2
      go_ret
      refine ⟨rt1 (vint ?_), H2.out, H3.out⟩
      rw [List.take_of_length_le (by omega), HS.out]
end Go.Proofs.YtfheocdciekfoaaDoor
