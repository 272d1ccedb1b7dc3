/- How a run's memory turns; walks of Run.Step where it ends or fails. -/
import Derived.Test.YtkgmdoiadhafeaaDrive3
import Derived.OneCell
namespace Go.Proofs.Ytkgmdoiadhafeaa
open Go.RowKit

theorem own_not {w : World} {base : Nat} {e e' : TypeId} {size n : Nat} {v : Value} {xs : List Value} {g : Nat} {cs : Array Value} {fr : Nat × Nat} (h : w.ownsRow base e size v n xs) (hg : w.heap[g]? = some (.cells cs e' fr)) (hne : e' ≠ e) : v.ownBlock ≠ some g := by
  rcases h.2 with ⟨rfl, _⟩ | ⟨g', cap, cur, rfl, _, hh, _⟩
  · simp [Value.ownBlock]
  · intro he
    have : g' = g := by simpa [Value.ownBlock] using he
    subst this
    rw [hg] at hh
    injection hh with hh
    injection hh with _ h2
    exact hne h2
theorem own_lt {w : World} {base : Nat} {e : TypeId} {size n : Nat} {v : Value} {xs : List Value} (h : w.ownsRow base e size v n xs) {g : Nat} (hg : v.ownBlock = some g) : base ≤ g ∧ g < w.heap.size := h.lt g hg
/-- a shorter part of an own row -/
theorem own_take {w : World} {base : Nat} {e : TypeId} {g cap n : Nat} {xs : List Value} (h : w.ownsRow base e 1 (.slice (some ⟨g, 0, none⟩) n cap) n xs) {m : Nat} (hm : m ≤ n) : w.ownsRow base e 1 (.slice (some ⟨g, 0, none⟩) m cap) m (xs.take m) := by
  have hl := h.1
  refine ⟨by rw [List.length_take]; omega, .inr ?_⟩
  rcases h.2 with ⟨h0, _⟩ | ⟨g', cap', cur, hv, h1, h2, h3, h4, h5, h6⟩
  · cases h0
  · injection hv with e1 e2 e3
    injection e1 with e1
    injection e1 with e1
    subst e1 e3
    refine ⟨g, cap, cur, rfl, h1, h2, by omega, h4, h5, ?_⟩
    rw [← h6, List.take_take]
    congr 1
    omega
theorem own_some {w : World} {base : Nat} {e : TypeId} {v : Value} {n : Nat} {xs : List Value} (h : w.ownsRow base e 1 v n xs) (hn : 0 < n) : ∃ g cap, v = .slice (some ⟨g, 0, none⟩) n cap := by
  rcases h.2 with ⟨_, h0⟩ | ⟨g, cap, cur, hv, _⟩
  · omega
  · exact ⟨g, cap, hv⟩

section
variable {C : Cfg} {w w' : World} {vs vr : Value} {x : St}
theorem RunR.drew (h : RunR C w vs vr x) : RunR C w.drew vs vr x := ⟨h.bp, h.br, h.ne, h.run, h.pl, h.st, h.ru, h.dis⟩
theorem RunR.keep (h : RunR C w vs vr x) (hb : Below w.heap.size w w') : RunR C w' vs vr x :=
  ⟨h.bp, h.br, h.ne, (hb.block _ (Array.getElem?_eq_some_iff.1 h.run).1).trans h.run, (hb.block _ (Array.getElem?_eq_some_iff.1 h.pl).1).trans h.pl, own_below h.st hb, own_below h.ru hb, h.dis⟩
theorem RunR.size (h : RunR C w vs vr x) : C.base < w.heap.size := Nat.lt_of_le_of_lt h.bp (Array.getElem?_eq_some_iff.1 h.pl).1
theorem RunR.fail (h : RunR C w vs vr x) : RunR C (w.setCell ⟨C.r, 8, none⟩ (.bool true)) vs vr { x with failed := true } :=
  ⟨h.bp, h.br, h.ne, heap_setCell_same w C.r 8 _ _ _ h.run, (heap_setCell_other w ⟨C.r, 8, none⟩ C.p _ h.ne).trans h.pl, ownsRow_setCell_other h.st (own_not h.st h.run (by decide)) _, ownsRow_setCell_other h.ru (own_not h.ru h.run (by decide)) _, h.dis⟩
theorem RunR.pop (h : RunR C w vs vr x) {g cap : Nat} (hv : vs = .slice (some ⟨g, 0, none⟩) x.stack.length cap) :
    RunR C ((w.setCell ⟨C.r, 6, none⟩ (.slice (some ⟨g, 0, none⟩) (x.stack.length - 1) cap)).setCell ⟨C.p, 1, none⟩ (.int .i64 ((x.at_ + 1 : Nat) : Int))) (.slice (some ⟨g, 0, none⟩) (x.stack.length - 1) cap) vr { x with stack := x.stack.dropLast, at_ := x.at_ + 1 } := by
  subst hv
  have h1 := own_take h.st (m := x.stack.length - 1) (by omega)
  have hn1 := own_not h.st h.run (by decide)
  have hn2 := own_not h.st h.pl (by decide)
  have hr1 := own_not h.ru h.run (by decide)
  have hr2 := own_not h.ru h.pl (by decide)
  refine ⟨h.bp, h.br, h.ne, ?_, ?_, ?_, ?_, h.dis⟩
  · rw [heap_setCell_other _ _ _ _ (show C.r ≠ C.p from fun e => h.ne e.symm)]
    exact heap_setCell_same w C.r 6 _ _ _ h.run
  · have h2 : (w.setCell ⟨C.r, 6, none⟩ (.slice (some ⟨g, 0, none⟩) (x.stack.length - 1) cap)).heap[C.p]? = some (.cells #[.string C.s, .int .i64 x.at_] 54 (0, 0)) := (heap_setCell_other w ⟨C.r, 6, none⟩ C.p _ h.ne).trans h.pl
    exact heap_setCell_same _ C.p 1 _ _ _ h2
  · have hic : icells x.stack.dropLast = (icells x.stack).take (x.stack.length - 1) := by
      unfold icells
      rw [← List.map_take, List.dropLast_eq_take]
    show World.ownsRow _ _ _ _ _ x.stack.dropLast.length (icells x.stack.dropLast)
    rw [List.length_dropLast, hic]
    exact ownsRow_setCell_other (a := ⟨C.p, 1, none⟩) (ownsRow_setCell_other (a := ⟨C.r, 6, none⟩) h1 hn1 _) hn2 _
  · exact ownsRow_setCell_other (ownsRow_setCell_other h.ru hr1 _) hr2 _
end

/-- what every step leans on -/
structure Ready (C : Cfg) (w : World) (x : St) (rs : List (Int × List Int)) (ms : List Mach) : Prop where
  hs : C.s.size ≤ 1099511627776
  hat : x.at_ ≤ C.s.size
  hk : C.k ≤ 4
  h3 : SlR eRule w C.base C.v3 rs
  h4 : SlR (eSl eState) w C.base C.v4 ms
  hrl : ∀ r ∈ rs, r.2.length ≤ 64
  ls : x.stack.length ≤ 1073741824
  lr : x.rules.length ≤ 1073741824
  bs : ∀ y ∈ x.stack, -9223372036854775808 ≤ y ∧ y ≤ 9223372036854775807
  br : ∀ y ∈ x.rules, -9223372036854775808 ≤ y ∧ y ≤ 9223372036854775807
def StepTo (C : Cfg) (w : World) (b : Bool) (x' : St) (e : Ending) (w' : World) : Prop := e = .returned (.bool b) ∧ (∃ vs' vr', RunR C w' vs' vr' x') ∧ Below C.base w w'

set_option maxRecDepth 100000 in
set_option maxHeartbeats 800000 in
theorem step_failed (C : Cfg) (w : World) (vs vr : Value) (x : St) (h : RunR C w vs vr x) (hf : x.failed = true) :
    Calls Try.prog 10 #[.pointer (some ⟨C.r, 0, none⟩)] w (StepTo C w false x) := by
  obtain ⟨c0, _, _, _, _, _, c6, _, c8, _, p1⟩ := h.cells
  rw [hf] at c8
  clear hf
  go_enter Try.func10, Try.ntmps10
  go_wp2_with fail
  go_ret
  exact ⟨rfl, ⟨vs, vr, h⟩, Below.refl _ _⟩
set_option maxRecDepth 100000 in
set_option maxHeartbeats 1600000 in
theorem step_done (C : Cfg) (w : World) (vs vr : Value) (x : St) (rs : List (Int × List Int)) (ms : List Mach) (h : RunR C w vs vr x) (hr : Ready C w x rs ms) (hf : x.failed = false) (h0 : x.stack = []) (ha : x.at_ = C.s.size) :
    Calls Try.prog 10 #[.pointer (some ⟨C.r, 0, none⟩)] w (StepTo C w false x) := by
  obtain ⟨c0, _, _, _, _, _, c6, _, c8, p0, p1⟩ := h.cells
  obtain ⟨A, c, rfl, _, _⟩ := own_form h.st
  have hl : x.stack.length = 0 := by rw [h0]; rfl
  rw [hf] at c8
  rw [hl] at c6
  clear hf
  go_enter Try.func10, Try.ntmps10
  go_wp2_with fail
  refine (left_any C.p x.at_ C.s w p0 p1 hr.hat hr.hs).mono ?_
  rintro e w1 ⟨rfl, rfl⟩
  rw [ha, Nat.sub_self]
  go_wp2_with fail
  go_ret
  exact ⟨rfl, ⟨_, vr, h.drew⟩, (Below.refl _ _).drew⟩
set_option maxRecDepth 100000 in
set_option maxHeartbeats 1600000 in
theorem step_left (C : Cfg) (w : World) (vs vr : Value) (x : St) (rs : List (Int × List Int)) (ms : List Mach) (h : RunR C w vs vr x) (hr : Ready C w x rs ms) (hf : x.failed = false) (h0 : x.stack = []) (ha : x.at_ ≠ C.s.size) :
    Calls Try.prog 10 #[.pointer (some ⟨C.r, 0, none⟩)] w (StepTo C w true { x with failed := true }) := by
  obtain ⟨c0, _, _, _, _, _, c6, _, c8, p0, p1⟩ := h.cells
  obtain ⟨A, c, rfl, _, _⟩ := own_form h.st
  have hl : x.stack.length = 0 := by rw [h0]; rfl
  have hat := hr.hat
  rw [hf] at c8
  rw [hl] at c6
  clear hf
  have hz : ((((C.s.size - x.at_ : Nat) : Int)) == 0) = false := by rw [beq_eq_false_iff_ne]; omega
  have hfr := (h.free 8).1
  have HW := Lib.hid (show True from trivial)
  go_enter Try.func10, Try.ntmps10
  go_wp2_with fail
  refine (left_any C.p x.at_ C.s w p0 p1 hr.hat hr.hs).mono ?_
  rintro e w1 ⟨rfl, rfl⟩
  generalize (((C.s.size - x.at_ : Nat) : Int)) = z at hz ⊢
  go_wp2_with fail
  refine (fail_any C.r w.drew false c8 hfr).mono ?_
  rintro e w1 ⟨rfl, rfl⟩
  go_wp2
  go_ret
  exact ⟨rfl, ⟨_, vr, h.drew.fail⟩, ((Below.refl _ _).drew).setCell h.br _⟩
end Go.Proofs.Ytkgmdoiadhafeaa
