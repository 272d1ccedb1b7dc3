/- Walks of Run.Step at a terminal. -/
import Derived.Test.YtkgmdoiadhafeaaDrive4
namespace Go.Proofs.Ytkgmdoiadhafeaa
open Go.RowKit

/-- the top of the stack, in memory -/
theorem RunR.top {C : Cfg} {w : World} {vs vr : Value} {x : St} (h : RunR C w vs vr x) {init : List Int} {top : Int} (hs : x.stack = init ++ [top]) :
    ∃ g cap, vs = .slice (some ⟨g, 0, none⟩) (init.length + 1) cap ∧ init.length + 1 ≤ cap ∧ cap ≤ 9223372036854775807 ∧ w.cell? ⟨g, init.length, none⟩ = some (.int .i64 top) ∧ g < w.heap.size := by
  have hl : x.stack.length = init.length + 1 := by rw [hs]; simp
  obtain ⟨g, cap, rfl⟩ := own_some h.st (by omega)
  obtain ⟨A, c, e, h1, h2⟩ := own_form h.st
  injection e with e1 e2 e3
  subst e3
  have hg := (own_lt h.st (g := g) rfl).2
  refine ⟨g, cap, by rw [hl], by omega, by simpa [maxLen] using h2, ?_, hg⟩
  obtain ⟨b, off, e4, _, h5⟩ := (Rd.of_own h.st).at_ (k := init.length) (by rw [icells_length]; omega)
  injection e4 with e4
  injection e4 with e5 e6
  subst e5 e6
  rw [Nat.zero_add] at h5
  rw [h5]
  congr 1
  simp [icells, hs]
set_option maxRecDepth 100000 in
set_option maxHeartbeats 1600000 in
theorem step_term_end (C : Cfg) (w : World) (vs vr : Value) (x : St) (rs : List (Int × List Int)) (ms : List Mach) (h : RunR C w vs vr x) (hr : Ready C w x rs ms) (hf : x.failed = false) (init : List Int) (top : Int) (hst : x.stack = init ++ [top]) (ht : top < 0) (ha : x.at_ = C.s.size) :
    Calls Try.prog 10 #[.pointer (some ⟨C.r, 0, none⟩)] w (StepTo C w true { x with failed := true }) := by
  obtain ⟨c0, _, _, _, _, _, c6, _, c8, p0, p1⟩ := h.cells
  obtain ⟨g, cap, rfl, hc1, hc2, ct, hg⟩ := h.top hst
  have hz : ((init.length : Int) + 1 == 0) = false := by rw [beq_eq_false_iff_ne]; omega
  have hfr := (h.free 8).1
  have hat := hr.hat
  have hsz := hr.hs
  have hll : init.length ≤ 1073741824 := by have := hr.ls; rw [hst] at this; simp at this; omega
  rw [hf] at c8
  clear hf hst
  go_enter Try.func10, Try.ntmps10
  go_wp2_with fail
  refine Text.wp_text [] (by kernel_rfl) (by kernel_rfl) (fun Q' hQ' => ?_)
  go_wp2
  refine ⟨by rfl, ?_⟩
  go_wp2_with fail
  go_call isTermSym_any top _ as e w1 ⟨rfl, rfl⟩
  rw [decide_eq_true ht]
  go_wp2_with fail
  refine Text.wp_grow [4] [3, 10, 13, 17, 20] [] (by kernel_rfl) (by kernel_rfl) ?_
  refine Text.wpS_seg 4 _ _ _ _ (by decide) (fun Q' hQ' => ?_)
  simp only [List.take_succ_cons, List.take_zero]
  go_wp2_with fail
  simp only [Nat.zero_add, List.drop_succ_cons, List.drop_zero]
  refine Text.wpS_one (fun Q' hQ' => ?_)
  go_wp2_with fail
  refine (left_any C.p x.at_ C.s w.drew.drew p0 p1 hat hsz).mono ?_
  rintro e w1 ⟨rfl, rfl⟩
  rw [ha, Nat.sub_self]
  go_wp2_with fail
  refine ⟨(Below.refl _ _).drew, ?_⟩
  refine Text.wpS_seg 22 _ _ _ _ (by decide) (fun Q' hQ' => ?_)
  simp only [List.take_succ_cons, List.take_zero]
  go_wp2_with fail
  refine ⟨by rfl, ?_, ?_⟩
  · exact ⟨fun _ => ⟨_, _, rfl, c0⟩, Text.no_want rfl, Text.no_want rfl, Text.no_want rfl, Text.no_want rfl, trivial⟩
  go_wp2_with fail
  refine (fail_any C.r w.drew.drew.drew false c8 hfr).mono ?_
  rintro e w1 ⟨rfl, rfl⟩
  go_wp2
  go_ret
  exact ⟨rfl, ⟨_, vr, h.drew.drew.drew.fail⟩, ((Below.refl _ _).drew.drew.drew).setCell h.br _⟩
set_option maxRecDepth 100000 in
set_option maxHeartbeats 1600000 in
theorem step_term_no (C : Cfg) (w : World) (vs vr : Value) (x : St) (rs : List (Int × List Int)) (ms : List Mach) (h : RunR C w vs vr x) (hr : Ready C w x rs ms) (hf : x.failed = false) (init : List Int) (top : Int) (hst : x.stack = init ++ [top]) (ht : top < 0) (hb : -9223372036854775808 ≤ top) (ha : x.at_ < C.s.size) (hne : bat C.s x.at_ ≠ -1 - top) :
    Calls Try.prog 10 #[.pointer (some ⟨C.r, 0, none⟩)] w (StepTo C w true { x with failed := true }) := by
  obtain ⟨c0, _, _, _, _, _, c6, _, c8, p0, p1⟩ := h.cells
  obtain ⟨g, cap, rfl, hc1, hc2, ct, hg⟩ := h.top hst
  have hz : ((init.length : Int) + 1 == 0) = false := by rw [beq_eq_false_iff_ne]; omega
  have hz2 : ((C.s.size - x.at_ : Nat) : Int) ≠ 0 := by omega
  have hz3 : (((C.s.size - x.at_ : Nat) : Int) == 0) = false := by rw [beq_eq_false_iff_ne]; exact hz2
  have hq : (bat C.s x.at_ != -1 - top) = true := by simpa using hne
  have hfr := (h.free 8).1
  have hat := hr.hat
  have hsz := hr.hs
  have hbt := bat_get C.s
  have hbd := bat_bd C.s x.at_
  have hll : init.length ≤ 1073741824 := by have := hr.ls; rw [hst] at this; simp at this; omega
  rw [hf] at c8
  clear hf hst
  go_enter Try.func10, Try.ntmps10
  go_wp2_with fail
  refine Text.wp_text [] (by kernel_rfl) (by kernel_rfl) (fun Q' hQ' => ?_)
  go_wp2
  refine ⟨by rfl, ?_⟩
  go_wp2_with fail
  go_call isTermSym_any top _ as e w1 ⟨rfl, rfl⟩
  rw [decide_eq_true ht]
  go_wp2_with fail
  refine Text.wp_grow [4] [3, 10, 13, 17, 20] [] (by kernel_rfl) (by kernel_rfl) ?_
  refine Text.wpS_seg 4 _ _ _ _ (by decide) (fun Q' hQ' => ?_)
  simp only [List.take_succ_cons, List.take_zero]
  go_wp2_with fail
  simp only [Nat.zero_add, List.drop_succ_cons, List.drop_zero]
  refine Text.wpS_one (fun Q' hQ' => ?_)
  go_wp2_with fail
  refine (left_any C.p x.at_ C.s w.drew.drew p0 p1 hat hsz).mono ?_
  rintro e w1 ⟨rfl, rfl⟩
  generalize ((C.s.size - x.at_ : Nat) : Int) = z at hz2 hz3 ⊢
  go_wp2_with fail
  refine ⟨(Below.refl _ _).drew, ?_⟩
  refine Text.wpS_seg 22 _ _ _ _ (by decide) (fun Q' hQ' => ?_)
  simp only [List.take_succ_cons, List.take_zero]
  go_wp2_with fail
  refine ⟨by rfl, ?_, ?_⟩
  · exact ⟨fun _ => ⟨_, _, rfl, c0⟩, fun _ => ⟨_, _, rfl, c0⟩, fun _ => ⟨_, _, rfl, p0⟩, fun _ => ⟨_, _, rfl, c0⟩, fun _ => ⟨_, _, rfl, p1⟩, trivial⟩
  go_wp2_with fail
  refine (fail_any C.r w.drew.drew.drew false c8 hfr).mono ?_
  rintro e w1 ⟨rfl, rfl⟩
  go_wp2
  go_ret
  exact ⟨rfl, ⟨_, vr, h.drew.drew.drew.fail⟩, ((Below.refl _ _).drew.drew.drew).setCell h.br _⟩
set_option maxRecDepth 100000 in
set_option maxHeartbeats 1600000 in
theorem step_term_yes (C : Cfg) (w : World) (vs vr : Value) (x : St) (rs : List (Int × List Int)) (ms : List Mach) (h : RunR C w vs vr x) (hr : Ready C w x rs ms) (hf : x.failed = false) (init : List Int) (top : Int) (hst : x.stack = init ++ [top]) (ht : top < 0) (hb : -9223372036854775808 ≤ top) (ha : x.at_ < C.s.size) (heq : bat C.s x.at_ = -1 - top) :
    Calls Try.prog 10 #[.pointer (some ⟨C.r, 0, none⟩)] w (StepTo C w true { x with stack := init, at_ := x.at_ + 1 }) := by
  obtain ⟨c0, _, _, _, _, _, c6, _, c8, p0, p1⟩ := h.cells
  obtain ⟨g, cap, rfl, hc1, hc2, ct, hg⟩ := h.top hst
  have hz : ((init.length : Int) + 1 == 0) = false := by rw [beq_eq_false_iff_ne]; omega
  have hz2 : ((C.s.size - x.at_ : Nat) : Int) ≠ 0 := by omega
  have hz3 : (((C.s.size - x.at_ : Nat) : Int) == 0) = false := by rw [beq_eq_false_iff_ne]; exact hz2
  have hq : (bat C.s x.at_ != -1 - top) = false := by simpa using heq
  clear heq
  have hfr := (h.free 6).1
  have hfp := (h.free 1).2
  have HPOP : Hid (RunR C ((w.setCell ⟨C.r, 6, none⟩ (.slice (some ⟨g, 0, none⟩) init.length cap)).setCell ⟨C.p, 1, none⟩ (.int .i64 ((x.at_ : Int) + 1))) (.slice (some ⟨g, 0, none⟩) init.length cap) vr { x with stack := init, at_ := x.at_ + 1 }) := by
    have h1 := h.pop (g := g) (cap := cap) (by rw [hst]; simp)
    simpa [hst, Hid] using h1
  have hat := hr.hat
  have hsz := hr.hs
  have hbt := bat_get C.s
  have hbd := bat_bd C.s x.at_
  have hll : init.length ≤ 1073741824 := by have := hr.ls; rw [hst] at this; simp at this; omega
  rw [hf] at c8
  clear hf hst
  go_enter Try.func10, Try.ntmps10
  go_wp2_with fail
  refine Text.wp_text [] (by kernel_rfl) (by kernel_rfl) (fun Q' hQ' => ?_)
  go_wp2
  refine ⟨by rfl, ?_⟩
  go_wp2_with fail
  go_call isTermSym_any top _ as e w1 ⟨rfl, rfl⟩
  rw [decide_eq_true ht]
  go_wp2_with fail
  refine Text.wp_grow [4] [3, 10, 13, 17, 20] [] (by kernel_rfl) (by kernel_rfl) ?_
  refine Text.wpS_seg 4 _ _ _ _ (by decide) (fun Q' hQ' => ?_)
  simp only [List.take_succ_cons, List.take_zero]
  go_wp2_with fail
  simp only [Nat.zero_add, List.drop_succ_cons, List.drop_zero]
  refine Text.wpS_one (fun Q' hQ' => ?_)
  go_wp2_with fail
  refine (left_any C.p x.at_ C.s w.drew.drew p0 p1 hat hsz).mono ?_
  rintro e w1 ⟨rfl, rfl⟩
  generalize ((C.s.size - x.at_ : Nat) : Int) = z at hz2 hz3 ⊢
  go_wp2_with fail
  refine ⟨(Below.refl _ _).drew, ?_⟩
  refine Text.wpS_seg 22 _ _ _ _ (by decide) (fun Q' hQ' => ?_)
  simp only [List.take_succ_cons, List.take_zero]
  go_wp2_with fail
  refine ⟨by rfl, ?_, ?_⟩
  · exact ⟨fun _ => ⟨_, _, rfl, c0⟩, fun _ => ⟨_, _, rfl, c0⟩, fun _ => ⟨_, _, rfl, p0⟩, fun _ => ⟨_, _, rfl, c0⟩, fun _ => ⟨_, _, rfl, p1⟩, trivial⟩
  go_wp2_with fail
  refine Text.wp_text [] (by kernel_rfl) (by kernel_rfl) (fun Q' hQ' => ?_)
  go_wp2
  refine ⟨by rfl, ?_⟩
  go_wp2_with fail
  go_ret
  exact ⟨rfl, ⟨_, vr, HPOP.out.drew.drew.drew.drew⟩, (((Below.refl _ _).setCell (p := ⟨C.r, 6, none⟩) h.br _).setCell (p := ⟨C.p, 1, none⟩) h.bp _).drew.drew.drew.drew⟩
end Go.Proofs.Ytkgmdoiadhafeaa
