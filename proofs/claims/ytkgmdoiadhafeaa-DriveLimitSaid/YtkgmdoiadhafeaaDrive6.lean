/- Walks of Run.Step at a nonterminal. -/
import Derived.Test.YtkgmdoiadhafeaaDrive5
namespace Go.Proofs.Ytkgmdoiadhafeaa
open Go.RowKit

theorem own_grown {w w' : World} {base : Nat} {e : TypeId} {size n : Nat} {v : Value} {xs : List Value} {row : Option Nat} (h : w.ownsRow base e size v n xs) (hg : w.grownBy w' row) (hne : ∀ g, v.ownBlock = some g → some g ≠ row) : w'.ownsRow base e size v n xs := by
  refine ⟨h.1, ?_⟩
  rcases h.2 with h' | ⟨g, cap, cur, rfl, h1, h2, r⟩
  · exact .inl h'
  · exact .inr ⟨g, cap, cur, rfl, h1, (hg.block g (Array.getElem?_eq_some_iff.1 h2).1 (hne g rfl)).trans h2, r⟩
theorem below_of_grown {B : Nat} {w w' : World} {row : Option Nat} (hg : w.grownBy w' row) (hB : B ≤ w.heap.size) (hr : ∀ g, row = some g → B ≤ g) : Below B w w' :=
  (Below.refl B w).grown hg hB hr
section
variable {C : Cfg} {w w' : World} {vs vr vs' vr' : Value} {x : St}
theorem RunR.app_rules (h : RunR C w vs vr x) (i : Int) (hown : w'.ownsRow C.base 3 1 vr' (x.rules.length + 1) (icells x.rules ++ [.int .i64 i])) (hg : w.grownBy w' vr.ownBlock) (hor : vr'.ownBlock = vr.ownBlock ∨ vr'.ownBlock = some w.heap.size) :
    RunR C (w'.setCell ⟨C.r, 7, none⟩ vr') vs vr' { x with rules := x.rules ++ [i] } := by
  have hrl := (Array.getElem?_eq_some_iff.1 h.run).1
  have hpl := (Array.getElem?_eq_some_iff.1 h.pl).1
  have n1 := own_not h.ru h.run (by decide)
  have n2 := own_not h.ru h.pl (by decide)
  have m1 := own_not h.st h.run (by decide)
  have k1 : w'.heap[C.r]? = _ := (hg.block C.r hrl fun e => n1 e.symm).trans h.run
  have k2 : w'.heap[C.p]? = _ := (hg.block C.p hpl fun e => n2 e.symm).trans h.pl
  have q1 := own_not hown k1 (by decide)
  refine ⟨h.bp, h.br, h.ne, heap_setCell_same w' C.r 7 _ _ _ k1, (heap_setCell_other w' ⟨C.r, 7, none⟩ C.p _ h.ne).trans k2, ?_, ?_, ?_⟩
  · exact ownsRow_setCell_other (a := ⟨C.r, 7, none⟩) (own_grown h.st hg fun g hv he => h.dis g hv he.symm) m1 _
  · show World.ownsRow _ _ _ _ _ (x.rules ++ [i]).length (icells (x.rules ++ [i]))
    rw [List.length_append, show icells (x.rules ++ [i]) = icells x.rules ++ [.int .i64 i] by simp [icells]]
    exact ownsRow_setCell_other (a := ⟨C.r, 7, none⟩) hown q1 _
  · intro g hv he
    rcases hor with e | e
    · exact h.dis g hv (e.symm.trans he)
    · have := (own_lt h.st hv).2
      rw [e] at he
      injection he with he
      omega
theorem RunR.app_stack (h : RunR C w vs vr x) (l : List Int) (hown : w'.ownsRow C.base 3 1 vs' l.length (icells l)) (hg : w.grownBy w' vs.ownBlock) (hor : vs'.ownBlock = vs.ownBlock ∨ vs'.ownBlock = some w.heap.size) :
    RunR C (w'.setCell ⟨C.r, 6, none⟩ vs') vs' vr { x with stack := l } := by
  have hrl := (Array.getElem?_eq_some_iff.1 h.run).1
  have hpl := (Array.getElem?_eq_some_iff.1 h.pl).1
  have n1 := own_not h.st h.run (by decide)
  have n2 := own_not h.st h.pl (by decide)
  have m1 := own_not h.ru h.run (by decide)
  have k1 : w'.heap[C.r]? = _ := (hg.block C.r hrl fun e => n1 e.symm).trans h.run
  have k2 : w'.heap[C.p]? = _ := (hg.block C.p hpl fun e => n2 e.symm).trans h.pl
  have q1 := own_not hown k1 (by decide)
  refine ⟨h.bp, h.br, h.ne, heap_setCell_same w' C.r 6 _ _ _ k1, (heap_setCell_other w' ⟨C.r, 6, none⟩ C.p _ h.ne).trans k2, ?_, ?_, ?_⟩
  · exact ownsRow_setCell_other (a := ⟨C.r, 6, none⟩) hown q1 _
  · exact ownsRow_setCell_other (a := ⟨C.r, 6, none⟩) (own_grown h.ru hg fun g hv he => h.dis g he.symm hv) m1 _
  · intro g hv he
    rcases hor with e | e
    · exact h.dis g (e.symm.trans hv) he
    · have := (own_lt h.ru he).2
      rw [e] at hv
      injection hv with hv
      omega
end
/-- slices.Reverse on a row that the call owns -/
theorem reverse_own (base : Nat) (v : Value) (xs : List Int) (w : World) (h : w.ownsRow base 3 1 v xs.length (icells xs)) :
    Calls Try.prog 24 #[v] w fun e w' => e = .returned (.tuple #[]) ∧ w'.ownsRow base 3 1 v xs.length (icells xs.reverse) ∧ w.grownBy w' v.ownBlock := by
  rcases h.2 with ⟨rfl, h0⟩ | ⟨g, cap, cur, rfl, h1, h2, h3, h4, h5, h6⟩
  · have hx : xs = [] := List.eq_nil_of_length_eq_zero h0
    subst hx
    go_enter Try.func24, Try.ntmps24
    go_wp2_with fail
    refine wp_loop_rounds 1 ?_
    rw [rounds_succ]
    go_wp2
    go_end0
    exact ⟨rfl, h, ⟨rfl, rfl, rfl, Nat.le_refl _, fun _ _ _ => rfl⟩⟩
  · refine (reverse_int g cap cur xs w h2 (by rwa [Nat.mul_one] at h6) h3 (by simpa [maxLen] using h4)).mono ?_
    rintro e w1 ⟨rfl, cur', g1, g2, g3, g4⟩
    exact ⟨rfl, ⟨by simp [icells], .inr ⟨g, cap, cur', rfl, h1, g1, h3, h4, by rw [g2, h5], by rwa [Nat.mul_one]⟩⟩, g4⟩

set_option maxRecDepth 100000 in
set_option maxHeartbeats 3200000 in
theorem step_none (C : Cfg) (w : World) (vs vr : Value) (x : St) (rs : List (Int × List Int)) (ms : List Mach) (h : RunR C w vs vr x) (hr : Ready C w x rs ms) (hf : x.failed = false) (init : List Int) (top : Int) (hst : x.stack = init ++ [top]) (ht : 0 ≤ top)
    (hp : predictR ms top (cutB (C.s.extract x.at_ C.s.size) C.k).data.toList < 0) :
    Calls Try.prog 10 #[.pointer (some ⟨C.r, 0, none⟩)] w (StepTo C w true { x with failed := true }) := by
  obtain ⟨c0, _, _, _, c4, c5, c6, _, c8, p0, p1⟩ := h.cells
  obtain ⟨g, cap, rfl, hc1, hc2, ct, hg⟩ := h.top hst
  have hz : ((init.length : Int) + 1 == 0) = false := by rw [beq_eq_false_iff_ne]; omega
  have hfr := (h.free 8).1
  have hat := hr.hat
  have hsz := hr.hs
  have hk := hr.hk
  have hll : init.length ≤ 1073741824 := by have := hr.ls; rw [hst] at this; simp at this; omega
  have hbase := h.size
  have hdt : decide (top < 0) = false := decide_eq_false (by omega)
  have hes : (C.s.extract x.at_ C.s.size).size ≤ 1099511627776 := by simp; omega
  have hces : (cutB (C.s.extract x.at_ C.s.size) C.k).size ≤ 1099511627776 := by unfold cutB; simp; omega
  obtain ⟨P, hP⟩ : ∃ P, P = predictR ms top (cutB (C.s.extract x.at_ C.s.size) C.k).data.toList := ⟨_, rfl⟩
  rw [← hP] at hp
  have HP := Lib.hid hP
  have HF := Lib.hid hf
  have hdp : decide (0 ≤ P) = false := decide_eq_false (by omega)
  have h4 := hr.h4
  rw [hf] at c8
  clear hf hst hP
  go_enter Try.func10, Try.ntmps10
  go_wp2_with fail
  refine Text.wp_text [] (by kernel_rfl) (by kernel_rfl) (fun Q' hQ' => ?_)
  go_wp2
  refine ⟨by rfl, ?_⟩
  go_wp2_with fail
  go_call isTermSym_any top _ as e w1 ⟨rfl, rfl⟩
  rw [hdt]
  go_wp2_with fail
  refine Text.wp_grow [24, 25] [3, 8, 11, 15, 18, 23] [] (by kernel_rfl) (by kernel_rfl) ?_
  refine Text.wpS_seg 24 _ _ _ _ (by decide) (fun Q' hQ' => ?_)
  simp only [List.take_succ_cons, List.take_zero]
  go_wp2_with fail
  simp only [Nat.zero_add, List.drop_succ_cons, List.drop_zero]
  refine Text.wpS_one (fun Q' hQ' => ?_)
  go_wp2_with fail
  refine (cut_any _ C.k w.drew.drew (by omega) hes).mono ?_
  rintro e w1 ⟨rfl, rfl⟩
  go_wp2_with fail
  refine ⟨Below.refl _ _, ?_⟩
  refine Text.wpS_one (fun Q' hQ' => ?_)
  go_wp2_with fail
  refine (predict_any C.v4 ms top _ w.drew.drew (h4.fut (N := w.heap.size) ((Below.refl _ _).drew.drew) (Nat.le_of_lt hbase) (Nat.le_of_lt hbase)) hces).mono ?_
  rintro e w1 ⟨rfl, hb1⟩
  rw [← HP.out, hdp]
  go_wp2_with fail
  refine ⟨hb1, ?_⟩
  refine Text.wpS_seg 5 _ _ _ _ (by decide) (fun Q' hQ' => ?_)
  simp only [List.take_succ_cons, List.take_zero]
  go_wp2_with fail
  refine ⟨by rfl, ?_, ?_⟩
  · exact ⟨fun _ => ⟨_, _, rfl, c5⟩, fun _ => ⟨_, _, rfl, c0⟩, fun _ => ⟨_, _, rfl, p0⟩, fun _ => ⟨_, _, rfl, c0⟩, fun _ => ⟨_, _, rfl, p1⟩, fun _ => ⟨_, _, rfl, c4⟩, trivial⟩
  go_wp2_with fail
  have hk1 := h.drew.drew.keep hb1
  refine (fail_any C.r w1 false (hk1.cells.2.2.2.2.2.2.2.2.1.trans (by rw [HF.out])) (hk1.free 8).1).mono ?_
  rintro e w2 ⟨rfl, rfl⟩
  go_wp2
  go_ret
  exact ⟨rfl, ⟨_, vr, hk1.fail⟩, (((Below.refl _ _).drew.drew).trans (hb1.mono (Nat.le_of_lt hbase))).setCell h.br _⟩
set_option maxRecDepth 100000 in
set_option maxHeartbeats 6400000 in
theorem step_some (C : Cfg) (w : World) (vs vr : Value) (x : St) (rs : List (Int × List Int)) (ms : List Mach) (h : RunR C w vs vr x) (hr : Ready C w x rs ms) (hf : x.failed = false) (init : List Int) (top : Int) (hst : x.stack = init ++ [top]) (ht : 0 ≤ top)
    (i : Nat) (hp : predictR ms top (cutB (C.s.extract x.at_ C.s.size) C.k).data.toList = i) (hi : i < rs.length) :
    Calls Try.prog 10 #[.pointer (some ⟨C.r, 0, none⟩)] w (StepTo C w true { x with stack := init ++ rs[i].2.reverse, rules := x.rules ++ [(i : Int)] }) := by
  obtain ⟨c0, _, _, _, c4, c5, c6, _, c8, p0, p1⟩ := h.cells
  obtain ⟨g, cap, rfl, hc1, hc2, ct, hg⟩ := h.top hst
  have hz : ((init.length : Int) + 1 == 0) = false := by rw [beq_eq_false_iff_ne]; omega
  have hfr := (h.free 8).1
  have hat := hr.hat
  have hsz := hr.hs
  have hk := hr.hk
  have hll : init.length ≤ 1073741824 := by have := hr.ls; rw [hst] at this; simp at this; omega
  have hbase := h.size
  have hdt : decide (top < 0) = false := decide_eq_false (by omega)
  have hes : (C.s.extract x.at_ C.s.size).size ≤ 1099511627776 := by simp; omega
  have hces : (cutB (C.s.extract x.at_ C.s.size) C.k).size ≤ 1099511627776 := by unfold cutB; simp; omega
  have HP := Lib.hid hp
  have HF := Lib.hid hf
  have hdp : decide (0 ≤ (i : Int)) = true := decide_eq_true (by omega)
  have hmx : max (i : Int) 0 = i := by omega
  have h4 := hr.h4
  rw [hf] at c8
  have HST := Lib.hid hst
  obtain ⟨A3, c3, ev3, hc3, hc3'⟩ := hr.h3.form
  unfold maxLen at hc3'
  have hrl := hr.hrl _ (List.getElem_mem hi)
  have HH3 := Lib.hid hr.h3
  clear hf hst hp
  go_enter Try.func10, Try.ntmps10
  go_wp2_with fail
  refine Text.wp_text [] (by kernel_rfl) (by kernel_rfl) (fun Q' hQ' => ?_)
  go_wp2
  refine ⟨by rfl, ?_⟩
  go_wp2_with fail
  go_call isTermSym_any top _ as e w1 ⟨rfl, rfl⟩
  rw [hdt]
  go_wp2_with fail
  refine Text.wp_grow [24, 25] [3, 8, 11, 15, 18, 23] [] (by kernel_rfl) (by kernel_rfl) ?_
  refine Text.wpS_seg 24 _ _ _ _ (by decide) (fun Q' hQ' => ?_)
  simp only [List.take_succ_cons, List.take_zero]
  go_wp2_with fail
  simp only [Nat.zero_add, List.drop_succ_cons, List.drop_zero]
  refine Text.wpS_one (fun Q' hQ' => ?_)
  go_wp2_with fail
  refine (cut_any _ C.k w.drew.drew (by omega) hes).mono ?_
  rintro e w1 ⟨rfl, rfl⟩
  go_wp2_with fail
  refine ⟨Below.refl _ _, ?_⟩
  refine Text.wpS_one (fun Q' hQ' => ?_)
  go_wp2_with fail
  refine (predict_any C.v4 ms top _ w.drew.drew (h4.fut (N := w.heap.size) ((Below.refl _ _).drew.drew) (Nat.le_of_lt hbase) (Nat.le_of_lt hbase)) hces).mono ?_
  rintro e w1 ⟨rfl, hb1⟩
  rw [HP.out, hdp, hmx]
  go_wp2_with fail
  refine ⟨hb1, ?_⟩
  refine Text.wpS_seg 5 _ _ _ _ (by decide) (fun Q' hQ' => ?_)
  simp only [List.take_succ_cons, List.take_zero]
  go_wp2_with fail
  refine ⟨by rfl, ?_, ?_⟩
  · exact ⟨fun _ => ⟨_, _, rfl, c5⟩, fun _ => ⟨_, _, rfl, c0⟩, fun _ => ⟨_, _, rfl, p0⟩, fun _ => ⟨_, _, rfl, c0⟩, fun _ => ⟨_, _, rfl, p1⟩, fun _ => ⟨_, _, rfl, c4⟩, trivial⟩
  have hk1 := h.drew.drew.keep hb1
  have hb1b : Below C.base w w1 := ((Below.refl _ _).drew.drew).trans (hb1.mono (Nat.le_of_lt hbase))
  obtain ⟨d0, _, _, d3, _, _, d6, d7, _, _, _⟩ := hk1.cells
  clear c0 c4 c5 c6 c8 p0 p1 ct
  go_wp2_with (at_builtin; refine wpList_app int_app rfl rfl rfl rfl (hk1.ru.alloc _) (Rd.row (heap_alloc_new w1 _) (Nat.lt_succ_self _)) rfl (by simp [Value.oneCell']) ?h63 ?hby ?hbase ?_)
  case h63 => have := hr.lr; simp only [maxLen]; omega
  case hby => have := hr.lr; omega
  case hbase => have := hk1.size; simp; omega
  intro v1 w2 hown2 hg2 hor2 _
  obtain ⟨Av, cv, rfl, _, _⟩ := own_form hown2
  have hka := hk1.keep ((Below.refl w1.heap.size w1).alloc (Nat.le_refl _) (Obj.cells #[Value.int .i64 i] 3))
  have hk2 := hka.app_rules i hown2 hg2 (by rw [World.size_alloc]; exact hor2)
  have e2 := (hg2.block C.r (Array.getElem?_eq_some_iff.1 hka.run).1 (fun e => own_not hka.ru hka.run (by decide) e.symm)).trans hka.run
  have e3 := cell_of_row w2 C.r 3 _ _ _ e2
  have e7 := cell_of_row w2 C.r 7 _ _ _ e2
  have f7 := frozen_of_row w2 C.r 7 _ _ e2
  simp only [List.getElem?_toArray, List.getElem?_cons_succ, List.getElem?_cons_zero] at e3 e7
  have hbw2 : Below C.base w w2 := hb1b.trans (((Below.refl C.base w1).alloc (Nat.le_of_lt hk1.size) _).trans (below_of_grown hg2 (Nat.le_of_lt hka.size) fun g hg => (own_lt hka.ru hg).1))
  have h3' := HH3.out.below hbw2
  rw [ev3] at h3' e3
  obtain ⟨rb, ro, cs, rfl, _, hrb, hrep, hcell⟩ := h3'.get hi (by decide)
  obtain ⟨u, rfl, hu, _, _⟩ := eRule_open hrep
  obtain ⟨A5, c5, rfl, hc5, hc5'⟩ := hu.form
  have q1 := hcell 1 _ rfl
  clear hcell h3' hrep
  simp only [show eRule.size = 2 from rfl, ← Nat.add_assoc] at q1
  have hnr : rb ≠ C.r := by have := h.br; omega
  have hsz2 := hk2.size
  have HK2 := Lib.hid hk2
  have HU := Lib.hid (hu.fut (N := C.base) (B' := (w2.setCell ⟨C.r, 7, none⟩ (.slice Av (x.rules.length + 1) cv)).heap.size) ((Below.refl C.base w2).setCell (p := ⟨C.r, 7, none⟩) h.br (.slice Av (x.rules.length + 1) cv)) (Nat.le_refl _) (Nat.le_of_lt hsz2))
  have HB2 : Hid (Below C.base w (w2.setCell ⟨C.r, 7, none⟩ (.slice Av (x.rules.length + 1) cv))) := hbw2.setCell (p := ⟨C.r, 7, none⟩) h.br _
  clear hk2 hu
  go_wp2_with fail
  refine (clone_int _ rs[i].2 _ HU.out (by omega)).mono ?_
  rintro e w3 ⟨v', rfl, hown3, hb3⟩
  go_wp2_with fail
  refine (reverse_own _ v' rs[i].2 w3 hown3).mono ?_
  rintro e w4 ⟨rfl, hown4, hg4⟩
  obtain ⟨A6, c6, rfl, hc6, hc6'⟩ := own_form hown4
  have hb4 := hb3.trans (below_of_grown hg4 hb3.size fun g hg => (own_lt hown3 hg).1)
  have hk4 := HK2.out.keep hb4
  obtain ⟨_, _, _, _, _, _, m6, _, _, _, _⟩ := hk4.cells
  have hst4 : w4.drew.ownsRow C.base 3 1 (.slice (some ⟨g, 0, none⟩) (init.length + 1) cap) (init.length + 1) (icells x.stack) := by
    have h1 := hk4.drew.st
    have h2 : x.stack.length = init.length + 1 := by rw [HST.out]; simp
    rw [show ({ stack := x.stack, at_ := x.at_, rules := x.rules ++ [(i : Int)], failed := x.failed } : St).stack.length = init.length + 1 from h2] at h1
    exact h1
  have ht4 := own_take hst4 (m := init.length) (Nat.le_succ _)
  rw [show (icells x.stack).take init.length = icells init by rw [HST.out]; simp [icells]] at ht4
  go_wp2_with fail
  refine Text.wp_text [] (by kernel_rfl) (by kernel_rfl) (fun Q' hQ' => ?_)
  go_wp2_with (at_builtin; refine wpList_app int_app rfl rfl rfl rfl ht4 (Rd.of_own (w := w4.drew) hown4) (by simp [icells]) (icells_one _) ?h63 ?hby ?hbase ?_)
  case h63 => simp only [maxLen]; omega
  case hby => omega
  case hbase => exact Nat.le_of_lt hk4.size
  intro v5 w5 hown5 hg5 hor5 _
  obtain ⟨Aw, cw, rfl, _, _⟩ := own_form hown5
  have hk5 := hk4.drew.app_stack (init ++ rs[i].2.reverse) (by
    rw [List.length_append, List.length_reverse, show icells (init ++ rs[i].2.reverse) = icells init ++ icells rs[i].2.reverse by simp [icells]]
    exact hown5) hg5 hor5
  have g2 := (hg5.block C.r (Array.getElem?_eq_some_iff.1 hk4.drew.run).1 (fun e => own_not hk4.drew.st hk4.drew.run (by decide) e.symm)).trans hk4.drew.run
  have g6 := cell_of_row w5 C.r 6 _ _ _ g2
  have f6 := frozen_of_row w5 C.r 6 _ _ g2
  simp only [List.getElem?_toArray, List.getElem?_cons_succ, List.getElem?_cons_zero] at g6
  have hb5 : Below C.base w w5 := HB2.out.trans (((hb4.mono (Nat.le_of_lt hsz2)).drew).trans (below_of_grown hg5 (Nat.le_of_lt hk4.size) fun g hg => (own_lt ht4 hg).1))
  have HK5 := Lib.hid hk5
  clear hk5 m6
  go_wp2_with fail
  refine ⟨by rfl, ?_⟩
  go_wp2_with fail
  go_ret
  exact ⟨rfl, ⟨_, _, HK5.out⟩, hb5.setCell (p := ⟨C.r, 6, none⟩) h.br _⟩
end Go.Proofs.Ytkgmdoiadhafeaa
