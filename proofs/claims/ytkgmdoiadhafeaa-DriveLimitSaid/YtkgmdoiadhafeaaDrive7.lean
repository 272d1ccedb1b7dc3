/- Run.Step as one law; drive.Begin; drive.Parse. -/
import Derived.Test.YtkgmdoiadhafeaaDrive6
namespace Go.Proofs.Ytkgmdoiadhafeaa
open Go.RowKit

/-- a step of a run: does it go on; how it stands then -/
def stepD (rs : List (Int × List Int)) (ms : List Mach) (s : ByteArray) (k : Nat) (x : St) : Bool × St :=
  if x.failed then (false, x) else
  match x.stack.getLast? with
  | none => if x.at_ = s.size then (false, x) else (true, { x with failed := true })
  | some top =>
    if top < 0 then
      if x.at_ < s.size ∧ bat s x.at_ = -1 - top then (true, { x with stack := x.stack.dropLast, at_ := x.at_ + 1 }) else (true, { x with failed := true })
    else
      if predictR ms top (cutB (s.extract x.at_ s.size) k).data.toList < 0 then (true, { x with failed := true })
      else (true, { x with
        stack := x.stack.dropLast ++ (rs.getD (predictR ms top (cutB (s.extract x.at_ s.size) k).data.toList).toNat (0, [])).2.reverse,
        rules := x.rules ++ [predictR ms top (cutB (s.extract x.at_ s.size) k).data.toList] })

theorem step_any (C : Cfg) (w : World) (vs vr : Value) (x : St) (rs : List (Int × List Int)) (ms : List Mach) (h : RunR C w vs vr x) (hr : Ready C w x rs ms) (hm : ∀ left l, predictR ms left l < rs.length) :
    Calls Try.prog 10 #[.pointer (some ⟨C.r, 0, none⟩)] w (StepTo C w (stepD rs ms C.s C.k x).1 (stepD rs ms C.s C.k x).2) := by
  rcases Bool.eq_false_or_eq_true x.failed with hf | hf
  · have : stepD rs ms C.s C.k x = (false, x) := by unfold stepD; rw [if_pos hf]
    rw [this]
    exact step_failed C w vs vr x h hf
  · have hnf : ¬ x.failed = true := by rw [hf]; decide
    cases hl : x.stack.getLast? with
    | none =>
      have h0 : x.stack = [] := List.getLast?_eq_none_iff.1 hl
      by_cases ha : x.at_ = C.s.size
      · have : stepD rs ms C.s C.k x = (false, x) := by unfold stepD; rw [if_neg hnf, hl]; simp only []; rw [if_pos ha]
        rw [this]
        exact step_done C w vs vr x rs ms h hr hf h0 ha
      · have : stepD rs ms C.s C.k x = (true, { x with failed := true }) := by unfold stepD; rw [if_neg hnf, hl]; simp only []; rw [if_neg ha]
        rw [this]
        exact step_left C w vs vr x rs ms h hr hf h0 ha
    | some top =>
      have hst : x.stack = x.stack.dropLast ++ [top] := by
        obtain ⟨ys, e⟩ := List.getLast?_eq_some_iff.1 hl
        rw [e]
        simp
      have hmem : top ∈ x.stack := by rw [hst]; simp
      by_cases ht : top < 0
      · by_cases hc : x.at_ < C.s.size ∧ bat C.s x.at_ = -1 - top
        · have : stepD rs ms C.s C.k x = (true, { x with stack := x.stack.dropLast, at_ := x.at_ + 1 }) := by unfold stepD; rw [if_neg hnf, hl]; simp only []; rw [if_pos ht, if_pos hc]
          rw [this]
          exact step_term_yes C w vs vr x rs ms h hr hf _ top hst ht (hr.bs top hmem).1 hc.1 hc.2
        · have : stepD rs ms C.s C.k x = (true, { x with failed := true }) := by unfold stepD; rw [if_neg hnf, hl]; simp only []; rw [if_pos ht, if_neg hc]
          rw [this]
          by_cases ha : x.at_ < C.s.size
          · exact step_term_no C w vs vr x rs ms h hr hf _ top hst ht (hr.bs top hmem).1 ha fun e => hc ⟨ha, e⟩
          · exact step_term_end C w vs vr x rs ms h hr hf _ top hst ht (Nat.le_antisymm hr.hat (by omega))
      · by_cases hp : predictR ms top (cutB (C.s.extract x.at_ C.s.size) C.k).data.toList < 0
        · have : stepD rs ms C.s C.k x = (true, { x with failed := true }) := by unfold stepD; rw [if_neg hnf, hl]; simp only []; rw [if_neg ht, if_pos hp]
          rw [this]
          exact step_none C w vs vr x rs ms h hr hf _ top hst (by omega) hp
        · have hlt := hm top (cutB (C.s.extract x.at_ C.s.size) C.k).data.toList
          obtain ⟨i, hi⟩ : ∃ i : Nat, predictR ms top (cutB (C.s.extract x.at_ C.s.size) C.k).data.toList = i := ⟨(predictR ms top (cutB (C.s.extract x.at_ C.s.size) C.k).data.toList).toNat, by omega⟩
          have hir : i < rs.length := by omega
          have : stepD rs ms C.s C.k x = (true, { x with stack := x.stack.dropLast ++ rs[i].2.reverse, rules := x.rules ++ [(i : Int)] }) := by
            unfold stepD
            rw [if_neg hnf, hl]
            simp only []
            rw [if_neg ht, if_neg hp, hi, Int.toNat_natCast, List.getD_eq_getElem?_getD, List.getElem?_eq_getElem hir]
            rfl
          rw [this]
          exact step_some C w vs vr x rs ms h hr hf _ top hst (by omega) i hi hir

/-- what holds of every run's state -/
structure Inv (s : ByteArray) (x : St) : Prop where
  hat : x.at_ ≤ s.size
  bs : ∀ y ∈ x.stack, -9223372036854775808 ≤ y ∧ y ≤ 9223372036854775807
  br : ∀ y ∈ x.rules, -9223372036854775808 ≤ y ∧ y ≤ 9223372036854775807
/-- what holds of rules and machines that may be -/
structure Fine (rs : List (Int × List Int)) (ms : List Mach) : Prop where
  len : rs.length ≤ 4096
  right : ∀ r ∈ rs, r.2.length ≤ 64
  num : ∀ r ∈ rs, ∀ y ∈ r.2, -9223372036854775808 ≤ y ∧ y ≤ 9223372036854775807
  may : ∀ left l, predictR ms left l < rs.length
theorem stepD_inv {rs : List (Int × List Int)} {ms : List Mach} {s : ByteArray} {k : Nat} {x : St} (hf : Fine rs ms) (h : Inv s x) : Inv s (stepD rs ms s k x).2 ∧ (stepD rs ms s k x).2.stack.length ≤ x.stack.length + 64 ∧ (stepD rs ms s k x).2.rules.length ≤ x.rules.length + 1 := by
  unfold stepD
  split
  · exact ⟨h, by simp, by simp⟩
  split
  · split
    · exact ⟨h, by simp, by simp⟩
    · exact ⟨⟨h.hat, h.bs, h.br⟩, by simp, by simp⟩
  · rename_i top hl
    split
    · split
      · rename_i hc
        exact ⟨⟨hc.1, fun y hy => h.bs y ((List.dropLast_sublist _).subset hy), h.br⟩, by simp; omega, by simp⟩
      · exact ⟨⟨h.hat, h.bs, h.br⟩, by simp, by simp⟩
    · split
      · exact ⟨⟨h.hat, h.bs, h.br⟩, by simp, by simp⟩
      · rename_i hp
        have hlt := hf.may top (cutB (s.extract x.at_ s.size) k).data.toList
        have hlen := hf.len
        generalize predictR ms top (cutB (s.extract x.at_ s.size) k).data.toList = p at hp hlt ⊢
        have hpn : p.toNat < rs.length := by omega
        rw [List.getD_eq_getElem?_getD, List.getElem?_eq_getElem hpn]
        have hmem : rs[p.toNat] ∈ rs := List.getElem_mem hpn
        refine ⟨⟨h.hat, fun y hy => ?_, fun y hy => ?_⟩, ?_, by simp⟩
        · simp only [Option.getD_some, List.mem_append, List.mem_reverse] at hy
          rcases hy with hy | hy
          · exact h.bs y ((List.dropLast_sublist _).subset hy)
          · exact hf.num _ hmem y hy
        · simp only [List.mem_append, List.mem_singleton] at hy
          rcases hy with hy | rfl
          · exact h.br y hy
          · omega
        · have := hf.right _ hmem
          simp
          omega

/-- what mayB says of the machines' answers -/
theorem runS_some {m : Mach} {l : List UInt8} {k : Nat} (h0 : m ≠ []) (h : runS m 0 l = some k) : k < m.length := runS_lt (List.length_pos_iff.2 h0) h
theorem may_fine {g : Gram} {ms : List Mach} (h : mayB g ms = true) (left : Int) (l : List UInt8) : predictR ms left l < g.2.2.length := by
  unfold predictR
  split
  · rename_i hc
    unfold mayB at h
    rw [Bool.and_eq_true, List.all_eq_true] at h
    have h1 := h.1 left.toNat (List.mem_range.2 (by omega))
    unfold machB at h1
    rw [List.all_eq_true] at h1
    generalize ms.getD left.toNat [] = m at h1 ⊢
    unfold runM
    split
    · omega
    · rename_i hne
      split
      · rename_i k hk
        have hkl := runS_some hne hk
        rw [List.getD_eq_getElem?_getD, List.getElem?_eq_getElem hkl]
        have h2 := h1 _ (List.getElem_mem hkl)
        unfold outB at h2
        simp only [Bool.or_eq_true, Bool.and_eq_true, decide_eq_true_eq] at h2
        show m[k].1 < _
        omega
      · omega
  · omega
theorem sl_num {w : World} {B : Nat} {v : Value} {xs : List Int} (h : SlR eInt w B v xs) : ∀ y ∈ xs, -9223372036854775808 ≤ y ∧ y ≤ 9223372036854775807 := by
  intro y hy
  obtain ⟨i, hi, rfl⟩ := List.getElem_of_mem hy
  obtain ⟨b, off, c, cs, _, _, _, hrep, _⟩ := h.at_ hi (by decide)
  exact hrep.2
theorem gram_fine {g : Gram} {w : World} {B : Nat} {v : Value} {ms : List Mach} (hg : gramB g = true) (hm : mayB g ms = true) (h3 : SlR eRule w B v g.2.2) : Fine g.2.2 ms := by
  have hg2 := hg
  unfold gramB at hg2
  simp only [Bool.and_eq_true, decide_eq_true_eq, List.all_eq_true] at hg2
  obtain ⟨⟨⟨⟨⟨⟨⟨_, _⟩, a3⟩, _⟩, _⟩, a6⟩, _⟩, _⟩ := hg2
  refine ⟨a3, fun r hr => ?_, fun r hr => ?_, may_fine hm⟩
  · have := a6 r hr
    unfold fitsB at this
    simp only [Bool.and_eq_true, decide_eq_true_eq] at this
    exact this.1.2
  · obtain ⟨i, hi, rfl⟩ := List.getElem_of_mem hr
    obtain ⟨b, off, c, cs, _, _, _, hrep, _⟩ := h3.at_ hi (by decide)
    obtain ⟨u, _, hu, _⟩ := eRule_open hrep
    exact sl_num hu
def beginB (g : Gram) (k : Int) (ms : List Mach) : Bool := decide (1 ≤ k ∧ k ≤ 4) && gramB g && mayB g ms
end Go.Proofs.Ytkgmdoiadhafeaa
