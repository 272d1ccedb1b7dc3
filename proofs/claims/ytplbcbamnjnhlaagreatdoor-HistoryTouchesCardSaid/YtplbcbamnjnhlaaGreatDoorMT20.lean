import Derived.Test.YtplbcbamnjnhlaaGreatDoorMT00
import Derived.Test.YtplbcbamnjnhlaaGreatDoorMT08
import Derived.Test.YtplbcbamnjnhlaaGreatDoorMT04
import Derived.Maps.RangeWalk
set_option maxRecDepth 100000
set_option maxHeartbeats 40000000
namespace Go.Proofs.YtplbcbamnjnhlaaGreatDoor
open Go.RowKit
open Go.ChangeMaps (setBlock)

def ml {α : Type} [DecidableEq α] (l : List (α × Value)) (k : α) : List (α × Value) := l.eraseP fun p => decide (p.1 = k)
abbrev vf (e : MapEntry) : Value × Value := (e.key, e.val)
def zm (es : List MapEntry) (clock : Nat) : Prop := (∀ x ∈ es, x.born < clock) ∧ (es.map (·.born)).Nodup
def MapS {α : Type} (κ : α → Value) (w : World) (g : Nat) (l : List (α × Value)) : Prop :=
 ∃ (es : Array MapEntry) (clock : Nat), w.heap[g]? = some (.map es clock) ∧ es.toList.map vf = l.map (fun p => (κ p.1, p.2)) ∧ zm es.toList clock
def jl {α : Type} (κ : α → Value) (w : World) (r g : Nat) (l out : List (α × Value)) : Prop :=
 ∃ (es : Array MapEntry) (clock : Nat) (seen : Array Nat) (rest : List (α × Value)), w.heap[r]? = some (.mapIter (some g) clock seen clock) ∧ w.heap[g]? = some (.map es clock) ∧
  es.toList.map vf = l.map (fun p => (κ p.1, p.2)) ∧ zm es.toList clock ∧ (leftOf es seen).toList.map vf = rest.map (fun p => (κ p.1, p.2)) ∧ (out ++ rest).Perm l

section
variable {α : Type} {κ : α → Value} {w : World} {g : Nat} {l : List (α × Value)}
theorem MapS.toR (h : MapS κ w g l) : MapR κ w g l := by
 obtain ⟨es, c, hh, he, _⟩ := h
 exact ⟨es, c, hh, he⟩
theorem MapS.made (w : World) : MapS κ (w.alloc (.map #[] 0)) w.heap.size [] := ⟨#[], 0, hzn w _, rfl, by simp [zm]⟩
theorem MapS.lt (h : MapS κ w g l) : g < w.heap.size := h.toR.lt
theorem MapS.of_block {w' : World} (h : MapS κ w g l) (hb : w'.heap[g]? = w.heap[g]?) : MapS κ w' g l := by
 obtain ⟨es, c, hh, he⟩ := h
 exact ⟨es, c, hb.trans hh, he⟩
theorem MapS.below {B : Nat} {w' : World} (h : MapS κ w g l) (hb : Below B w w') (hg : g < B) : MapS κ w' g l := h.of_block (hb.block g hg)
theorem MapS.drew (h : MapS κ w g l) : MapS κ w.drew g l := h
theorem MapS.alloc (h : MapS κ w g l) (o : Obj) : MapS κ (w.alloc o) g l := h.of_block (Below.heap_alloc w o g h.lt)
theorem jl.of_blocks {r : Nat} {out : List (α × Value)} {w' : World} (h : jl κ w r g l out) (hr : w'.heap[r]? = w.heap[r]?) (hg : w'.heap[g]? = w.heap[g]?) : jl κ w' r g l out := by
 obtain ⟨es, c, seen, rest, h1, h2, h3⟩ := h
 exact ⟨es, c, seen, rest, hr.trans h1, hg.trans h2, h3⟩
theorem jl.lt {r : Nat} {out : List (α × Value)} (h : jl κ w r g l out) : r < w.heap.size := by
 obtain ⟨es, c, seen, rest, h1, _⟩ := h
 exact (gl h1)
theorem jl.lt_map {r : Nat} {out : List (α × Value)} (h : jl κ w r g l out) : g < w.heap.size := by
 obtain ⟨es, c, seen, rest, _, h1, _⟩ := h
 exact (gl h1)
theorem jl.le {r : Nat} {out : List (α × Value)} (h : jl κ w r g l out) : out.length ≤ l.length := by
 obtain ⟨es, c, seen, rest, _, _, _, _, _, h⟩ := h
 have := h.length_eq
 simp at this
 omega
end

section
variable {α : Type} [DecidableEq α] {P : Program} {mt kt et : TypeId} {κ : α → Value} {w : World} {g : Nat} {l : List (α × Value)}
theorem ol (w : World) (g : Nat) (o : Obj) : w.grownBy { w with heap := w.heap.setIfInBounds g o } (some g) := ⟨rfl, rfl, rfl, by simp, fun k' _ hne => by
 have : g ≠ k' := fun e => hne (by rw [e])
 simp [Array.getElem?_setIfInBounds_ne this]⟩
theorem qch {es : List MapEntry} {c : Nat} (h : zm es c) (k v : Value) : zm (es ++ [{ key := k, val := v, born := c }]) (c + 1) := by
 constructor
 ·intro x hx
  rcases List.mem_append.1 hx with hx | hx
  ·have := h.1 x hx; omega
  ·simp at hx; subst hx; simp
 ·rw [List.map_append, List.nodup_append]
  refine ⟨h.2, by simp, ?_⟩
  intro a ha b hb
  obtain ⟨x, hx, rfl⟩ := List.mem_map.1 ha
  simp at hb
  have := h.1 x hx
  omega
theorem MapS.update (K : rl P mt kt et κ) (h : MapS κ w g l) (k : α) (v : Value) :
  ∃ w', (Instr.mapUpdate mt (.map (some g)) (κ k) v).run P w = .ok () w' ∧ MapS κ w' g (mj l k v) ∧ w.grownBy w' (some g) ∧ w'.heap.size = w.heap.size := by
 obtain ⟨es, c, hh, he, hst⟩ := h
 have hf := K.find k l es.toList w he
 have hlt : g < w.heap.size := (gl hh)
 rw [qax]
 cases hi : l.findIdx? fun p => decide (p.1 = k) with
 |none =>
  rw [hi] at hf
  simp only [Option.bind_none] at hf
  refine ⟨{ w with heap := w.heap.setIfInBounds g (.map (es.push { key := κ k, val := v, born := c }) (c + 1)) }, ?_, ⟨es.push { key := κ k, val := v, born := c }, c + 1, by simp [hlt], ?_, ?_⟩, ol w g _, by simp⟩
  ·simp [Instr.mapUpdate, run_underlying K.und, getObj, Sem.run, hh, K.check, hf, setObj, Result.andThen]
  ·simp [he, vf]
  ·rw [Array.toList_push]; exact qch hst _ _
 |some i =>
  have hil : i < l.length := by
   rw [List.findIdx?_eq_some_iff_getElem] at hi
   exact hi.1
  have hik : l[i].1 = k := by
   rw [List.findIdx?_eq_some_iff_getElem] at hi
   simpa using hi.2.1
  have hsz : es.size = l.length := by
   have := congrArg List.length he
   simpa using this
  have hie : i < es.size := by omega
  have hei : (es[i]).key = κ k := by
   have := congrArg (fun q => q[i]?) he
   simp [hil, hie, vf] at this
   rw [this.1, hik]
  rw [hi] at hf
  simp only [Option.bind_some, List.getElem?_eq_getElem hil, Option.map_some] at hf
  refine ⟨{ w with heap := w.heap.setIfInBounds g (.map (es.modify i fun e => { e with key := κ k, val := v }) c) }, ?_, ⟨es.modify i fun e => { e with key := κ k, val := v }, c, by simp [hlt], ?_, ?_⟩, ol w g _, by simp⟩
  ·simp [Instr.mapUpdate, run_underlying K.und, getObj, Sem.run, hh, K.check, hf, setObj, Result.andThen, Instr.keyThatStays, hei, hie, K.stays]
  ·apply List.ext_getElem?
   intro j
   have hj := congrArg (fun q => q[j]?) he
   simp only [List.getElem?_map, Array.getElem?_toList] at hj ⊢
   rw [Array.getElem?_modify, List.getElem?_set]
   by_cases hji : i = j
   ·subst hji
    simp [hil, hie, vf]
   ·rw [if_neg hji, if_neg hji]
    exact hj
  ·have hb : (es.modify i fun e => { e with key := κ k, val := v }).toList.map (·.born) = es.toList.map (·.born) := by
    apply List.ext_getElem?
    intro j
    simp only [List.getElem?_map, Array.getElem?_toList, Array.getElem?_modify]
    by_cases hji : i = j
    ·subst hji; simp [hie]
    ·rw [if_neg hji]
   refine ⟨fun x hx => ?_, by rw [hb]; exact hst.2⟩
   have : x.born ∈ es.toList.map (·.born) := by rw [← hb]; exact List.mem_map.2 ⟨x, hx, rfl⟩
   obtain ⟨y, hy, e⟩ := List.mem_map.1 this
   rw [← e]; exact hst.1 y hy
theorem nf {ops : Array Oper} {rest : List Oper} {o : Oper} {a : Act} {Q : Exit → Act → World → Prop} {m x y : Operand} (K : rl P mt kt et κ) (hgd : o.guard = none) (ho : o.op = .mapUpdate mt m x y)
  {k : α} {v : Value} (hm : a.eval m = .map (some g)) (hx : a.eval x = κ k) (hy : a.eval y = v) (h : MapS κ w g l)
  (hK : ∀ w', MapS κ w' g (mj l k v) → w.grownBy w' (some g) → w'.heap.size = w.heap.size → wpList P ops Q rest (a.put o.dst undef) w') : wpList P ops Q (o :: rest) a w := by
 refine wpList_plain hgd fun K' hK' => ?_
 obtain ⟨w', hrun, h1, h2, h3⟩ := h.update K k v
 unfold Oper.wp execOp
 simp only [ho, Sem.run_bind, Sem.run_pure, hm, hx, hy, hrun, Result.andThen]
 exact hK' _ _ (hK w' h1 h2 h3)
theorem qbs {β γ : Type} (f : β → γ) : ∀ (l : List β) (i : Nat), (l.eraseIdx i).map f = (l.map f).eraseIdx i
 |[], _ => rfl
 |x :: r, 0 => rfl
 |x :: r, i + 1 => by simp [qbs f r i]
theorem MapS.delete (K : rl P mt kt et κ) (h : MapS κ w g l) (k : α) (ty : TypeId) :
  ∃ w', (Builtin.delete_ #[mt, kt] ty #[.map (some g), κ k]).run P w = .ok (.tuple #[]) w' ∧ MapS κ w' g (ml l k) ∧ w.grownBy w' (some g) ∧ w'.heap.size = w.heap.size := by
 obtain ⟨es, c, hh, he, hst⟩ := h
 have hf := K.find k l es.toList w he
 have hlt : g < w.heap.size := (gl hh)
 have hdel : ml l k = match l.findIdx? fun p => decide (p.1 = k) with | some i => l.eraseIdx i | none => l := by
  unfold ml
  rw [List.eraseP_eq_eraseIdx]
  cases l.findIdx? fun p => decide (p.1 = k) <;> rfl
 rw [hdel]
 cases hi : l.findIdx? fun p => decide (p.1 = k) with
 |none =>
  rw [hi] at hf
  simp only [Option.bind_none] at hf
  refine ⟨{ w with heap := w.heap.setIfInBounds g (.map es c) }, ?_, ⟨es, c, by simp [hlt], he, hst⟩, ol w g _, by simp⟩
  simp [Builtin.delete_, run_underlying K.und, getObj, Sem.run, hh, K.check, hf, setObj, Result.andThen]
 |some i =>
  have hil : i < l.length := by
   rw [List.findIdx?_eq_some_iff_getElem] at hi
   exact hi.1
  have hsz : es.size = l.length := by
   have := congrArg List.length he
   simpa using this
  have hie : i < es.size := by omega
  rw [hi] at hf
  simp only [Option.bind_some, List.getElem?_eq_getElem hil, Option.map_some] at hf
  have hl : (es.eraseIdxIfInBounds i).toList = es.toList.eraseIdx i := by
   unfold Array.eraseIdxIfInBounds
   rw [dif_pos hie, Array.toList_eraseIdx]
  refine ⟨{ w with heap := w.heap.setIfInBounds g (.map (es.eraseIdxIfInBounds i) c) }, ?_, ⟨es.eraseIdxIfInBounds i, c, by simp [hlt], ?_, ?_⟩, ol w g _, by simp⟩
  ·simp [Builtin.delete_, run_underlying K.und, getObj, Sem.run, hh, K.check, hf, setObj, Result.andThen]
  ·rw [hl, qbs, he, ← qbs]
  ·rw [hl]
   have hs := List.eraseIdx_sublist es.toList i
   exact ⟨fun x hx => hst.1 x (hs.subset hx), (hs.map _).nodup hst.2⟩
theorem ng {ops : Array Oper} {rest : List Oper} {o : Oper} {a : Act} {Q : Exit → Act → World → Prop} {m x : Operand} (K : rl P mt kt et κ) (hgd : o.guard = none) (ho : o.op = Op.call { callee := Callee.builtin Builtin.delete, args := #[m, x], argTypes := #[mt, kt] })
  {k : α} (hm : a.eval m = .map (some g)) (hx : a.eval x = κ k) (h : MapS κ w g l)
  (hK : ∀ w', MapS κ w' g (ml l k) → w.grownBy w' (some g) → w'.heap.size = w.heap.size → wpList P ops Q rest (a.put o.dst (.tuple #[])) w') : wpList P ops Q (o :: rest) a w := by
 refine wpList_plain hgd fun K' hK' => ?_
 obtain ⟨w', hrun, h1, h2, h3⟩ := h.delete K k o.type
 unfold Oper.wp
 simp [execOp, ho, resolve, invoke, builtin, hm, hx, hrun, Result.andThen]
 exact hK' _ _ (hK w' h1 h2 h3)
theorem xy {ops : Array Oper} {rest : List Oper} {o : Oper} {a : Act} {Q : Exit → Act → World → Prop} {m : Operand} (K : rl P mt kt et κ) (hgd : o.guard = none) (ho : o.op = Op.range mt m)
  (hm : a.eval m = .map (some g)) (h : MapS κ w g l)
  (hK : ∀ w', jl κ w' w.heap.size g l [] → w.grownBy w' none → w'.heap.size = w.heap.size + 1 → wpList P ops Q rest (a.put o.dst (.pointer (some ⟨w.heap.size, 0, none⟩))) w') : wpList P ops Q (o :: rest) a w := by
 refine wpList_plain hgd fun K' hK' => ?_
 obtain ⟨es, c, hh, he, hst⟩ := h
 have hlt : g < w.heap.size := (gl hh)
 have hrun := run_range_map (P := P) w mt kt et g es c K.und hh
 unfold Oper.wp
 simp [execOp, ho, hm, hrun, Result.andThen]
 refine hK' _ _ (hK _ ⟨es, c, #[], l, hzn w _, (Below.heap_alloc w _ g hlt).trans hh, he, hst, ?_, by simp⟩ (World.grownBy_alloc _ _ _) (by simp))
 have : leftOf es #[] = es := by unfold leftOf; simp
 rw [this]; exact he
end
section
variable {α : Type} {P : Program} {κ : α → Value} {w : World} {g : Nat} {l : List (α × Value)}
theorem qtq {es : Array MapEntry} {seen : Array Nat} {c : Nat} (hst : zm es.toList c) {xs ys : List MapEntry} {e : MapEntry} (h : (leftOf es seen).toList = xs ++ e :: ys) : (leftOf es (seen.push e.born)).toList = xs ++ ys := by
 have hsub : (leftOf es seen).toList.Sublist es.toList := by unfold leftOf; rw [Array.toList_filter]; exact List.filter_sublist
 have hn : ((leftOf es seen).toList.map (·.born)).Nodup := (hsub.map _).nodup hst.2
 have e1 : (leftOf es (seen.push e.born)).toList = (leftOf es seen).toList.filter fun x => !(x.born == e.born) := by
  unfold leftOf
  rw [Array.toList_filter, Array.toList_filter, List.filter_filter]
  congr 1
  funext x
  rw [contains_push, Bool.not_or, Bool.and_comm]
 rw [e1, h, List.filter_append, List.filter_cons]
 rw [h, List.map_append, List.map_cons, List.nodup_append] at hn
 obtain ⟨_, hn2, hn3⟩ := hn
 rw [List.nodup_cons] at hn2
 have f1 : xs.filter (fun x => !(x.born == e.born)) = xs := by
  rw [List.filter_eq_self]
  intro x hx
  have := hn3 x.born (List.mem_map.2 ⟨x, hx, rfl⟩) e.born (by simp)
  simpa using this
 have f2 : ys.filter (fun x => !(x.born == e.born)) = ys := by
  rw [List.filter_eq_self]
  intro x hx
  have : x.born ≠ e.born := fun he => hn2.1 (List.mem_map.2 ⟨x, hx, he⟩)
  simpa using this
 rw [f1, f2]
 simp
theorem jl.next {r : Nat} {out : List (α × Value)} (h : jl κ w r g l out) (hne : r ≠ g) (ty : TypeId) :
  (out.Perm l ∧ (Instr.next (.pointer (some ⟨r, 0, none⟩)) false ty).run P w = .ok (.tuple #[.bool false]) w) ∨
  ∃ (p : α × Value) (w' : World), (Instr.next (.pointer (some ⟨r, 0, none⟩)) false ty).run P w = .ok (.tuple #[.bool true, κ p.1, p.2]) w' ∧ jl κ w' r g l (out ++ [p]) ∧ w.grownBy w' (some r) ∧ w'.heap.size = w.heap.size ∧
   (Instr.entry (.pointer (some ⟨r, 0, none⟩))).run P w' = .ok (.tuple #[κ p.1, p.2]) w' := by
 obtain ⟨es, c, seen, rest, h1, h2, h3, h4, h5, h6⟩ := h
 rcases run_next_at (P := P) w ty r g c c seen es c h1 h2 h4.1 (nr _) with ⟨h0, hrun⟩ | ⟨e, he, w1, hw1, hrun⟩
 ·left
  have hr : rest = [] := by
   have := congrArg List.length h5
   simp [h0] at this
   exact List.eq_nil_of_length_eq_zero this.symm
  subst hr
  exact ⟨by simpa using h6, hrun⟩
 ·right
  obtain ⟨xs, ys, hxy⟩ := List.append_of_mem he
  have hm := h5
  rw [hxy, List.map_append, List.map_cons] at hm
  obtain ⟨us, bs, rfl, ha, hb⟩ := List.append_eq_map_iff.1 hm
  obtain ⟨p, cs, rfl, hp, hc⟩ := List.map_eq_cons_iff.1 hb
  have hpk : e.key = κ p.1 ∧ e.val = p.2 := by
   have := hp
   simp [vf] at this
   exact ⟨this.1.symm, this.2.symm⟩
  have hlt : r < w.heap.size := (gl h1)
  have hr1 : w1.heap = w.heap := by rcases hw1 with rfl | rfl <;> rfl
  have hg1 : (setBlock w1 r (.mapIter (some g) c (seen.push e.born) c)).heap[g]? = some (.map es c) := by
   show (w1.heap.setIfInBounds r _)[g]? = _
   rw [Array.getElem?_setIfInBounds_ne hne, hr1, h2]
  have hrr : (setBlock w1 r (.mapIter (some g) c (seen.push e.born) c)).heap[r]? = some (.mapIter (some g) c (seen.push e.born) c) := by
   show (w1.heap.setIfInBounds r _)[r]? = _
   simp [hr1, hlt]
  refine ⟨p, setBlock w1 r (.mapIter (some g) c (seen.push e.born) c), by rw [hrun, hpk.1, hpk.2], ⟨es, c, seen.push e.born, us ++ cs, hrr, hg1, h3, h4, ?_, ?_⟩, ?_, ?_, ?_⟩
  ·rw [qtq h4 hxy, List.map_append, List.map_append, ha, hc]
  ·refine List.Perm.trans ?_ h6
   simp only [List.append_assoc]
   refine List.Perm.append_left out ?_
   simp only [List.singleton_append]
   exact List.perm_middle.symm
  ·have hgr := ol w1 r (.mapIter (some g) c (seen.push e.born) c)
   rcases hw1 with rfl | rfl
   ·exact hgr
   ·exact ⟨hgr.os, hgr.tape, hgr.output, hgr.size, hgr.block⟩
  ·show (w1.heap.setIfInBounds r _).size = _
   rw [Array.size_setIfInBounds, hr1]
  ·have hin : e ∈ es.toList := (mem_left he).1
   have := run_entry_at (P := P) (setBlock w1 r (.mapIter (some g) c (seen.push e.born) c)) r g c seen es c e hrr hg1 hin h4.2
   rw [this, hpk.1, hpk.2]
theorem zr {ops : Array Oper} {rest : List Oper} {o : Oper} {a : Act} {Q : Exit → Act → World → Prop} {it : Operand} {r : Nat} {out : List (α × Value)} (hgd : o.guard = none) (ho : o.op = Op.next it false)
  (hit : a.eval it = .pointer (some ⟨r, 0, none⟩)) (h : jl κ w r g l out) (hne : r ≠ g)
  (hDone : out.Perm l → wpList P ops Q rest (a.put o.dst (.tuple #[.bool false])) w)
  (hMore : ∀ (p : α × Value) (w' : World), jl κ w' r g l (out ++ [p]) → w.grownBy w' (some r) → w'.heap.size = w.heap.size → (Instr.entry (.pointer (some ⟨r, 0, none⟩))).run P w' = .ok (.tuple #[κ p.1, p.2]) w' →
   wpList P ops Q rest (a.put o.dst (.tuple #[.bool true, κ p.1, p.2])) w') : wpList P ops Q (o :: rest) a w := by
 refine wpList_plain hgd fun K' hK' => ?_
 unfold Oper.wp
 rcases h.next (P := P) hne o.type with ⟨hp, hrun⟩ | ⟨p, w', hrun, h1, h2, h3, h4⟩
 ·simp [execOp, ho, hit, hrun, Result.andThen]
  exact hK' _ _ (hDone hp)
 ·simp [execOp, ho, hit, hrun, Result.andThen]
  exact hK' _ _ (hMore p w' h1 h2 h3 h4)
end

theorem ql {P : Program} {w : World} {ops : Array Oper} {rest : List Oper} {o : Oper} {a : Act} {Q : Exit → Act → World → Prop} (t : TypeId) (hgd : o.guard = none) (ho : o.op = .makeMap t none)
  (h : wpList P ops Q rest (a.put o.dst (.map (some w.heap.size))) (w.alloc (.map #[] 0))) : wpList P ops Q (o :: rest) a w := by
 refine wpList_plain hgd fun K' hK' => ?_
 have hrun : (Instr.makeMap t none).run P w = .ok (.map (some w.heap.size)) (w.alloc (.map #[] 0)) := by
  simp [Instr.makeMap, newObj, Sem.run, Result.andThen]
 unfold Oper.wp execOp
 simp only [ho, Option.map_none, Sem.run_bind, hrun, Result.andThen_ok, Sem.run_pure]
 exact hK' _ _ h
theorem qm {α : Type} [DecidableEq α] {P : Program} {mt kt et : TypeId} {κ : α → Value} {w : World} {g : Nat} {l : List (α × Value)} {ops : Array Oper} {rest : List Oper} {o : Oper} {a : Act} {Q : Exit → Act → World → Prop} {m x : Operand} (K : rl P mt kt et κ)
  (hw : Region.wanted o (yielded ops a.tmps) = true) (ho : o.op = .lookup mt m x false) {k : α} (hm : a.eval m = .map (some g)) (hx : a.eval x = κ k) (h : MapS κ w g l) {z : Value} (hz : ∀ w : World, (zeroValue et).run P w = .ok z w)
  (hK : wpList P ops Q rest (a.put o.dst ((ka l k).getD z)) w) : wpList P ops Q (o :: rest) a w := by
 refine wpList_step fun K' hK' => ?_
 rw [if_pos hw]
 unfold Oper.wp execOp
 simp only [ho, hm, hx, Sem.run_bind, h.toR.lookup K hz k, Result.andThen_ok, Sem.run_pure]
 exact hK' _ _ hK
theorem lc {α : Type} [DecidableEq α] {P : Program} {mt kt et : TypeId} {κ : α → Value} {w : World} {g : Nat} {l : List (α × Value)} {ops : Array Oper} {rest : List Oper} {o : Oper} {a : Act} {Q : Exit → Act → World → Prop} {m x : Operand} (K : rl P mt kt et κ)
  (hw : Region.wanted o (yielded ops a.tmps) = true) (ho : o.op = .lookup mt m x true) {k : α} (hm : a.eval m = .map (some g)) (hx : a.eval x = κ k) (h : MapS κ w g l) {z : Value} (hz : ∀ w : World, (zeroValue et).run P w = .ok z w)
  (hK : wpList P ops Q rest (a.put o.dst (.tuple #[(ka l k).getD z, .bool (ka l k).isSome])) w) : wpList P ops Q (o :: rest) a w := by
 refine wpList_step fun K' hK' => ?_
 rw [if_pos hw]
 unfold Oper.wp execOp
 simp only [ho, hm, hx, Sem.run_bind, h.toR.lookup_ok K hz k, Result.andThen_ok, Sem.run_pure]
 exact hK' _ _ hK
theorem qak {P : Program} {w : World} {ty kt et : TypeId} {v : Value} {p : Addr} (hu : P.underlying ty = some (.map kt et)) (hc : w.cell? p = some v) : (Instr.loadAt ty (.pointer (some p))).run P w = .ok v w := by
 have hagg : (isAgg ty).run P w = .ok false w := by
  unfold isAgg
  rw [Sem.run_bind, run_underlying hu w]
  rfl
 simp [Instr.loadAt, Instr.sureAddr, loadVar, Sem.run_bind, hagg, hc]

abbrev K32 := { k : List UInt8 × Int // k.1.length = 32 }
instance : Inhabited K32 := ⟨⟨(List.replicate 32 0, 0), by simp⟩⟩
def kv (k : K32) : Value := hkv k.1.1 k.1.2
theorem vd {P : Program} {α : Type} [DecidableEq α] {κ : α → Value} {kt : TypeId} (hs : ∀ (a b : α) (w : World), (Op.equal kt (κ a) (κ b)).run P w = .ok (decide (a = b)) w) (k : α) (w : World) : ∀ (l : List (α × Value)) (es : List MapEntry) (n : Nat), es.map vf = l.map (fun p => (κ p.1, p.2)) →
  (Instr.findAsking kt (κ k) es n).run P w = .ok ((l.findIdx? fun p => decide (p.1 = k)).bind fun i => (l[i]?).map fun p => (n + i, p.2)) w
 |[], [], n, _ => rfl
 |[], e :: es, n, h => by simp at h
 |p :: r, [], n, h => by simp at h
 |p :: r, e :: es, n, h => by
  simp only [List.map_cons, List.cons.injEq, Prod.mk.injEq, vf] at h
  unfold Instr.findAsking
  rw [h.1.1, List.findIdx?_cons]
  simp only [Sem.run_bind, hs, Result.andThen_ok]
  by_cases hp : p.1 = k
  ·simp [hp, h.1.2]
  ·have hp' : ¬ k = p.1 := fun e => hp e.symm
   simp only [hp, hp', decide_false, Bool.false_eq_true, if_false]
   rw [vd hs k w r es (n + 1) h.2]
   cases hf : r.findIdx? fun p => decide (p.1 = k) with
   |none => simp
   |some i => simp [Nat.add_assoc, Nat.add_comm 1 i]
theorem qfw {P : Program} {w : World} {β : Type} (f : β → Sem Unit) : ∀ (l : List β), (∀ i ∈ l, (f i).run P w = .ok () w) → (forIn (m := Sem) l PUnit.unit fun i _ => do f i; pure (ForInStep.yield PUnit.unit)).run P w = .ok PUnit.unit w
 |[], _ => rfl
 |i :: r, h => by
  rw [List.forIn_cons]
  simp only [Sem.run_bind, h i (by simp), Result.andThen_ok, Sem.run_pure]
  exact qfw f r (fun j hj => h j (by simp [hj]))
theorem qcw {P : Program} {w : World} {t : TypeId} {q : IntKind} (hu : P.underlying t = some (.int q)) (b : Bool) (n : Nat) (v : Value) : (Instr.checkKey b (n + 1) t v).run P w = .ok () w := by
 unfold Instr.checkKey
 simp only [Sem.run_bind, run_underlying hu, Result.andThen_ok, Sem.run_pure]
theorem qpn {P : Program} {w : World} {ta e : TypeId} (T : qcd P ta e) (b : Bool) (n : Nat) {h : List UInt8} (hh : h.length = 32) : (Instr.checkKey b (n + 2) ta (jc h)).run P w = .ok () w := by
 unfold Instr.checkKey
 simp only [Sem.run_bind, run_underlying T.ua, Result.andThen_ok]
 have hag : (isAgg e).run P w = .ok false w := by
  unfold isAgg
  rw [Sem.run_bind, run_underlying T.ue w]
  rfl
 have key := qfw (P := P) (w := w) (fun i : Nat => do Instr.checkKey b (n + 1) e (← part e (ak h).toArray (i * (← sizeOf e)))) (List.range' 0 32 1) (fun i hi => by
  have hi : i < 32 := by simpa [List.mem_range'] using hi
  have hg : (ak h).toArray[i]? = some (ic h[i]) := by simp [ak, hh, hi]
  simp only [Sem.run_bind, T.se, Result.andThen_ok, part, hag, Nat.mul_one, Bool.false_eq_true, if_false, hg, Sem.run_pure]
  exact qcw T.ue b n _)
 simp only [Std.Legacy.Range.forIn_eq_forIn_range', bind_assoc] at key ⊢
 have e : (⟨0, 32, 1, by decide⟩ : Std.Legacy.Range).size = 32 := rfl
 simp at key ⊢
 rw [key]
 rfl
theorem qts {P : Program} {w : World} {ta e : TypeId} (T : qcd P ta e) (z : List UInt8) (c : Int) (hz : z.length = 32) : (part ta (af z c).toArray 0).run P w = .ok (jc z) w := by
 have e1 : (af z c).toArray.extract 0 (0 + 32) = (ak z).toArray := by
  simp only [List.extract_toArray, af, Nat.zero_add, List.extract_eq_take_drop, List.drop_zero, Nat.sub_zero]
  congr 1
  rw [List.take_append_of_le_length (by rw [am]; omega), List.take_of_length_le (by rw [am]; omega)]
 have hagg : (isAgg ta).run P w = .ok true w := by
  unfold isAgg
  rw [Sem.run_bind, run_underlying T.ua w]
  rfl
 unfold part
 simp only [Sem.run_bind, hagg, Result.andThen_ok, if_true, T.sa, Sem.run_pure]
 rw [e1]
theorem qtr {P : Program} {w : World} {ti : TypeId} (ui : P.underlying ti = some (.int .i64)) (z : List UInt8) (c : Int) (hz : z.length = 32) : (part ti (af z c).toArray 32).run P w = .ok (.int .i64 c) w := by
 have hagg : (isAgg ti).run P w = .ok false w := by
  unfold isAgg
  rw [Sem.run_bind, run_underlying ui w]
  rfl
 have hg : (af z c).toArray[32]? = some (.int .i64 c) := by
  rw [← Array.getElem?_toList]
  exact gb z c hz
 unfold part
 simp only [Sem.run_bind, hagg, Result.andThen_ok, Bool.false_eq_true, if_false, hg, Sem.run_pure]
theorem check_hk {P : Program} {w : World} {t ta e ti : TypeId} {f0 f1 : Field} (T : HkTy P t ta e ti f0 f1) (b : Bool) (n : Nat) {h : List UInt8} (k : Int) (hh : h.length = 32) : (Instr.checkKey b (n + 3) t (hkv h k)).run P w = .ok () w := by
 unfold Instr.checkKey
 simp only [Sem.run_bind, run_underlying T.ut, Result.andThen_ok]
 have p0 := qts (P := P) (w := w) T.H h k hh
 have p1 := qtr (P := P) (w := w) T.ui h k hh
 have c0 := qpn (P := P) (w := w) T.H b n hh
 have c1 := qcw (P := P) (w := w) T.ui b (n + 1) (.int .i64 k)
 simp [T.n0, T.n1, T.t0, T.t1, T.o0, T.o1, Sem.run_bind, p0, p1, c0, c1, Sem.run_pure, Result.andThen]
theorem vl (n : Nat) : ∀ (l : List Value), (∀ v ∈ l, Instr.sameBits n v v = true) → (l.zip l).all (fun p => Instr.sameBits n p.1 p.2) = true
 |[], _ => rfl
 |v :: r, h => by
  rw [List.zip_cons_cons, List.all_cons, h v (by simp), vl n r fun u hu => h u (by simp [hu])]
  rfl
theorem qmf {P : Program} {mt t ta e ti et : TypeId} {f0 f1 : Field} (T : HkTy P t ta e ti f0 f1) (h1 : P.underlying mt = some (.map t et)) : rl P mt t et kv where
 und := h1
 check := fun b a w => check_hk T b 9997 a.1.2 a.2
 find := fun k l es w h => by
  unfold Instr.findKey
  have hn : Instr.findNow (.struct #[f0, f1]) (kv k) es 0 = none ∨ es = [] := by
   cases es with
   |nil => right; rfl
   |cons e r =>
    left
    cases l with
    |nil => simp at h
    |cons p q =>
     simp only [List.map_cons, List.cons.injEq, Prod.mk.injEq] at h
     unfold Instr.findNow
     rw [h.1.1]
     rfl
  have hs := vd (P := P) (κ := kv) (kt := t) (fun a b w => by
   have := qbu (P := P) (w := w) 9997 T (a := a.1.2) (b := b.1.2) a.2 b.2
   rw [show (decide (a = b)) = (decide (a.1.1 = b.1.1) && decide (a.1.2 = b.1.2)) by
    rw [← Bool.decide_and, decide_eq_decide]
    exact ⟨fun h => by rw [h]; exact ⟨rfl, rfl⟩, fun h => Subtype.ext (Prod.ext h.1 h.2)⟩]
   exact this) k w l es 0 h
  rcases hn with hn | hn
  ·simp only [Sem.run_bind, run_underlying T.ut, Result.andThen_ok, hn, hs, Nat.zero_add]
  ·subst hn
   have hl : l = [] := by
    have := congrArg List.length h
    simp at this
    exact List.eq_nil_of_length_eq_zero this.symm
   subst hl
   simp only [Sem.run_bind, run_underlying T.ut, Result.andThen_ok, Instr.findNow, Sem.run_pure]
   rfl
 stays := fun a => by
  show Instr.sameBits (9999 + 1) (.agg (af a.1.1 a.1.2).toArray) (.agg (af a.1.1 a.1.2).toArray) = true
  unfold Instr.sameBits
  simp only [beq_self_eq_true, Bool.true_and]
  refine vl 9999 _ fun v hv => ?_
  simp only [af, List.mem_append, List.mem_singleton, ak, List.mem_map] at hv
  rcases hv with ⟨b, _, rfl⟩ | rfl
  ·simp [ic, Instr.sameBits]
  ·simp [Instr.sameBits]
end Go.Proofs.YtplbcbamnjnhlaaGreatDoor
