/- Maps of the call's own: what a look-up and a store do, told by a list of pairs in the order of insertion. No program is named here. -/
import Derived.Test.YtfheocdciekfoaaDoorWords
namespace Go.Proofs.YtfheocdciekfoaaDoor
open Go.RowKit

/-- the value that a list of pairs has for a key -/
def assoc {α : Type} [DecidableEq α] (l : List (α × Value)) (k : α) : Option Value := (l.find? fun p => decide (p.1 = k)).map (·.2)
/-- a value put at a key: in its place, or at the end -/
def assocSet {α : Type} [DecidableEq α] : List (α × Value) → α → Value → List (α × Value)
  | [], k, v => [(k, v)]
  | p :: r, k, v => if p.1 = k then (k, v) :: r else p :: assocSet r k v
/-- block g is a map whose entries are these pairs -/
def MapR {α : Type} (κ : α → Value) (w : World) (g : Nat) (l : List (α × Value)) : Prop :=
  ∃ (es : Array MapEntry) (clock : Nat), w.heap[g]? = some (.map es clock) ∧ es.toList.map (fun e => (e.key, e.val)) = l.map (fun p => (κ p.1, p.2))
/-- keys of a kind: they may be, are found, and stay -/
structure KeyTy {α : Type} [DecidableEq α] (P : Program) (mt kt et : TypeId) (κ : α → Value) : Prop where
  und : P.underlying mt = some (.map kt et)
  check : ∀ (b : Bool) (a : α) (w : World), (Instr.checkKey b 10000 kt (κ a)).run P w = .ok () w
  find : ∀ (k : α) (l : List (α × Value)) (es : List MapEntry) (w : World), es.map (fun e => (e.key, e.val)) = l.map (fun p => (κ p.1, p.2)) →
    (Instr.findKey kt (κ k) es).run P w = .ok ((l.findIdx? fun p => decide (p.1 = k)).bind fun i => (l[i]?).map fun p => (i, p.2)) w
  stays : ∀ a : α, Instr.sameBits 10000 (κ a) (κ a) = true

section
variable {α : Type} {κ : α → Value} {w : World} {g : Nat} {l : List (α × Value)}
theorem MapR.made (w : World) : MapR κ (w.alloc (.map #[] 0)) w.heap.size [] := ⟨#[], 0, heap_alloc_new w _, rfl⟩
theorem MapR.lt (h : MapR κ w g l) : g < w.heap.size := by
  obtain ⟨es, c, hh, _⟩ := h
  exact (Array.getElem?_eq_some_iff.1 hh).1
theorem MapR.of_block {w' : World} (h : MapR κ w g l) (hb : w'.heap[g]? = w.heap[g]?) : MapR κ w' g l := by
  obtain ⟨es, c, hh, he⟩ := h
  exact ⟨es, c, hb.trans hh, he⟩
theorem MapR.below {B : Nat} {w' : World} (h : MapR κ w g l) (hb : Below B w w') (hg : g < B) : MapR κ w' g l := h.of_block (hb.block g hg)
theorem MapR.drew (h : MapR κ w g l) : MapR κ w.drew g l := h
theorem MapR.alloc (h : MapR κ w g l) (o : Obj) : MapR κ (w.alloc o) g l := h.of_block (Below.heap_alloc w o g h.lt)
theorem MapR.grown {row : Option Nat} {w' : World} (h : MapR κ w g l) (hg : w.grownBy w' row) (hne : some g ≠ row) : MapR κ w' g l := h.of_block (hg.block g h.lt hne)
theorem MapR.setCell {p : Addr} {v : Value} (h : MapR κ w g l) (hp : g ≠ p.block) : MapR κ (w.setCell p v) g l := h.of_block (Below.heap_setCell w p v g hp)

end
section
variable {α : Type} [DecidableEq α] {P : Program} {mt kt et : TypeId} {κ : α → Value} {w : World} {g : Nat} {l : List (α × Value)}
theorem assoc_idx : ∀ (l : List (α × Value)) (k : α), ((l.findIdx? fun p => decide (p.1 = k)).bind fun i => (l[i]?).map fun p => (i, p.2)).map (·.2) = assoc l k
  | [], k => rfl
  | p :: r, k => by
    have ih := assoc_idx r k
    unfold assoc at ih ⊢
    rw [List.findIdx?_cons, List.find?_cons]
    by_cases hp : p.1 = k
    · simp [hp]
    · simp only [hp, decide_false, Bool.false_eq_true, if_false]
      rw [← ih]
      cases hf : r.findIdx? fun p => decide (p.1 = k) with
      | none => simp
      | some i => simp [Option.map_map, Function.comp_def]

theorem MapR.lookup (K : KeyTy P mt kt et κ) (h : MapR κ w g l) {z : Value} (hz : ∀ w : World, (zeroValue et).run P w = .ok z w) (k : α) :
    (Instr.lookup mt (.map (some g)) (κ k) false).run P w = .ok ((assoc l k).getD z) w := by
  obtain ⟨es, c, hh, he⟩ := h
  have hf := K.find k l es.toList w he
  have ha := assoc_idx l k
  cases hx : ((l.findIdx? fun p => decide (p.1 = k)).bind fun i => (l[i]?).map fun p => (i, p.2)) with
  | none =>
    rw [hx] at hf ha
    rw [← ha]
    simp [Instr.lookup, run_underlying K.und, getObj, Sem.run, hh, K.check, hf, hz, Sem.run_bind, Result.andThen]
  | some r =>
    rw [hx] at hf ha
    rw [← ha]
    simp [Instr.lookup, run_underlying K.und, getObj, Sem.run, hh, K.check, hf, Sem.run_bind, Result.andThen]
theorem MapR.lookup_ok (K : KeyTy P mt kt et κ) (h : MapR κ w g l) {z : Value} (hz : ∀ w : World, (zeroValue et).run P w = .ok z w) (k : α) :
    (Instr.lookup mt (.map (some g)) (κ k) true).run P w = .ok (.tuple #[(assoc l k).getD z, .bool (assoc l k).isSome]) w := by
  obtain ⟨es, c, hh, he⟩ := h
  have hf := K.find k l es.toList w he
  have ha := assoc_idx l k
  cases hx : ((l.findIdx? fun p => decide (p.1 = k)).bind fun i => (l[i]?).map fun p => (i, p.2)) with
  | none =>
    rw [hx] at hf ha
    rw [← ha]
    simp [Instr.lookup, run_underlying K.und, getObj, Sem.run, hh, K.check, hf, hz, Sem.run_bind, Result.andThen]
  | some r =>
    rw [hx] at hf ha
    rw [← ha]
    simp [Instr.lookup, run_underlying K.und, getObj, Sem.run, hh, K.check, hf, Sem.run_bind, Result.andThen]

theorem assocSet_idx : ∀ (l : List (α × Value)) (k : α) (v : Value), assocSet l k v = match l.findIdx? fun p => decide (p.1 = k) with
    | some i => l.set i (k, v)
    | none => l ++ [(k, v)]
  | [], k, v => rfl
  | p :: r, k, v => by
    have ih := assocSet_idx r k v
    unfold assocSet
    rw [List.findIdx?_cons]
    by_cases hp : p.1 = k
    · simp [hp]
    · simp only [hp, decide_false, Bool.false_eq_true, if_false]
      rw [ih]
      cases hf : r.findIdx? fun p => decide (p.1 = k) with
      | none => simp
      | some i => simp
/-- the world behind a store into the map: block g alone has turned -/
theorem MapR.update (K : KeyTy P mt kt et κ) (h : MapR κ w g l) (k : α) (v : Value) :
    ∃ w', (Instr.mapUpdate mt (.map (some g)) (κ k) v).run P w = .ok () w' ∧ MapR κ w' g (assocSet l k v) ∧ w.grownBy w' (some g) ∧ w'.heap.size = w.heap.size := by
  obtain ⟨es, c, hh, he⟩ := h
  have hf := K.find k l es.toList w he
  have hgrow : ∀ o : Obj, w.grownBy { w with heap := w.heap.setIfInBounds g o } (some g) := fun o => ⟨rfl, rfl, rfl, by simp, fun k' _ hne => by
    have : g ≠ k' := fun e => hne (by rw [e])
    simp [Array.getElem?_setIfInBounds_ne this]⟩
  have hlt : g < w.heap.size := (Array.getElem?_eq_some_iff.1 hh).1
  rw [assocSet_idx]
  cases hi : l.findIdx? fun p => decide (p.1 = k) with
  | none =>
    rw [hi] at hf
    simp only [Option.bind_none] at hf
    refine ⟨{ w with heap := w.heap.setIfInBounds g (.map (es.push { key := κ k, val := v, born := c }) (c + 1)) }, ?_, ⟨es.push { key := κ k, val := v, born := c }, c + 1, by simp [hlt], ?_⟩, hgrow _, by simp⟩
    · simp [Instr.mapUpdate, run_underlying K.und, getObj, Sem.run, hh, K.check, hf, setObj, Result.andThen]
    · simp [he]
  | some i =>
    have hil : i < l.length := by
      rw [List.findIdx?_eq_some_iff_getElem] at hi
      exact hi.1
    have hik : l[i].1 = k := by
      rw [List.findIdx?_eq_some_iff_getElem] at hi
      simpa using hi.2.1
    have hsz : es.size = l.length := by
      have := congrArg List.length he
      simpa using this
    have hie : i < es.size := by omega
    have hei : (es[i]).key = κ k := by
      have := congrArg (fun q => q[i]?) he
      simp [hil, hie] at this
      rw [this.1, hik]
    rw [hi] at hf
    simp only [Option.bind_some, List.getElem?_eq_getElem hil, Option.map_some] at hf
    refine ⟨{ w with heap := w.heap.setIfInBounds g (.map (es.modify i fun e => { e with key := κ k, val := v }) c) }, ?_, ⟨es.modify i fun e => { e with key := κ k, val := v }, c, by simp [hlt], ?_⟩, hgrow _, by simp⟩
    · simp [Instr.mapUpdate, run_underlying K.und, getObj, Sem.run, hh, K.check, hf, setObj, Result.andThen, Instr.keyThatStays, hei, hie, K.stays]
    · apply List.ext_getElem?
      intro j
      have hj := congrArg (fun q => q[j]?) he
      simp only [List.getElem?_map, Array.getElem?_toList] at hj ⊢
      rw [Array.getElem?_modify, List.getElem?_set]
      by_cases hji : i = j
      · subst hji
        simp [hil, hie]
      · rw [if_neg hji, if_neg hji]
        exact hj
theorem wpList_update {ops : Array Oper} {rest : List Oper} {o : Oper} {a : Act} {Q : Exit → Act → World → Prop} {m x y : Operand} (K : KeyTy P mt kt et κ) (hgd : o.guard = none) (ho : o.op = .mapUpdate mt m x y)
    {k : α} {v : Value} (hm : a.eval m = .map (some g)) (hx : a.eval x = κ k) (hy : a.eval y = v) (h : MapR κ w g l)
    (hK : ∀ w', MapR κ w' g (assocSet l k v) → w.grownBy w' (some g) → w'.heap.size = w.heap.size → wpList P ops Q rest (a.put o.dst undef) w') : wpList P ops Q (o :: rest) a w := by
  refine wpList_plain hgd fun K' hK' => ?_
  obtain ⟨w', hrun, h1, h2, h3⟩ := h.update K k v
  unfold Oper.wp execOp
  simp only [ho, Sem.run_bind, Sem.run_pure, hm, hx, hy, hrun, Result.andThen]
  exact hK' _ _ (hK w' h1 h2 h3)
end

/-! keys that are strings, and numbers -/
theorem findNow_spec {α : Type} [DecidableEq α] {κ : α → Value} {d : TypeDesc} (hs : ∀ a b : α, Instr.sameNow d (κ a) (κ b) = some (decide (b = a))) (k : α) : ∀ (l : List (α × Value)) (es : List MapEntry) (n : Nat), es.map (fun e => (e.key, e.val)) = l.map (fun p => (κ p.1, p.2)) →
    Instr.findNow d (κ k) es n = some ((l.findIdx? fun p => decide (p.1 = k)).bind fun i => (l[i]?).map fun p => (n + i, p.2))
  | [], [], n, _ => rfl
  | [], e :: es, n, h => by simp at h
  | p :: r, [], n, h => by simp at h
  | p :: r, e :: es, n, h => by
    simp only [List.map_cons, List.cons.injEq, Prod.mk.injEq] at h
    unfold Instr.findNow
    rw [h.1.1, hs, List.findIdx?_cons]
    by_cases hp : p.1 = k
    · simp [hp, h.1.2]
    · simp only [hp, decide_false, Bool.false_eq_true, if_false]
      rw [findNow_spec hs k r es (n + 1) h.2]
      cases hf : r.findIdx? fun p => decide (p.1 = k) with
      | none => simp
      | some i => simp [Nat.add_assoc, Nat.add_comm 1 i]
theorem beq_swap {α : Type} [DecidableEq α] [BEq α] [LawfulBEq α] (a b : α) : (a == b) = decide (b = a) := by
  by_cases e : a = b
  · subst e; simp
  · rw [beq_eq_false_iff_ne.2 e, decide_eq_false fun h => e h.symm]
theorem bytes_beq (a b : ByteArray) : (a == b) = decide (b = a) := by
  obtain ⟨x⟩ := a
  obtain ⟨y⟩ := b
  have h : ((⟨x⟩ : ByteArray) == ⟨y⟩) = (x == y) := rfl
  rw [h]
  by_cases e : x = y
  · subst e; simp
  · rw [beq_eq_false_iff_ne.2 e, decide_eq_false fun h => e (by injection h with h; exact h.symm)]
theorem keyTy_str {P : Program} {mt kt et : TypeId} (h1 : P.underlying mt = some (.map kt et)) (h2 : P.underlying kt = some .string) : KeyTy P mt kt et Value.string where
  und := h1
  check := fun b a w => by
    show (Instr.checkKey b (9999 + 1) kt (.string a)).run P w = _
    unfold Instr.checkKey
    simp only [Sem.run_bind, run_underlying h2, Result.andThen, Sem.run_pure]
  find := fun k l es w h => by
    unfold Instr.findKey
    have := findNow_spec (κ := Value.string) (d := .string) (fun a b : ByteArray => (congrArg some (bytes_beq a b) : some (a == b) = some (decide (b = a)))) k l es 0 h
    simp only [Sem.run_bind, run_underlying h2, Result.andThen, this, Nat.zero_add, Sem.run_pure]
  stays := fun a => by
    rw [show (10000 : Nat) = 9999 + 1 from rfl]
    have := bytes_beq a a
    simp [Instr.sameBits, this]
theorem keyTy_int {P : Program} {mt kt et : TypeId} {q : IntKind} (h1 : P.underlying mt = some (.map kt et)) (h2 : P.underlying kt = some (.int q)) : KeyTy P mt kt et (Value.int q) where
  und := h1
  check := fun b a w => by
    show (Instr.checkKey b (9999 + 1) kt (.int q a)).run P w = _
    unfold Instr.checkKey
    simp only [Sem.run_bind, run_underlying h2, Result.andThen, Sem.run_pure]
  find := fun k l es w h => by
    unfold Instr.findKey
    have := findNow_spec (κ := Value.int q) (d := .int q) (fun a b : Int => (if_pos rfl).trans (congrArg some (beq_swap a b))) k l es 0 h
    simp only [Sem.run_bind, run_underlying h2, Result.andThen, this, Nat.zero_add, Sem.run_pure]
  stays := fun a => by
    rw [show (10000 : Nat) = 9999 + 1 from rfl]
    simp [Instr.sameBits]
end Go.Proofs.YtfheocdciekfoaaDoor
