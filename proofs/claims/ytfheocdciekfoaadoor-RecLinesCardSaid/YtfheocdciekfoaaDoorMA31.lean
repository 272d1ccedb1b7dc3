/- A slice literal of one value of many cells. No program is named here. -/
import Derived.Test.YtfheocdciekfoaaDoorMA21
import Derived.Great.BuildSlice
namespace Go.Proofs.YtfheocdciekfoaaDoor
open Go.RowKit

theorem fill_one {s : Nat} (hs : 0 < s) {v : Value} {vs : List Value} (hv : v.cells = vs.toArray) (hl : vs.length = s) (cells : Array Value) (hc : cells.size = s) :
    Instr.fill (fun i => some (i * s, s)) cells [(0, v)] = some vs.toArray := by
  obtain ⟨r, h1, h2, h3⟩ := Great.fill_dense hs [v] 0 cells (fun u hu => by rw [List.mem_singleton.1 hu, hv, List.size_toArray, hl]) (by simp [hc])
  have e : (([v].zipIdx 0).map fun x => (x.2, x.1)) = [(0, v)] := rfl
  rw [e] at h1
  rw [h1]
  congr 1
  apply Array.ext_getElem?
  intro k
  rw [h3 k]
  by_cases hk : k < s
  · rw [if_pos (by simp; exact hk), Nat.div_eq_of_lt hk, Nat.mod_eq_of_lt hk, ← hv]
    rfl
  · rw [if_neg (by simp; omega)]
    rw [Array.getElem?_eq_none (by omega), Array.getElem?_eq_none (by simp; omega)]
section
variable {P : Program} {ops : Array Oper} {Q : Exit → Act → World → Prop} {a : Act} {w : World} {rest : List Oper} {o : Oper}
theorem run_build_one {t e : TypeId} {v : Value} {vs : List Value} (hu : P.underlying t = some (.slice e)) {z : Value} (hi : (P.info? e).map (fun i => (i.zero, i.size)) = some (some z, vs.length)) (hv : v.cells = vs.toArray) (h0 : 0 < vs.length) (hb : vs.length ≤ 16777216) :
    (Instr.buildSlice t 1 #[(0, v)]).run P w = .ok (.slice (some ⟨w.heap.size, 0, none⟩) 1 1) (w.alloc (.cells vs.toArray e)) := by
  cases hq : P.info? e with
  | none => simp [hq] at hi
  | some i =>
    simp only [hq, Option.map_some, Option.some.injEq, Prod.mk.injEq] at hi
    obtain ⟨hz, hs⟩ := hi
    refine run_buildSlice w t e 1 #[(0, v)] vs.toArray i z hu hq hz (by omega) (by omega) ?_
    rw [hs]
    exact fill_one h0 hv rfl _ (by simp)
theorem load_slice {ty e : TypeId} {v : Value} {p : Addr} (hu : P.underlying ty = some (.slice e)) (hc : w.cell? p = some v) : (Instr.loadAt ty (.pointer (some p))).run P w = .ok v w := by
  have hagg : (isAgg ty).run P w = .ok false w := by
    unfold isAgg
    rw [Sem.run_bind, run_underlying hu w]
    rfl
  simp [Instr.loadAt, Instr.sureAddr, loadVar, Sem.run_bind, hagg, hc]
theorem wpList_build_one (hgd : o.guard = none) (t e : TypeId) {x : Operand} (ho : o.op = .buildSlice t 1 #[(0, x)]) {v : Value} (hx : a.eval x = v) {vs : List Value} (hu : P.underlying t = some (.slice e)) {z : Value} (hi : (P.info? e).map (fun i => (i.zero, i.size)) = some (some z, vs.length))
    (hv : v.cells = vs.toArray) (h0 : 0 < vs.length) (hb : vs.length ≤ 16777216) (h : wpList P ops Q rest (a.put o.dst (.slice (some ⟨w.heap.size, 0, none⟩) 1 1)) (w.alloc (.cells vs.toArray e))) : wpList P ops Q (o :: rest) a w := by
  refine wpList_plain hgd fun K hK => ?_
  unfold Oper.wp execOp
  have hr := run_build_one (P := P) (w := w) hu hi hv h0 hb
  have e1 : (#[(0, x)] : Array (Nat × Operand)).map (fun (i, x) => (i, a.eval x)) = #[(0, v)] := by simp [hx]
  simp only [ho, e1, Sem.run_bind, hr, Result.andThen_ok, Sem.run_pure]
  exact hK _ _ h
end
end Go.Proofs.YtfheocdciekfoaaDoor
