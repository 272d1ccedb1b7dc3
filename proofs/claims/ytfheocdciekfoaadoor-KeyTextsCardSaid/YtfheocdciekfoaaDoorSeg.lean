/- A plain region walked in stretches: between them operations on whole values by laws of their own. No program is named here. -/
import Derived.Test.YtfheocdciekfoaaDoorGrow2
import Derived.Test.YtfheocdciekfoaaDoorAgg
namespace Go.Proofs.YtfheocdciekfoaaDoor
open Go.RowKit

/-- where the walk shall stand still -/
structure Stop (p : Prop) : Prop where
  out : p
theorem Stop.go {p : Prop} (h : p) : Stop p := ⟨h⟩
section
variable {P : Program} {ops : Array Oper} {Q : Exit → Act → World → Prop} {a : Act} {w : World} {rest : List Oper} {o : Oper}
/-- the walk stands still ahead of the operation that writes slot d -/
theorem stop_at (d : Option Tmp) (_hd : o.dst = d) (h : Stop (wpList P ops Q (o :: rest) a w)) : wpList P ops Q (o :: rest) a w := h.out
theorem wpList_seg : ∀ (n : Nat) (l : List Oper) (a : Act) (w : World), (∀ Q' : Exit → Act → World → Prop, (∀ a w, Stop (wpList P ops Q (l.drop n) a w) → Q' .normal a w) → wpList P ops Q' (l.take n) a w) → wpList P ops Q l a w
  | 0, l, a, w, h => by
    have := h (fun e a w => e = .normal ∧ wpList P ops Q l a w) (fun a w hh => ⟨rfl, by simpa using hh.out⟩)
    simpa [wpList] using this
  | n + 1, [], a, w, h => by
    have := h (fun e a w => e = .normal ∧ Q .normal a w) (fun a w hh => ⟨rfl, by simpa [wpList] using hh.out⟩)
    simpa [wpList] using this
  | n + 1, o :: r, a, w, h => by
    have h0 := h (fun e a w => e = .normal ∧ wpList P ops Q ((o :: r).drop (n + 1)) a w) (fun a w hh => ⟨rfl, hh.out⟩)
    have hnl : ¬ LetsOut (fun e a w => e = Exit.normal ∧ wpList P ops Q ((o :: r).drop (n + 1)) a w) := fun ⟨_, _, hh⟩ => by cases hh.1
    have hno : ∀ (e : Exit) (a : Act) (w : World), e ≠ .normal → ¬ (e = Exit.normal ∧ wpList P ops Q ((o :: r).drop (n + 1)) a w) := fun _ _ _ hn hh => hn hh.1
    have ih : ∀ a w, wpList P ops (fun e a w => e = .normal ∧ wpList P ops Q ((o :: r).drop (n + 1)) a w) (r.take n) a w → wpList P ops Q r a w := fun a w hl =>
      wpList_seg n r a w fun Q' hQ' => by
        refine Text.wpList_mono' (fun e a w hh => ?_) _ _ _ hl
        obtain ⟨rfl, hh⟩ := hh
        exact hQ' _ _ ⟨hh⟩
    rw [List.take_succ_cons] at h0
    unfold wpList at h0 ⊢
    split at h0
    · rename_i hw
      rw [if_pos hw]
      have h1 := h0.resolve_right fun hh => hnl hh.2
      have h2 := Oper.wp_mono (K' := fun a' w' => wpList P ops Q r a' w') (fun a w hh => ih a w hh) h1
      have h3 := Text.wp_noQ hno hnl h2
      exact .inl (Text.wp_Q (fun e a w hh => absurd hh (by simp [Text.NoQ])) h3)
    · rename_i hw
      rw [if_neg hw]
      exact ih _ _ h0
theorem wpList_store_agg (hgd : o.guard = none) (ty : TypeId) {x y : Operand} (ho : o.op = .store ty x y) {g off : Nat} (hx : a.eval x = .pointer (some ⟨g, off, none⟩)) {v : Value} (hy : a.eval y = v) {w' : World}
    (hrun : (Instr.storeAt ty (.pointer (some ⟨g, off, none⟩)) v).run P w = .ok () w') (h : wpList P ops Q rest (a.put o.dst undef) w') : wpList P ops Q (o :: rest) a w := by
  refine wpList_plain hgd fun K hK => ?_
  unfold Oper.wp execOp
  simp only [ho, hx, hy, Sem.run_bind, hrun, Result.andThen_ok, Sem.run_pure]
  exact hK _ _ h
theorem wpList_box (hgd : o.guard = none) (ty : TypeId) {x : Operand} (ho : o.op = .box ty x) {v : Value} (hx : a.eval x = v) {vs : List Value} (hv : v.cells = vs.toArray)
    (h : wpList P ops Q rest (a.put o.dst (.pointer (some ⟨w.heap.size, 0, none⟩))) (w.alloc (.cells vs.toArray ty))) : wpList P ops Q (o :: rest) a w := by
  refine wpList_plain hgd fun K hK => ?_
  unfold Oper.wp execOp
  simp only [ho, hx, Instr.box, newVar, newRow, hv, Sem.run_bind, Sem.run_pure, run_newObj, Result.andThen_ok]
  exact hK _ _ h
theorem wpList_alloc (hgd : o.guard = none) (ty : TypeId) (ho : o.op = .alloc ty) {z : Value} (hz : ∀ w, (zeroValue ty).run P w = .ok z w) {vs : List Value} (hv : z.cells = vs.toArray)
    (h : wpList P ops Q rest (a.put o.dst (.pointer (some ⟨w.heap.size, 0, none⟩))) (w.alloc (.cells vs.toArray ty))) : wpList P ops Q (o :: rest) a w := by
  refine wpList_plain hgd fun K hK => ?_
  unfold Oper.wp execOp
  simp only [ho, Instr.alloc, newVar, newRow, hz, hv, Sem.run_bind, Sem.run_pure, run_newObj, Result.andThen_ok]
  exact hK _ _ h
theorem wpList_val (hgd : o.guard = none) {v : Value} (hrun : (execOp a.eval o).run P w = .ok (.value v) w) (h : wpList P ops Q rest (a.put o.dst v) w) : wpList P ops Q (o :: rest) a w := by
  refine wpList_plain hgd fun K hK => ?_
  unfold Oper.wp
  rw [hrun]
  exact hK _ _ h
theorem wpList_build (hgd : o.guard = none) (ty : TypeId) {parts : Array (Nat × Operand)} (ho : o.op = .build ty parts) {vs : Array (Nat × Value)} (hp : parts.toList.map (fun x => (x.1, a.eval x.2)) = vs.toList) {v : Value} (hrun : (Instr.build ty vs).run P w = .ok v w)
    (h : wpList P ops Q rest (a.put o.dst v) w) : wpList P ops Q (o :: rest) a w := by
  refine wpList_val hgd ?_ h
  have hp' : parts.map (fun x => (x.1, a.eval x.2)) = vs := by
    apply Array.ext'
    rw [Array.toList_map, hp]
  subst hp'
  unfold execOp
  simp only [ho, Sem.run_bind, hrun, Result.andThen_ok, Sem.run_pure]
theorem wpList_want (hw : Region.wanted o (yielded ops a.tmps) = true) (h : ∀ K : Act → World → Prop, (∀ a w, wpList P ops Q rest a w → K a w) → o.wp P a w K Q) : wpList P ops Q (o :: rest) a w :=
  wpList_step fun K hK => by rw [if_pos hw]; exact h K hK
theorem wpList_load_aggG (hw : Region.wanted o (yielded ops a.tmps) = true) (ty : TypeId) {x : Operand} (ho : o.op = .load ty x) {b off : Nat} (hx : a.eval x = .pointer (some ⟨b, off, none⟩))
    {d : TypeDesc} (hu : P.underlying ty = some d) (hd : (match d with | .struct _ | .array _ _ => true | _ => false) = true) {cs : List Value} (hi : (P.info? ty).map (·.size) = some cs.length)
    (hc : ∀ j u, cs[j]? = some u → w.cell? ⟨b, off + j, none⟩ = some u) (h : wpList P ops Q rest (a.put o.dst (.agg cs.toArray)) w) : wpList P ops Q (o :: rest) a w := by
  refine wpList_want hw fun K hK => ?_
  unfold Oper.wp execOp
  simp only [ho, hx, Sem.run_bind, load_agg hu hd hi hc, Result.andThen_ok, Sem.run_pure]
  exact hK _ _ h
theorem wpList_bin (hgd : o.guard = none) (op : BinOp) (ty : TypeId) {x y : Operand} {kt : TypeId} (ho : o.op = .binOp op ty x y kt) {vx vy v : Value} (hx : a.eval x = vx) (hy : a.eval y = vy) (hg : (eqGuard op ty x y vx vy).run P w = .ok () w)
    (hb : (binOp op ty vx vy).run P w = .ok v w) (h : wpList P ops Q rest (a.put o.dst v) w) : wpList P ops Q (o :: rest) a w := by
  refine wpList_val hgd ?_ h
  unfold execOp
  simp only [ho, hx, hy, Sem.run_bind, hg, hb, Result.andThen_ok, Sem.run_pure]
theorem wpList_binG (hw : Region.wanted o (yielded ops a.tmps) = true) (op : BinOp) (ty : TypeId) {x y : Operand} {kt : TypeId} (ho : o.op = .binOp op ty x y kt) {vx vy v : Value} (hx : a.eval x = vx) (hy : a.eval y = vy) (hg : (eqGuard op ty x y vx vy).run P w = .ok () w)
    (hb : (binOp op ty vx vy).run P w = .ok v w) (h : wpList P ops Q rest (a.put o.dst v) w) : wpList P ops Q (o :: rest) a w := by
  refine wpList_want hw fun K hK => ?_
  unfold Oper.wp execOp
  simp only [ho, hx, hy, Sem.run_bind, hg, hb, Result.andThen_ok, Sem.run_pure]
  exact hK _ _ h
theorem wpList_buildG (hw : Region.wanted o (yielded ops a.tmps) = true) (ty : TypeId) {parts : Array (Nat × Operand)} (ho : o.op = .build ty parts) {vs : Array (Nat × Value)} (hp : parts.toList.map (fun x => (x.1, a.eval x.2)) = vs.toList) {v : Value} (hrun : (Instr.build ty vs).run P w = .ok v w)
    (h : wpList P ops Q rest (a.put o.dst v) w) : wpList P ops Q (o :: rest) a w := by
  refine wpList_want hw fun K hK => ?_
  have hp' : parts.map (fun x => (x.1, a.eval x.2)) = vs := by
    apply Array.ext'
    rw [Array.toList_map, hp]
  subst hp'
  unfold Oper.wp execOp
  simp only [ho, Sem.run_bind, hrun, Result.andThen_ok, Sem.run_pure]
  exact hK _ _ h
theorem row_cells {g : Nat} {vs : List Value} {t : TypeId} (hg : w.heap[g]? = some (.cells vs.toArray t (0, 0))) : ∀ j u, vs[j]? = some u → w.cell? ⟨g, 0 + j, none⟩ = some u := fun j u hu => by
  rw [Nat.zero_add, cell_of_row _ _ _ _ _ _ hg, ← Array.getElem?_toList]
  exact hu
theorem store_new2 {w : World} {g : Nat} {ty : TypeId} {vs : List Value} {v : Value} (hgs : g = w.heap.size) (hv : v.cells = vs.toArray) (hi : (P.info? ty).map (·.size) = some vs.length) {cur : Array Value} {t : TypeId} (hl : vs.length = cur.size) (h1 : ∀ u ∈ vs, u.oneCell' = true) :
    (Instr.storeAt ty (.pointer (some ⟨g, 0, none⟩)) v).run P (w.alloc (.cells cur t)) = .ok () (w.alloc (.cells vs.toArray t)) := by subst hgs; exact store_new hv hi hl h1
end
end Go.Proofs.YtfheocdciekfoaaDoor
