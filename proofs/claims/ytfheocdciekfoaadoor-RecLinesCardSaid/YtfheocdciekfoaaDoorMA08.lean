/- Texts of this proof joined: Agg, Seg, HexDig, HexText. -/
import Derived.Test.YtfheocdciekfoaaDoorMA07
import Derived.Stop.BytesEq
import Derived.Laws.CopyRow
import Derived.Test.YtfheocdciekfoaaDoorMA05
import Derived.Test.YtfheocdciekfoaaDoorChecked
import Derived.Test.YtfheocdciekfoaaDoorMA06
import Derived.Test.YtfheocdciekfoaaDoorMA03
import Derived.Maps.AppendAt
/- Values that hold arrays of bytes: loads, stores, comparisons of them, told by lists of cells. No program is named here. -/
namespace Go.Proofs.YtfheocdciekfoaaDoor
open Go.RowKit

/-- a hash and a number behind it -/
def hkCells (h : List UInt8) (k : Int) : List Value := bcells h ++ [.int .i64 k]
abbrev hkv (h : List UInt8) (k : Int) : Value := .agg (hkCells h k).toArray
abbrev hashv (h : List UInt8) : Value := .agg (bcells h).toArray
/-- a record's cells: its kind, number, key, mark, and its keys' slice -/
def recCells (kind seq : Int) (kh : List UInt8) (kk : Int) (mh : List UInt8) (ms : Int) (v : Value) : List Value :=
  [.int .i64 kind, .int .i64 seq] ++ (hkCells kh kk ++ (hkCells mh ms ++ [v]))
abbrev recv (kind seq : Int) (kh : List UInt8) (kk : Int) (mh : List UInt8) (ms : Int) (v : Value) : Value := .agg (recCells kind seq kh kk mh ms v).toArray
theorem hkCells_length (h : List UInt8) (k : Int) : (hkCells h k).length = h.length + 1 := by simp [hkCells, bcells_length]
theorem hkv_cells (h : List UInt8) (k : Int) : (hkv h k).cells = (hkCells h k).toArray := rfl
theorem hashv_cells (h : List UInt8) : (hashv h).cells = (bcells h).toArray := rfl
theorem recv_cells (kind seq : Int) (kh : List UInt8) (kk : Int) (mh : List UInt8) (ms : Int) (v : Value) : (recv kind seq kh kk mh ms v).cells = (recCells kind seq kh kk mh ms v).toArray := rfl
theorem hkCells_get (h : List UInt8) (k : Int) (hh : h.length = 32) : (hkCells h k)[32]? = some (.int .i64 k) := by
  unfold hkCells
  rw [List.getElem?_append_right (by rw [bcells_length]; omega), bcells_length, hh]
  rfl
theorem recCells_length (kind seq : Int) (kh : List UInt8) (kk : Int) (mh : List UInt8) (ms : Int) (v : Value) : (recCells kind seq kh kk mh ms v).length = kh.length + mh.length + 5 := by simp [recCells, hkCells_length]; omega

section
variable {P : Program} {w : World}
/-- a value that lies in memory, loaded whole -/
theorem load_agg {ty : TypeId} {d : TypeDesc} (hu : P.underlying ty = some d) (hd : (match d with | .struct _ | .array _ _ => true | _ => false) = true) {b off : Nat} {cs : List Value} (hi : (P.info? ty).map (·.size) = some cs.length)
    (hc : ∀ j u, cs[j]? = some u → w.cell? ⟨b, off + j, none⟩ = some u) : (Instr.loadAt ty (.pointer (some ⟨b, off, none⟩))).run P w = .ok (.agg cs.toArray) w := by
  have hl : (loadCells ⟨b, off, none⟩ cs.length).run P w = .ok cs.toArray w := run_loadCells_list (P := P) w ⟨b, off, none⟩ cs (fun j v hv => by rw [Addr.add_lit]; exact hc j v hv)
  cases hq : P.info? ty with
  | none => simp [hq] at hi
  | some i =>
    have hs : i.size = cs.length := by simpa [hq] using hi
    have hagg : (isAgg ty).run P w = .ok true w := by
      unfold isAgg
      rw [Sem.run_bind, run_underlying hu w]
      cases d <;> simp_all
    simp [Instr.loadAt, Instr.sureAddr, loadVar, Sem.run_bind, hagg, sizeOf, typeInfo, hq, hs, hl]
theorem wpList_load_agg {ops : Array Oper} {rest : List Oper} {o : Oper} {a : Act} {Q : Exit → Act → World → Prop} (hgd : o.guard = none) (ty : TypeId) {x : Operand} (ho : o.op = .load ty x) {b off : Nat} (hx : a.eval x = .pointer (some ⟨b, off, none⟩))
    {d : TypeDesc} (hu : P.underlying ty = some d) (hd : (match d with | .struct _ | .array _ _ => true | _ => false) = true) {cs : List Value} (hi : (P.info? ty).map (·.size) = some cs.length)
    (hc : ∀ j u, cs[j]? = some u → w.cell? ⟨b, off + j, none⟩ = some u) (h : wpList P ops Q rest (a.put o.dst (.agg cs.toArray)) w) : wpList P ops Q (o :: rest) a w := by
  refine wpList_plain hgd fun K hK => ?_
  unfold Oper.wp execOp
  simp only [ho, hx, Sem.run_bind, load_agg hu hd hi hc, Result.andThen_ok, Sem.run_pure]
  exact hK _ _ h
theorem cell_part {g : Nat} {cs : Array Value} {t : TypeId} {fr : Nat × Nat} (h : w.heap[g]? = some (.cells cs t fr)) {xs ys zs : List Value} (he : cs = (xs ++ (ys ++ zs)).toArray) : ∀ j u, ys[j]? = some u → w.cell? ⟨g, xs.length + j, none⟩ = some u := by
  intro j u hu
  rw [cell_of_row w g _ cs t fr h, he]
  have hj := (List.getElem?_eq_some_iff.1 hu).1
  rw [← Array.getElem?_toList]
  simp only
  rw [List.getElem?_append_right (by omega), Nat.add_sub_cancel_left, List.getElem?_append_left hj]
  exact hu
/-- a value stored over a stretch of a row -/
theorem store_agg {ty : TypeId} {g off : Nat} {vs : List Value} {v : Value} (hv : v.cells = vs.toArray) (hi : (P.info? ty).map (·.size) = some vs.length) {cur : Array Value} {t : TypeId} (hg : w.heap[g]? = some (.cells cur t (0, 0)))
    (hl : off + vs.length ≤ cur.size) (h1 : ∀ u ∈ vs, u.oneCell' = true) : (Instr.storeAt ty (.pointer (some ⟨g, off, none⟩)) v).run P w = .ok () (w.setRow g (cur.toList.take off ++ vs ++ cur.toList.drop (off + vs.length)).toArray) := by
  have hs := run_storeCells_at P g off t vs 0 cur w hg (by omega) h1
  rw [Nat.add_zero] at hs
  cases hq : P.info? ty with
  | none => simp [hq] at hi
  | some i =>
    have hsz : i.size = vs.length := by simpa [hq] using hi
    simp [Instr.storeAt, Instr.sureAddr, storeVar, Sem.run_bind, sizeOf, typeInfo, hq, hsz, hv, hs]
/-- a whole value stored into the block that was laid last -/
theorem store_new {ty : TypeId} {vs : List Value} {v : Value} (hv : v.cells = vs.toArray) (hi : (P.info? ty).map (·.size) = some vs.length) {cur : Array Value} {t : TypeId} (hl : vs.length = cur.size) (h1 : ∀ u ∈ vs, u.oneCell' = true) :
    (Instr.storeAt ty (.pointer (some ⟨w.heap.size, 0, none⟩)) v).run P (w.alloc (.cells cur t)) = .ok () (w.alloc (.cells vs.toArray t)) := by
  rw [store_agg hv hi (Go.heap_alloc_new w _) (by omega) h1, setRow_alloc]
  congr 4
  simp [List.drop_eq_nil_of_le (show cur.toList.length ≤ vs.length by simp; omega)]

/-! comparisons -/
theorem hashv_equal (d : Nat) {t e : TypeId} (ht : P.underlying t = some (.array 32 e)) (he : P.underlying e = some (.int .u8)) (hsz : ∀ w, (sizeOf e).run P w = .ok 1 w) {x y : List UInt8} (hx : x.length = 32) (hy : y.length = 32) :
    (Op.equalIn (d + 2) t (hashv x) (hashv y)).run P w = .ok (decide (x = y)) w := by
  have h := run_equalIn_bytes (P := P) w d t e 32 ht he hsz x y hx hy
  have e1 : (x == y) = decide (x = y) := by by_cases h : x = y <;> simp [h]
  rw [e1] at h
  exact h
structure HashTy (P : Program) (ta e : TypeId) : Prop where
  ua : P.underlying ta = some (.array 32 e)
  ue : P.underlying e = some (.int .u8)
  se : ∀ w, (sizeOf e).run P w = .ok 1 w
  sa : ∀ w, (sizeOf ta).run P w = .ok 32 w
  gd : P.eqGuardType P.depth ta = false
structure HkTy (P : Program) (t ta e ti : TypeId) (f0 f1 : Field) : Prop where
  ut : P.underlying t = some (.struct #[f0, f1])
  n0 : f0.name ≠ "_"
  n1 : f1.name ≠ "_"
  t0 : f0.type = ta
  t1 : f1.type = ti
  o0 : f0.offset = 0
  o1 : f1.offset = 32
  ui : P.underlying ti = some (.int .i64)
  H : HashTy P ta e
  st : P.stoodInHeld t = false
  gd : P.eqGuardType P.depth t = false
theorem hkv_equal (d : Nat) {t ta e ti : TypeId} {f0 f1 : Field} (T : HkTy P t ta e ti f0 f1) {x y : List UInt8} {a b : Int} (hx : x.length = 32) (hy : y.length = 32) :
    (Op.equalIn (d + 3) t (hkv x a) (hkv y b)).run P w = .ok (decide (x = y) && decide (a = b)) w := by
  have hf : P.fieldsOf t = #[f0, f1] := by simp [Program.fieldsOf, T.ut]
  have p0 : ∀ (z : List UInt8) (c : Int), z.length = 32 → (part ta (hkCells z c).toArray 0).run P w = .ok (hashv z) w := by
    intro z c hz
    have e1 : (hkCells z c).toArray.extract 0 (0 + 32) = (bcells z).toArray := by
      simp only [List.extract_toArray, hkCells, Nat.zero_add, List.extract_eq_take_drop, List.drop_zero, Nat.sub_zero]
      congr 1
      rw [List.take_append_of_le_length (by rw [bcells_length]; omega), List.take_of_length_le (by rw [bcells_length]; omega)]
    have hagg : (isAgg ta).run P w = .ok true w := by
      unfold isAgg
      rw [Sem.run_bind, run_underlying T.H.ua w]
      rfl
    unfold part
    simp only [Sem.run_bind, hagg, Result.andThen_ok, if_true, T.H.sa, Sem.run_pure]
    rw [e1]
  have p1 : ∀ (z : List UInt8) (c : Int), z.length = 32 → (part ti (hkCells z c).toArray 32).run P w = .ok (.int .i64 c) w := by
    intro z c hz
    have hagg : (isAgg ti).run P w = .ok false w := by
      unfold isAgg
      rw [Sem.run_bind, run_underlying T.ui w]
      rfl
    have hg : (hkCells z c).toArray[32]? = some (.int .i64 c) := by
      rw [← Array.getElem?_toList]
      exact hkCells_get z c hz
    unfold part
    simp only [Sem.run_bind, hagg, Result.andThen_ok, Bool.false_eq_true, if_false, hg, Sem.run_pure]
  unfold hkv
  rw [show d + 3 = (d + 2) + 1 from rfl, run_equalIn_struct w (d + 2) t _ _ (by rw [hf]; exact T.ut) T.st, hf]
  have q := run_equalIn_int (P := P) w (d + 1) ti .i64 .i64 a b T.ui
  rw [show d + 2 = (d + 1) + 1 from rfl] at *
  by_cases h : x = y
  · subst h
    simp only [Op.eqFields, ne_eq, T.n0, T.n1, not_false_eq_true, if_true, Sem.run_bind, T.t0, T.t1, T.o0, T.o1, p0 x a hx, p0 x b hx, p1 x a hx, p1 x b hx, Result.andThen_ok, hashv_equal d T.H.ua T.H.ue T.H.se hx hx, decide_true, Bool.not_true, Bool.false_eq_true, if_false, q, Bool.true_and]
    by_cases hab : a = b
    · simp [hab]
    · simp [hab]
  · simp only [Op.eqFields, ne_eq, T.n0, not_false_eq_true, if_true, Sem.run_bind, T.t0, T.o0, p0 x a hx, p0 y b hy, Result.andThen_ok, hashv_equal d T.H.ua T.H.ue T.H.se hx hy]
    simp [h]
theorem hkv_eql {t ta e ti : TypeId} {f0 f1 : Field} (T : HkTy P t ta e ti f0 f1) {x y : List UInt8} {a b : Int} (hx : x.length = 32) (hy : y.length = 32) :
    (binOp .eql t (hkv x a) (hkv y b)).run P w = .ok (.bool (decide (x = y) && decide (a = b))) w := by
  unfold hkv
  rw [run_eql_struct, show (10000 : Nat) = 9997 + 3 from rfl]
  have := hkv_equal (P := P) (w := w) 9997 T (a := a) (b := b) hx hy
  unfold hkv at this
  rw [this]
  rfl
theorem hkv_neq {t ta e ti : TypeId} {f0 f1 : Field} (T : HkTy P t ta e ti f0 f1) {x y : List UInt8} {a b : Int} (hx : x.length = 32) (hy : y.length = 32) :
    (binOp .neq t (hkv x a) (hkv y b)).run P w = .ok (.bool (!(decide (x = y) && decide (a = b)))) w := by
  unfold hkv
  rw [run_neq_struct, show (10000 : Nat) = 9997 + 3 from rfl]
  have := hkv_equal (P := P) (w := w) 9997 T (a := a) (b := b) hx hy
  unfold hkv at this
  rw [this]
  rfl
theorem hashv_eql {t e : TypeId} (T : HashTy P t e) {x y : List UInt8} (hx : x.length = 32) (hy : y.length = 32) : (binOp .eql t (hashv x) (hashv y)).run P w = .ok (.bool (decide (x = y))) w := by
  unfold hashv
  rw [run_eql_struct, show (10000 : Nat) = 9998 + 2 from rfl]
  have := hashv_equal (P := P) (w := w) 9998 T.ua T.ue T.se hx hy
  unfold hashv at this
  rw [this]
  rfl
theorem hashv_neq {t e : TypeId} (T : HashTy P t e) {x y : List UInt8} (hx : x.length = 32) (hy : y.length = 32) : (binOp .neq t (hashv x) (hashv y)).run P w = .ok (.bool (!(decide (x = y)))) w := by
  unfold hashv
  rw [run_neq_struct, show (10000 : Nat) = 9998 + 2 from rfl]
  have := hashv_equal (P := P) (w := w) 9998 T.ua T.ue T.se hx hy
  unfold hashv at this
  rw [this]
  rfl
theorem hkv_guard {t : TypeId} (hg : P.eqGuardType P.depth t = false) (op : BinOp) (x y : Operand) (a b : List UInt8) (c d : Int) : (eqGuard op t x y (hkv a c) (hkv b d)).run P w = .ok () w := run_eqGuard_agg w op t x y _ _ hg
theorem hashv_guard {t : TypeId} (hg : P.eqGuardType P.depth t = false) (op : BinOp) (x y : Operand) (a b : List UInt8) : (eqGuard op t x y (hashv a) (hashv b)).run P w = .ok () w := run_eqGuard_agg w op t x y _ _ hg
end
end Go.Proofs.YtfheocdciekfoaaDoor
/- A plain region walked in stretches: between them operations on whole values by laws of their own. No program is named here. -/
namespace Go.Proofs.YtfheocdciekfoaaDoor
open Go.RowKit

/-- where the walk shall stand still -/
structure Stop (p : Prop) : Prop where
  out : p
theorem Stop.go {p : Prop} (h : p) : Stop p := ⟨h⟩
section
variable {P : Program} {ops : Array Oper} {Q : Exit → Act → World → Prop} {a : Act} {w : World} {rest : List Oper} {o : Oper}
/-- the walk stands still ahead of the operation that writes slot d -/
theorem stop_at (d : Option Tmp) (_hd : o.dst = d) (h : Stop (wpList P ops Q (o :: rest) a w)) : wpList P ops Q (o :: rest) a w := h.out
theorem wpList_seg : ∀ (n : Nat) (l : List Oper) (a : Act) (w : World), (∀ Q' : Exit → Act → World → Prop, (∀ a w, Stop (wpList P ops Q (l.drop n) a w) → Q' .normal a w) → wpList P ops Q' (l.take n) a w) → wpList P ops Q l a w
  | 0, l, a, w, h => by
    have := h (fun e a w => e = .normal ∧ wpList P ops Q l a w) (fun a w hh => ⟨rfl, by simpa using hh.out⟩)
    simpa [wpList] using this
  | n + 1, [], a, w, h => by
    have := h (fun e a w => e = .normal ∧ Q .normal a w) (fun a w hh => ⟨rfl, by simpa [wpList] using hh.out⟩)
    simpa [wpList] using this
  | n + 1, o :: r, a, w, h => by
    have h0 := h (fun e a w => e = .normal ∧ wpList P ops Q ((o :: r).drop (n + 1)) a w) (fun a w hh => ⟨rfl, hh.out⟩)
    have hnl : ¬ LetsOut (fun e a w => e = Exit.normal ∧ wpList P ops Q ((o :: r).drop (n + 1)) a w) := fun ⟨_, _, hh⟩ => by cases hh.1
    have hno : ∀ (e : Exit) (a : Act) (w : World), e ≠ .normal → ¬ (e = Exit.normal ∧ wpList P ops Q ((o :: r).drop (n + 1)) a w) := fun _ _ _ hn hh => hn hh.1
    have ih : ∀ a w, wpList P ops (fun e a w => e = .normal ∧ wpList P ops Q ((o :: r).drop (n + 1)) a w) (r.take n) a w → wpList P ops Q r a w := fun a w hl =>
      wpList_seg n r a w fun Q' hQ' => by
        refine Text.wpList_mono' (fun e a w hh => ?_) _ _ _ hl
        obtain ⟨rfl, hh⟩ := hh
        exact hQ' _ _ ⟨hh⟩
    rw [List.take_succ_cons] at h0
    unfold wpList at h0 ⊢
    split at h0
    · rename_i hw
      rw [if_pos hw]
      have h1 := h0.resolve_right fun hh => hnl hh.2
      have h2 := Oper.wp_mono (K' := fun a' w' => wpList P ops Q r a' w') (fun a w hh => ih a w hh) h1
      have h3 := Text.wp_noQ hno hnl h2
      exact .inl (Text.wp_Q (fun e a w hh => absurd hh (by simp [Text.NoQ])) h3)
    · rename_i hw
      rw [if_neg hw]
      exact ih _ _ h0
theorem wpList_store_agg (hgd : o.guard = none) (ty : TypeId) {x y : Operand} (ho : o.op = .store ty x y) {g off : Nat} (hx : a.eval x = .pointer (some ⟨g, off, none⟩)) {v : Value} (hy : a.eval y = v) {w' : World}
    (hrun : (Instr.storeAt ty (.pointer (some ⟨g, off, none⟩)) v).run P w = .ok () w') (h : wpList P ops Q rest (a.put o.dst undef) w') : wpList P ops Q (o :: rest) a w := by
  refine wpList_plain hgd fun K hK => ?_
  unfold Oper.wp execOp
  simp only [ho, hx, hy, Sem.run_bind, hrun, Result.andThen_ok, Sem.run_pure]
  exact hK _ _ h
theorem wpList_box (hgd : o.guard = none) (ty : TypeId) {x : Operand} (ho : o.op = .box ty x) {v : Value} (hx : a.eval x = v) {vs : List Value} (hv : v.cells = vs.toArray)
    (h : wpList P ops Q rest (a.put o.dst (.pointer (some ⟨w.heap.size, 0, none⟩))) (w.alloc (.cells vs.toArray ty))) : wpList P ops Q (o :: rest) a w := by
  refine wpList_plain hgd fun K hK => ?_
  unfold Oper.wp execOp
  simp only [ho, hx, Instr.box, newVar, newRow, hv, Sem.run_bind, Sem.run_pure, run_newObj, Result.andThen_ok]
  exact hK _ _ h
theorem wpList_alloc (hgd : o.guard = none) (ty : TypeId) (ho : o.op = .alloc ty) {z : Value} (hz : ∀ w, (zeroValue ty).run P w = .ok z w) {vs : List Value} (hv : z.cells = vs.toArray)
    (h : wpList P ops Q rest (a.put o.dst (.pointer (some ⟨w.heap.size, 0, none⟩))) (w.alloc (.cells vs.toArray ty))) : wpList P ops Q (o :: rest) a w := by
  refine wpList_plain hgd fun K hK => ?_
  unfold Oper.wp execOp
  simp only [ho, Instr.alloc, newVar, newRow, hz, hv, Sem.run_bind, Sem.run_pure, run_newObj, Result.andThen_ok]
  exact hK _ _ h
theorem wpList_val (hgd : o.guard = none) {v : Value} (hrun : (execOp a.eval o).run P w = .ok (.value v) w) (h : wpList P ops Q rest (a.put o.dst v) w) : wpList P ops Q (o :: rest) a w := by
  refine wpList_plain hgd fun K hK => ?_
  unfold Oper.wp
  rw [hrun]
  exact hK _ _ h
theorem wpList_build (hgd : o.guard = none) (ty : TypeId) {parts : Array (Nat × Operand)} (ho : o.op = .build ty parts) {vs : Array (Nat × Value)} (hp : parts.toList.map (fun x => (x.1, a.eval x.2)) = vs.toList) {v : Value} (hrun : (Instr.build ty vs).run P w = .ok v w)
    (h : wpList P ops Q rest (a.put o.dst v) w) : wpList P ops Q (o :: rest) a w := by
  refine wpList_val hgd ?_ h
  have hp' : parts.map (fun x => (x.1, a.eval x.2)) = vs := by
    apply Array.ext'
    rw [Array.toList_map, hp]
  subst hp'
  unfold execOp
  simp only [ho, Sem.run_bind, hrun, Result.andThen_ok, Sem.run_pure]
theorem wpList_want (hw : Region.wanted o (yielded ops a.tmps) = true) (h : ∀ K : Act → World → Prop, (∀ a w, wpList P ops Q rest a w → K a w) → o.wp P a w K Q) : wpList P ops Q (o :: rest) a w :=
  wpList_step fun K hK => by rw [if_pos hw]; exact h K hK
theorem wpList_load_aggG (hw : Region.wanted o (yielded ops a.tmps) = true) (ty : TypeId) {x : Operand} (ho : o.op = .load ty x) {b off : Nat} (hx : a.eval x = .pointer (some ⟨b, off, none⟩))
    {d : TypeDesc} (hu : P.underlying ty = some d) (hd : (match d with | .struct _ | .array _ _ => true | _ => false) = true) {cs : List Value} (hi : (P.info? ty).map (·.size) = some cs.length)
    (hc : ∀ j u, cs[j]? = some u → w.cell? ⟨b, off + j, none⟩ = some u) (h : wpList P ops Q rest (a.put o.dst (.agg cs.toArray)) w) : wpList P ops Q (o :: rest) a w := by
  refine wpList_want hw fun K hK => ?_
  unfold Oper.wp execOp
  simp only [ho, hx, Sem.run_bind, load_agg hu hd hi hc, Result.andThen_ok, Sem.run_pure]
  exact hK _ _ h
theorem wpList_bin (hgd : o.guard = none) (op : BinOp) (ty : TypeId) {x y : Operand} {kt : TypeId} (ho : o.op = .binOp op ty x y kt) {vx vy v : Value} (hx : a.eval x = vx) (hy : a.eval y = vy) (hg : (eqGuard op ty x y vx vy).run P w = .ok () w)
    (hb : (binOp op ty vx vy).run P w = .ok v w) (h : wpList P ops Q rest (a.put o.dst v) w) : wpList P ops Q (o :: rest) a w := by
  refine wpList_val hgd ?_ h
  unfold execOp
  simp only [ho, hx, hy, Sem.run_bind, hg, hb, Result.andThen_ok, Sem.run_pure]
theorem wpList_binG (hw : Region.wanted o (yielded ops a.tmps) = true) (op : BinOp) (ty : TypeId) {x y : Operand} {kt : TypeId} (ho : o.op = .binOp op ty x y kt) {vx vy v : Value} (hx : a.eval x = vx) (hy : a.eval y = vy) (hg : (eqGuard op ty x y vx vy).run P w = .ok () w)
    (hb : (binOp op ty vx vy).run P w = .ok v w) (h : wpList P ops Q rest (a.put o.dst v) w) : wpList P ops Q (o :: rest) a w := by
  refine wpList_want hw fun K hK => ?_
  unfold Oper.wp execOp
  simp only [ho, hx, hy, Sem.run_bind, hg, hb, Result.andThen_ok, Sem.run_pure]
  exact hK _ _ h
theorem wpList_buildG (hw : Region.wanted o (yielded ops a.tmps) = true) (ty : TypeId) {parts : Array (Nat × Operand)} (ho : o.op = .build ty parts) {vs : Array (Nat × Value)} (hp : parts.toList.map (fun x => (x.1, a.eval x.2)) = vs.toList) {v : Value} (hrun : (Instr.build ty vs).run P w = .ok v w)
    (h : wpList P ops Q rest (a.put o.dst v) w) : wpList P ops Q (o :: rest) a w := by
  refine wpList_want hw fun K hK => ?_
  have hp' : parts.map (fun x => (x.1, a.eval x.2)) = vs := by
    apply Array.ext'
    rw [Array.toList_map, hp]
  subst hp'
  unfold Oper.wp execOp
  simp only [ho, Sem.run_bind, hrun, Result.andThen_ok, Sem.run_pure]
  exact hK _ _ h
theorem row_cells {g : Nat} {vs : List Value} {t : TypeId} (hg : w.heap[g]? = some (.cells vs.toArray t (0, 0))) : ∀ j u, vs[j]? = some u → w.cell? ⟨g, 0 + j, none⟩ = some u := fun j u hu => by
  rw [Nat.zero_add, cell_of_row _ _ _ _ _ _ hg, ← Array.getElem?_toList]
  exact hu
theorem store_new2 {w : World} {g : Nat} {ty : TypeId} {vs : List Value} {v : Value} (hgs : g = w.heap.size) (hv : v.cells = vs.toArray) (hi : (P.info? ty).map (·.size) = some vs.length) {cur : Array Value} {t : TypeId} (hl : vs.length = cur.size) (h1 : ∀ u ∈ vs, u.oneCell' = true) :
    (Instr.storeAt ty (.pointer (some ⟨g, 0, none⟩)) v).run P (w.alloc (.cells cur t)) = .ok () (w.alloc (.cells vs.toArray t)) := by subst hgs; exact store_new hv hi hl h1
end
end Go.Proofs.YtfheocdciekfoaaDoor
/- Contracts of hex.digits and hex.value, for every world. -/
namespace Go.Proofs.YtfheocdciekfoaaDoor
open Go.RowKit

def digArr : Array Value := #[.int .u8 48, .int .u8 49, .int .u8 50, .int .u8 51, .int .u8 52, .int .u8 53, .int .u8 54, .int .u8 55, .int .u8 56, .int .u8 57, .int .u8 97, .int .u8 98, .int .u8 99, .int .u8 100, .int .u8 101, .int .u8 102]

set_option maxHeartbeats 400000 in
theorem hex_digits (w : World) :
    Calls Tryd.prog 92 #[] w fun e w' => e = .returned (.agg digArr) ∧ Below w.heap.size w w' := by
  go_enter Tryd.func92, Tryd.ntmps92
  go_wp2
  refine bodyPost_ret (v := .agg digArr) (by simp [results, Tryd.results92, go_sem, digArr]) rfl ⟨rfl, ?_⟩
  go_grown

/-- digit number k -/
def digAt (k : Nat) : Int := if k < 10 then 48 + k else 87 + k
/-- what a digit is worth -/
def digVal (c : Int) : Option Int := if 48 ≤ c ∧ c ≤ 57 then some (c - 48) else if 97 ≤ c ∧ c ≤ 102 then some (c - 87) else none

theorem dig_get (k : Nat) (hk : k < 16) : digArr[k]? = some (Value.int .u8 (digAt k)) := by
  have hall : ∀ j : Fin 16, digArr[j.val]? = some (Value.int .u8 (digAt j.val)) := by
    intro j
    match j with
    | ⟨0, _⟩ | ⟨1, _⟩ | ⟨2, _⟩ | ⟨3, _⟩ | ⟨4, _⟩ | ⟨5, _⟩ | ⟨6, _⟩ | ⟨7, _⟩ | ⟨8, _⟩ | ⟨9, _⟩ | ⟨10, _⟩ | ⟨11, _⟩ | ⟨12, _⟩ | ⟨13, _⟩ | ⟨14, _⟩ | ⟨15, _⟩ => rfl
    | ⟨n + 16, h⟩ => omega
  exact hall ⟨k, hk⟩
theorem dig_index (k : Nat) (hk : k < 16) (w : World) : (Instr.index 138 (.agg digArr) (.int .i64 (k : Int))).run Tryd.prog w = .ok (.int .u8 (digAt k)) w := by
  have h := dig_get k hk
  simp [Instr.index, asIntOf, run_underlying Tryd.underlying138, go_sem, hk, h]

end Go.Proofs.YtfheocdciekfoaaDoor
/- Contract of hex.Text, for any bytes and every world. -/
namespace Go.Proofs.YtfheocdciekfoaaDoor
open Go.RowKit

/-- the digits of a byte -/
def hex2 (b : UInt8) : List UInt8 := [(digAt (b.toNat / 16)).toNat.toUInt8, (digAt (b.toNat % 16)).toNat.toUInt8]
def hexOf (l : List UInt8) : List UInt8 := l.flatMap hex2

theorem u8_app : AppTy Tryd.prog 34 5 1 1 (.int .u8 0) := appTy Tryd.underlying34 (by kernel_rfl) rfl (by omega)
theorem digAt_bd (k : Nat) (h : k < 16) : 0 ≤ digAt k ∧ digAt k < 256 := by unfold digAt; split <;> omega
theorem hex2_cells (b : UInt8) : bcells (hex2 b) = [.int .u8 (digAt (b.toNat / 16)), .int .u8 (digAt (b.toNat % 16))] := by
  have h1 := digAt_bd (b.toNat / 16) (by have := b.toNat_lt; omega)
  have h2 := digAt_bd (b.toNat % 16) (by omega)
  simp only [bcells, hex2, List.map_cons, List.map_nil, bcell, UInt8.toNat_ofNat']
  rw [show (((digAt (b.toNat / 16)).toNat % 2 ^ 8 : Nat) : Int) = digAt (b.toNat / 16) by omega, show (((digAt (b.toNat % 16)).toNat % 2 ^ 8 : Nat) : Int) = digAt (b.toNat % 16) by omega]
theorem hexOf_snoc (l : List UInt8) (k : Nat) (h : k < l.length) : hexOf (l.take (k + 1)) = hexOf (l.take k) ++ hex2 l[k] := by
  rw [List.take_succ_eq_append_getElem h, hexOf, List.flatMap_append]
  simp [hexOf]
theorem hexOf_length (l : List UInt8) : (hexOf l).length = 2 * l.length := by
  induction l with
  | nil => rfl
  | cons b l ih => simp only [hexOf, List.flatMap_cons, List.length_append, List.length_cons] at *; rw [ih]; simp [hex2]; omega
theorem dig_zero : Array.replicate 16 (Value.int .u8 0) = #[.int .u8 0, .int .u8 0, .int .u8 0, .int .u8 0, .int .u8 0, .int .u8 0, .int .u8 0, .int .u8 0, .int .u8 0, .int .u8 0, .int .u8 0, .int .u8 0, .int .u8 0, .int .u8 0, .int .u8 0, .int .u8 0] := rfl
theorem dig_store (w : World) : (storeCells ⟨w.heap.size, 0, none⟩ digArr.toList).run Tryd.prog (w.alloc (.cells #[.int .u8 0, .int .u8 0, .int .u8 0, .int .u8 0, .int .u8 0, .int .u8 0, .int .u8 0, .int .u8 0, .int .u8 0, .int .u8 0, .int .u8 0, .int .u8 0, .int .u8 0, .int .u8 0, .int .u8 0, .int .u8 0] 138)) =
    .ok () (w.alloc (.cells digArr 138)) :=
  run_store_new w _ _ _ rfl (by simp [digArr, Value.oneCell'])

set_option maxHeartbeats 400000 in
theorem hex_text (l : List UInt8) (A : Option Addr) (c : Nat) (w : World) (hr : Rd w w.heap.size A (bcells l)) (hl : l.length ≤ 1099511627776) :
    Calls Tryd.prog 59 #[.slice A l.length c] w fun e w' => e = .returned (.string ⟨(hexOf l).toArray⟩) ∧ Below w.heap.size w w' := by
  have hst := dig_store
  go_enter Tryd.func59, Tryd.ntmps59
  go_wp2_with (go_call hex_digits _ as e w1 ⟨rfl, hb⟩)
  go_loopw [4, 6, 10] (fun v4 v6 v10 wr => ∃ k : Nat, k ≤ l.length ∧ v10 = .int .i64 k ∧ wr.ownsRow w.heap.size 5 1 v4 (2 * k) (bcells (hexOf (l.take k))) ∧ wr.heap[w1.heap.size]? = some (.cells digArr 138 (0, 0)) ∧ Below w.heap.size w wr) (fun _ _ i _ => l.length - (intOf i).toNat)
  case atStart => exact ⟨0, by omega, rfl, World.ownsRow_nil _ _ _ _, Go.heap_alloc_new w1 _, hb.alloc hb.size _⟩
  case round =>
    obtain ⟨k, hk, rfl, hown, hd, hbr⟩ := hrel
    by_cases hlt : k < l.length
    · obtain ⟨ab, ao, rfl, hab, hcell⟩ := (hr.below hbr).byte hlt
      go_wp2
      have hb8 := l[k].toNat_lt
      have hd1 : wr.cell? ⟨w1.heap.size, l[k].toNat / 16, none⟩ = some (.int .u8 (digAt (l[k].toNat / 16))) := by
        rw [cell_of_row _ _ _ _ _ _ hd]; exact dig_get _ (by have := l[k].toNat_lt; omega)
      have hd2 : wr.cell? ⟨w1.heap.size, l[k].toNat % 16, none⟩ = some (.int .u8 (digAt (l[k].toNat % 16))) := by
        rw [cell_of_row _ _ _ _ _ _ hd]; exact dig_get _ (by omega)
      refine Text.wp_text [] (by kernel_rfl) (by kernel_rfl) (fun Q' hQ' => ?_)
      go_wp2_with (at_builtin; refine wpList_app u8_app rfl rfl rfl rfl (hown.alloc _).drew (Rd.row (B := wr.heap.size + 1) (Go.heap_alloc_new wr _) (by omega)) rfl (by simp [Value.oneCell']) ?h63 ?hby ?hbase ?_)
      case h63 => simp only [maxLen]; omega
      case hby => omega
      case hbase => have := hbr.size; simp; omega
      intro v1 w2 hown2 hg2 _ _
      go_wp2
      refine ⟨by rfl, ?_⟩
      go_wp2
      go_roundw
      case rel =>
        refine ⟨k + 1, by omega, by go_num, ?_, ?_, ?_⟩
        · rw [hexOf_snoc l k hlt, bcells_append, hex2_cells]; exact hown2
        · exact grown_other (hown.alloc _).drew hg2 ((Below.heap_alloc _ _ _ (Array.getElem?_eq_some_iff.1 hd).1).trans hd) (by decide)
        · exact grown_below ((hbr.alloc hbr.size _).drew) hg2 (hown.alloc _).drew (Nat.le_refl _) (by have := hbr.size; simp; omega)
      case measure => simp [intOf]; omega
    · have hkl : k = l.length := by omega
      subst hkl
      obtain ⟨A4, c4, rfl, _, _⟩ := own_form hown
      rw [List.take_length] at hown
      have hcv := conv_bytes (P := Tryd.prog) (Rd.of_own hown) Tryd.underlying34 Tryd.underlying5 Tryd.underlying9 (2 * l.length) (hexOf_length l).symm
      go_wp2
      go_ret
      exact ⟨rfl, hbr⟩

end Go.Proofs.YtfheocdciekfoaaDoor
