/- Values that hold arrays of bytes: loads, stores, comparisons of them, told by lists of cells. No program is named here. -/
import Derived.Test.YtfheocdciekfoaaDoorRep
import Derived.Stop.BytesEq
import Derived.Laws.CopyRow
namespace Go.Proofs.YtfheocdciekfoaaDoor
open Go.RowKit

/-- a hash and a number behind it -/
def hkCells (h : List UInt8) (k : Int) : List Value := bcells h ++ [.int .i64 k]
abbrev hkv (h : List UInt8) (k : Int) : Value := .agg (hkCells h k).toArray
abbrev hashv (h : List UInt8) : Value := .agg (bcells h).toArray
/-- a record's cells: its kind, number, key, mark, and its keys' slice -/
def recCells (kind seq : Int) (kh : List UInt8) (kk : Int) (mh : List UInt8) (ms : Int) (v : Value) : List Value :=
  [.int .i64 kind, .int .i64 seq] ++ (hkCells kh kk ++ (hkCells mh ms ++ [v]))
abbrev recv (kind seq : Int) (kh : List UInt8) (kk : Int) (mh : List UInt8) (ms : Int) (v : Value) : Value := .agg (recCells kind seq kh kk mh ms v).toArray
theorem hkCells_length (h : List UInt8) (k : Int) : (hkCells h k).length = h.length + 1 := by simp [hkCells, bcells_length]
theorem hkv_cells (h : List UInt8) (k : Int) : (hkv h k).cells = (hkCells h k).toArray := rfl
theorem hashv_cells (h : List UInt8) : (hashv h).cells = (bcells h).toArray := rfl
theorem recv_cells (kind seq : Int) (kh : List UInt8) (kk : Int) (mh : List UInt8) (ms : Int) (v : Value) : (recv kind seq kh kk mh ms v).cells = (recCells kind seq kh kk mh ms v).toArray := rfl
theorem hkCells_get (h : List UInt8) (k : Int) (hh : h.length = 32) : (hkCells h k)[32]? = some (.int .i64 k) := by
  unfold hkCells
  rw [List.getElem?_append_right (by rw [bcells_length]; omega), bcells_length, hh]
  rfl
theorem recCells_length (kind seq : Int) (kh : List UInt8) (kk : Int) (mh : List UInt8) (ms : Int) (v : Value) : (recCells kind seq kh kk mh ms v).length = kh.length + mh.length + 5 := by simp [recCells, hkCells_length]; omega

section
variable {P : Program} {w : World}
/-- a value that lies in memory, loaded whole -/
theorem load_agg {ty : TypeId} {d : TypeDesc} (hu : P.underlying ty = some d) (hd : (match d with | .struct _ | .array _ _ => true | _ => false) = true) {b off : Nat} {cs : List Value} (hi : (P.info? ty).map (·.size) = some cs.length)
    (hc : ∀ j u, cs[j]? = some u → w.cell? ⟨b, off + j, none⟩ = some u) : (Instr.loadAt ty (.pointer (some ⟨b, off, none⟩))).run P w = .ok (.agg cs.toArray) w := by
  have hl : (loadCells ⟨b, off, none⟩ cs.length).run P w = .ok cs.toArray w := run_loadCells_list (P := P) w ⟨b, off, none⟩ cs (fun j v hv => by rw [Addr.add_lit]; exact hc j v hv)
  cases hq : P.info? ty with
  | none => simp [hq] at hi
  | some i =>
    have hs : i.size = cs.length := by simpa [hq] using hi
    have hagg : (isAgg ty).run P w = .ok true w := by
      unfold isAgg
      rw [Sem.run_bind, run_underlying hu w]
      cases d <;> simp_all
    simp [Instr.loadAt, Instr.sureAddr, loadVar, Sem.run_bind, hagg, sizeOf, typeInfo, hq, hs, hl]
theorem wpList_load_agg {ops : Array Oper} {rest : List Oper} {o : Oper} {a : Act} {Q : Exit → Act → World → Prop} (hgd : o.guard = none) (ty : TypeId) {x : Operand} (ho : o.op = .load ty x) {b off : Nat} (hx : a.eval x = .pointer (some ⟨b, off, none⟩))
    {d : TypeDesc} (hu : P.underlying ty = some d) (hd : (match d with | .struct _ | .array _ _ => true | _ => false) = true) {cs : List Value} (hi : (P.info? ty).map (·.size) = some cs.length)
    (hc : ∀ j u, cs[j]? = some u → w.cell? ⟨b, off + j, none⟩ = some u) (h : wpList P ops Q rest (a.put o.dst (.agg cs.toArray)) w) : wpList P ops Q (o :: rest) a w := by
  refine wpList_plain hgd fun K hK => ?_
  unfold Oper.wp execOp
  simp only [ho, hx, Sem.run_bind, load_agg hu hd hi hc, Result.andThen_ok, Sem.run_pure]
  exact hK _ _ h
theorem cell_part {g : Nat} {cs : Array Value} {t : TypeId} {fr : Nat × Nat} (h : w.heap[g]? = some (.cells cs t fr)) {xs ys zs : List Value} (he : cs = (xs ++ (ys ++ zs)).toArray) : ∀ j u, ys[j]? = some u → w.cell? ⟨g, xs.length + j, none⟩ = some u := by
  intro j u hu
  rw [cell_of_row w g _ cs t fr h, he]
  have hj := (List.getElem?_eq_some_iff.1 hu).1
  rw [← Array.getElem?_toList]
  simp only
  rw [List.getElem?_append_right (by omega), Nat.add_sub_cancel_left, List.getElem?_append_left hj]
  exact hu
/-- a value stored over a stretch of a row -/
theorem store_agg {ty : TypeId} {g off : Nat} {vs : List Value} {v : Value} (hv : v.cells = vs.toArray) (hi : (P.info? ty).map (·.size) = some vs.length) {cur : Array Value} {t : TypeId} (hg : w.heap[g]? = some (.cells cur t (0, 0)))
    (hl : off + vs.length ≤ cur.size) (h1 : ∀ u ∈ vs, u.oneCell' = true) : (Instr.storeAt ty (.pointer (some ⟨g, off, none⟩)) v).run P w = .ok () (w.setRow g (cur.toList.take off ++ vs ++ cur.toList.drop (off + vs.length)).toArray) := by
  have hs := run_storeCells_at P g off t vs 0 cur w hg (by omega) h1
  rw [Nat.add_zero] at hs
  cases hq : P.info? ty with
  | none => simp [hq] at hi
  | some i =>
    have hsz : i.size = vs.length := by simpa [hq] using hi
    simp [Instr.storeAt, Instr.sureAddr, storeVar, Sem.run_bind, sizeOf, typeInfo, hq, hsz, hv, hs]
/-- a whole value stored into the block that was laid last -/
theorem store_new {ty : TypeId} {vs : List Value} {v : Value} (hv : v.cells = vs.toArray) (hi : (P.info? ty).map (·.size) = some vs.length) {cur : Array Value} {t : TypeId} (hl : vs.length = cur.size) (h1 : ∀ u ∈ vs, u.oneCell' = true) :
    (Instr.storeAt ty (.pointer (some ⟨w.heap.size, 0, none⟩)) v).run P (w.alloc (.cells cur t)) = .ok () (w.alloc (.cells vs.toArray t)) := by
  rw [store_agg hv hi (Go.heap_alloc_new w _) (by omega) h1, setRow_alloc]
  congr 4
  simp [List.drop_eq_nil_of_le (show cur.toList.length ≤ vs.length by simp; omega)]

/-! comparisons -/
theorem hashv_equal (d : Nat) {t e : TypeId} (ht : P.underlying t = some (.array 32 e)) (he : P.underlying e = some (.int .u8)) (hsz : ∀ w, (sizeOf e).run P w = .ok 1 w) {x y : List UInt8} (hx : x.length = 32) (hy : y.length = 32) :
    (Op.equalIn (d + 2) t (hashv x) (hashv y)).run P w = .ok (decide (x = y)) w := by
  have h := run_equalIn_bytes (P := P) w d t e 32 ht he hsz x y hx hy
  have e1 : (x == y) = decide (x = y) := by by_cases h : x = y <;> simp [h]
  rw [e1] at h
  exact h
structure HashTy (P : Program) (ta e : TypeId) : Prop where
  ua : P.underlying ta = some (.array 32 e)
  ue : P.underlying e = some (.int .u8)
  se : ∀ w, (sizeOf e).run P w = .ok 1 w
  sa : ∀ w, (sizeOf ta).run P w = .ok 32 w
  gd : P.eqGuardType P.depth ta = false
structure HkTy (P : Program) (t ta e ti : TypeId) (f0 f1 : Field) : Prop where
  ut : P.underlying t = some (.struct #[f0, f1])
  n0 : f0.name ≠ "_"
  n1 : f1.name ≠ "_"
  t0 : f0.type = ta
  t1 : f1.type = ti
  o0 : f0.offset = 0
  o1 : f1.offset = 32
  ui : P.underlying ti = some (.int .i64)
  H : HashTy P ta e
  st : P.stoodInHeld t = false
  gd : P.eqGuardType P.depth t = false
theorem hkv_equal (d : Nat) {t ta e ti : TypeId} {f0 f1 : Field} (T : HkTy P t ta e ti f0 f1) {x y : List UInt8} {a b : Int} (hx : x.length = 32) (hy : y.length = 32) :
    (Op.equalIn (d + 3) t (hkv x a) (hkv y b)).run P w = .ok (decide (x = y) && decide (a = b)) w := by
  have hf : P.fieldsOf t = #[f0, f1] := by simp [Program.fieldsOf, T.ut]
  have p0 : ∀ (z : List UInt8) (c : Int), z.length = 32 → (part ta (hkCells z c).toArray 0).run P w = .ok (hashv z) w := by
    intro z c hz
    have e1 : (hkCells z c).toArray.extract 0 (0 + 32) = (bcells z).toArray := by
      simp only [List.extract_toArray, hkCells, Nat.zero_add, List.extract_eq_take_drop, List.drop_zero, Nat.sub_zero]
      congr 1
      rw [List.take_append_of_le_length (by rw [bcells_length]; omega), List.take_of_length_le (by rw [bcells_length]; omega)]
    have hagg : (isAgg ta).run P w = .ok true w := by
      unfold isAgg
      rw [Sem.run_bind, run_underlying T.H.ua w]
      rfl
    unfold part
    simp only [Sem.run_bind, hagg, Result.andThen_ok, if_true, T.H.sa, Sem.run_pure]
    rw [e1]
  have p1 : ∀ (z : List UInt8) (c : Int), z.length = 32 → (part ti (hkCells z c).toArray 32).run P w = .ok (.int .i64 c) w := by
    intro z c hz
    have hagg : (isAgg ti).run P w = .ok false w := by
      unfold isAgg
      rw [Sem.run_bind, run_underlying T.ui w]
      rfl
    have hg : (hkCells z c).toArray[32]? = some (.int .i64 c) := by
      rw [← Array.getElem?_toList]
      exact hkCells_get z c hz
    unfold part
    simp only [Sem.run_bind, hagg, Result.andThen_ok, Bool.false_eq_true, if_false, hg, Sem.run_pure]
  unfold hkv
  rw [show d + 3 = (d + 2) + 1 from rfl, run_equalIn_struct w (d + 2) t _ _ (by rw [hf]; exact T.ut) T.st, hf]
  have q := run_equalIn_int (P := P) w (d + 1) ti .i64 .i64 a b T.ui
  rw [show d + 2 = (d + 1) + 1 from rfl] at *
  by_cases h : x = y
  · subst h
    simp only [Op.eqFields, ne_eq, T.n0, T.n1, not_false_eq_true, if_true, Sem.run_bind, T.t0, T.t1, T.o0, T.o1, p0 x a hx, p0 x b hx, p1 x a hx, p1 x b hx, Result.andThen_ok, hashv_equal d T.H.ua T.H.ue T.H.se hx hx, decide_true, Bool.not_true, Bool.false_eq_true, if_false, q, Bool.true_and]
    by_cases hab : a = b
    · simp [hab]
    · simp [hab]
  · simp only [Op.eqFields, ne_eq, T.n0, not_false_eq_true, if_true, Sem.run_bind, T.t0, T.o0, p0 x a hx, p0 y b hy, Result.andThen_ok, hashv_equal d T.H.ua T.H.ue T.H.se hx hy]
    simp [h]
theorem hkv_eql {t ta e ti : TypeId} {f0 f1 : Field} (T : HkTy P t ta e ti f0 f1) {x y : List UInt8} {a b : Int} (hx : x.length = 32) (hy : y.length = 32) :
    (binOp .eql t (hkv x a) (hkv y b)).run P w = .ok (.bool (decide (x = y) && decide (a = b))) w := by
  unfold hkv
  rw [run_eql_struct, show (10000 : Nat) = 9997 + 3 from rfl]
  have := hkv_equal (P := P) (w := w) 9997 T (a := a) (b := b) hx hy
  unfold hkv at this
  rw [this]
  rfl
theorem hkv_neq {t ta e ti : TypeId} {f0 f1 : Field} (T : HkTy P t ta e ti f0 f1) {x y : List UInt8} {a b : Int} (hx : x.length = 32) (hy : y.length = 32) :
    (binOp .neq t (hkv x a) (hkv y b)).run P w = .ok (.bool (!(decide (x = y) && decide (a = b)))) w := by
  unfold hkv
  rw [run_neq_struct, show (10000 : Nat) = 9997 + 3 from rfl]
  have := hkv_equal (P := P) (w := w) 9997 T (a := a) (b := b) hx hy
  unfold hkv at this
  rw [this]
  rfl
theorem hashv_eql {t e : TypeId} (T : HashTy P t e) {x y : List UInt8} (hx : x.length = 32) (hy : y.length = 32) : (binOp .eql t (hashv x) (hashv y)).run P w = .ok (.bool (decide (x = y))) w := by
  unfold hashv
  rw [run_eql_struct, show (10000 : Nat) = 9998 + 2 from rfl]
  have := hashv_equal (P := P) (w := w) 9998 T.ua T.ue T.se hx hy
  unfold hashv at this
  rw [this]
  rfl
theorem hashv_neq {t e : TypeId} (T : HashTy P t e) {x y : List UInt8} (hx : x.length = 32) (hy : y.length = 32) : (binOp .neq t (hashv x) (hashv y)).run P w = .ok (.bool (!(decide (x = y)))) w := by
  unfold hashv
  rw [run_neq_struct, show (10000 : Nat) = 9998 + 2 from rfl]
  have := hashv_equal (P := P) (w := w) 9998 T.ua T.ue T.se hx hy
  unfold hashv at this
  rw [this]
  rfl
theorem hkv_guard {t : TypeId} (hg : P.eqGuardType P.depth t = false) (op : BinOp) (x y : Operand) (a b : List UInt8) (c d : Int) : (eqGuard op t x y (hkv a c) (hkv b d)).run P w = .ok () w := run_eqGuard_agg w op t x y _ _ hg
theorem hashv_guard {t : TypeId} (hg : P.eqGuardType P.depth t = false) (op : BinOp) (x y : Operand) (a b : List UInt8) : (eqGuard op t x y (hashv a) (hashv b)).run P w = .ok () w := run_eqGuard_agg w op t x y _ _ hg
end
end Go.Proofs.YtfheocdciekfoaaDoor
