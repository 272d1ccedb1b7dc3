/- Texts of this proof joined: Seg, HexDig, HexText, SevMath. -/
import Derived.Test.YtplbcbamnjnhlaaDoorMP04
import Derived.Test.YtplbcbamnjnhlaaDoorMP05
import Derived.Test.YtplbcbamnjnhlaaDoorChecked
import Derived.Test.YtplbcbamnjnhlaaDoorMP02
import Derived.Maps.AppendAt
import Derived.WalkKit
/- A plain region walked in stretches: between them operations on whole values by laws of their own. No program is named here. -/
namespace Go.Proofs.YtplbcbamnjnhlaaDoor
open Go.RowKit

/-- where the walk shall stand still -/
structure Stop (p : Prop) : Prop where
  out : p
theorem Stop.go {p : Prop} (h : p) : Stop p := ⟨h⟩
section
variable {P : Program} {ops : Array Oper} {Q : Exit → Act → World → Prop} {a : Act} {w : World} {rest : List Oper} {o : Oper}
/-- the walk stands still ahead of the operation that writes slot d -/
theorem stop_at (d : Option Tmp) (_hd : o.dst = d) (h : Stop (wpList P ops Q (o :: rest) a w)) : wpList P ops Q (o :: rest) a w := h.out
theorem wpList_seg : ∀ (n : Nat) (l : List Oper) (a : Act) (w : World), (∀ Q' : Exit → Act → World → Prop, (∀ a w, Stop (wpList P ops Q (l.drop n) a w) → Q' .normal a w) → wpList P ops Q' (l.take n) a w) → wpList P ops Q l a w
  | 0, l, a, w, h => by
    have := h (fun e a w => e = .normal ∧ wpList P ops Q l a w) (fun a w hh => ⟨rfl, by simpa using hh.out⟩)
    simpa [wpList] using this
  | n + 1, [], a, w, h => by
    have := h (fun e a w => e = .normal ∧ Q .normal a w) (fun a w hh => ⟨rfl, by simpa [wpList] using hh.out⟩)
    simpa [wpList] using this
  | n + 1, o :: r, a, w, h => by
    have h0 := h (fun e a w => e = .normal ∧ wpList P ops Q ((o :: r).drop (n + 1)) a w) (fun a w hh => ⟨rfl, hh.out⟩)
    have hnl : ¬ LetsOut (fun e a w => e = Exit.normal ∧ wpList P ops Q ((o :: r).drop (n + 1)) a w) := fun ⟨_, _, hh⟩ => by cases hh.1
    have hno : ∀ (e : Exit) (a : Act) (w : World), e ≠ .normal → ¬ (e = Exit.normal ∧ wpList P ops Q ((o :: r).drop (n + 1)) a w) := fun _ _ _ hn hh => hn hh.1
    have ih : ∀ a w, wpList P ops (fun e a w => e = .normal ∧ wpList P ops Q ((o :: r).drop (n + 1)) a w) (r.take n) a w → wpList P ops Q r a w := fun a w hl =>
      wpList_seg n r a w fun Q' hQ' => by
        refine Text.wpList_mono' (fun e a w hh => ?_) _ _ _ hl
        obtain ⟨rfl, hh⟩ := hh
        exact hQ' _ _ ⟨hh⟩
    rw [List.take_succ_cons] at h0
    unfold wpList at h0 ⊢
    split at h0
    · rename_i hw
      rw [if_pos hw]
      have h1 := h0.resolve_right fun hh => hnl hh.2
      have h2 := Oper.wp_mono (K' := fun a' w' => wpList P ops Q r a' w') (fun a w hh => ih a w hh) h1
      have h3 := Text.wp_noQ hno hnl h2
      exact .inl (Text.wp_Q (fun e a w hh => absurd hh (by simp [Text.NoQ])) h3)
    · rename_i hw
      rw [if_neg hw]
      exact ih _ _ h0
theorem wpList_store_agg (hgd : o.guard = none) (ty : TypeId) {x y : Operand} (ho : o.op = .store ty x y) {g off : Nat} (hx : a.eval x = .pointer (some ⟨g, off, none⟩)) {v : Value} (hy : a.eval y = v) {w' : World}
    (hrun : (Instr.storeAt ty (.pointer (some ⟨g, off, none⟩)) v).run P w = .ok () w') (h : wpList P ops Q rest (a.put o.dst undef) w') : wpList P ops Q (o :: rest) a w := by
  refine wpList_plain hgd fun K hK => ?_
  unfold Oper.wp execOp
  simp only [ho, hx, hy, Sem.run_bind, hrun, Result.andThen_ok, Sem.run_pure]
  exact hK _ _ h
theorem wpList_box (hgd : o.guard = none) (ty : TypeId) {x : Operand} (ho : o.op = .box ty x) {v : Value} (hx : a.eval x = v) {vs : List Value} (hv : v.cells = vs.toArray)
    (h : wpList P ops Q rest (a.put o.dst (.pointer (some ⟨w.heap.size, 0, none⟩))) (w.alloc (.cells vs.toArray ty))) : wpList P ops Q (o :: rest) a w := by
  refine wpList_plain hgd fun K hK => ?_
  unfold Oper.wp execOp
  simp only [ho, hx, Instr.box, newVar, newRow, hv, Sem.run_bind, Sem.run_pure, run_newObj, Result.andThen_ok]
  exact hK _ _ h
theorem wpList_alloc (hgd : o.guard = none) (ty : TypeId) (ho : o.op = .alloc ty) {z : Value} (hz : ∀ w, (zeroValue ty).run P w = .ok z w) {vs : List Value} (hv : z.cells = vs.toArray)
    (h : wpList P ops Q rest (a.put o.dst (.pointer (some ⟨w.heap.size, 0, none⟩))) (w.alloc (.cells vs.toArray ty))) : wpList P ops Q (o :: rest) a w := by
  refine wpList_plain hgd fun K hK => ?_
  unfold Oper.wp execOp
  simp only [ho, Instr.alloc, newVar, newRow, hz, hv, Sem.run_bind, Sem.run_pure, run_newObj, Result.andThen_ok]
  exact hK _ _ h
theorem wpList_val (hgd : o.guard = none) {v : Value} (hrun : (execOp a.eval o).run P w = .ok (.value v) w) (h : wpList P ops Q rest (a.put o.dst v) w) : wpList P ops Q (o :: rest) a w := by
  refine wpList_plain hgd fun K hK => ?_
  unfold Oper.wp
  rw [hrun]
  exact hK _ _ h
theorem wpList_build (hgd : o.guard = none) (ty : TypeId) {parts : Array (Nat × Operand)} (ho : o.op = .build ty parts) {vs : Array (Nat × Value)} (hp : parts.toList.map (fun x => (x.1, a.eval x.2)) = vs.toList) {v : Value} (hrun : (Instr.build ty vs).run P w = .ok v w)
    (h : wpList P ops Q rest (a.put o.dst v) w) : wpList P ops Q (o :: rest) a w := by
  refine wpList_val hgd ?_ h
  have hp' : parts.map (fun x => (x.1, a.eval x.2)) = vs := by
    apply Array.ext'
    rw [Array.toList_map, hp]
  subst hp'
  unfold execOp
  simp only [ho, Sem.run_bind, hrun, Result.andThen_ok, Sem.run_pure]
theorem wpList_want (hw : Region.wanted o (yielded ops a.tmps) = true) (h : ∀ K : Act → World → Prop, (∀ a w, wpList P ops Q rest a w → K a w) → o.wp P a w K Q) : wpList P ops Q (o :: rest) a w :=
  wpList_step fun K hK => by rw [if_pos hw]; exact h K hK
theorem wpList_load_aggG (hw : Region.wanted o (yielded ops a.tmps) = true) (ty : TypeId) {x : Operand} (ho : o.op = .load ty x) {b off : Nat} (hx : a.eval x = .pointer (some ⟨b, off, none⟩))
    {d : TypeDesc} (hu : P.underlying ty = some d) (hd : (match d with | .struct _ | .array _ _ => true | _ => false) = true) {cs : List Value} (hi : (P.info? ty).map (·.size) = some cs.length)
    (hc : ∀ j u, cs[j]? = some u → w.cell? ⟨b, off + j, none⟩ = some u) (h : wpList P ops Q rest (a.put o.dst (.agg cs.toArray)) w) : wpList P ops Q (o :: rest) a w := by
  refine wpList_want hw fun K hK => ?_
  unfold Oper.wp execOp
  simp only [ho, hx, Sem.run_bind, load_agg hu hd hi hc, Result.andThen_ok, Sem.run_pure]
  exact hK _ _ h
theorem wpList_bin (hgd : o.guard = none) (op : BinOp) (ty : TypeId) {x y : Operand} {kt : TypeId} (ho : o.op = .binOp op ty x y kt) {vx vy v : Value} (hx : a.eval x = vx) (hy : a.eval y = vy) (hg : (eqGuard op ty x y vx vy).run P w = .ok () w)
    (hb : (binOp op ty vx vy).run P w = .ok v w) (h : wpList P ops Q rest (a.put o.dst v) w) : wpList P ops Q (o :: rest) a w := by
  refine wpList_val hgd ?_ h
  unfold execOp
  simp only [ho, hx, hy, Sem.run_bind, hg, hb, Result.andThen_ok, Sem.run_pure]
theorem wpList_binG (hw : Region.wanted o (yielded ops a.tmps) = true) (op : BinOp) (ty : TypeId) {x y : Operand} {kt : TypeId} (ho : o.op = .binOp op ty x y kt) {vx vy v : Value} (hx : a.eval x = vx) (hy : a.eval y = vy) (hg : (eqGuard op ty x y vx vy).run P w = .ok () w)
    (hb : (binOp op ty vx vy).run P w = .ok v w) (h : wpList P ops Q rest (a.put o.dst v) w) : wpList P ops Q (o :: rest) a w := by
  refine wpList_want hw fun K hK => ?_
  unfold Oper.wp execOp
  simp only [ho, hx, hy, Sem.run_bind, hg, hb, Result.andThen_ok, Sem.run_pure]
  exact hK _ _ h
theorem wpList_buildG (hw : Region.wanted o (yielded ops a.tmps) = true) (ty : TypeId) {parts : Array (Nat × Operand)} (ho : o.op = .build ty parts) {vs : Array (Nat × Value)} (hp : parts.toList.map (fun x => (x.1, a.eval x.2)) = vs.toList) {v : Value} (hrun : (Instr.build ty vs).run P w = .ok v w)
    (h : wpList P ops Q rest (a.put o.dst v) w) : wpList P ops Q (o :: rest) a w := by
  refine wpList_want hw fun K hK => ?_
  have hp' : parts.map (fun x => (x.1, a.eval x.2)) = vs := by
    apply Array.ext'
    rw [Array.toList_map, hp]
  subst hp'
  unfold Oper.wp execOp
  simp only [ho, Sem.run_bind, hrun, Result.andThen_ok, Sem.run_pure]
  exact hK _ _ h
theorem row_cells {g : Nat} {vs : List Value} {t : TypeId} (hg : w.heap[g]? = some (.cells vs.toArray t (0, 0))) : ∀ j u, vs[j]? = some u → w.cell? ⟨g, 0 + j, none⟩ = some u := fun j u hu => by
  rw [Nat.zero_add, cell_of_row _ _ _ _ _ _ hg, ← Array.getElem?_toList]
  exact hu
theorem store_new2 {w : World} {g : Nat} {ty : TypeId} {vs : List Value} {v : Value} (hgs : g = w.heap.size) (hv : v.cells = vs.toArray) (hi : (P.info? ty).map (·.size) = some vs.length) {cur : Array Value} {t : TypeId} (hl : vs.length = cur.size) (h1 : ∀ u ∈ vs, u.oneCell' = true) :
    (Instr.storeAt ty (.pointer (some ⟨g, 0, none⟩)) v).run P (w.alloc (.cells cur t)) = .ok () (w.alloc (.cells vs.toArray t)) := by subst hgs; exact store_new hv hi hl h1
end
end Go.Proofs.YtplbcbamnjnhlaaDoor
/- Contracts of hex.digits and hex.value, for every world. -/
namespace Go.Proofs.YtplbcbamnjnhlaaDoor
open Go.RowKit

def digArr : Array Value := #[.int .u8 48, .int .u8 49, .int .u8 50, .int .u8 51, .int .u8 52, .int .u8 53, .int .u8 54, .int .u8 55, .int .u8 56, .int .u8 57, .int .u8 97, .int .u8 98, .int .u8 99, .int .u8 100, .int .u8 101, .int .u8 102]

set_option maxHeartbeats 400000 in
theorem hex_digits (w : World) :
    Calls Tryd.prog 74 #[] w fun e w' => e = .returned (.agg digArr) ∧ Below w.heap.size w w' := by
  go_enter Tryd.func74, Tryd.ntmps74
  go_wp2
  refine bodyPost_ret (v := .agg digArr) (by simp [results, Tryd.results74, go_sem, digArr]) rfl ⟨rfl, ?_⟩
  go_grown

/-- digit number k -/
def digAt (k : Nat) : Int := if k < 10 then 48 + k else 87 + k
/-- what a digit is worth -/
def digVal (c : Int) : Option Int := if 48 ≤ c ∧ c ≤ 57 then some (c - 48) else if 97 ≤ c ∧ c ≤ 102 then some (c - 87) else none

theorem dig_get (k : Nat) (hk : k < 16) : digArr[k]? = some (Value.int .u8 (digAt k)) := by
  have hall : ∀ j : Fin 16, digArr[j.val]? = some (Value.int .u8 (digAt j.val)) := by
    intro j
    match j with
    | ⟨0, _⟩ | ⟨1, _⟩ | ⟨2, _⟩ | ⟨3, _⟩ | ⟨4, _⟩ | ⟨5, _⟩ | ⟨6, _⟩ | ⟨7, _⟩ | ⟨8, _⟩ | ⟨9, _⟩ | ⟨10, _⟩ | ⟨11, _⟩ | ⟨12, _⟩ | ⟨13, _⟩ | ⟨14, _⟩ | ⟨15, _⟩ => rfl
    | ⟨n + 16, h⟩ => omega
  exact hall ⟨k, hk⟩
theorem dig_index (k : Nat) (hk : k < 16) (w : World) : (Instr.index 117 (.agg digArr) (.int .i64 (k : Int))).run Tryd.prog w = .ok (.int .u8 (digAt k)) w := by
  have h := dig_get k hk
  simp [Instr.index, asIntOf, run_underlying Tryd.underlying117, go_sem, hk, h]

end Go.Proofs.YtplbcbamnjnhlaaDoor
/- Contract of hex.Text, for any bytes and every world. -/
namespace Go.Proofs.YtplbcbamnjnhlaaDoor
open Go.RowKit

/-- the digits of a byte -/
def hex2 (b : UInt8) : List UInt8 := [(digAt (b.toNat / 16)).toNat.toUInt8, (digAt (b.toNat % 16)).toNat.toUInt8]
def hexOf (l : List UInt8) : List UInt8 := l.flatMap hex2

theorem u8_app : AppTy Tryd.prog 22 5 1 1 (.int .u8 0) := appTy Tryd.underlying22 (by kernel_rfl) rfl (by omega)
theorem digAt_bd (k : Nat) (h : k < 16) : 0 ≤ digAt k ∧ digAt k < 256 := by unfold digAt; split <;> omega
theorem hex2_cells (b : UInt8) : bcells (hex2 b) = [.int .u8 (digAt (b.toNat / 16)), .int .u8 (digAt (b.toNat % 16))] := by
  have h1 := digAt_bd (b.toNat / 16) (by have := b.toNat_lt; omega)
  have h2 := digAt_bd (b.toNat % 16) (by omega)
  simp only [bcells, hex2, List.map_cons, List.map_nil, bcell, UInt8.toNat_ofNat']
  rw [show (((digAt (b.toNat / 16)).toNat % 2 ^ 8 : Nat) : Int) = digAt (b.toNat / 16) by omega, show (((digAt (b.toNat % 16)).toNat % 2 ^ 8 : Nat) : Int) = digAt (b.toNat % 16) by omega]
theorem hexOf_snoc (l : List UInt8) (k : Nat) (h : k < l.length) : hexOf (l.take (k + 1)) = hexOf (l.take k) ++ hex2 l[k] := by
  rw [List.take_succ_eq_append_getElem h, hexOf, List.flatMap_append]
  simp [hexOf]
theorem hexOf_length (l : List UInt8) : (hexOf l).length = 2 * l.length := by
  induction l with
  | nil => rfl
  | cons b l ih => simp only [hexOf, List.flatMap_cons, List.length_append, List.length_cons] at *; rw [ih]; simp [hex2]; omega
theorem dig_zero : Array.replicate 16 (Value.int .u8 0) = #[.int .u8 0, .int .u8 0, .int .u8 0, .int .u8 0, .int .u8 0, .int .u8 0, .int .u8 0, .int .u8 0, .int .u8 0, .int .u8 0, .int .u8 0, .int .u8 0, .int .u8 0, .int .u8 0, .int .u8 0, .int .u8 0] := rfl
theorem dig_store (w : World) : (storeCells ⟨w.heap.size, 0, none⟩ digArr.toList).run Tryd.prog (w.alloc (.cells #[.int .u8 0, .int .u8 0, .int .u8 0, .int .u8 0, .int .u8 0, .int .u8 0, .int .u8 0, .int .u8 0, .int .u8 0, .int .u8 0, .int .u8 0, .int .u8 0, .int .u8 0, .int .u8 0, .int .u8 0, .int .u8 0] 117)) =
    .ok () (w.alloc (.cells digArr 117)) :=
  run_store_new w _ _ _ rfl (by simp [digArr, Value.oneCell'])

set_option maxHeartbeats 400000 in
theorem hex_text (l : List UInt8) (A : Option Addr) (c : Nat) (w : World) (hr : Rd w w.heap.size A (bcells l)) (hl : l.length ≤ 1099511627776) :
    Calls Tryd.prog 72 #[.slice A l.length c] w fun e w' => e = .returned (.string ⟨(hexOf l).toArray⟩) ∧ Below w.heap.size w w' := by
  have hst := dig_store
  go_enter Tryd.func72, Tryd.ntmps72
  go_wp2_with (go_call hex_digits _ as e w1 ⟨rfl, hb⟩)
  go_loopw [4, 6, 10] (fun v4 v6 v10 wr => ∃ k : Nat, k ≤ l.length ∧ v10 = .int .i64 k ∧ wr.ownsRow w.heap.size 5 1 v4 (2 * k) (bcells (hexOf (l.take k))) ∧ wr.heap[w1.heap.size]? = some (.cells digArr 117 (0, 0)) ∧ Below w.heap.size w wr) (fun _ _ i _ => l.length - (intOf i).toNat)
  case atStart => exact ⟨0, by omega, rfl, World.ownsRow_nil _ _ _ _, Go.heap_alloc_new w1 _, hb.alloc hb.size _⟩
  case round =>
    obtain ⟨k, hk, rfl, hown, hd, hbr⟩ := hrel
    by_cases hlt : k < l.length
    · obtain ⟨ab, ao, rfl, hab, hcell⟩ := (hr.below hbr).byte hlt
      go_wp2
      have hb8 := l[k].toNat_lt
      have hd1 : wr.cell? ⟨w1.heap.size, l[k].toNat / 16, none⟩ = some (.int .u8 (digAt (l[k].toNat / 16))) := by
        rw [cell_of_row _ _ _ _ _ _ hd]; exact dig_get _ (by have := l[k].toNat_lt; omega)
      have hd2 : wr.cell? ⟨w1.heap.size, l[k].toNat % 16, none⟩ = some (.int .u8 (digAt (l[k].toNat % 16))) := by
        rw [cell_of_row _ _ _ _ _ _ hd]; exact dig_get _ (by omega)
      refine Text.wp_text [] (by kernel_rfl) (by kernel_rfl) (fun Q' hQ' => ?_)
      go_wp2_with (at_builtin; refine wpList_app u8_app rfl rfl rfl rfl (hown.alloc _).drew (Rd.row (B := wr.heap.size + 1) (Go.heap_alloc_new wr _) (by omega)) rfl (by simp [Value.oneCell']) ?h63 ?hby ?hbase ?_)
      case h63 => simp only [maxLen]; omega
      case hby => omega
      case hbase => have := hbr.size; simp; omega
      intro v1 w2 hown2 hg2 _ _
      go_wp2
      refine ⟨by rfl, ?_⟩
      go_wp2
      go_roundw
      case rel =>
        refine ⟨k + 1, by omega, by go_num, ?_, ?_, ?_⟩
        · rw [hexOf_snoc l k hlt, bcells_append, hex2_cells]; exact hown2
        · exact grown_other (hown.alloc _).drew hg2 ((Below.heap_alloc _ _ _ (Array.getElem?_eq_some_iff.1 hd).1).trans hd) (by decide)
        · exact grown_below ((hbr.alloc hbr.size _).drew) hg2 (hown.alloc _).drew (Nat.le_refl _) (by have := hbr.size; simp; omega)
      case measure => simp [intOf]; omega
    · have hkl : k = l.length := by omega
      subst hkl
      obtain ⟨A4, c4, rfl, _, _⟩ := own_form hown
      rw [List.take_length] at hown
      have hcv := conv_bytes (P := Tryd.prog) (Rd.of_own hown) Tryd.underlying22 Tryd.underlying5 Tryd.underlying9 (2 * l.length) (hexOf_length l).symm
      go_wp2
      go_ret
      exact ⟨rfl, hbr⟩

end Go.Proofs.YtplbcbamnjnhlaaDoor
/- Bytes in sevens: digits to a base, there and back. Plain: no program is named here. -/
namespace Go.Proofs.YtplbcbamnjnhlaaDoor

/-- the lowest n digits of v to the base B -/
def digs (B : Nat) : Nat → Nat → List Nat
  | 0, _ => []
  | n + 1, v => v % B :: digs B n (v / B)
def ofDigs (B : Nat) : List Nat → Nat
  | [] => 0
  | d :: l => d + B * ofDigs B l
theorem digs_length (B : Nat) : ∀ n v, (digs B n v).length = n
  | 0, _ => rfl
  | n + 1, v => by rw [digs, List.length_cons, digs_length B n]
theorem digs_get (B : Nat) : ∀ (n v i : Nat) (h : i < (digs B n v).length), (digs B n v)[i] = v / B ^ i % B
  | 0, v, i, h => by simp [digs] at h
  | n + 1, v, 0, h => by simp [digs]
  | n + 1, v, i + 1, h => by
    have := digs_get B n (v / B) i (by simpa [digs] using h)
    simp only [digs, List.getElem_cons_succ]
    rw [this, Nat.div_div_eq_div_mul, Nat.pow_succ, Nat.mul_comm B]
theorem digs_snoc (B : Nat) : ∀ n v, digs B (n + 1) v = digs B n v ++ [v / B ^ n % B]
  | 0, v => by simp [digs]
  | n + 1, v => by
    rw [digs, digs_snoc B n, digs, List.cons_append, Nat.div_div_eq_div_mul, Nat.pow_succ, Nat.mul_comm B]
theorem digs_add_mul (B : Nat) (hB : 0 < B) : ∀ (n v m : Nat), digs B n (v + m * B ^ n) = digs B n v
  | 0, _, _ => rfl
  | n + 1, v, m => by
    have e : v + m * B ^ (n + 1) = v + B * (m * B ^ n) := by rw [Nat.pow_succ, ← Nat.mul_assoc, Nat.mul_comm B]
    rw [digs, digs, e, Nat.add_mul_mod_self_left, Nat.add_mul_div_left _ _ hB, digs_add_mul B hB n]
theorem ofDigs_digs (B : Nat) : ∀ n v, ofDigs B (digs B n v) = v % B ^ n
  | 0, v => by simp [digs, ofDigs, Nat.mod_one]
  | n + 1, v => by
    rw [digs, ofDigs, ofDigs_digs B n, Nat.pow_succ, Nat.mul_comm (B ^ n) B, Nat.mod_mul]
theorem digs_ofDigs (B : Nat) : ∀ l : List Nat, (∀ d ∈ l, d < B) → digs B l.length (ofDigs B l) = l
  | [], _ => rfl
  | d :: l, h => by
    have hd := h d (by simp)
    have hB : 0 < B := by omega
    rw [List.length_cons, digs, ofDigs, Nat.add_mul_mod_self_left, Nat.add_mul_div_left _ _ hB, Nat.mod_eq_of_lt hd, Nat.div_eq_of_lt hd, Nat.zero_add, digs_ofDigs B l fun x hx => h x (by simp [hx])]
theorem ofDigs_lt (B : Nat) : ∀ l : List Nat, (∀ d ∈ l, d < B) → ofDigs B l < B ^ l.length
  | [], _ => by simp [ofDigs]
  | d :: l, h => by
    have hd := h d (by simp)
    have := ofDigs_lt B l fun x hx => h x (by simp [hx])
    rw [ofDigs, List.length_cons, Nat.pow_succ, Nat.mul_comm (B ^ l.length) B]
    calc d + B * ofDigs B l < B + B * ofDigs B l := by omega
      _ = B * (ofDigs B l + 1) := by rw [Nat.mul_add, Nat.mul_one, Nat.add_comm]
      _ ≤ B * B ^ l.length := Nat.mul_le_mul_left _ this
theorem ofDigs_append (B : Nat) : ∀ x y : List Nat, ofDigs B (x ++ y) = ofDigs B x + B ^ x.length * ofDigs B y
  | [], y => by simp [ofDigs]
  | d :: x, y => by
    rw [List.cons_append, ofDigs, ofDigs_append B x y, ofDigs, List.length_cons, Nat.pow_succ, Nat.mul_add, Nat.mul_comm (B ^ x.length) B, Nat.mul_assoc]
    omega

/-- bytes as one number, the lowest first -/
def v256 (l : List UInt8) : Nat := ofDigs 256 (l.map (·.toNat))
/-- bytes as one number, seven bits each -/
def v128 (l : List UInt8) : Nat := ofDigs 128 (l.map (·.toNat % 128))
theorem v256_lt (l : List UInt8) : v256 l < 256 ^ l.length := by
  have := ofDigs_lt 256 (l.map (·.toNat)) (by intro d hd; obtain ⟨c, _, rfl⟩ := List.mem_map.1 hd; exact c.toNat_lt)
  simpa [v256] using this
theorem v128_lt (l : List UInt8) : v128 l < 128 ^ l.length := by
  have := ofDigs_lt 128 (l.map (·.toNat % 128)) (by intro d hd; obtain ⟨c, _, rfl⟩ := List.mem_map.1 hd; omega)
  simpa [v128] using this
theorem v256_snoc (l : List UInt8) (c : UInt8) : v256 (l ++ [c]) = v256 l + c.toNat * 256 ^ l.length := by
  simp only [v256, List.map_append, ofDigs_append, List.map_cons, List.map_nil, ofDigs, List.length_map, Nat.mul_zero, Nat.add_zero]
  rw [Nat.mul_comm]
theorem v128_snoc (l : List UInt8) (c : UInt8) : v128 (l ++ [c]) = v128 l + c.toNat % 128 * 128 ^ l.length := by
  simp only [v128, List.map_append, ofDigs_append, List.map_cons, List.map_nil, ofDigs, List.length_map, Nat.mul_zero, Nat.add_zero]
  rw [Nat.mul_comm]
/-- bytes in sevens: each packed byte has its highest bit -/
def sevOf (n v : Nat) : List UInt8 := (digs 128 n v).map fun d => UInt8.ofNat (128 + d)
def sevPack (l : List UInt8) : List UInt8 := sevOf ((8 * l.length + 6) / 7) (v256 l)
def bytesOfNat (n v : Nat) : List UInt8 := (digs 256 n v).map fun d => UInt8.ofNat d
def highB (l : List UInt8) : Bool := l.all fun c => decide (128 ≤ c.toNat)
def sevUnpack (b : List UInt8) : Option (List UInt8) :=
  let n := b.length * 7 / 8
  if highB b = true ∧ (8 * n + 6) / 7 = b.length ∧ v128 b < 256 ^ n then some (bytesOfNat n (v128 b)) else none
theorem sevOf_length (n v : Nat) : (sevOf n v).length = n := by simp [sevOf, digs_length]
theorem sevPack_length (l : List UInt8) : (sevPack l).length = (8 * l.length + 6) / 7 := sevOf_length _ _
theorem bytesOfNat_length (n v : Nat) : (bytesOfNat n v).length = n := by simp [bytesOfNat, digs_length]
theorem bytesOf_v256 (l : List UInt8) : bytesOfNat l.length (v256 l) = l := by
  unfold bytesOfNat v256
  have h := digs_ofDigs 256 (l.map (·.toNat)) (by intro d hd; obtain ⟨c, _, rfl⟩ := List.mem_map.1 hd; exact c.toNat_lt)
  rw [List.length_map] at h
  rw [h, List.map_map]
  conv => rhs; rw [← List.map_id l]
  apply List.map_congr_left
  intro c _
  simp
theorem digs_lt (B : Nat) (hB : 0 < B) : ∀ (n v : Nat), ∀ d ∈ digs B n v, d < B
  | 0, _, d, h => by simp [digs] at h
  | n + 1, v, d, h => by
    rcases List.mem_cons.1 h with rfl | h
    · exact Nat.mod_lt _ hB
    · exact digs_lt B hB n _ d h
theorem v256_bytesOf (n v : Nat) : v256 (bytesOfNat n v) = v % 256 ^ n := by
  unfold v256 bytesOfNat
  rw [List.map_map, ← ofDigs_digs 256 n v]
  congr 1
  conv => rhs; rw [← List.map_id (digs 256 n v)]
  apply List.map_congr_left
  intro d hd
  have := digs_lt 256 (by omega) n v d hd
  simp; omega
theorem v128_sevOf (n v : Nat) : v128 (sevOf n v) = v % 128 ^ n := by
  unfold v128 sevOf
  rw [List.map_map, ← ofDigs_digs 128 n v]
  congr 1
  conv => rhs; rw [← List.map_id (digs 128 n v)]
  apply List.map_congr_left
  intro d hd
  have := digs_lt 128 (by omega) n v d hd
  simp; omega
theorem highB_sevOf (n v : Nat) : highB (sevOf n v) = true := by
  unfold highB sevOf
  rw [List.all_eq_true]
  intro c hc
  obtain ⟨d, hd, rfl⟩ := List.mem_map.1 hc
  have := digs_lt 128 (by omega) n v d hd
  simp; omega
theorem sevOf_v128 (b : List UInt8) (h : highB b = true) : sevOf b.length (v128 b) = b := by
  unfold sevOf v128
  have hd := digs_ofDigs 128 (b.map (·.toNat % 128)) (by intro d hd; obtain ⟨c, _, rfl⟩ := List.mem_map.1 hd; omega)
  rw [List.length_map] at hd
  rw [hd, List.map_map]
  conv => rhs; rw [← List.map_id b]
  apply List.map_congr_left
  intro c hc
  have h1 : 128 ≤ c.toNat := by
    have := List.all_eq_true.1 h c hc
    simpa using this
  have h2 := c.toNat_lt
  show UInt8.ofNat (128 + c.toNat % 128) = c
  rw [show 128 + c.toNat % 128 = c.toNat by omega]
  simp
theorem pow_7_8 (a b : Nat) (h : 8 * a ≤ 7 * b) : 256 ^ a ≤ 128 ^ b := by
  rw [show (256 : Nat) = 2 ^ 8 by decide, show (128 : Nat) = 2 ^ 7 by decide, ← Nat.pow_mul, ← Nat.pow_mul]
  exact Nat.pow_le_pow_right (by omega) h
theorem sevUnpack_pack (l : List UInt8) : sevUnpack (sevPack l) = some l := by
  have hv := v256_lt l
  have hp := pow_7_8 l.length ((8 * l.length + 6) / 7) (by omega)
  have hv2 : v128 (sevPack l) = v256 l := by rw [sevPack, v128_sevOf, Nat.mod_eq_of_lt (by omega)]
  have hn : (8 * l.length + 6) / 7 * 7 / 8 = l.length := by omega
  unfold sevUnpack
  simp only [hv2, sevPack_length, hn]
  rw [if_pos ⟨highB_sevOf _ _, trivial, hv⟩, bytesOf_v256]
theorem sevPack_unpack {b l : List UInt8} (h : sevUnpack b = some l) : b = sevPack l := by
  unfold sevUnpack at h
  simp only at h
  split at h
  · rename_i hc
    obtain ⟨h1, h2, h3⟩ := hc
    injection h with h
    subst h
    rw [sevPack, bytesOfNat_length, v256_bytesOf, Nat.mod_eq_of_lt h3, h2, sevOf_v128 b h1]
  · cases h
end Go.Proofs.YtplbcbamnjnhlaaDoor
