/- Texts of this proof joined: Seg, HexDig, HexText, SevMath, Octet. -/
import Derived.Test.YtplbcbamnjnhlaaGreatDoorMT00
import Derived.Test.YtplbcbamnjnhlaaGreatDoorMT03
import Derived.Test.YtplbcbamnjnhlaaGreatDoorMT04
import Derived.Test.YtplbcbamnjnhlaaGreatDoorChecked
import Derived.Test.YtplbcbamnjnhlaaGreatDoorMT02
import Derived.Maps.AppendAt
import Derived.WalkKit
import Derived.Laws.BitsAllLaws
import Derived.Laws.CopyOwn
import Derived.Deep.OwnRows
import Derived.Outline
set_option maxRecDepth 100000
set_option maxHeartbeats 40000000
namespace Go.Proofs.YtplbcbamnjnhlaaGreatDoor
open Go.RowKit

structure Stop (p : Prop) : Prop where
 o : p
theorem Stop.go {p : Prop} (h : p) : Stop p := ⟨h⟩
section
variable {P : Program} {ops : Array Oper} {Q : Exit → Act → World → Prop} {a : Act} {w : World} {rest : List Oper} {o : Oper}
theorem ai (d : Option Tmp) (_hd : o.dst = d) (h : Stop (wpList P ops Q (o :: rest) a w)) : wpList P ops Q (o :: rest) a w := h.o
theorem ar : ∀ (n : Nat) (l : List Oper) (a : Act) (w : World), (∀ Q' : Exit → Act → World → Prop, (∀ a w, Stop (wpList P ops Q (l.drop n) a w) → Q' .normal a w) → wpList P ops Q' (l.take n) a w) → wpList P ops Q l a w
 |0, l, a, w, h => by
  have := h (fun e a w => e = .normal ∧ wpList P ops Q l a w) (fun a w hh => ⟨rfl, by simpa using hh.o⟩)
  simpa [wpList] using this
 |n + 1, [], a, w, h => by
  have := h (fun e a w => e = .normal ∧ Q .normal a w) (fun a w hh => ⟨rfl, by simpa [wpList] using hh.o⟩)
  simpa [wpList] using this
 |n + 1, o :: r, a, w, h => by
  have h0 := h (fun e a w => e = .normal ∧ wpList P ops Q ((o :: r).drop (n + 1)) a w) (fun a w hh => ⟨rfl, hh.o⟩)
  have hnl : ¬ LetsOut (fun e a w => e = Exit.normal ∧ wpList P ops Q ((o :: r).drop (n + 1)) a w) := fun ⟨_, _, hh⟩ => by cases hh.1
  have hno : ∀ (e : Exit) (a : Act) (w : World), e ≠ .normal → ¬ (e = Exit.normal ∧ wpList P ops Q ((o :: r).drop (n + 1)) a w) := fun _ _ _ hn hh => hn hh.1
  have ih : ∀ a w, wpList P ops (fun e a w => e = .normal ∧ wpList P ops Q ((o :: r).drop (n + 1)) a w) (r.take n) a w → wpList P ops Q r a w := fun a w hl =>
   ar n r a w fun Q' hQ' => by
    refine Text.wpList_mono' (fun e a w hh => ?_) _ _ _ hl
    obtain ⟨rfl, hh⟩ := hh
    exact hQ' _ _ ⟨hh⟩
  rw [List.take_succ_cons] at h0
  unfold wpList at h0 ⊢
  split at h0
  ·rename_i hw
   rw [if_pos hw]
   have h1 := h0.resolve_right fun hh => hnl hh.2
   have h2 := Oper.wp_mono (K' := fun a' w' => wpList P ops Q r a' w') (fun a w hh => ih a w hh) h1
   have h3 := Text.wp_noQ hno hnl h2
   exact .inl (Text.wp_Q (fun e a w hh => absurd hh (by simp [Text.NoQ])) h3)
  ·rename_i hw
   rw [if_neg hw]
   exact ih _ _ h0
theorem ac (hgd : o.guard = none) (ty : TypeId) {x y : Operand} (ho : o.op = .store ty x y) {g off : Nat} (hx : a.eval x = .pointer (some ⟨g, off, none⟩)) {v : Value} (hy : a.eval y = v) {w' : World}
  (hrun : (Instr.storeAt ty (.pointer (some ⟨g, off, none⟩)) v).run P w = .ok () w') (h : wpList P ops Q rest (a.put o.dst undef) w') : wpList P ops Q (o :: rest) a w := by
 refine wpList_plain hgd fun K hK => ?_
 unfold Oper.wp execOp
 simp only [ho, hx, hy, Sem.run_bind, hrun, Result.andThen_ok, Sem.run_pure]
 exact hK _ _ h
theorem bn (hgd : o.guard = none) (ty : TypeId) {x : Operand} (ho : o.op = .box ty x) {v : Value} (hx : a.eval x = v) {vs : List Value} (hv : v.cells = vs.toArray)
  (h : wpList P ops Q rest (a.put o.dst (.pointer (some ⟨w.heap.size, 0, none⟩))) (w.alloc (.cells vs.toArray ty))) : wpList P ops Q (o :: rest) a w := by
 refine wpList_plain hgd fun K hK => ?_
 unfold Oper.wp execOp
 simp only [ho, hx, Instr.box, newVar, newRow, hv, Sem.run_bind, Sem.run_pure, run_newObj, Result.andThen_ok]
 exact hK _ _ h
theorem av (hgd : o.guard = none) (ty : TypeId) (ho : o.op = .alloc ty) {z : Value} (hz : ∀ w, (zeroValue ty).run P w = .ok z w) {vs : List Value} (hv : z.cells = vs.toArray)
  (h : wpList P ops Q rest (a.put o.dst (.pointer (some ⟨w.heap.size, 0, none⟩))) (w.alloc (.cells vs.toArray ty))) : wpList P ops Q (o :: rest) a w := by
 refine wpList_plain hgd fun K hK => ?_
 unfold Oper.wp execOp
 simp only [ho, Instr.alloc, newVar, newRow, hz, hv, Sem.run_bind, Sem.run_pure, run_newObj, Result.andThen_ok]
 exact hK _ _ h
theorem bz (hgd : o.guard = none) {v : Value} (hrun : (execOp a.eval o).run P w = .ok (.value v) w) (h : wpList P ops Q rest (a.put o.dst v) w) : wpList P ops Q (o :: rest) a w := by
 refine wpList_plain hgd fun K hK => ?_
 unfold Oper.wp
 rw [hrun]
 exact hK _ _ h
theorem bl (hgd : o.guard = none) (ty : TypeId) {parts : Array (Nat × Operand)} (ho : o.op = .build ty parts) {vs : Array (Nat × Value)} (hp : parts.toList.map (fun x => (x.1, a.eval x.2)) = vs.toList) {v : Value} (hrun : (Instr.build ty vs).run P w = .ok v w)
  (h : wpList P ops Q rest (a.put o.dst v) w) : wpList P ops Q (o :: rest) a w := by
 refine bz hgd ?_ h
 have hp' : parts.map (fun x => (x.1, a.eval x.2)) = vs := by
  apply Array.ext'
  rw [Array.toList_map, hp]
 subst hp'
 unfold execOp
 simp only [ho, Sem.run_bind, hrun, Result.andThen_ok, Sem.run_pure]
theorem ro (hw : Region.wanted o (yielded ops a.tmps) = true) (h : ∀ K : Act → World → Prop, (∀ a w, wpList P ops Q rest a w → K a w) → o.wp P a w K Q) : wpList P ops Q (o :: rest) a w :=
 wpList_step fun K hK => by rw [if_pos hw]; exact h K hK
theorem aw (hw : Region.wanted o (yielded ops a.tmps) = true) (ty : TypeId) {x : Operand} (ho : o.op = .load ty x) {b off : Nat} (hx : a.eval x = .pointer (some ⟨b, off, none⟩))
  {d : TypeDesc} (hu : P.underlying ty = some d) (hd : (match d with | .struct _ | .array _ _ => true | _ => false) = true) {cs : List Value} (hi : (P.info? ty).map (·.size) = some cs.length)
  (hc : ∀ j u, cs[j]? = some u → w.cell? ⟨b, off + j, none⟩ = some u) (h : wpList P ops Q rest (a.put o.dst (.agg cs.toArray)) w) : wpList P ops Q (o :: rest) a w := by
 refine ro hw fun K hK => ?_
 unfold Oper.wp execOp
 simp only [ho, hx, Sem.run_bind, fw hu hd hi hc, Result.andThen_ok, Sem.run_pure]
 exact hK _ _ h
theorem ei (hgd : o.guard = none) (op : BinOp) (ty : TypeId) {x y : Operand} {kt : TypeId} (ho : o.op = .binOp op ty x y kt) {vx vy v : Value} (hx : a.eval x = vx) (hy : a.eval y = vy) (hg : (eqGuard op ty x y vx vy).run P w = .ok () w)
  (hb : (binOp op ty vx vy).run P w = .ok v w) (h : wpList P ops Q rest (a.put o.dst v) w) : wpList P ops Q (o :: rest) a w := by
 refine bz hgd ?_ h
 unfold execOp
 simp only [ho, hx, hy, Sem.run_bind, hg, hb, Result.andThen_ok, Sem.run_pure]
theorem ln (hw : Region.wanted o (yielded ops a.tmps) = true) (op : BinOp) (ty : TypeId) {x y : Operand} {kt : TypeId} (ho : o.op = .binOp op ty x y kt) {vx vy v : Value} (hx : a.eval x = vx) (hy : a.eval y = vy) (hg : (eqGuard op ty x y vx vy).run P w = .ok () w)
  (hb : (binOp op ty vx vy).run P w = .ok v w) (h : wpList P ops Q rest (a.put o.dst v) w) : wpList P ops Q (o :: rest) a w := by
 refine ro hw fun K hK => ?_
 unfold Oper.wp execOp
 simp only [ho, hx, hy, Sem.run_bind, hg, hb, Result.andThen_ok, Sem.run_pure]
 exact hK _ _ h
theorem aq {g : Nat} {vs : List Value} {t : TypeId} (hg : w.heap[g]? = some (.cells vs.toArray t (0, 0))) : ∀ j u, vs[j]? = some u → w.cell? ⟨g, 0 + j, none⟩ = some u := fun j u hu => by
 rw [Nat.zero_add, cell_of_row _ _ _ _ _ _ hg, ← Array.getElem?_toList]
 exact hu
theorem ch {w : World} {g : Nat} {ty : TypeId} {vs : List Value} {v : Value} (hgs : g = w.heap.size) (hv : v.cells = vs.toArray) (hi : (P.info? ty).map (·.size) = some vs.length) {cur : Array Value} {t : TypeId} (hl : vs.length = cur.size) (h1 : ∀ u ∈ vs, u.oneCell' = true) :
  (Instr.storeAt ty (.pointer (some ⟨g, 0, none⟩)) v).run P (w.alloc (.cells cur t)) = .ok () (w.alloc (.cells vs.toArray t)) := by subst hgs; exact qst hv hi hl h1
end

def oq : Array Value := #[.int .u8 48, .int .u8 49, .int .u8 50, .int .u8 51, .int .u8 52, .int .u8 53, .int .u8 54, .int .u8 55, .int .u8 56, .int .u8 57, .int .u8 97, .int .u8 98, .int .u8 99, .int .u8 100, .int .u8 101, .int .u8 102]

theorem qpf (w : World) :
  Calls Tryz.prog 160 #[] w fun e w' => e = .returned (.agg oq) ∧ Below w.heap.size w w' := by
 go_enter Tryz.func160, Tryz.ntmps160
 go_wp2
 refine bodyPost_ret (v := .agg oq) (by simp [results, Tryz.results160, go_sem, oq]) rfl ⟨rfl, ?_⟩
 go_grown

def md (k : Nat) : Int := if k < 10 then 48 + k else 87 + k
theorem qds (k : Nat) (hk : k < 16) : oq[k]? = some (Value.int .u8 (md k)) := by
 have hall : ∀ j : Fin 16, oq[j.val]? = some (Value.int .u8 (md j.val)) := by
  intro j
  match j with
  |⟨0, _⟩ | ⟨1, _⟩ | ⟨2, _⟩ | ⟨3, _⟩ | ⟨4, _⟩ | ⟨5, _⟩ | ⟨6, _⟩ | ⟨7, _⟩ | ⟨8, _⟩ | ⟨9, _⟩ | ⟨10, _⟩ | ⟨11, _⟩ | ⟨12, _⟩ | ⟨13, _⟩ | ⟨14, _⟩ | ⟨15, _⟩ => rfl
  |⟨n + 16, h⟩ => omega
 exact hall ⟨k, hk⟩

def hex2 (b : UInt8) : List UInt8 := [(md (b.toNat / 16)).toNat.toUInt8, (md (b.toNat % 16)).toNat.toUInt8]
def jp (l : List UInt8) : List UInt8 := l.flatMap hex2

theorem u8_app : pr Tryz.prog 44 5 1 1 (.int .u8 0) := yf Tryz.underlying44 (by kernel_rfl) rfl (by omega)
theorem qmq (k : Nat) (h : k < 16) : 0 ≤ md k ∧ md k < 256 := by unfold md; split <;> omega
theorem qfp (b : UInt8) : ak (hex2 b) = [.int .u8 (md (b.toNat / 16)), .int .u8 (md (b.toNat % 16))] := by
 have h1 := qmq (b.toNat / 16) (by have := b.toNat_lt; omega)
 have h2 := qmq (b.toNat % 16) (by omega)
 simp only [ak, hex2, List.map_cons, List.map_nil, ic, UInt8.toNat_ofNat']
 rw [show (((md (b.toNat / 16)).toNat % 2 ^ 8 : Nat) : Int) = md (b.toNat / 16) by omega, show (((md (b.toNat % 16)).toNat % 2 ^ 8 : Nat) : Int) = md (b.toNat % 16) by omega]
theorem zf (l : List UInt8) (k : Nat) (h : k < l.length) : jp (l.take (k + 1)) = jp (l.take k) ++ hex2 l[k] := by
 rw [List.take_succ_eq_append_getElem h, jp, List.flatMap_append]
 simp [jp]
theorem jk (l : List UInt8) : (jp l).length = 2 * l.length := by
 induction l with
 |nil => rfl
 |cons b l ih => simp only [jp, List.flatMap_cons, List.length_append, List.length_cons] at *; rw [ih]; simp [hex2]; omega
theorem qin (w : World) : (storeCells ⟨w.heap.size, 0, none⟩ oq.toList).run Tryz.prog (w.alloc (.cells #[.int .u8 0, .int .u8 0, .int .u8 0, .int .u8 0, .int .u8 0, .int .u8 0, .int .u8 0, .int .u8 0, .int .u8 0, .int .u8 0, .int .u8 0, .int .u8 0, .int .u8 0, .int .u8 0, .int .u8 0, .int .u8 0] 219)) =
  .ok () (w.alloc (.cells oq 219)) :=
 qgx w _ _ _ rfl (by simp [oq, Value.oneCell'])

theorem hex_text (l : List UInt8) (A : Option Addr) (c : Nat) (w : World) (hr : Rd w w.heap.size A (ak l)) (hl : l.length ≤ 1099511627776) :
  Calls Tryz.prog 140 #[.slice A l.length c] w fun e w' => e = .returned (.string ⟨(jp l).toArray⟩) ∧ Below w.heap.size w w' := by
 have hst := qin
 go_enter Tryz.func140, Tryz.ntmps140
 go_wp2_with (go_call qpf _ as e w1 ⟨rfl, hb⟩)
 go_loopw [4, 6, 10] (fun v4 v6 v10 wr => ∃ k : Nat, k ≤ l.length ∧ v10 = .int .i64 k ∧ wr.ownsRow w.heap.size 5 1 v4 (2 * k) (ak (jp (l.take k))) ∧ wr.heap[w1.heap.size]? = some (.cells oq 219 (0, 0)) ∧ Below w.heap.size w wr) (fun _ _ i _ => l.length - (intOf i).toNat)
 case atStart => exact ⟨0, by omega, rfl, World.ownsRow_nil _ _ _ _, hzn w1 _, hb.alloc hb.size _⟩
 case round =>
  obtain ⟨k, hk, rfl, hown, hd, hbr⟩ := hrel
  by_cases hlt : k < l.length
  ·obtain ⟨ab, ao, rfl, hab, hcell⟩ := (hr.below hbr).byte hlt
   go_wp2
   have hb8 := l[k].toNat_lt
   have hd1 : wr.cell? ⟨w1.heap.size, l[k].toNat / 16, none⟩ = some (.int .u8 (md (l[k].toNat / 16))) := by
    rw [cell_of_row _ _ _ _ _ _ hd]; exact qds _ (by have := l[k].toNat_lt; omega)
   have hd2 : wr.cell? ⟨w1.heap.size, l[k].toNat % 16, none⟩ = some (.int .u8 (md (l[k].toNat % 16))) := by
    rw [cell_of_row _ _ _ _ _ _ hd]; exact qds _ (by omega)
   refine Text.wp_text [] (by kernel_rfl) (by kernel_rfl) (fun Q' hQ' => ?_)
   go_wp2_with (at_builtin; refine ay u8_app rfl rfl rfl rfl (hown.alloc _).drew (Rd.row (B := wr.heap.size + 1) (hzn wr _) (by omega)) rfl (by simp [Value.oneCell']) ?h63 ?hby ?hbase ?_)
   case h63 => simp only [maxLen]; omega
   case hby => omega
   case hbase => have := hbr.size; simp; omega
   intro v1 w2 hown2 hg2 _ _
   go_wp2
   refine ⟨by rfl, ?_⟩
   go_wp2
   go_roundw
   case rel =>
    refine ⟨k + 1, by omega, by go_num, ?_, ?_, ?_⟩
    ·rw [zf l k hlt, bt, qfp]; exact hown2
    ·exact kf (hown.alloc _).drew hg2 ((Below.heap_alloc _ _ _ (gl hd)).trans hd) (by decide)
    ·exact ax ((hbr.alloc hbr.size _).drew) hg2 (hown.alloc _).drew (nr _) (by have := hbr.size; simp; omega)
   case measure => simp [intOf]; omega
  ·have hkl : k = l.length := by omega
   subst hkl
   obtain ⟨A4, c4, rfl, _, _⟩ := ap hown
   rw [List.take_length] at hown
   have hcv := ot (P := Tryz.prog) (Rd.of_own hown) Tryz.underlying44 Tryz.underlying5 Tryz.underlying9 (2 * l.length) (jk l).symm
   go_wp2
   go_ret
   exact ⟨rfl, hbr⟩

end Go.Proofs.YtplbcbamnjnhlaaGreatDoor
namespace Go.Proofs.YtplbcbamnjnhlaaGreatDoor

def digs (B : Nat) : Nat → Nat → List Nat
 |0, _ => []
 |n + 1, v => v % B :: digs B n (v / B)
def gg (B : Nat) : List Nat → Nat
 |[] => 0
 |d :: l => d + B * gg B l
theorem nc (B : Nat) : ∀ n v, (digs B n v).length = n
 |0, _ => rfl
 |n + 1, v => by rw [digs, List.length_cons, nc B n]
theorem qaw (B : Nat) : ∀ (n v i : Nat) (h : i < (digs B n v).length), (digs B n v)[i] = v / B ^ i % B
 |0, v, i, h => by simp [digs] at h
 |n + 1, v, 0, h => by simp [digs]
 |n + 1, v, i + 1, h => by
  have := qaw B n (v / B) i (by simpa [digs] using h)
  simp only [digs, List.getElem_cons_succ]
  rw [this, Nat.div_div_eq_div_mul, Nat.pow_succ, Nat.mul_comm B]
theorem xw (B : Nat) : ∀ n v, digs B (n + 1) v = digs B n v ++ [v / B ^ n % B]
 |0, v => by simp [digs]
 |n + 1, v => by
  rw [digs, xw B n, digs, List.cons_append, Nat.div_div_eq_div_mul, Nat.pow_succ, Nat.mul_comm B]
theorem up (B : Nat) (hB : 0 < B) : ∀ (n v m : Nat), digs B n (v + m * B ^ n) = digs B n v
 |0, _, _ => rfl
 |n + 1, v, m => by
  have e : v + m * B ^ (n + 1) = v + B * (m * B ^ n) := by rw [Nat.pow_succ, ← Nat.mul_assoc, Nat.mul_comm B]
  rw [digs, digs, e, Nat.add_mul_mod_self_left, Nat.add_mul_div_left _ _ hB, up B hB n]
theorem vu (B : Nat) : ∀ n v, gg B (digs B n v) = v % B ^ n
 |0, v => by simp [digs, gg, Nat.mod_one]
 |n + 1, v => by
  rw [digs, gg, vu B n, Nat.pow_succ, Nat.mul_comm (B ^ n) B, Nat.mod_mul]
theorem ww (B : Nat) : ∀ l : List Nat, (∀ d ∈ l, d < B) → digs B l.length (gg B l) = l
 |[], _ => rfl
 |d :: l, h => by
  have hd := h d (by simp)
  have hB : 0 < B := by omega
  rw [List.length_cons, digs, gg, Nat.add_mul_mod_self_left, Nat.add_mul_div_left _ _ hB, Nat.mod_eq_of_lt hd, Nat.div_eq_of_lt hd, Nat.zero_add, ww B l fun x hx => h x (by simp [hx])]
theorem qbp (B : Nat) : ∀ l : List Nat, (∀ d ∈ l, d < B) → gg B l < B ^ l.length
 |[], _ => by simp [gg]
 |d :: l, h => by
  have hd := h d (by simp)
  have := qbp B l fun x hx => h x (by simp [hx])
  rw [gg, List.length_cons, Nat.pow_succ, Nat.mul_comm (B ^ l.length) B]
  calc d + B * gg B l < B + B * gg B l := by omega
   _ = B * (gg B l + 1) := by rw [Nat.mul_add, Nat.mul_one, Nat.add_comm]
   _ ≤ B * B ^ l.length := Nat.mul_le_mul_left _ this
theorem sm (B : Nat) : ∀ x y : List Nat, gg B (x ++ y) = gg B x + B ^ x.length * gg B y
 |[], y => by simp [gg]
 |d :: x, y => by
  rw [List.cons_append, gg, sm B x y, gg, List.length_cons, Nat.pow_succ, Nat.mul_add, Nat.mul_comm (B ^ x.length) B, Nat.mul_assoc]
  omega

def v256 (l : List UInt8) : Nat := gg 256 (l.map (·.toNat))
def v128 (l : List UInt8) : Nat := gg 128 (l.map (·.toNat % 128))
theorem qix (l : List UInt8) : v256 l < 256 ^ l.length := by
 have := qbp 256 (l.map (·.toNat)) (by intro d hd; obtain ⟨c, _, rfl⟩ := List.mem_map.1 hd; exact c.toNat_lt)
 simpa [v256] using this
theorem qql (l : List UInt8) : v128 l < 128 ^ l.length := by
 have := qbp 128 (l.map (·.toNat % 128)) (by intro d hd; obtain ⟨c, _, rfl⟩ := List.mem_map.1 hd; omega)
 simpa [v128] using this
theorem qse (l : List UInt8) (c : UInt8) : v256 (l ++ [c]) = v256 l + c.toNat * 256 ^ l.length := by
 simp only [v256, List.map_append, sm, List.map_cons, List.map_nil, gg, List.length_map, Nat.mul_zero, Nat.add_zero]
 rw [Nat.mul_comm]
theorem qsf (l : List UInt8) (c : UInt8) : v128 (l ++ [c]) = v128 l + c.toNat % 128 * 128 ^ l.length := by
 simp only [v128, List.map_append, sm, List.map_cons, List.map_nil, gg, List.length_map, Nat.mul_zero, Nat.add_zero]
 rw [Nat.mul_comm]
def mf (n v : Nat) : List UInt8 := (digs 128 n v).map fun d => UInt8.ofNat (128 + d)
def eo (l : List UInt8) : List UInt8 := mf ((8 * l.length + 6) / 7) (v256 l)
def dw (n v : Nat) : List UInt8 := (digs 256 n v).map fun d => UInt8.ofNat d
def pm (l : List UInt8) : Bool := l.all fun c => decide (128 ≤ c.toNat)
def dn (b : List UInt8) : Option (List UInt8) :=
 let n := b.length * 7 / 8
 if pm b = true ∧ (8 * n + 6) / 7 = b.length ∧ v128 b < 256 ^ n then some (dw n (v128 b)) else none
theorem pv (n v : Nat) : (mf n v).length = n := by simp [mf, nc]
theorem jv (l : List UInt8) : (eo l).length = (8 * l.length + 6) / 7 := pv _ _
theorem lj (n v : Nat) : (dw n v).length = n := by simp [dw, nc]
theorem qka (l : List UInt8) : dw l.length (v256 l) = l := by
 unfold dw v256
 have h := ww 256 (l.map (·.toNat)) (by intro d hd; obtain ⟨c, _, rfl⟩ := List.mem_map.1 hd; exact c.toNat_lt)
 rw [List.length_map] at h
 rw [h, List.map_map]
 conv => rhs; rw [← List.map_id l]
 apply List.map_congr_left
 intro c _
 simp
theorem qdr (B : Nat) (hB : 0 < B) : ∀ (n v : Nat), ∀ d ∈ digs B n v, d < B
 |0, _, d, h => by simp [digs] at h
 |n + 1, v, d, h => by
  rcases List.mem_cons.1 h with rfl | h
  ·exact Nat.mod_lt _ hB
  ·exact qdr B hB n _ d h
theorem qiy (n v : Nat) : v256 (dw n v) = v % 256 ^ n := by
 unfold v256 dw
 rw [List.map_map, ← vu 256 n v]
 congr 1
 conv => rhs; rw [← List.map_id (digs 256 n v)]
 apply List.map_congr_left
 intro d hd
 have := qdr 256 (by omega) n v d hd
 simp; omega
theorem qno (n v : Nat) : v128 (mf n v) = v % 128 ^ n := by
 unfold v128 mf
 rw [List.map_map, ← vu 128 n v]
 congr 1
 conv => rhs; rw [← List.map_id (digs 128 n v)]
 apply List.map_congr_left
 intro d hd
 have := qdr 128 (by omega) n v d hd
 simp; omega
theorem qct (n v : Nat) : pm (mf n v) = true := by
 unfold pm mf
 rw [List.all_eq_true]
 intro c hc
 obtain ⟨d, hd, rfl⟩ := List.mem_map.1 hc
 have := qdr 128 (by omega) n v d hd
 simp; omega
theorem qnw (b : List UInt8) (h : pm b = true) : mf b.length (v128 b) = b := by
 unfold mf v128
 have hd := ww 128 (b.map (·.toNat % 128)) (by intro d hd; obtain ⟨c, _, rfl⟩ := List.mem_map.1 hd; omega)
 rw [List.length_map] at hd
 rw [hd, List.map_map]
 conv => rhs; rw [← List.map_id b]
 apply List.map_congr_left
 intro c hc
 have h1 : 128 ≤ c.toNat := by
  have := List.all_eq_true.1 h c hc
  simpa using this
 have h2 := c.toNat_lt
 show UInt8.ofNat (128 + c.toNat % 128) = c
 rw [show 128 + c.toNat % 128 = c.toNat by omega]
 simp
theorem pow_7_8 (a b : Nat) (h : 8 * a ≤ 7 * b) : 256 ^ a ≤ 128 ^ b := by
 rw [show (256 : Nat) = 2 ^ 8 by decide, show (128 : Nat) = 2 ^ 7 by decide, ← Nat.pow_mul, ← Nat.pow_mul]
 exact Nat.pow_le_pow_right (by omega) h
theorem qel (l : List UInt8) : dn (eo l) = some l := by
 have hv := qix l
 have hp := pow_7_8 l.length ((8 * l.length + 6) / 7) (by omega)
 have hv2 : v128 (eo l) = v256 l := by rw [eo, qno, Nat.mod_eq_of_lt (by omega)]
 have hn : (8 * l.length + 6) / 7 * 7 / 8 = l.length := by omega
 unfold dn
 simp only [hv2, jv, hn]
 rw [if_pos ⟨qct _ _, trivial, hv⟩, qka]
theorem qp {b l : List UInt8} (h : dn b = some l) : b = eo l := by
 unfold dn at h
 simp only at h
 split at h
 ·rename_i hc
  obtain ⟨h1, h2, h3⟩ := hc
  injection h with h
  subst h
  rw [eo, lj, qiy, Nat.mod_eq_of_lt h3, h2, qnw b h1]
 ·cases h
end Go.Proofs.YtplbcbamnjnhlaaGreatDoor
namespace Go.Proofs.YtplbcbamnjnhlaaGreatDoor
open Go.RowKit

theorem im : pr Tryz.prog 44 5 1 1 (.int .u8 0) := yf Tryz.underlying44 (by kernel_rfl) rfl (by omega)
theorem qdi (n : Nat) (hn : n ≤ 1099511627776) (w : World) : (Instr.makeSlice 44 (.int .i64 (n : Int)) (.int .i64 (n : Int))).run Tryz.prog w = .ok (.slice (some ⟨w.heap.size, 0, none⟩) n n) (w.alloc (.cells (madeCells #[.int .u8 0] n) 5)) :=
 run_make_row' 44 5 (.int .u8 0) 1 Tryz.underlying44 (by kernel_rfl) rfl .i64 .i64 n (by omega) (by omega) w

def WrR (w : World) (g : Nat) (l : List UInt8) : Prop :=
 ∃ v, w.heap[g]? = some (.cells #[v] 171 (0, 0)) ∧ w.ownsRow (g + 1) 5 1 v l.length (ak l)
structure Keep (g : Nat) (w w' : World) : Prop where
 below : Below g w w'
 size : w.heap.size ≤ w'.heap.size
 other : ∀ (k : Nat) (cs : Array Value) (t : TypeId) (fr : Nat × Nat), k ≠ g → t ≠ 5 → w.heap[k]? = some (.cells cs t fr) → w'.heap[k]? = some (.cells cs t fr)
theorem Keep.refl (g : Nat) (w : World) (h : g ≤ w.heap.size) : Keep g w w := ⟨(br _ _).mono h, nr _, fun _ _ _ _ _ _ h => h⟩
theorem Keep.trans {g : Nat} {w w' w'' : World} (h : Keep g w w') (h2 : Keep g w' w'') : Keep g w w'' :=
 ⟨h.below.trans h2.below, Nat.le_trans h.size h2.size, fun k cs t fr h1 h3 h4 => h2.other k cs t fr h1 h3 (h.other k cs t fr h1 h3 h4)⟩
theorem Keep.of_below {g : Nat} {w w' : World} (h : Below w.heap.size w w') (hg : g ≤ w.heap.size) : Keep g w w' :=
 ⟨h.mono hg, h.size, fun k _ _ _ _ _ h4 => (h.block k (gl h4)).trans h4⟩
theorem WrR.lt {w : World} {g : Nat} {l : List UInt8} (h : WrR w g l) : g < w.heap.size := by
 obtain ⟨v, h1, _⟩ := h
 exact (gl h1)
theorem WrR.later {w w' : World} {g : Nat} {l : List UInt8} (h : WrR w g l) (hb : Below w.heap.size w w') : WrR w' g l := by
 obtain ⟨v, h1, h2⟩ := h
 exact ⟨v, (hb.block g (gl h1)).trans h1, bw h2 hb⟩
theorem qlq {w : World} {base : Nat} {e : TypeId} {size : Nat} {v : Value} {n : Nat} {xs : List Value} (h : w.ownsRow base e size v n xs) (p : Addr) (u : Value) (hp : p.block < base) : (w.setCell p u).ownsRow base e size v n xs := by
 refine ⟨h.1, ?_⟩
 rcases h.2 with h' | ⟨g, cap, cur, rfl, hg, hh, r⟩
 ·exact .inl h'
 ·exact .inr ⟨g, cap, cur, rfl, hg, by rw [heap_setCell_other _ _ _ _ (by omega)]; exact hh, r⟩
theorem WrR.append {w w2 : World} {g : Nat} {l r : List UInt8} {v v' : Value} (hv : w.heap[g]? = some (.cells #[v] 171 (0, 0))) (ho : w.ownsRow (g + 1) 5 1 v l.length (ak l))
  (hg : w.grownBy w2 v.ownBlock) (h2 : w2.ownsRow (g + 1) 5 1 v' (l.length + r.length) (ak l ++ ak r)) :
  WrR (w2.setCell ⟨g, 0, none⟩ v') g (l ++ r) ∧ Keep g w (w2.setCell ⟨g, 0, none⟩ v') := by
 have hlt : g < w.heap.size := (gl hv)
 have hh : w2.heap[g]? = some (.cells #[v] 171 (0, 0)) := kf ho hg hv (by decide)
 refine ⟨⟨v', ?_, ?_⟩, ?_, ?_, ?_⟩
 ·have := heap_setCell_same w2 g 0 #[v] 171 v' hh
  simpa using this
 ·rw [List.length_append, bt]
  exact qlq h2 _ _ (Nat.lt_succ_self _)
 ·exact ((br w.heap.size w).mono (Nat.le_of_lt hlt) |>.grown hg (Nat.le_of_lt hlt) (fun k hk => by have := (ho.lt k hk).1; omega)).setCell (nr _) _
 ·rw [World.size_setCell]; exact hg.size
 ·intro k cs t fr hk ht hc
  rw [heap_setCell_other _ _ _ _ hk]
  exact kf ho hg hc ht

theorem qhg (w : World) : Calls Tryz.prog 78 #[] w fun e w' => e = .returned (.pointer (some ⟨w.heap.size, 0, none⟩)) ∧ WrR w' w.heap.size [] ∧ Below w.heap.size w w' ∧ w'.heap.size = w.heap.size + 1 := by
 go_enter Tryz.func78, Tryz.ntmps78
 go_wp2
 go_ret
 refine ⟨rfl, ⟨.slice none 0 0, hzn w _, World.ownsRow_nil _ _ _ _⟩, (br _ _).alloc (nr _) _, by simp⟩

def cb (n x : Nat) : List UInt8 := (dw n x).reverse
theorem bx (n x : Nat) : (cb n x).length = n := by simp [cb, lj]
theorem qke (n x i : Nat) (h : i < n) : (cb n x).take (n - i) = (cb n x).take (n - (i + 1)) ++ [UInt8.ofNat (x / 256 ^ i)] := by
 rw [show n - i = n - (i + 1) + 1 by omega, List.take_succ_eq_append_getElem (by rw [bx]; omega)]
 congr 2
 simp only [cb, List.getElem_reverse, dw, List.getElem_map, qaw]
 simp only [List.length_map, nc]
 rw [show n - 1 - (n - (i + 1)) = i by omega]
 apply UInt8.toNat_inj.1
 simp [Nat.mod_mod_of_dvd]
theorem shr_zero (n x : Nat) (hx : x < 256 ^ n) : (x : Int) / 2 ^ (8 * n) = 0 := by
 have e : ((2 : Int) ^ (8 * n)) = ((256 ^ n : Nat) : Int) := by
  rw [show (256 : Nat) ^ n = 2 ^ (8 * n) by rw [Nat.pow_mul]]
  simp
 rw [e, ← Int.natCast_ediv, Nat.div_eq_of_lt hx]
 rfl
theorem fits_any (n x : Nat) (w : World) (h1 : 1 ≤ n) (h8 : n ≤ 8) (hx : x < 256 ^ n) :
  Calls Tryz.prog 110 #[.int .i64 n, .int .u64 x] w fun e w' => e = .returned (.bool true) ∧ w = w' := by
 by_cases hn : n = 8
 ·subst hn
  go_enter Tryz.func110, Tryz.ntmps110
  go_wp2
  go_ret
  exact ⟨rfl, rfl⟩
 ·have HN := Lh hn
  have hn8 : (((n : Nat) : Int) == 8) = false := by rw [beq_eq_false_iff_ne]; omega
  have HD := Lh (shr_zero n x hx)
  clear hn
  go_enter Tryz.func110, Tryz.ntmps110
  go_wp2
  go_ret
  exact ⟨rt1 (bu (by rw [HD.o]; rfl)), rfl⟩

theorem hq_byte (n x i : Nat) (_h : i < n) : Value.int .u8 ((x : Int) / 2 ^ (8 * i) % 256) = ic (UInt8.ofNat (x / 256 ^ i)) := by
 unfold ic
 rw [UInt8.toNat_ofNat', show (256 : Nat) ^ i = 2 ^ (8 * i) by rw [Nat.pow_mul]]
 simp
theorem py (g n x : Nat) (l : List UInt8) (w : World) (hw : WrR w g l) (h1 : 1 ≤ n) (h8 : n ≤ 8) (hx : x < 256 ^ n) (hl : l.length ≤ 1099511627776) :
  Calls Tryz.prog 79 #[.pointer (some ⟨g, 0, none⟩), .int .i64 n, .int .u64 x] w fun e w' => e = .returned (.bool true) ∧ WrR w' g (l ++ cb n x) ∧ Keep g w w' := by
 have HW := Lh hw
 clear hw
 go_enter Tryz.func79, Tryz.ntmps79
 go_wp2_with fail
 refine (fits_any n x w h1 h8 hx).mono ?_
 rintro e w1 ⟨rfl, rfl⟩
 go_wp2_with fail
 go_loopw [7] (fun v7 wr => ∃ j : Nat, j ≤ n ∧ v7 = .int .i64 ((j : Int) - 1) ∧ WrR wr g (l ++ (cb n x).take (n - j)) ∧ Keep g w wr) (fun v7 _ => (intOf v7 + 1).toNat)
 case atStart => exact ⟨n, by omega, rfl, by simpa using HW.o, Keep.refl g w (Nat.le_of_lt HW.o.lt)⟩
 case round =>
  obtain ⟨j, hj, h7, hwr, hk⟩ := hrel
  cases j with
  |zero =>
   have h7' := h7.trans (vint (show ((0 : Nat) : Int) - 1 = -1 by rfl))
   clear h7
   subst h7'
   go_wp2
   go_ret
   refine ⟨rfl, ?_, hk⟩
   rw [Nat.sub_zero, List.take_of_length_le (by rw [bx]; omega)] at hwr
   exact hwr
  |succ i =>
   have h7' := h7.trans (vint (show ((i + 1 : Nat) : Int) - 1 = (i : Nat) by omega))
   clear h7
   subst h7'
   have HB := Lh (qke n x i (by omega))
   have hlen : (l ++ (cb n x).take (n - (i + 1))).length ≤ l.length + n := by rw [List.length_append, List.length_take]; omega
   obtain ⟨t, ht⟩ : ∃ t, t = l ++ (cb n x).take (n - (i + 1)) := ⟨_, rfl⟩
   rw [← ht] at hwr hlen
   have HT := Lh ht
   clear ht
   obtain ⟨v, hv, ho⟩ := hwr
   have hcell : wr.cell? ⟨g, 0, none⟩ = some v := by rw [cell_of_row _ _ _ _ _ _ hv]; rfl
   obtain ⟨A, c, rfl, hc1, hc2⟩ := ap ho
   have HV := Lh (hq_byte n x i (by omega))
   clear hx
   go_wp2_with fail
   refine Text.wp_grow [10] [4] [] (by kernel_rfl) (by kernel_rfl) ?_
   refine Text.wpS_seg 10 _ _ _ _ (by decide) (fun Q' hQ' => ?_)
   simp only [T1, T0]
   go_wp2_with fail
   simp only [Nat.zero_add, List.drop_succ_cons, List.drop_zero]
   refine Text.wpS_one (fun Q' hQ' => ?_)
   go_wp2_with fail
   refine ⟨(br _ _).alloc (nr _) _, ?_⟩
   refine Text.wpS_seg 4 _ _ _ _ (by decide) (fun Q' hQ' => ?_)
   simp only [T1, T0]
   go_wp2_with (at_builtin; refine ay im rfl rfl rfl rfl (ho.alloc _).drew (Rd.row (B := wr.heap.size + 1) (hzn wr _) (by omega)) rfl (by simp [Value.oneCell']) ?h63 ?hby ?hbase ?_)
   case h63 => simp only [maxLen]; omega
   case hby => omega
   case hbase => have := hk.size; have := HW.o.lt; simp; omega
   intro v1 w2 hown2 hg2 _ _
   have HG2 := Lh hg2
   have HO2 := Lh hown2
   clear hg2 hown2
   have hv2 : w2.heap[g]? = some (.cells #[.slice A t.length c] 171 (0, 0)) := kf (ho.alloc _).drew HG2.o ((Below.heap_alloc wr _ g (gl hv)).trans hv) (by decide)
   have hf2 := frozen_of_row w2 g 0 _ _ hv2
   have hc2 : w2.cell? ⟨g, 0, none⟩ = some (.slice A t.length c) := by rw [cell_of_row _ _ _ _ _ _ hv2]; rfl
   obtain ⟨A2, c2, rfl, _, _⟩ := ap HO2.o
   go_wp2
   refine ⟨by rfl, ⟨fun _ => ⟨_, _, rfl, hcell⟩, trivial⟩, ?_⟩
   have HO3 := HO2.o
   rw [HV.o] at HO3
   have HA := WrR.append (w := (wr.alloc (.cells #[.int .u8 ((x : Int) / 2 ^ (8 * i) % 256)] 5)).drew) (r := [UInt8.ofNat (x / 256 ^ i)]) (((Below.heap_alloc wr _ g (gl hv)).trans hv)) (ho.alloc _).drew HG2.o HO3
   have HK := Lh HA
   clear HA HO3
   go_wp2
   go_roundw
   case rel =>
    refine ⟨i, by omega, by go_num, ?_, ?_⟩
    ·have := HK.o.1
     have e : t ++ [UInt8.ofNat (x / 256 ^ i)] = l ++ (cb n x).take (n - i) := by rw [HT.o, List.append_assoc, ← HB.o]
     rw [e] at this
     exact this
    ·exact (hk.trans (Keep.of_below ((br _ _).alloc (nr _) _).drew (Nat.le_of_lt (gl hv)))).trans HK.o.2
   case measure => simp [intOf]

theorem qaa (g b o cap : Nat) (l r : List UInt8) (A : Option Addr) (c B : Nat) (w : World) (hw : WrR w g l) (hp : w.cell? ⟨b, o, none⟩ = some (.slice A r.length c)) (hr : Rd w B A (ak r)) (hB : B ≤ w.heap.size)
  (hl : l.length ≤ 1099511627776) (hl2 : r.length ≤ 1099511627776) :
  Calls Tryz.prog 81 #[.pointer (some ⟨g, 0, none⟩), .slice (some ⟨b, o, none⟩) 1 cap] w fun e w' => e = .returned (.tuple #[]) ∧ WrR w' g (l ++ r) ∧ Keep g w w' := by
 have HW := Lh hw
 have HR := Lh hr
 have HP := Lh hp
 clear hw hr hp
 go_enter Tryz.func81, Tryz.ntmps81
 go_wp2_with fail
 go_loopw [10] (fun v10 wr => ∃ k : Nat, k ≤ 1 ∧ v10 = .int .i64 k ∧ (k = 0 → wr = w) ∧ (k = 1 → WrR wr g (l ++ r) ∧ Keep g w wr)) (fun v10 _ => 1 - (intOf v10).toNat)
 case atStart => exact ⟨0, by omega, rfl, fun _ => rfl, fun h => by cases h⟩
 case round =>
  obtain ⟨k, hk, rfl, hk0, hk1⟩ := hrel
  by_cases h0 : k = 0
  ·have hwr := hk0 h0
   clear hk0 hk1
   subst hwr h0
   obtain ⟨v, hv, ho⟩ := HW.o
   have hcell : wr.cell? ⟨g, 0, none⟩ = some v := by rw [cell_of_row _ _ _ _ _ _ hv]; rfl
   have hp := HP.o
   obtain ⟨A1, c1, rfl, hc1, hc2⟩ := ap ho
   go_wp2_with (at_builtin; refine ay im rfl rfl rfl rfl ho HR.o (by simp [am]) (ef _) ?h63 ?hby ?hbase ?_)
   case h63 => simp only [maxLen]; omega
   case hby => omega
   case hbase => have := HW.o.lt; simp; omega
   intro v1 w2 hown2 hg2 _ _
   have HG2 := Lh hg2
   have HO2 := Lh hown2
   clear hg2 hown2
   have hv2 : w2.heap[g]? = some (.cells #[.slice A1 l.length c1] 171 (0, 0)) := kf ho HG2.o hv (by decide)
   have hf2 := frozen_of_row w2 g 0 _ _ hv2
   have hc2 : w2.cell? ⟨g, 0, none⟩ = some (.slice A1 l.length c1) := by rw [cell_of_row _ _ _ _ _ _ hv2]; rfl
   obtain ⟨A2, c2, rfl, _, _⟩ := ap HO2.o
   have HK := Lh (WrR.append (w := wr) (r := r) hv ho HG2.o HO2.o)
   go_wp2
   go_roundw
   case rel => exact ⟨1, by omega, rfl, fun h => by (have : False := by omega); exact this.elim, fun _ => ⟨HK.o.1, HK.o.2⟩⟩
   case measure => simp [intOf]
  ·obtain rfl : k = 1 := by omega
   have h := Lh (hk1 rfl)
   clear hk0 hk1
   go_wp2
   go_end0
   exact ⟨rfl, h.o⟩
theorem qfe (z : Value) (n : Nat) : (madeCells #[z] n).size = n := by simp [size_madeCells]
theorem va {w : World} {ops : Array Oper} {rest : List Oper} {o : Oper} {a : Act} {Q : Exit → Act → World → Prop} (hgd : o.guard = none) (d s : Operand)
  (ho : o.op = .call { callee := .builtin .copy, args := #[d, s], argTypes := #[44, 44] })
  {A : Option Addr} {g n c c1 : Nat} {l : List UInt8} (hd : a.eval d = .slice (some ⟨g, 0, none⟩) n c) (hs : a.eval s = .slice A n c1) (hn : n = l.length) {cur : Array Value} {t : TypeId}
  (hg : w.heap[g]? = some (.cells cur t (0, 0))) (hcur : cur.size = n) {B : Nat} (hr : Rd w B A (ak l)) {B0 : Nat} {w0 : World} (hb : Below B0 w0 w) (hBg : B0 ≤ g)
  (h : ∀ w', Hid (w'.heap[g]? = some (.cells (ak l).toArray t (0, 0))) → Below B0 w0 w' → w'.heap.size = w.heap.size → wpList Tryz.prog ops Q rest (a.put o.dst (goInt n)) w') :
  wpList Tryz.prog ops Q (o :: rest) a w := by
 have hlen : (ak l).length = cur.toList.length := by rw [am, ← hn, ← hcur]; simp
 by_cases h0 : l.length = 0
 ·obtain rfl : l = [] := List.eq_nil_of_length_eq_zero h0
  have hn0 : n = 0 := hn
  subst hn0
  refine wpList_copy_nothing hgd d s 44 44 ho 5 Tryz.underlying44 (by kernel_rfl) _ _ _ _ _ _ hd hs (by simp) (h w ?_ hb rfl)
  show _ = _
  rw [hg]
  have : cur = #[] := Array.eq_empty_of_size_eq_zero hcur
  rw [this]
  rfl
 ·obtain ⟨ab, ao, rfl, hab, hcells⟩ := hr (by intro e; apply h0; have := congrArg List.length e; rw [am] at this; simpa using this)
  refine wpList_copy_own hgd d s 44 44 ho 5 Tryz.underlying44 (by kernel_rfl) g 0 n c ⟨ab, ao, none⟩ n c1 hd hs cur t hg (ak l) (by rw [am, ← hn]; simp)
   (fun j v hv => by rw [Addr.add_lit]; exact hcells j v hv) (by rw [am, hcur, hn]; omega) (ef _) ?_
  have hl2 : ((ak l).length : Int) = (n : Int) := by rw [am, hn]
  rw [hl2]
  refine h _ ?_ (below_setRow hb hBg _) (by simp)
  show _ = _
  rw [setRow_heap w g cur _ t _ hg]
  congr 2
  simp only [List.take_zero, List.nil_append, Nat.zero_add, hlen, List.drop_length, List.append_nil]
theorem ma (g : Nat) (l : List UInt8) (w : World) (hw : WrR w g l) (hl : l.length ≤ 1099511627776) :
  Calls Tryz.prog 84 #[.pointer (some ⟨g, 0, none⟩)] w fun e w' => e = .returned (.slice (some ⟨w.heap.size, 0, none⟩) l.length l.length) ∧
   w'.heap[w.heap.size]? = some (.cells (ak l).toArray 5 (0, 0)) ∧ Below w.heap.size w w' ∧ w'.heap.size = w.heap.size + 1 := by
 have HW := Lh hw
 clear hw
 obtain ⟨v, hv, ho⟩ := HW.o
 have hcell : w.cell? ⟨g, 0, none⟩ = some v := by rw [cell_of_row _ _ _ _ _ _ hv]; rfl
 obtain ⟨A1, c1, rfl, hc1, hc2⟩ := ap ho
 have hmk := qdi l.length hl
 have hcell2 : (w.alloc (.cells (madeCells #[.int .u8 0] l.length) 5)).cell? ⟨g, 0, none⟩ = some (.slice A1 l.length c1) := by
  rw [cell_of_row _ _ _ _ _ _ ((Below.heap_alloc w _ g HW.o.lt).trans hv)]; rfl
 go_enter Tryz.func84, Tryz.ntmps84
 go_wp2_with (refine va rfl _ _ rfl rfl rfl rfl (hzn w _) (qfe _ _) (Rd.below (Rd.of_own ho) ((br _ _).alloc (nr _) _)) ((br _ _).alloc (nr _) _) (nr _) ?_)
 intro w2 h2 hb2 hs2
 go_wp2
 go_ret
 exact ⟨rfl, h2.o, hb2, hs2⟩
end Go.Proofs.YtplbcbamnjnhlaaGreatDoor
