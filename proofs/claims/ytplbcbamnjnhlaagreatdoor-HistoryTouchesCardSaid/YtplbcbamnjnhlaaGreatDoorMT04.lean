/- Texts of this proof joined: Words, Close, Rep, Agg. -/
import Derived.Test.YtplbcbamnjnhlaaGreatDoorMT00
import Derived.WalkKit
import Derived.WalkSpells
import Derived.WalkLawsBesides
import Derived.Handy
import Derived.Lib.Hide
import Derived.Maps.AppendAt
import Derived.ProofKit
import Derived.OpenShut
import Derived.Carry
import Derived.DataReads
import Derived.Stop.BytesEq
import Derived.Laws.CopyRow
set_option maxRecDepth 100000
set_option maxHeartbeats 40000000
namespace Go.Proofs.YtplbcbamnjnhlaaGreatDoor
open Go.RowKit

theorem rt1 {a a' : Value} (h : a = a') : Ending.returned a = .returned a' := by rw [h]
theorem rt2 {a b a' b' : Value} (h : a = a') (h2 : b = b') : Ending.returned (.tuple #[a, b]) = .returned (.tuple #[a', b']) := by rw [h, h2]
theorem vint {k : IntKind} {a b : Int} (h : a = b) : Value.int k a = .int k b := by rw [h]
theorem bu {a b : Bool} (h : a = b) : Value.bool a = .bool b := by rw [h]
theorem vstr {a b : ByteArray} (h : a = b) : Value.string a = .string b := by rw [h]

def Rd (w : World) (B : Nat) (A : Option Addr) (xs : List Value) : Prop :=
 xs ≠ [] → ∃ b off, A = some ⟨b, off, none⟩ ∧ b < B ∧ ∀ j u, xs[j]? = some u → w.cell? ⟨b, off + j, none⟩ = some u

theorem qqc {w : World} {a : Addr} {v : Value} (h : w.cell? a = some v) : a = ⟨a.block, a.off, none⟩ := by
 obtain ⟨b, o, s⟩ := a
 cases s with
 |none => rfl
 |some s =>
  exfalso
  simp only [World.cell?] at h
  split at h
  ·simp at h
  ·cases h

section
variable {w w' : World} {B B' : Nat} {A : Option Addr} {xs : List Value}
theorem Rd.nil_ : Rd w B A [] := fun h => absurd rfl h
theorem Rd.at_ (h : Rd w B A xs) {k : Nat} (hk : k < xs.length) : ∃ b off, A = some ⟨b, off, none⟩ ∧ b < B ∧ w.cell? ⟨b, off + k, none⟩ = some xs[k] := by
 obtain ⟨b, off, e, hb, hc⟩ := h (by intro e; subst e; simp at hk)
 exact ⟨b, off, e, hb, hc k _ (List.getElem?_eq_getElem hk)⟩
theorem Rd.keep (h : Rd w B A xs) (hk : ∀ p : Addr, p.block < B → w'.cell? p = w.cell? p) : Rd w' B A xs := fun hn => by
 obtain ⟨b, off, e, hb, hc⟩ := h hn
 exact ⟨b, off, e, hb, fun j u hu => (hk _ hb).trans (hc j u hu)⟩
theorem Rd.more (h : Rd w B A xs) (hB : B ≤ B') : Rd w B' A xs := fun hn => by
 obtain ⟨b, off, e, hb, hc⟩ := h hn
 exact ⟨b, off, e, by omega, hc⟩
theorem Rd.below (h : Rd w B A xs) (hb : Below B w w') : Rd w' B A xs := h.keep fun _ hp => hb.cell hp
theorem Rd.drop_ (h : Rd w B A xs) (k : Nat) {cap : Nat} (hc : k < xs.length → k ≠ cap) :
  Rd w B (if cap = k then A else A.map (·.add k)) (xs.drop k) := fun hn => by
 have hl : k < xs.length := by
  rcases Nat.lt_or_ge k xs.length with h' | h'
  ·exact h'
  ·exact absurd (List.drop_eq_nil_of_le h') hn
 obtain ⟨b, off, rfl, hb, hcell⟩ := h (by intro e; subst e; simp at hl)
 have := hc hl
 rw [if_neg (by omega)]
 refine ⟨b, off + k, by simp [Addr.add_lit], hb, fun j u hu => ?_⟩
 rw [Nat.add_assoc]
 exact hcell _ u (by rw [← hu, List.getElem?_drop])
theorem Rd.take_ (h : Rd w B A xs) (k : Nat) : Rd w B A (xs.take k) := fun hn => by
 obtain ⟨b, off, e, hb, hcell⟩ := h (by intro e; subst e; simp at hn)
 refine ⟨b, off, e, hb, fun j u hu => hcell j u ?_⟩
 rw [List.getElem?_take] at hu
 split at hu
 ·exact hu
 ·cases hu
theorem Rd.of_own {base : Nat} {e : TypeId} {size n c : Nat} (h : w.ownsRow base e size (.slice A n c) n xs) : Rd w w.heap.size A xs := fun hn => by
 rcases h.2 with ⟨hv, h0⟩ | ⟨g, cap, cur, hv, _, hg, _⟩
 ·have h1 := h.1
  rw [h0] at h1
  exact absurd (List.eq_nil_of_length_eq_zero (by omega)) hn
 ·have hA : A = some ⟨g, 0, none⟩ := by injection hv
  subst hA
  refine ⟨g, 0, rfl, (gl hg), fun j u hu => ?_⟩
  have := h.cells (g := g) rfl j u hu
  rwa [Addr.add_lit] at this
end

theorem ap {w : World} {base : Nat} {e : TypeId} {size : Nat} {v : Value} {n : Nat} {xs : List Value} (h : w.ownsRow base e size v n xs) :
  ∃ A c, v = .slice A n c ∧ n ≤ c ∧ c ≤ maxLen := by
 rcases h.2 with ⟨rfl, rfl⟩ | ⟨g, cap, cur, rfl, _, _, h1, h2, _⟩
 ·exact ⟨none, 0, rfl, by omega, by simp [maxLen]⟩
 ·exact ⟨_, cap, rfl, h1, h2⟩
theorem fv {w : World} {base base' : Nat} {e : TypeId} {size : Nat} {v : Value} {n : Nat} {xs : List Value} (h : w.ownsRow base e size v n xs) (hb : base' ≤ base) :
  w.ownsRow base' e size v n xs := by
 refine ⟨h.1, ?_⟩
 rcases h.2 with h' | ⟨g, cap, cur, rfl, hg, r⟩
 ·exact .inl h'
 ·exact .inr ⟨g, cap, cur, rfl, by omega, r⟩
theorem bw {w w' : World} {base : Nat} {e : TypeId} {size : Nat} {v : Value} {n : Nat} {xs : List Value} (h : w.ownsRow base e size v n xs) (hb : Below w.heap.size w w') :
  w'.ownsRow base e size v n xs := by
 refine ⟨h.1, ?_⟩
 rcases h.2 with h' | ⟨g, cap, cur, rfl, hg, hh, r⟩
 ·exact .inl h'
 ·exact .inr ⟨g, cap, cur, rfl, hg, (hb.block g (gl hh)).trans hh, r⟩

theorem vi {a b : World} (h : a.heap = b.heap) (h2 : a.tape = b.tape) (h3 : a.drawn = b.drawn) (h4 : a.os = b.os) (h5 : a.output = b.output) : a = b := by
 cases a; cases b; simp only at *; subst h h2 h3 h4 h5; rfl
theorem zw (w : World) (cur cs : Array Value) (e : TypeId) : (w.alloc (.cells cur e)).setRow w.heap.size cs = w.alloc (.cells cs e) := by
 refine vi ?_ rfl rfl rfl rfl
 apply Array.ext_getElem?
 intro i
 by_cases hi : i = w.heap.size
 ·subst hi
  rw [setRow_heap _ _ cur cs e (0, 0) (hzn w _), hzn w _]
 ·rw [setRow_other _ _ _ _ hi]
  show (w.heap.push _)[i]? = (w.heap.push _)[i]?
  rw [Array.getElem?_push, Array.getElem?_push, if_neg hi, if_neg hi]
theorem qgx {P : Program} (w : World) (cur : Array Value) (e : TypeId) (xs : List Value) (hl : xs.length = cur.size) (h1 : ∀ u ∈ xs, u.oneCell' = true) :
  (storeCells ⟨w.heap.size, 0, none⟩ xs).run P (w.alloc (.cells cur e)) = .ok () (w.alloc (.cells xs.toArray e)) := by
 have h := run_storeCells_at P w.heap.size 0 e xs 0 cur (w.alloc (.cells cur e)) (hzn w _) (by omega) h1
 rw [h, zw]
 congr 4
 simp [List.drop_eq_nil_of_le (show cur.toList.length ≤ xs.length by simp; omega)]

theorem Rd.row {w : World} {B g : Nat} {e : TypeId} {fr : Nat × Nat} {cs : Array Value} (h : w.heap[g]? = some (.cells cs e fr)) (hB : g < B) : Rd w B (some ⟨g, 0, none⟩) cs.toList := fun _ =>
 ⟨g, 0, rfl, hB, fun j u hu => by
  rw [Nat.zero_add, cell_of_row w g j cs e fr h, ← Array.getElem?_toList]
  exact hu⟩

theorem heap_two (w : World) (o o' : Obj) : ((w.alloc o).alloc o').heap[w.heap.size + 1]? = some o' := by
 have := hzn (w.alloc o) o'
 rwa [sz_] at this
structure pr (P : Program) (t e : TypeId) (size bytes : Nat) (z : Value) : Prop where
 und : P.underlying t = some (.slice e)
 info : ∃ i, P.info? e = some i ∧ i.zero = some z ∧ i.size = size ∧ i.bytes = bytes
 cells : z.cells.size = size
 pos : 0 < size
theorem yf {P : Program} {t e : TypeId} {size bytes : Nat} {z : Value} (h1 : P.underlying t = some (.slice e)) (h2 : (P.info? e).map (fun i => (i.zero, i.size, i.bytes)) = some (some z, size, bytes))
  (h3 : z.cells.size = size) (h4 : 0 < size) : pr P t e size bytes z := ⟨h1, info_parts h2, h3, h4⟩

section
variable {P : Program} {w : World}
theorem qqp {t ty e : TypeId} {size bytes : Nat} {z : Value} (T : pr P t e size bytes z) {base : Nat} {v : Value} {n : Nat} {xs : List Value} (hown : w.ownsRow base e size v n xs)
  {B : Nat} {A : Option Addr} {m c : Nat} {news : List Value} (hr : Rd w B A news) (hl : news.length = m * size) (h1 : ∀ u ∈ news, u.oneCell' = true)
  (h63 : n + m ≤ maxLen) (hbytes : (n + m) * bytes ≤ 140737488355328) (hbase : base ≤ w.heap.size) :
  ∃ v' w', (Builtin.append_ #[t, t] ty #[v, .slice A m c]).run P w = .ok v' w' ∧ w'.ownsRow base e size v' (n + m) (xs ++ news) ∧ w.grownBy w' v.ownBlock ∧
   (v'.ownBlock = v.ownBlock ∨ v'.ownBlock = some w.heap.size) ∧ (v' = .slice none 0 0 ↔ v = .slice none 0 0 ∧ m = 0) := by
 obtain ⟨i, hi, hz, hs, hby⟩ := T.info
 by_cases hm : m = 0
 ·subst hm
  have hn : news = [] := List.eq_nil_of_length_eq_zero (by simpa using hl)
  subst hn
  rcases A with _ | ad
  ·refine ⟨v, w, ?_, by simpa using hown, ⟨rfl, rfl, rfl, nr _, fun _ _ _ => rfl⟩, .inl rfl, by simp⟩
   rcases hown.2 with ⟨rfl, rfl⟩ | ⟨g, cap, cur, rfl, _, _, hnc, _⟩
   ·simp [Builtin.append_, run_underlying T.und, sizeOf, typeInfo, hi, Builtin.lenOf, Builtin.firstCells]
   ·simp [Builtin.append_, run_underlying T.und, sizeOf, typeInfo, hi, Builtin.lenOf, Builtin.firstCells, hnc, storeCells]
  ·obtain ⟨v', w', g1, g2, g3, g4, g5⟩ := run_append_own_at (P := P) w base t ty e i z size bytes T.und hi hz hs hby T.cells T.pos v n xs hown ad 0 c [] (by simp) (by simp) (by simp) h63 hbytes hbase
   exact ⟨v', w', g1, g2, g3, g5, g4⟩
 ·have hne : news ≠ [] := by
   intro e
   subst e
   simp only [List.length_nil] at hl
   have := Nat.mul_pos (Nat.pos_of_ne_zero hm) T.pos
   omega
  obtain ⟨b, off, rfl, _, hc⟩ := hr hne
  obtain ⟨v', w', g1, g2, g3, g4, g5⟩ := run_append_own_at (P := P) w base t ty e i z size bytes T.und hi hz hs hby T.cells T.pos v n xs hown ⟨b, off, none⟩ m c news hl (fun j u hu => by rw [Addr.add_lit]; exact hc j u hu) h1 h63 hbytes hbase
  exact ⟨v', w', g1, g2, g3, g5, g4⟩
theorem wp_app {o : Oper} {a : Act} {K : Act → World → Prop} {Q : Exit → Act → World → Prop} {s x : Operand} {t e : TypeId} {size bytes : Nat} {z : Value} (T : pr P t e size bytes z)
  (ho : o.op = .call { callee := .builtin .append, args := #[s, x], argTypes := #[t, t] })
  {v : Value} {A : Option Addr} {m c : Nat} (hs : a.eval s = v) (hx : a.eval x = .slice A m c)
  {base : Nat} {n : Nat} {xs : List Value} (hown : w.ownsRow base e size v n xs)
  {B : Nat} {news : List Value} (hr : Rd w B A news) (hl : news.length = m * size) (h1 : ∀ u ∈ news, u.oneCell' = true)
  (h63 : n + m ≤ maxLen) (hbytes : (n + m) * bytes ≤ 140737488355328) (hbase : base ≤ w.heap.size)
  (h : ∀ v' w', w'.ownsRow base e size v' (n + m) (xs ++ news) → w.grownBy w' v.ownBlock → (v'.ownBlock = v.ownBlock ∨ v'.ownBlock = some w.heap.size) → (v' = .slice none 0 0 ↔ v = .slice none 0 0 ∧ m = 0) → K (a.put o.dst v') w') : o.wp P a w K Q := by
 obtain ⟨v', w', hrun, h2, h3, h4, h5⟩ := qqp (ty := o.type) T hown (c := c) hr hl h1 h63 hbytes hbase
 unfold Oper.wp execOp
 simp only [ho, resolve, invoke, builtin, Sem.run_bind, Sem.run_pure, Result.andThen_ok, List.map_toArray, List.map_cons, List.map_nil, hs, hx, hrun]
 exact h v' w' h2 h3 h4 h5
theorem ay {ops : Array Oper} {rest : List Oper} {o : Oper} {a : Act} {Q : Exit → Act → World → Prop} {s x : Operand} {t e : TypeId} {size bytes : Nat} {z : Value} (T : pr P t e size bytes z)
  (hgd : o.guard = none) (ho : o.op = .call { callee := .builtin .append, args := #[s, x], argTypes := #[t, t] })
  {v : Value} {A : Option Addr} {m c : Nat} (hs : a.eval s = v) (hx : a.eval x = .slice A m c)
  {base : Nat} {n : Nat} {xs : List Value} (hown : w.ownsRow base e size v n xs)
  {B : Nat} {news : List Value} (hr : Rd w B A news) (hl : news.length = m * size) (h1 : ∀ u ∈ news, u.oneCell' = true)
  (h63 : n + m ≤ maxLen) (hbytes : (n + m) * bytes ≤ 140737488355328) (hbase : base ≤ w.heap.size)
  (h : ∀ v' w', w'.ownsRow base e size v' (n + m) (xs ++ news) → w.grownBy w' v.ownBlock → (v'.ownBlock = v.ownBlock ∨ v'.ownBlock = some w.heap.size) → (v' = .slice none 0 0 ↔ v = .slice none 0 0 ∧ m = 0) → wpList P ops Q rest (a.put o.dst v') w') :
  wpList P ops Q (o :: rest) a w :=
 wpList_plain hgd fun _ hK => wp_app T ho hs hx hown hr hl h1 h63 hbytes hbase fun v' w' h2 h3 h4 h5 => hK _ _ (h v' w' h2 h3 h4 h5)
end
theorem ax {w0 w w' : World} {B base : Nat} {e : TypeId} {size n : Nat} {v : Value} {xs : List Value} (hb : Below B w0 w) (hg : w.grownBy w' v.ownBlock) (hown : w.ownsRow base e size v n xs) (h1 : B ≤ base) (h2 : B ≤ w.heap.size) : Below B w0 w' :=
 hb.grown hg h2 fun k hk => by have := (hown.lt k hk).1; omega
theorem kf {w w' : World} {base : Nat} {e e' : TypeId} {size n : Nat} {v : Value} {xs : List Value} {g : Nat} {cs : Array Value} {fr : Nat × Nat} (hown : w.ownsRow base e size v n xs) (hg : w.grownBy w' v.ownBlock)
  (h : w.heap[g]? = some (.cells cs e' fr)) (hne : e' ≠ e) : w'.heap[g]? = some (.cells cs e' fr) := by
 refine (hg.block g (gl h) fun he => ?_).trans h
 rcases hown.2 with ⟨rfl, _⟩ | ⟨g', cap, cur, rfl, _, hh, _⟩
 ·simp [Value.ownBlock] at he
 ·have : g = g' := by simpa [Value.ownBlock] using he
  subst this
  rw [h] at hh
  injection hh with hh
  injection hh with _ h2
  exact hne h2

def ic (b : UInt8) : Value := .int .u8 (b.toNat : Int)
def ak (l : List UInt8) : List Value := l.map ic
theorem am (l : List UInt8) : (ak l).length = l.length := by simp [ak]
theorem qgn (l : List UInt8) (k : Nat) (h : k < (ak l).length) : (ak l)[k] = .int .u8 ((l[k]'(by simpa [ak] using h)).toNat : Int) := by simp [ak, ic]
theorem bt (l r : List UInt8) : ak (l ++ r) = ak l ++ ak r := by simp [ak]
theorem Rd.byte {w : World} {B : Nat} {A : Option Addr} {l : List UInt8} (h : Rd w B A (ak l)) {k : Nat} (hk : k < l.length) :
  ∃ b off, A = some ⟨b, off, none⟩ ∧ b < B ∧ w.cell? ⟨b, off + k, none⟩ = some (.int .u8 (l[k].toNat : Int)) := by
 obtain ⟨b, off, e, hb, hc⟩ := h.at_ (k := k) (by rw [am]; exact hk)
 exact ⟨b, off, e, hb, by rw [hc, qgn]⟩

theorem ot {P : Program} {w : World} {B : Nat} {A : Option Addr} {l : List UInt8} (h : Rd w B A (ak l)) {src dst e : TypeId} (hs : P.underlying src = some (.slice e)) (he : P.underlying e = some (.int .u8)) (hd : P.underlying dst = some .string)
  (n : Nat) (hn : n = l.length) (c : Nat) : (convert src dst (.slice A n c)).run P w = .ok (.string ⟨l.toArray⟩) w := by
 subst hn
 cases A with
 |some ad => 
  refine run_convert_bytes_back w src dst e ad c l hs he hd fun j hj => ?_
  obtain ⟨b, off, e', _, hc⟩ := h.byte hj
  injection e' with e'
  subst e'
  rw [Addr.add_lit]
  exact hc
 |none =>
  have hl : l = [] := by
   cases l with
   |nil => rfl
   |cons b r => obtain ⟨_, _, e', _⟩ := h.byte (k := 0) (by simp); cases e'
  subst hl
  exact run_convert_bytes_nil w src e hs he _ c dst hd
theorem ef (l : List UInt8) : ∀ u ∈ ak l, u.oneCell' = true := by
 intro u hu
 obtain ⟨b, _, rfl⟩ := List.mem_map.1 hu
 rfl

end Go.Proofs.YtplbcbamnjnhlaaGreatDoor
namespace Go.Proofs.YtplbcbamnjnhlaaGreatDoor
open Go.ChangeShapes Go.WideShapes Go.ChangeAt Go.RowKit

section
variable {H : Type} {enc : TypeId × Value → H} {P : Program}

theorem xz (hl : laidOutB P = true) {W W' : World} (hb : Below W.heap.size W W') : ∀ (ts : List TypeId) (vs : List Value) (ds : List (DataW H)) (ps : List MemPlace),
  ts.all (fun t => P.readableRec t && decide (t < P.types.size)) = true → DataW.TrodAll enc P W 0 (fun _ => true) true ts vs ds ps → (∀ x ∈ ps, x.block < W.heap.size) →
  DataW.TrodAll enc P W' 0 (fun b => decide (b < W.heap.size)) true ts vs ds ps
 |[], vs, ds, ps, _, h, _ => by
  obtain ⟨rfl, rfl, rfl⟩ := trodAll_nil h
  exact trodAll_mk0
 |t :: ts, vs, ds, ps, hp, h, hlt => by
  obtain ⟨v, vs', d, ds', p, q, rfl, rfl, rfl, hd, hr⟩ := trodAll_cons h
  rw [List.all_cons, Bool.and_eq_true, Bool.and_eq_true, decide_eq_true_eq] at hp
  exact trodAll_cons_mk (Below.trod hl hp.1.1 hp.1.2 hd hb fun x hx => hlt x (List.mem_append_left _ hx)) (xz hl hb ts vs' ds' q hp.2 hr fun x hx => hlt x (List.mem_append_right _ hx))

theorem law_post {f : Func} {s : ChangeSpec} {W W' : World} {args : Array Value} {ds gs : List (DataW H)} {before : List MemPlace} {tb : TypeId} (hl : laidOutB P = true)
  (hp : f.params.toList.all (fun t => P.readableRec t && decide (t < P.types.size)) = true) (hvars : s.vars = []) (hres : f.resultTypes = #[tb]) (htb : P.underlying tb = some .bool)
  (hfn : s.fn H (ds ++ gs) = { results := [.lit (.bool true)], args := ds }) (hW : DataW.Whole enc P f.params.toList s.vars false W args.toList ds gs before) (hb : Below W.heap.size W W') :
  s.post enc P f false true false false W args (.bool true) W' := by
 have hlt := hW.lt
 have hW' := hW
 obtain ⟨p, q, hA, hV, rfl, hfz, hnd⟩ := hW'
 rw [hvars] at hV
 obtain ⟨rfl, rfl⟩ := trodVars_none hV
 refine ⟨ds, [], p ++ [], [], p, [], hW, ?_, ?_, ?_, ?_, fun h => by cases h⟩
 ·rw [hfn, hres]
  exact trodAll_mk1 (shut_bool htb true)
 ·rw [hfn]
  exact xz hl hb _ _ _ _ hp hA fun x hx => hlt x (List.mem_append_left _ hx)
 ·rw [hfn, hvars]
  rfl
 ·exact hb.frame _

theorem qop {base : Nat} {W : World} {t e : TypeId} {v : Value} {d : DataW H} {p : List MemPlace} (ht : P.underlying t = some (.slice e)) (he : P.underlying e = some (.int .u8)) (hc : P.cellsOf e = 1)
  (hval : Value.okWide P W .any base t v) (h : DataW.Trod enc P W 0 (fun _ => true) true t v d p) :
  ∃ (A : Option Addr) (c : Nat) (l : List UInt8), v = .slice A l.length c ∧ Rd W W.heap.size A (ak l) ∧ l.length ≤ c ∧ c ≤ maxLen := by
 obtain ⟨a0, len, cap, rfl⟩ := okWide_slice ht hval
 obtain ⟨fuel, hf⟩ := h
 rcases open_ints ht he hc hf with ⟨hcs, hx⟩ | ⟨a, len', cap', zs, hcs, _, hl, hm, hz, hx, hcell, hwz⟩
 ·simp only [Value.cells, List.cons.injEq, Value.slice.injEq, and_true] at hcs
  obtain ⟨rfl, rfl, rfl⟩ := hcs
  exact ⟨none, 0, [], rfl, Rd.nil_, nr _, by simp [maxLen]⟩
 ·simp only [Value.cells, List.cons.injEq, Value.slice.injEq, and_true] at hcs
  obtain ⟨rfl, rfl, rfl⟩ := hcs
  simp only [if_true] at hz
  have hlen : ((zs.take len).map fun z => UInt8.ofNat z.toNat).length = len := by simp; omega
  refine ⟨some a, cap, (zs.take len).map (fun z => UInt8.ofNat z.toNat), by rw [hlen], fun hn => ?_, by rw [hlen]; exact hl, hm⟩
  have hne : 0 < len := by
   rcases Nat.eq_zero_or_pos len with h0 | h0
   ·exfalso; apply hn; subst h0; simp [ak]
   ·exact h0
  have h0 := hcell 0 (by omega)
  have hpl := qqc h0
  have e0 : a.add 0 = a := by simp [Addr.add]
  rw [e0] at h0 hpl
  have hlt := World.block_lt_of_cell? W _ h0
  refine ⟨a.block, a.off, by rw [← hpl], hlt, fun j u hu => ?_⟩
  have hj : j < len := by
   have := (List.getElem?_eq_some_iff.1 hu).1
   rw [am, hlen] at this
   exact this
  have hjz : j < zs.length := by omega
  have hcj := hcell j hjz
  rw [hpl, Addr.add_lit] at hcj
  rw [hcj]
  have hw := hwz zs[j] (List.getElem_mem hjz)
  simp only [Lit.wf, IntKind.min, IntKind.max, IntKind.signed, IntKind.bits] at hw
  simp only [ak, List.map_map, List.getElem?_map, List.getElem?_take, if_pos hj, List.getElem?_eq_getElem hjz, Option.map_some, Function.comp_apply, ic, UInt8.toNat_ofNat'] at hu
  rw [← Option.some.inj hu]
  simp only [List.getD_eq_getElem?_getD, List.getElem?_eq_getElem hjz, Option.getD_some]
  congr 2
  simp at hw
  omega
end
end Go.Proofs.YtplbcbamnjnhlaaGreatDoor
namespace Go.Proofs.YtplbcbamnjnhlaaGreatDoor
open Go.ChangeShapes Go.WideShapes Go.ChangeAt Go.RowKit

structure Elt (α : Type) where
 size : Nat
 rep : World → Nat → List Value → α → Prop
 len : ∀ {w B cs x}, rep w B cs x → cs.length = size
 keep : ∀ {w w' B cs x}, rep w B cs x → (∀ p : Addr, p.block < B → w'.cell? p = w.cell? p) → rep w' B cs x
 more : ∀ {w B B' cs x}, rep w B cs x → B ≤ B' → rep w B' cs x
 one : ∀ {w B cs x}, rep w B cs x → ∀ u ∈ cs, u.oneCell' = true

def eInt : Elt Int where
 size := 1
 rep := fun _ _ cs x => cs = [.int .i64 x] ∧ -9223372036854775808 ≤ x ∧ x ≤ 9223372036854775807
 len := fun h => by rw [h.1]; rfl
 keep := fun h _ => h
 more := fun h _ => h
 one := fun h => by rw [h.1]; simp [Value.oneCell']
def eByte : Elt UInt8 where
 size := 1
 rep := fun _ _ cs x => cs = [ic x]
 len := fun h => by rw [h]; rfl
 keep := fun h _ => h
 more := fun h _ => h
 one := fun h => by rw [h]; simp [ic, Value.oneCell']
def eBytes (n : Nat) : Elt (List UInt8) where
 size := n
 rep := fun _ _ cs x => cs = ak x ∧ x.length = n
 len := fun h => by rw [h.1, am]; exact h.2
 keep := fun h _ => h
 more := fun h _ => h
 one := fun h => by rw [h.1]; exact ef _

def SlR {α : Type} (E : Elt α) (w : World) (B : Nat) (v : Value) (xs : List α) : Prop :=
 ∃ (A : Option Addr) (c : Nat) (css : List (List Value)), v = .slice A xs.length c ∧ xs.length ≤ c ∧ c ≤ maxLen ∧ css.length = xs.length ∧ Rd w B A css.flatten ∧
  ∀ (i : Nat) (cs : List Value) (x : α), css[i]? = some cs → xs[i]? = some x → E.rep w B cs x

section
variable {α : Type} {E : Elt α} {w w' : World} {B B' : Nat} {v : Value} {xs : List α}
theorem SlR.keep (h : SlR E w B v xs) (hk : ∀ p : Addr, p.block < B → w'.cell? p = w.cell? p) : SlR E w' B v xs := by
 obtain ⟨A, c, css, e, h1, h2, h3, h4, h5⟩ := h
 exact ⟨A, c, css, e, h1, h2, h3, h4.keep hk, fun i cs x hc hx => E.keep (h5 i cs x hc hx) hk⟩
theorem SlR.below (h : SlR E w B v xs) (hb : Below B w w') : SlR E w' B v xs := h.keep fun _ hp => hb.cell hp
theorem SlR.more (h : SlR E w B v xs) (hB : B ≤ B') : SlR E w B' v xs := by
 obtain ⟨A, c, css, e, h1, h2, h3, h4, h5⟩ := h
 exact ⟨A, c, css, e, h1, h2, h3, h4.more hB, fun i cs x hc hx => E.more (h5 i cs x hc hx) hB⟩
theorem SlR.fut {N : Nat} (h : SlR E w B v xs) (hb : Below N w w') (h1 : B ≤ N) (h2 : B ≤ B') : SlR E w' B' v xs := (h.below (hb.mono h1)).more h2
theorem SlR.nil_ : SlR E w B (.slice none 0 0) [] := ⟨none, 0, [], rfl, nr _, by simp [maxLen], rfl, Rd.nil_, fun i cs x hc => by simp at hc⟩
theorem SlR.form (h : SlR E w B v xs) : ∃ A c, v = .slice A xs.length c ∧ xs.length ≤ c ∧ c ≤ maxLen := by
 obtain ⟨A, c, css, e, h1, h2, _⟩ := h
 exact ⟨A, c, e, h1, h2⟩
end
theorem qga {α : Type} (n : Nat) : ∀ (css : List (List α)), (∀ cs ∈ css, cs.length = n) → ∀ (i j : Nat) (cs : List α) (u : α), css[i]? = some cs → cs[j]? = some u → css.flatten[i * n + j]? = some u
 |[], _, i, j, cs, u, h, _ => by simp at h
 |c :: css, hl, 0, j, cs, u, h, hu => by
  simp only [List.getElem?_cons_zero, Option.some.injEq] at h
  subst h
  rw [Nat.zero_mul, Nat.zero_add, List.flatten_cons, List.getElem?_append_left (List.getElem?_eq_some_iff.1 hu).1]
  exact hu
 |c :: css, hl, i + 1, j, cs, u, h, hu => by
  have hc := hl c (by simp)
  rw [List.flatten_cons, List.getElem?_append_right (by rw [hc, Nat.add_mul]; omega), hc, show (i + 1) * n + j - n = i * n + j by rw [Nat.add_mul]; omega]
  exact qga n css (fun cs hcs => hl cs (by simp [hcs])) i j cs u (by simpa using h) hu
section
variable {α : Type} {E : Elt α} {w w' : World} {B B' : Nat} {v : Value} {xs : List α}
theorem SlR.lens {css : List (List Value)} (h3 : css.length = xs.length) (h5 : ∀ (i : Nat) (cs : List Value) (x : α), css[i]? = some cs → xs[i]? = some x → E.rep w B cs x) : ∀ cs ∈ css, cs.length = E.size := by
 intro cs hcs
 obtain ⟨i, hi, rfl⟩ := List.getElem_of_mem hcs
 exact E.len (h5 i _ _ (List.getElem?_eq_getElem hi) (List.getElem?_eq_getElem (by omega)))
theorem SlR.at_ (h : SlR E w B v xs) {k : Nat} (hk : k < xs.length) (hpos : 0 < E.size) : ∃ b off c cs, v = .slice (some ⟨b, off, none⟩) xs.length c ∧ xs.length ≤ c ∧ b < B ∧ E.rep w B cs xs[k] ∧
  ∀ j u, cs[j]? = some u → w.cell? ⟨b, off + (k * E.size + j), none⟩ = some u := by
 obtain ⟨A, c, css, rfl, h1, h2, h3, h4, h5⟩ := h
 have hkc : k < css.length := by omega
 have hr := h5 k _ _ (List.getElem?_eq_getElem hkc) (List.getElem?_eq_getElem hk)
 have hls := SlR.lens h3 h5
 have hne : css.flatten ≠ [] := by
  intro e
  have hl := hls css[k] (List.getElem_mem hkc)
  have h0 : 0 < css[k].length := by omega
  have := qga E.size css hls k 0 css[k] css[k][0] (List.getElem?_eq_getElem hkc) (List.getElem?_eq_getElem h0)
  rw [e] at this
  simp at this
 obtain ⟨b, off, rfl, hb, hc⟩ := h4 hne
 exact ⟨b, off, c, css[k], rfl, h1, hb, hr, fun j u hu => hc _ _ (qga E.size css hls k j _ u (List.getElem?_eq_getElem hkc) hu)⟩
theorem SlR.get {A : Option Addr} {n c : Nat} (h : SlR E w B (.slice A n c) xs) {k : Nat} (hk : k < xs.length) (hpos : 0 < E.size) : ∃ b off cs, A = some ⟨b, off, none⟩ ∧ n ≤ c ∧ b < B ∧ E.rep w B cs xs[k] ∧
  ∀ j u, cs[j]? = some u → w.cell? ⟨b, off + (k * E.size + j), none⟩ = some u := by
 obtain ⟨b, off, c', cs, e, h1, h2, h3, h4⟩ := h.at_ hk hpos
 injection e with e1 e2 e3
 subst e2
 exact ⟨b, off, cs, e1, by omega, h2, h3, h4⟩
theorem SlR.n_eq {A : Option Addr} {n c : Nat} (h : SlR E w B (.slice A n c) xs) : n = xs.length := by
 obtain ⟨_, _, e, _⟩ := h.form
 injection e
theorem SlR.n_le {A : Option Addr} {n c : Nat} (h : SlR E w B (.slice A n c) xs) : n ≤ c ∧ c ≤ 9223372036854775807 := by
 obtain ⟨_, _, e, h1, h2⟩ := h.form
 injection e with _ e2 e3
 subst e2 e3
 exact ⟨h1, by simpa [maxLen] using h2⟩
end

def eProd {α β : Type} (E : Elt α) (F : Elt β) : Elt (α × β) where
 size := E.size + F.size
 rep := fun w B cs x => ∃ c1 c2, cs = c1 ++ c2 ∧ E.rep w B c1 x.1 ∧ F.rep w B c2 x.2
 len := fun ⟨c1, c2, h, h1, h2⟩ => by rw [h, List.length_append, E.len h1, F.len h2]
 keep := fun ⟨c1, c2, h, h1, h2⟩ hk => ⟨c1, c2, h, E.keep h1 hk, F.keep h2 hk⟩
 more := fun ⟨c1, c2, h, h1, h2⟩ hB => ⟨c1, c2, h, E.more h1 hB, F.more h2 hB⟩
 one := fun ⟨c1, c2, h, h1, h2⟩ u hu => by
  rw [h, List.mem_append] at hu
  rcases hu with hu | hu
  ·exact E.one h1 u hu
  ·exact F.one h2 u hu
section
variable {H : Type}
def qba {α : Type} (enc : TypeId × Value → H) (P : Program) (E : Elt α) (t : TypeId) : Prop :=
 ∀ (W : World) (fuel : Nat) (cs : List Value) (x : DataW H × List MemPlace), DataW.trod enc P W 0 (fun _ => true) true fuel t cs = some x → ∃ a, E.rep W W.heap.size cs a
variable {enc : TypeId × Value → H} {P : Program}
theorem qth {t : TypeId} (ht : P.underlying t = some (.int .i64)) : qba enc P eInt t := by
 intro W fuel cs x h
 obtain ⟨n, rfl, _, hw⟩ := DataW.trod_int ht h
 simp [Lit.wf, IntKind.min, IntKind.max, IntKind.signed, IntKind.bits] at hw
 exact ⟨n, rfl, by omega, by omega⟩
theorem byte_of {n : Int} (h : (Lit.int .u8 n).wf = true) : Value.int .u8 n = ic (UInt8.ofNat n.toNat) := by
 simp [Lit.wf, IntKind.min, IntKind.max, IntKind.signed, IntKind.bits] at h
 unfold ic
 rw [UInt8.toNat_ofNat']
 congr 1
 omega
theorem qoo {t : TypeId} (ht : P.underlying t = some (.int .u8)) : qba enc P eByte t := by
 intro W fuel cs x h
 obtain ⟨n, rfl, _, hw⟩ := DataW.trod_int ht h
 exact ⟨_, by show _ = _; rw [byte_of hw]⟩
theorem qmu {α β : Type} (n : Nat) (Q : Nat → α → β → Prop) (h : ∀ i, i < n → ∃ a b, Q i a b) : ∃ (us : List α) (bs : List β), us.length = n ∧ bs.length = n ∧ ∀ i a b, us[i]? = some a → bs[i]? = some b → Q i a b := by
 induction n with
 |zero => exact ⟨[], [], rfl, rfl, fun i a b ha => by simp at ha⟩
 |succ n ih =>
  obtain ⟨us, bs, h1, h2, h3⟩ := ih fun i hi => h i (by omega)
  obtain ⟨a, b, hab⟩ := h n (by omega)
  refine ⟨us ++ [a], bs ++ [b], by simp [h1], by simp [h2], fun i x y hx hy => ?_⟩
  rcases Nat.lt_trichotomy i n with hi | hi | hi
  ·rw [List.getElem?_append_left (by omega)] at hx hy
   exact h3 i x y hx hy
  ·subst hi
   rw [List.getElem?_append_right (by omega)] at hx hy
   simp only [h1, h2, Nat.sub_self, List.getElem?_cons_zero, Option.some.injEq] at hx hy
   subst hx hy
   exact hab
  ·have := (List.getElem?_eq_some_iff.1 hx).1
   simp at this
   omega
theorem qcp {α : Type} {E : Elt α} {fs : Array Field} {n : Nat} {W : World} {cs : List Value} {xs : List (DataW H × List MemPlace)} (hlen : xs.length = fs.size)
  (hf : ∀ (i : Nat) (f : Field), fs[i]? = some f → DataW.trod enc P W 0 (fun _ => true) true n f.type ((cs.drop f.offset).take (P.cellsOf f.type)) = xs[i]?)
  (i : Nat) (f : Field) (hi : fs[i]? = some f) (hE : qba enc P E f.type) : ∃ a, E.rep W W.heap.size ((cs.drop f.offset).take (P.cellsOf f.type)) a := by
 have h := hf i f hi
 rw [List.getElem?_eq_getElem (by have := (gl hi); omega)] at h
 exact hE W n _ _ h
theorem qtg {α β : Type} {E : Elt α} {F : Elt β} {t : TypeId} {f0 f1 : Field} (ht : P.underlying t = some (.struct #[f0, f1])) (h0 : qba enc P E f0.type) (h1 : qba enc P F f1.type)
  (s0 : P.cellsOf f0.type = E.size) (s1 : P.cellsOf f1.type = F.size) (o0 : f0.offset = 0) (o1 : f1.offset = E.size) (st : P.cellsOf t = E.size + F.size) : qba enc P (eProd E F) t := by
 intro W fuel cs x h
 obtain ⟨xs, n, _, _, hl, hlen, hf⟩ := DataW.trod_struct ht h
 obtain ⟨a, ha⟩ := qcp hlen hf 0 f0 rfl h0
 obtain ⟨b, hb⟩ := qcp hlen hf 1 f1 rfl h1
 rw [o0, s0, List.drop_zero] at ha
 rw [o1, s1, List.take_of_length_le (by rw [List.length_drop]; omega)] at hb
 exact ⟨(a, b), _, _, (List.take_append_drop E.size cs).symm, ha, hb⟩
theorem open_agg {α : Type} {E : Elt α} {W : World} {base : Nat} {t : TypeId} {fs : Array Field} {v : Value} {d : DataW H} {p : List MemPlace} (hE : qba enc P E t) (ht : P.underlying t = some (.struct fs))
  (hval : Value.okWide P W .any base t v) (h : DataW.Trod enc P W 0 (fun _ => true) true t v d p) : ∃ (cs : List Value) (x : α), v = .agg cs.toArray ∧ E.rep W W.heap.size cs x := by
 obtain ⟨cs, rfl, _⟩ := okWide_struct ht hval
 obtain ⟨fuel, hf⟩ := h
 obtain ⟨x, hx⟩ := hE W fuel _ _ hf
 exact ⟨cs.toList, x, by simp, by simpa [Value.cells] using hx⟩
end
end Go.Proofs.YtplbcbamnjnhlaaGreatDoor
namespace Go.Proofs.YtplbcbamnjnhlaaGreatDoor
open Go.RowKit

def af (h : List UInt8) (k : Int) : List Value := ak h ++ [.int .i64 k]
abbrev hkv (h : List UInt8) (k : Int) : Value := .agg (af h k).toArray
abbrev jc (h : List UInt8) : Value := .agg (ak h).toArray
def ag (kind seq : Int) (kh : List UInt8) (kk : Int) (mh : List UInt8) (ms : Int) (v : Value) : List Value :=
 [.int .i64 kind, .int .i64 seq] ++ (af kh kk ++ (af mh ms ++ [v]))
abbrev recv (kind seq : Int) (kh : List UInt8) (kk : Int) (mh : List UInt8) (ms : Int) (v : Value) : Value := .agg (ag kind seq kh kk mh ms v).toArray
theorem ae (h : List UInt8) (k : Int) : (af h k).length = h.length + 1 := by simp [af, am]
theorem dl (h : List UInt8) (k : Int) : (hkv h k).cells = (af h k).toArray := rfl
theorem bb (kind seq : Int) (kh : List UInt8) (kk : Int) (mh : List UInt8) (ms : Int) (v : Value) : (recv kind seq kh kk mh ms v).cells = (ag kind seq kh kk mh ms v).toArray := rfl
theorem gb (h : List UInt8) (k : Int) (hh : h.length = 32) : (af h k)[32]? = some (.int .i64 k) := by
 unfold af
 rw [List.getElem?_append_right (by rw [am]; omega), am, hh]
 rfl
theorem ah (kind seq : Int) (kh : List UInt8) (kk : Int) (mh : List UInt8) (ms : Int) (v : Value) : (ag kind seq kh kk mh ms v).length = kh.length + mh.length + 5 := by simp [ag, ae]; omega

section
variable {P : Program} {w : World}
theorem fw {ty : TypeId} {d : TypeDesc} (hu : P.underlying ty = some d) (hd : (match d with | .struct _ | .array _ _ => true | _ => false) = true) {b off : Nat} {cs : List Value} (hi : (P.info? ty).map (·.size) = some cs.length)
  (hc : ∀ j u, cs[j]? = some u → w.cell? ⟨b, off + j, none⟩ = some u) : (Instr.loadAt ty (.pointer (some ⟨b, off, none⟩))).run P w = .ok (.agg cs.toArray) w := by
 have hl : (loadCells ⟨b, off, none⟩ cs.length).run P w = .ok cs.toArray w := run_loadCells_list (P := P) w ⟨b, off, none⟩ cs (fun j v hv => by rw [Addr.add_lit]; exact hc j v hv)
 cases hq : P.info? ty with
 |none => simp [hq] at hi
 |some i =>
  have hs : i.size = cs.length := by simpa [hq] using hi
  have hagg : (isAgg ty).run P w = .ok true w := by
   unfold isAgg
   rw [Sem.run_bind, run_underlying hu w]
   cases d <;> simp_all
  simp [Instr.loadAt, Instr.sureAddr, loadVar, Sem.run_bind, hagg, sizeOf, typeInfo, hq, hs, hl]
theorem aa {ops : Array Oper} {rest : List Oper} {o : Oper} {a : Act} {Q : Exit → Act → World → Prop} (hgd : o.guard = none) (ty : TypeId) {x : Operand} (ho : o.op = .load ty x) {b off : Nat} (hx : a.eval x = .pointer (some ⟨b, off, none⟩))
  {d : TypeDesc} (hu : P.underlying ty = some d) (hd : (match d with | .struct _ | .array _ _ => true | _ => false) = true) {cs : List Value} (hi : (P.info? ty).map (·.size) = some cs.length)
  (hc : ∀ j u, cs[j]? = some u → w.cell? ⟨b, off + j, none⟩ = some u) (h : wpList P ops Q rest (a.put o.dst (.agg cs.toArray)) w) : wpList P ops Q (o :: rest) a w := by
 refine wpList_plain hgd fun K hK => ?_
 unfold Oper.wp execOp
 simp only [ho, hx, Sem.run_bind, fw hu hd hi hc, Result.andThen_ok, Sem.run_pure]
 exact hK _ _ h
theorem lz {g : Nat} {cs : Array Value} {t : TypeId} {fr : Nat × Nat} (h : w.heap[g]? = some (.cells cs t fr)) {xs ys zs : List Value} (he : cs = (xs ++ (ys ++ zs)).toArray) : ∀ j u, ys[j]? = some u → w.cell? ⟨g, xs.length + j, none⟩ = some u := by
 intro j u hu
 rw [cell_of_row w g _ cs t fr h, he]
 have hj := (List.getElem?_eq_some_iff.1 hu).1
 rw [← Array.getElem?_toList]
 simp only
 rw [List.getElem?_append_right (by omega), Nat.add_sub_cancel_left, List.getElem?_append_left hj]
 exact hu
theorem jt {ty : TypeId} {g off : Nat} {vs : List Value} {v : Value} (hv : v.cells = vs.toArray) (hi : (P.info? ty).map (·.size) = some vs.length) {cur : Array Value} {t : TypeId} (hg : w.heap[g]? = some (.cells cur t (0, 0)))
  (hl : off + vs.length ≤ cur.size) (h1 : ∀ u ∈ vs, u.oneCell' = true) : (Instr.storeAt ty (.pointer (some ⟨g, off, none⟩)) v).run P w = .ok () (w.setRow g (cur.toList.take off ++ vs ++ cur.toList.drop (off + vs.length)).toArray) := by
 have hs := run_storeCells_at P g off t vs 0 cur w hg (by omega) h1
 rw [Nat.add_zero] at hs
 cases hq : P.info? ty with
 |none => simp [hq] at hi
 |some i =>
  have hsz : i.size = vs.length := by simpa [hq] using hi
  simp [Instr.storeAt, Instr.sureAddr, storeVar, Sem.run_bind, sizeOf, typeInfo, hq, hsz, hv, hs]
theorem qst {ty : TypeId} {vs : List Value} {v : Value} (hv : v.cells = vs.toArray) (hi : (P.info? ty).map (·.size) = some vs.length) {cur : Array Value} {t : TypeId} (hl : vs.length = cur.size) (h1 : ∀ u ∈ vs, u.oneCell' = true) :
  (Instr.storeAt ty (.pointer (some ⟨w.heap.size, 0, none⟩)) v).run P (w.alloc (.cells cur t)) = .ok () (w.alloc (.cells vs.toArray t)) := by
 rw [jt hv hi (hzn w _) (by omega) h1, zw]
 congr 4
 simp [List.drop_eq_nil_of_le (show cur.toList.length ≤ vs.length by simp; omega)]

theorem sf (d : Nat) {t e : TypeId} (ht : P.underlying t = some (.array 32 e)) (he : P.underlying e = some (.int .u8)) (hsz : ∀ w, (sizeOf e).run P w = .ok 1 w) {x y : List UInt8} (hx : x.length = 32) (hy : y.length = 32) :
  (Op.equalIn (d + 2) t (jc x) (jc y)).run P w = .ok (decide (x = y)) w := by
 have h := run_equalIn_bytes (P := P) w d t e 32 ht he hsz x y hx hy
 have e1 : (x == y) = decide (x = y) := by by_cases h : x = y <;> simp [h]
 rw [e1] at h
 exact h
structure qcd (P : Program) (ta e : TypeId) : Prop where
 ua : P.underlying ta = some (.array 32 e)
 ue : P.underlying e = some (.int .u8)
 se : ∀ w, (sizeOf e).run P w = .ok 1 w
 sa : ∀ w, (sizeOf ta).run P w = .ok 32 w
 gd : P.eqGuardType P.depth ta = false
structure HkTy (P : Program) (t ta e ti : TypeId) (f0 f1 : Field) : Prop where
 ut : P.underlying t = some (.struct #[f0, f1])
 n0 : f0.name ≠ "_"
 n1 : f1.name ≠ "_"
 t0 : f0.type = ta
 t1 : f1.type = ti
 o0 : f0.offset = 0
 o1 : f1.offset = 32
 ui : P.underlying ti = some (.int .i64)
 H : qcd P ta e
 st : P.stoodInHeld t = false
 gd : P.eqGuardType P.depth t = false
theorem qbu (d : Nat) {t ta e ti : TypeId} {f0 f1 : Field} (T : HkTy P t ta e ti f0 f1) {x y : List UInt8} {a b : Int} (hx : x.length = 32) (hy : y.length = 32) :
  (Op.equalIn (d + 3) t (hkv x a) (hkv y b)).run P w = .ok (decide (x = y) && decide (a = b)) w := by
 have hf : P.fieldsOf t = #[f0, f1] := by simp [Program.fieldsOf, T.ut]
 have p0 : ∀ (z : List UInt8) (c : Int), z.length = 32 → (part ta (af z c).toArray 0).run P w = .ok (jc z) w := by
  intro z c hz
  have e1 : (af z c).toArray.extract 0 (0 + 32) = (ak z).toArray := by
   simp only [List.extract_toArray, af, Nat.zero_add, List.extract_eq_take_drop, List.drop_zero, Nat.sub_zero]
   congr 1
   rw [List.take_append_of_le_length (by rw [am]; omega), List.take_of_length_le (by rw [am]; omega)]
  have hagg : (isAgg ta).run P w = .ok true w := by
   unfold isAgg
   rw [Sem.run_bind, run_underlying T.H.ua w]
   rfl
  unfold part
  simp only [Sem.run_bind, hagg, Result.andThen_ok, if_true, T.H.sa, Sem.run_pure]
  rw [e1]
 have p1 : ∀ (z : List UInt8) (c : Int), z.length = 32 → (part ti (af z c).toArray 32).run P w = .ok (.int .i64 c) w := by
  intro z c hz
  have hagg : (isAgg ti).run P w = .ok false w := by
   unfold isAgg
   rw [Sem.run_bind, run_underlying T.ui w]
   rfl
  have hg : (af z c).toArray[32]? = some (.int .i64 c) := by
   rw [← Array.getElem?_toList]
   exact gb z c hz
  unfold part
  simp only [Sem.run_bind, hagg, Result.andThen_ok, Bool.false_eq_true, if_false, hg, Sem.run_pure]
 unfold hkv
 rw [show d + 3 = (d + 2) + 1 from rfl, run_equalIn_struct w (d + 2) t _ _ (by rw [hf]; exact T.ut) T.st, hf]
 have q := run_equalIn_int (P := P) w (d + 1) ti .i64 .i64 a b T.ui
 rw [show d + 2 = (d + 1) + 1 from rfl] at *
 by_cases h : x = y
 ·subst h
  simp only [Op.eqFields, ne_eq, T.n0, T.n1, not_false_eq_true, if_true, Sem.run_bind, T.t0, T.t1, T.o0, T.o1, p0 x a hx, p0 x b hx, p1 x a hx, p1 x b hx, Result.andThen_ok, sf d T.H.ua T.H.ue T.H.se hx hx, decide_true, Bool.not_true, Bool.false_eq_true, if_false, q, Bool.true_and]
  by_cases hab : a = b
  ·simp [hab]
  ·simp [hab]
 ·simp only [Op.eqFields, ne_eq, T.n0, not_false_eq_true, if_true, Sem.run_bind, T.t0, T.o0, p0 x a hx, p0 y b hy, Result.andThen_ok, sf d T.H.ua T.H.ue T.H.se hx hy]
  simp [h]
theorem qar {t ta e ti : TypeId} {f0 f1 : Field} (T : HkTy P t ta e ti f0 f1) {x y : List UInt8} {a b : Int} (hx : x.length = 32) (hy : y.length = 32) :
  (binOp .eql t (hkv x a) (hkv y b)).run P w = .ok (.bool (decide (x = y) && decide (a = b))) w := by
 unfold hkv
 rw [run_eql_struct, show (10000 : Nat) = 9997 + 3 from rfl]
 have := qbu (P := P) (w := w) 9997 T (a := a) (b := b) hx hy
 unfold hkv at this
 rw [this]
 rfl
theorem js {t ta e ti : TypeId} {f0 f1 : Field} (T : HkTy P t ta e ti f0 f1) {x y : List UInt8} {a b : Int} (hx : x.length = 32) (hy : y.length = 32) :
  (binOp .neq t (hkv x a) (hkv y b)).run P w = .ok (.bool (!(decide (x = y) && decide (a = b)))) w := by
 unfold hkv
 rw [run_neq_struct, show (10000 : Nat) = 9997 + 3 from rfl]
 have := qbu (P := P) (w := w) 9997 T (a := a) (b := b) hx hy
 unfold hkv at this
 rw [this]
 rfl
theorem qua {t e : TypeId} (T : qcd P t e) {x y : List UInt8} (hx : x.length = 32) (hy : y.length = 32) : (binOp .eql t (jc x) (jc y)).run P w = .ok (.bool (decide (x = y))) w := by
 unfold jc
 rw [run_eql_struct, show (10000 : Nat) = 9998 + 2 from rfl]
 have := sf (P := P) (w := w) 9998 T.ua T.ue T.se hx hy
 unfold jc at this
 rw [this]
 rfl
theorem th {t e : TypeId} (T : qcd P t e) {x y : List UInt8} (hx : x.length = 32) (hy : y.length = 32) : (binOp .neq t (jc x) (jc y)).run P w = .ok (.bool (!(decide (x = y)))) w := by
 unfold jc
 rw [run_neq_struct, show (10000 : Nat) = 9998 + 2 from rfl]
 have := sf (P := P) (w := w) 9998 T.ua T.ue T.se hx hy
 unfold jc at this
 rw [this]
 rfl
theorem ez {t : TypeId} (hg : P.eqGuardType P.depth t = false) (op : BinOp) (x y : Operand) (a b : List UInt8) (c d : Int) : (eqGuard op t x y (hkv a c) (hkv b d)).run P w = .ok () w := run_eqGuard_agg w op t x y _ _ hg
theorem nb {t : TypeId} (hg : P.eqGuardType P.depth t = false) (op : BinOp) (x y : Operand) (a b : List UInt8) : (eqGuard op t x y (jc a) (jc b)).run P w = .ok () w := run_eqGuard_agg w op t x y _ _ hg
end
end Go.Proofs.YtplbcbamnjnhlaaGreatDoor
