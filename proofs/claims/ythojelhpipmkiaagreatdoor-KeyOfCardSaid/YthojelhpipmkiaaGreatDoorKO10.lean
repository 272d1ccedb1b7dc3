/- Texts of this proof joined: AnyInv, Can7, Can8, Can9. -/
import Derived.Test.YthojelhpipmkiaaGreatDoorKO09
import Derived.Test.YthojelhpipmkiaaGreatDoorKO08
import Derived.Test.YthojelhpipmkiaaGreatDoorKO06
import Derived.Laws.CopyOwn
namespace Go.Proofs.YthojelhpipmkiaaGreatDoor.TextU
open Go Go.RowKit Go.Proofs.YthojelhpipmkiaaGreatDoor.Text
variable {P : Program} {ops : Array Oper} {K : Act → World → Prop}
def andL (L : Nat → Bool) (j : Nat) : Nat → Bool := fun i => i == j || L i
theorem andL_self (L : Nat → Bool) (j : Nat) : andL L j j = true := by simp [andL]
theorem andL_old {L : Nat → Bool} {j i : Nat} (h : L i = true) : andL L j i = true := by simp [andL, h]
theorem andL_ne {L : Nat → Bool} {j i : Nat} (h : i ≠ j) : andL L j i = L i := by simp [andL, h]
theorem andL_back {L : Nat → Bool} {j i : Nat} (hn : i ≠ j) (h : andL L j i = true) : L i = true := by rwa [andL_ne hn] at h
theorem andL_off {L : Nat → Bool} {j i : Nat} (h : andL L j i = false) : L i = false := by
 unfold andL at h
 rw [Bool.or_eq_false_iff] at h
 exact h.2
theorem ready_all (hb : backB ops = true) {listed : Array Bool} (hs : listed.size = ops.size) (hr : Region.ready .any ops listed = []) : ∀ j, j < ops.size → listed.getD j false = true := by
 intro j
 induction j using Nat.strongRecOn with
 |_ j ih =>
  intro hj
  cases hl : listed.getD j false with
  |true => rfl
  |false =>
   have hlt : listed.getD j true = false := by
    have hj' : j < listed.size := by omega
    simp only [Array.getD, hj', dif_pos] at hl ⊢
    exact hl
   have hin : j ∈ Region.ready .any ops listed := mem_ready.2 ⟨hlt, ops[j], Array.getElem?_eq_getElem hj, fun e he hbd => by
    have h1 := List.all_eq_true.1 hb j (List.mem_range.2 hj)
    rw [Array.getElem?_eq_getElem hj] at h1
    have h2 := Array.all_eq_true'.1 h1 e he
    rw [Bool.or_eq_true, decide_eq_true_eq] at h2
    rcases h2 with h2 | h2
    ·rw [hbd] at h2; cases h2
    ·exact ih e.on h2 (by omega)⟩
   rw [hr] at hin
   cases hin
theorem any_inv (J : (Nat → Bool) → Act → World → Prop) (hb : backB ops = true)
  (hstep : ∀ (j : Nat) (o : Oper) (L : Nat → Bool) (a : Act) (w : World), ops[j]? = some o → L j = false → (∀ e ∈ o.after, Region.binds .any e = true → L e.on = true) → J L a w → wpOp P ops (Q0 K) j (fun a' w' => J (andL L j) a' w') a w)
  (hend : ∀ (L : Nat → Bool) (a : Act) (w : World), (∀ j < ops.size, L j = true) → J L a w → K a w) :
  ∀ (fuel : Nat) (listed : Array Bool) (a : Act) (w : World), listed.size = ops.size → listed.toList.count false ≤ fuel → J (fun i => listed.getD i false) a w → wpAny P .any ops (Q0 K) fuel listed a w
 |0, listed, a, w, hs, hc, hJ => by
  have hr : Region.ready .any ops listed = [] := by
   apply List.eq_nil_iff_forall_not_mem.2
   intro j hj
   have h1 := (mem_ready.1 hj).1
   have hj' : j < listed.size := by
    rcases Nat.lt_or_ge j listed.size with h | h
    ·exact h
    ·simp only [Array.getD, show ¬ j < listed.size by omega, dif_neg, not_false_eq_true] at h1
     cases h1
   have h2 : listed[j] = false := by simpa [Array.getD, hj'] using h1
   have : 0 < listed.toList.count false := List.count_pos_iff.2 (by rw [← h2]; exact Array.getElem_mem_toList hj')
   omega
  exact ⟨hr, rfl, hend _ _ _ (ready_all hb hs hr) hJ⟩
 |fuel + 1, listed, a, w, hs, hc, hJ => by
  refine ⟨fun hr => ⟨rfl, hend _ _ _ (ready_all hb hs hr) hJ⟩, fun j hj => ?_⟩
  obtain ⟨h1, o, ho, hall⟩ := mem_ready.1 hj
  have hj' : j < listed.size := by
   rw [hs]
   exact (Array.getElem?_eq_some_iff.1 ho).1
  have h2 : listed[j] = false := by simpa [Array.getD, hj'] using h1
  refine wpOp_mono (fun a' w' hJ' => ?_) (hstep j o _ a w ho (by simpa [Array.getD, hj'] using h2) hall hJ)
  refine any_inv J hb hstep hend fuel _ a' w' (by simpa using hs) ?_ ?_
  ·rw [Array.toList_setIfInBounds, List.count_set (by simpa using hj')]
   have h3 : (listed.toList[j]'(by simpa using hj') == false) = true := by simpa using h2
   rw [h3]
   have : 0 < listed.toList.count false := List.count_pos_iff.2 (by rw [← h2]; exact Array.getElem_mem_toList hj')
   rw [if_pos rfl, if_neg (by decide)]
   omega
  ·have e : (fun i => (listed.setIfInBounds j true).getD i false) = andL (fun i => listed.getD i false) j := by
    funext i
    by_cases hij : i = j
    ·subst hij
     simp [andL, Array.getD, hj']
    ·rw [andL_ne hij, getD_set_ne false (Ne.symm hij)]
   rw [e]
   exact hJ'
theorem wp_anyInv {id : Nat} {Q : Exit → Act → World → Prop} {a : Act} {w : World} {l : List Oper} (J : (Nat → Bool) → Act → World → Prop) (hm : P.follows .mixedOrders = true) (hb : backB l.toArray = true) (h0 : J (fun _ => false) a w.drew)
  (hstep : ∀ (j : Nat) (o : Oper) (L : Nat → Bool) (a : Act) (w : World), l[j]? = some o → L j = false → (∀ e ∈ o.after, Region.binds .any e = true → L e.on = true) → J L a w → ∀ (J' : (Nat → Bool) → Act → World → Prop) (Q' : Exit → Act → World → Prop), (∀ L a w, J L a w → J' L a w) → (∀ a' w', J' (andL L j) a' w' → Q' .normal a' w') → wpList P l.toArray Q' [o] a w)
  (hend : ∀ (L : Nat → Bool) (a : Act) (w : World), (∀ j < l.length, L j = true) → J L a w → Q .normal a w) : (Code.region id l.toArray true).wp P Q a w := by
 refine Code.wp_mono (Q := Q0 fun a w => Q .normal a w) ?_ (wp_region_any hm ?_)
 ·rintro e a w ⟨rfl, h⟩
  exact h
 ·refine any_inv J hb (fun j o L a w ho hL hd hJ => node_U ho fun Q' hQ' => hstep j o L a w (by simpa using ho) hL hd hJ J Q' (fun _ _ _ h => h) hQ') (fun L a w hall hJ => hend L a w (by simpa using hall) hJ) _ _ _ _ (by simp) (by simp) ?_
  have e : (fun i => (Array.replicate l.toArray.size false).getD i false) = fun _ => false := by
   funext i
   simp only [Array.getD]
   split <;> simp
  rw [e]
  exact h0
end Go.Proofs.YthojelhpipmkiaaGreatDoor.TextU
namespace Go.Proofs.YthojelhpipmkiaaGreatDoor
open Go.RowKit Go.Sort

theorem heap_sortedO {w : World} {g n o : Nat} {os : Array Obj} {cur : Array Value} {e : TypeId} {fr : Nat × Nat} (d : Array (List UInt8)) (hb : w.heap[g]? = some (.cells cur e fr)) :
  (Go.Sort.grow (putRow encStr (Sort.ahead w n) g o d) os).heap[g]? = some (.cells (putCells encStr o d cur) e fr) := by
 have hg : g < w.heap.size := (Array.getElem?_eq_some_iff.1 hb).1
 rw [heap_grow_old _ _ (by simpa using hg)]
 simp [putRow, mapBlock, Sort.ahead, Array.getElem?_modify, hb, onCells]
theorem grownBy_sortedO {w : World} {g n o : Nat} {os : Array Obj} (d : Array (List UInt8)) : w.grownBy (Go.Sort.grow (putRow encStr (Sort.ahead w n) g o d) os) (some g) := by
 refine ⟨rfl, rfl, rfl, by simp, fun k hk hne => ?_⟩
 rw [heap_grow_old _ _ (by simpa using hk)]
 have : g ≠ k := fun e => hne (by rw [e])
 simp [putRow, mapBlock, Sort.ahead, Array.getElem?_modify, this]
theorem take_putCellsO (cur : Array Value) (x : Wd) (xs ts : List Wd) (hl : ts.length = xs.length) (h : xs.length + 1 ≤ cur.size) (h0 : cur.toList.take (xs.length + 1) = wcells (x :: xs)) : (putCells encStr 1 ts.toArray cur).toList.take (xs.length + 1) = wcells (x :: ts) := by
 apply List.ext_getElem?
 intro j
 by_cases hj : j < xs.length + 1
 ·rw [List.getElem?_take_of_lt hj, Array.getElem?_toList]
  have hj' : j < cur.size := by omega
  cases j with
  |zero =>
   have h1 : (cur.toList.take (xs.length + 1))[0]? = (wcells (x :: xs))[0]? := by rw [h0]
   rw [List.getElem?_take_of_lt (by omega), Array.getElem?_toList] at h1
   simp [putCells, h1, wcells]
  |succ i =>
   have hi : i < ts.length := by omega
   simp [putCells, hj', wcells, hi, show 1 + ts.length > i + 1 by omega, encStr]
 ·rw [List.getElem?_take_eq_none (by omega), List.getElem?_eq_none (by simp [wcells]; omega)]
def TailTo (base : Nat) (A : Option Addr) (c : Nat) (x : Wd) (xs : List Wd) (w : World) (e : Ending) (w' : World) : Prop :=
 e = .returned (.tuple #[]) ∧ w'.ownsRow base 9 1 (.slice A (xs.length + 1) c) (xs.length + 1) (wcells (x :: sortW xs)) ∧ w.grownBy w' (Value.slice A (xs.length + 1) c).ownBlock
theorem sortTail_any (base : Nat) (A : Option Addr) (c : Nat) (x : Wd) (xs : List Wd) (w : World) (h : w.ownsRow base 9 1 (.slice A (xs.length + 1) c) (xs.length + 1) (wcells (x :: xs))) (hn : xs.length < 4611686018427387904) :
  Calls Tryz.prog 70 #[.slice (if c = 1 then A else A.map (·.add 1)) xs.length (c - 1)] w (TailTo base A c x xs w) := by
 rcases Nat.eq_zero_or_pos xs.length with h0 | h0
 ·have hx : xs = [] := List.eq_nil_of_length_eq_zero h0
  subst hx
  refine (Tryz.slices_Sort_string_none _ _ w).mono ?_
  rintro e w' ⟨rfl, rfl⟩
  exact ⟨rfl, by simpa [sortW] using h, rfl, rfl, rfl, Nat.le_refl _, fun _ _ _ => rfl⟩
 ·rcases h.2 with ⟨_, h1⟩ | ⟨g, cap, cur, hv, hbase, hb, h1, h2, h3, h4⟩
  ·omega
  ·injection hv with e1 e2 e3
   subst e1 e3
   rw [if_neg (by omega)]
   rw [Nat.mul_one] at h3 h4
   have hH : Holds encStr w g 1 xs.toArray := by
    intro j hj
    have hj' : j < xs.length := by simpa using hj
    refine ⟨?_, by simp [World.frozen?, hb]⟩
    have h5 : (cur.toList.take (xs.length + 1))[1 + j]? = (wcells (x :: xs))[1 + j]? := by rw [h4]
    rw [List.getElem?_take_of_lt (by omega), Array.getElem?_toList] at h5
    rw [cell_of_row _ _ _ _ _ _ hb, h5, Nat.add_comm 1 j]
    simp [wcells, hj', encStr]
   have := Tryz.slices_Sort_string g 1 (c - 1) xs w hH (Array.getElem?_eq_some_iff.1 hb).1 hn
   refine Calls.mono this ?_
   rintro e w' ⟨rfl, n, os, rfl⟩
   refine ⟨rfl, ⟨by simp [wcells, sortW_len], .inr ⟨g, c, _, rfl, hbase, heap_sortedO _ hb, h1, h2, by simpa [putCells] using h3, ?_⟩⟩, grownBy_sortedO _⟩
   rw [Nat.mul_one]
   exact take_putCellsO cur x xs _ (sortW_len xs) (by omega) h4
end Go.Proofs.YthojelhpipmkiaaGreatDoor
namespace Go.Proofs.YthojelhpipmkiaaGreatDoor
open Go.RowKit

theorem getD_idx (l l' : List Wd) {i : Nat} (h : i < l.length) : (l.map fun x => ((l'.idxOf x : Nat) : Int)).getD i 0 = ((l'.idxOf (l.getD i []) : Nat) : Int) := by
 simp [List.getD_eq_getElem?_getD, h]
theorem symM_of (ns ts ns' ts' : List Wd) {s : Int} (h : SymIn ns.length ts.length s) :
  (if s < 0 then -1 - (ts.map fun x => ((ts'.idxOf x : Nat) : Int)).getD (-1 - s).toNat 0 else (ns.map fun x => ((ns'.idxOf x : Nat) : Int)).getD s.toNat 0) = symM ns ts ns' ts' s := by
 unfold symM
 obtain ⟨h1, h2⟩ := h
 by_cases hs : s < 0
 ·rw [if_pos hs, if_pos hs, getD_idx ts ts' (by omega)]
 ·rw [if_neg hs, if_neg hs, getD_idx ns ns' (by omega)]
end Go.Proofs.YthojelhpipmkiaaGreatDoor
namespace Go.Proofs.YthojelhpipmkiaaGreatDoor
open Go.RowKit

def CanTo (ns ts : List Wd) (rs : List RuleD) (w : World) (e : Ending) (w' : World) : Prop :=
 ∃ u1 u2 u3, e = .returned (.agg #[u1, u2, u3]) ∧ SlR eW w' w'.heap.size u1 (canN ns) ∧ SlR eW w' w'.heap.size u2 (sortW ts) ∧ SlR eRule w' w'.heap.size u3 (canR ns ts rs) ∧ Below w.heap.size w w'
theorem store_rowC {P : Program} {w : World} {g : Nat} {ty : TypeId} {vs : List Value} {v : Value} (hv : v.cells = vs.toArray) (hi : (P.info? ty).map (·.size) = some vs.length) {cur : Array Value} {t : TypeId} (hg : w.heap[g]? = some (.cells cur t (0, 0)))
  (hl : vs.length = cur.size) (h1 : ∀ u ∈ vs, u.oneCell' = true) : (Instr.storeAt ty (.pointer (some ⟨g, 0, none⟩)) v).run P w = .ok () (w.setRow g vs.toArray) := by
 rw [store_agg hv hi hg (by omega) h1]
 congr 2
 simp [List.drop_eq_nil_of_le (show cur.toList.length ≤ vs.length by simp; omega)]
structure KeepP (P : Nat) (w w' : World) : Prop where
 size : w.heap.size ≤ w'.heap.size
 os : w'.os = w.os
 tape : w'.tape = w.tape
 output : w'.output = w.output
 block : ∀ k < w.heap.size, k ≠ P → w'.heap[k]? = w.heap[k]?
structure LoopC (w7 : World) (P : Nat) (u1 u2 : Value) (l : List RuleD) (v3 : Value) (wr : World) : Prop where
 row : wr.heap[P]? = some (.cells #[u1, u2, v3] 25 (0, 0))
 own : OwnT oRule 36 wr w7.heap.size v3 l
 keep : KeepP P w7 wr
def BlkAt (w : World) (B : Nat) (x : Value) (cs : Array Value) (T : TypeId) : Prop := ∃ b, x = .pointer (some ⟨b, 0, none⟩) ∧ B ≤ b ∧ w.heap[b]? = some (.cells cs T (0, 0))
theorem blk_lift {w w' : World} {B : Nat} {x : Value} {cs : Array Value} {T : TypeId} (h : BlkAt w B x cs T) (hb : Below w.heap.size w w') : BlkAt w' B x cs T := by
 obtain ⟨b, h1, h2, h3⟩ := h
 exact ⟨b, h1, h2, (hb.block b (Array.getElem?_eq_some_iff.1 h3).1).trans h3⟩
theorem blk_new (w : World) {B : Nat} (cs : Array Value) (T : TypeId) (h : B ≤ w.heap.size) : BlkAt (w.alloc (.cells cs T)) B (.pointer (some ⟨w.heap.size, 0, none⟩)) cs T := ⟨_, rfl, h, Go.heap_alloc_new w _⟩
theorem keepT_setRow {ts : List TypeId} {w : World} {g : Nat} {cs cs' : Array Value} {T : TypeId} (h : w.heap[g]? = some (.cells cs T (0, 0))) (hT : T ∉ ts) : KeepT ts w (w.setRow g cs') := by
 refine ⟨by simp [World.setRow], fun k cur t ht hk => ?_⟩
 rw [setRow_other w g k cs' ?_]
 ·exact hk
 ·intro e
  subst e
  rw [h] at hk
  injection hk with hk
  injection hk with _ hk
  exact hT (hk ▸ ht)
theorem blk_other {w : World} {B b : Nat} {x : Value} {cs : Array Value} {T : TypeId} (h : BlkAt w B x cs T) (hne : Value.pointer (some ⟨b, 0, none⟩) ≠ x) (cs' : Array Value) : BlkAt (w.setRow b cs') B x cs T := by
 obtain ⟨g, rfl, h2, h3⟩ := h
 exact ⟨g, rfl, h2, (setRow_other w b g cs' (fun e => hne (by rw [e]))).trans h3⟩
theorem own_grown {w w' : World} {base size n : Nat} {e : TypeId} {v : Value} {xs : List Value} {r : Option Nat} (h : w.ownsRow base e size v n xs) (hg : w.grownBy w' r) (hne : ∀ k, v.ownBlock = some k → r ≠ some k) : w'.ownsRow base e size v n xs := by
 refine ⟨h.1, ?_⟩
 rcases h.2 with h' | ⟨g, cap, cur, rfl, hb, hh, q⟩
 ·exact .inl h'
 ·exact .inr ⟨g, cap, cur, rfl, hb, (hg.block g (Array.getElem?_eq_some_iff.1 hh).1 (fun e => hne g rfl e.symm)).trans hh, q⟩
def ApartAt (w : World) (B : Nat) (x y : Value) (m : Nat) (cs : List Value) : Prop := ∃ M, B ≤ M ∧ (∀ k, x.ownBlock = some k → k < M) ∧ w.ownsRow M 9 1 y m cs
theorem apart_keep {w w' : World} {B m : Nat} {x y : Value} {cs : List Value} (h : ApartAt w B x y m cs) (hk : KeepT [9] w w') : ApartAt w' B x y m cs := by
 obtain ⟨M, h1, h2, h3⟩ := h
 exact ⟨M, h1, h2, own_keepT h3 hk (by simp)⟩
theorem KeepP.T {P : Nat} {w w' : World} {cs : Array Value} {T : TypeId} {ts : List TypeId} (h : KeepP P w w') (hP : w.heap[P]? = some (.cells cs T (0, 0))) (hT : T ∉ ts) : KeepT ts w w' :=
 ⟨h.size, fun g cur t ht hg => (h.block g (Array.getElem?_eq_some_iff.1 hg).1 (fun e => by
  subst e
  rw [hP] at hg
  injection hg with hg
  injection hg with _ hg
  subst hg
  exact absurd ht hT)).trans hg⟩
theorem KeepP.trans {P : Nat} {a b c : World} (h : KeepP P a b) (k : KeepP P b c) : KeepP P a c := ⟨Nat.le_trans h.size k.size, k.os.trans h.os, k.tape.trans h.tape, k.output.trans h.output, fun i hi hn => (k.block i (Nat.lt_of_lt_of_le hi h.size) hn).trans (h.block i hi hn)⟩
theorem KeepP.of_below {P N : Nat} {w w' : World} (h : Below N w w') (hN : w.heap.size ≤ N) : KeepP P w w' := ⟨h.size, h.os, h.tape, h.output, fun k hk _ => h.block k (Nat.lt_of_lt_of_le hk hN)⟩
theorem keepT_setCell {ts : List TypeId} {w : World} {g k : Nat} {cs : Array Value} {T : TypeId} (h : w.heap[g]? = some (.cells cs T (0, 0))) (hT : T ∉ ts) (v : Value) : KeepT ts w (w.setCell ⟨g, k, none⟩ v) := by
 refine ⟨by simp [World.setCell], fun j cur t ht hj => ?_⟩
 rw [heap_setCell_other _ _ _ _ ?_]
 ·exact hj
 ·intro e
  subst e
  rw [h] at hj
  injection hj with hj
  injection hj with _ hj
  exact hT (hj ▸ ht)
theorem heap_setC {w : World} {g k : Nat} {cs : Array Value} {T : TypeId} (h : w.heap[g]? = some (.cells cs T (0, 0))) (v : Value) : (w.setCell ⟨g, k, none⟩ v).heap[g]? = some (.cells (cs.setIfInBounds k v) T (0, 0)) := by
 simp only [World.setCell, Array.getElem?_modify, if_true, h, Option.map_some]
 rfl
structure InC (w2 : World) (b9 : Nat) (M0 : Int) (l : List Int) (v9 : Value) (wz : World) : Prop where
 row : wz.heap[b9]? = some (.cells #[.int .i64 M0, v9] 36 (0, 0))
 own : OwnT oInt 3 wz (b9 + 1) v9 l
 keep : Below b9 w2 wz
theorem InC.snoc {w2 wz w3 w4 : World} {b9 : Nat} {M0 m : Int} {l : List Int} {v9 v' : Value} {css : List (List Value)} (h : InC w2 b9 M0 l v9 wz) (hb : Below wz.heap.size wz w3) (h0 : w3.ownsRow (b9 + 1) 3 1 v9 l.length css.flatten) (h2 : css.length = l.length)
  (h3 : ∀ (i : Nat) (cs : List Value) (x : Int), css[i]? = some cs → l[i]? = some x → oInt.rep w3 (b9 + 1) cs x) (hm : -9223372036854775808 ≤ m ∧ m ≤ 9223372036854775807) (ho : w4.ownsRow (b9 + 1) 3 1 v' (l.length + 1) (css.flatten ++ [.int .i64 m])) (hg : w3.grownBy w4 v9.ownBlock) :
  InC w2 b9 M0 (l ++ [m]) v' (w4.setCell ⟨b9, 1, none⟩ v') := by
 have hz := (Array.getElem?_eq_some_iff.1 h.row).1
 have hr3 := (hb.block b9 hz).trans h.row
 have hr4 := grown_other h0 hg hr3 (by decide)
 have hk := keepT_setCell (ts := [3]) (k := 1) hr4 (by decide) v'
 refine ⟨heap_setC hr4 v', (OwnT.snoc (O := oInt) (by simp [oInt, oPure]) h0 h2 h3 ⟨rfl, hm⟩ ho hg).keep hk, ?_⟩
 have hb3 : Below b9 w2 w3 := h.keep.trans (hb.mono (Nat.le_of_lt hz))
 exact (grown_below hb3 hg h0 (Nat.le_succ _) (Nat.le_trans (Nat.le_of_lt hz) hb.size)).setCell (p := ⟨b9, 1, none⟩) (Nat.le_refl _) v'
theorem LoopC.snoc {w7 wr w3 w4 : World} {P : Nat} {u1 u2 v3 v' v9 : Value} {l : List RuleD} {r : RuleD} {M0 : Int} {css : List (List Value)} (h : LoopC w7 P u1 u2 l v3 wr) (_hP : P < w7.heap.size) (hb : Below wr.heap.size wr w3) (h0 : w3.ownsRow w7.heap.size 36 2 v3 l.length css.flatten) (h2 : css.length = l.length)
  (h3 : ∀ (i : Nat) (cs : List Value) (x : RuleD), css[i]? = some cs → l[i]? = some x → oRule.rep w3 w7.heap.size cs x) (hx : oRule.rep w3 w7.heap.size [.int .i64 M0, v9] r) (ho : w4.ownsRow w7.heap.size 36 2 v' (l.length + 1) (css.flatten ++ [.int .i64 M0, v9])) (hg : w3.grownBy w4 v3.ownBlock) :
  LoopC w7 P u1 u2 (l ++ [r]) v' (w4.setCell ⟨P, 2, none⟩ v') := by
 have hz := (Array.getElem?_eq_some_iff.1 h.row).1
 have hr3 := (hb.block P hz).trans h.row
 have hr4 := grown_other h0 hg hr3 (by decide)
 have hk := keepT_setCell (ts := [36, 3]) (k := 2) hr4 (by decide) v'
 refine ⟨heap_setC hr4 v', (OwnT.snoc (O := oRule) (by decide) h0 h2 h3 hx ho hg).keep hk, ?_⟩
 have hsz := (w4.setCell ⟨P, 2, none⟩ v').heap.size
 refine ⟨Nat.le_trans h.keep.size (Nat.le_trans hb.size (Nat.le_trans hg.size (by simp [World.setCell]))), (hg.os.trans hb.os).trans h.keep.os, (hg.tape.trans hb.tape).trans h.keep.tape, (hg.output.trans hb.output).trans h.keep.output, fun k hk hn => ?_⟩
 rw [heap_setCell_other _ _ _ _ hn]
 have hkr := Nat.lt_of_lt_of_le hk h.keep.size
 refine (hg.block k (Nat.lt_of_lt_of_le hkr hb.size) fun e => ?_).trans ((hb.block k hkr).trans (h.keep.block k hk hn))
 have := (h0.lt k e.symm).1
 omega
end Go.Proofs.YthojelhpipmkiaaGreatDoor
