/- Texts of this proof joined: WSet, CanonW, Words, Close, Rep. -/
import Derived.Lib.SlicesCompact
import Derived.WalkKit
import Derived.WalkSpells
import Derived.WalkLawsBesides
import Derived.Handy
import Derived.Lib.Hide
import Derived.Maps.AppendAt
import Derived.ProofKit
import Derived.OpenShut
import Derived.Carry
import Derived.DataReads
namespace Go.Proofs.YthojelhpipmkiaaGreatDoor

abbrev Wd := List UInt8
abbrev Asc (l : List Wd) : Prop := l.Pairwise (· < ·)

end Go.Proofs.YthojelhpipmkiaaGreatDoor
namespace Go.Proofs.YthojelhpipmkiaaGreatDoor

abbrev RuleD := Int × List Int
def sortW (l : List Wd) : List Wd := l.mergeSort fun x y => decide (x ≤ y)
theorem sortW_perm (l : List Wd) : (sortW l).Perm l := List.mergeSort_perm _ _
theorem sortW_le (l : List Wd) : (sortW l).Pairwise (· ≤ ·) := by
 have := List.pairwise_mergeSort (le := fun x y : Wd => decide (x ≤ y)) (fun a b c h1 h2 => by simp only [decide_eq_true_eq] at *; exact List.le_trans h1 h2) (fun a b => by simp only [Bool.or_eq_true, decide_eq_true_eq]; exact List.le_total a b) l
 exact this.imp fun h => by simpa using h
theorem sortW_unique {l m : List Wd} (hp : m.Perm l) (hs : m.Pairwise (· ≤ ·)) : m = sortW l :=
 (hp.trans (sortW_perm l).symm).eq_of_pairwise (fun _ _ _ _ h1 h2 => List.le_antisymm h1 h2) hs (sortW_le l)
theorem ins_pairwise {α : Type} {le : α → α → Prop} {l : List α} {x : α} {k : Nat} (hs : l.Pairwise le) (h1 : ∀ y ∈ l.take k, le y x) (h2 : ∀ y ∈ l.drop k, le x y) : (l.take k ++ x :: l.drop k).Pairwise le := by
 rw [List.pairwise_append, List.pairwise_cons]
 refine ⟨hs.sublist (List.take_sublist k l), ⟨h2, hs.sublist (List.drop_sublist k l)⟩, fun a ha b hb => ?_⟩
 rcases List.mem_cons.1 hb with rfl | hb
 ·exact h1 a ha
 ·rw [← List.take_append_drop k l, List.pairwise_append] at hs
  exact hs.2.2 a ha b hb
theorem ins_before {α : Type} {le : α → α → Prop} (tr : ∀ a b c, le a b → le b c → le a c) {l : List α} {x : α} {k : Nat} (hk : k < l.length) (hs : l.Pairwise le) (h : le l[k] x) : ∀ y ∈ l.take (k + 1), le y x := by
 intro y hy
 obtain ⟨j, hj, rfl⟩ := List.getElem_of_mem hy
 rw [List.length_take] at hj
 rw [List.getElem_take]
 have hkl : j < l.length := by omega
 by_cases e : j = k
 ·subst e
  exact h
 ·exact tr _ _ _ (List.pairwise_iff_getElem.1 hs j k hkl hk (by omega)) h
theorem ins_perm {α : Type} (l : List α) (x : α) (k : Nat) : (l.take k ++ x :: l.drop k).Perm (l ++ [x]) := by
 have h1 : (l.take k ++ x :: l.drop k).Perm (x :: (l.take k ++ l.drop k)) := List.perm_middle
 rw [List.take_append_drop] at h1
 exact h1.trans (List.perm_append_singleton x l).symm
def rank (s : Int) : Int := if s < 0 then -1 - s else 1000 + s
theorem rank_inj {s t : Int} (hs : -1000 ≤ s) (ht : -1000 ≤ t) (h : rank s = rank t) : s = t := by
 unfold rank at h
 split at h <;> split at h <;> omega
def rightLt (a b : List Int) : Prop := a.map rank < b.map rank
instance (a b : List Int) : Decidable (rightLt a b) := inferInstanceAs (Decidable (a.map rank < b.map rank))
def ruleLt (a b : RuleD) : Prop := a.1 < b.1 ∨ a.1 = b.1 ∧ rightLt a.2 b.2
instance (a b : RuleD) : Decidable (ruleLt a b) := inferInstanceAs (Decidable (a.1 < b.1 ∨ a.1 = b.1 ∧ rightLt a.2 b.2))
theorem ruleLt_irrefl (a : RuleD) : ¬ ruleLt a a := by
 unfold ruleLt rightLt
 rintro (h | ⟨_, h⟩)
 ·omega
 ·exact List.lt_irrefl _ h
theorem ruleLt_trans {a b c : RuleD} (h1 : ruleLt a b) (h2 : ruleLt b c) : ruleLt a c := by
 unfold ruleLt rightLt at *
 rcases h1 with h | ⟨h, h'⟩ <;> rcases h2 with k | ⟨k, k'⟩
 ·exact .inl (by omega)
 ·exact .inl (by omega)
 ·exact .inl (by omega)
 ·exact .inr ⟨by omega, List.lt_trans h' k'⟩
theorem ruleLt_tri (a b : RuleD) : ruleLt a b ∨ (a.1 = b.1 ∧ a.2.map rank = b.2.map rank) ∨ ruleLt b a := by
 unfold ruleLt rightLt
 rcases Int.lt_trichotomy a.1 b.1 with h | h | h
 ·exact .inl (.inl h)
 ·by_cases h1 : a.2.map rank < b.2.map rank
  ·exact .inl (.inr ⟨h, h1⟩)
  ·by_cases h2 : b.2.map rank < a.2.map rank
   ·exact .inr (.inr (.inr ⟨h.symm, h2⟩))
   ·exact .inr (.inl ⟨h, List.le_antisymm (List.not_lt.1 h2) (List.not_lt.1 h1)⟩)
 ·exact .inr (.inr (.inl h))
theorem ruleLe_trans (a b c : RuleD) (h1 : ¬ ruleLt b a) (h2 : ¬ ruleLt c b) : ¬ ruleLt c a := by
 intro h
 rcases ruleLt_tri b c with h3 | ⟨h3, h4⟩ | h3
 ·exact h1 (ruleLt_trans h3 h)
 ·refine h1 ?_
  unfold ruleLt rightLt at *
  rw [h3, h4]
  exact h
 ·exact h2 h3
def RuleOk (r : RuleD) : Prop := ∀ s ∈ r.2, -1000 ≤ s
theorem right_inj : ∀ {a b : List Int}, (∀ s ∈ a, -1000 ≤ s) → (∀ s ∈ b, -1000 ≤ s) → a.map rank = b.map rank → a = b
 |[], [], _, _, _ => rfl
 |[], _ :: _, _, _, h => by simp at h
 |_ :: _, [], _, _, h => by simp at h
 |x :: a, y :: b, h1, h2, h => by
  rw [List.map_cons, List.map_cons] at h
  injection h with h3 h4
  rw [rank_inj (h1 x (by simp)) (h2 y (by simp)) h3, right_inj (fun s hs => h1 s (by simp [hs])) (fun s hs => h2 s (by simp [hs])) h4]
def sortR (l : List RuleD) : List RuleD := l.mergeSort fun a b => decide (¬ ruleLt b a)
theorem sortR_perm (l : List RuleD) : (sortR l).Perm l := List.mergeSort_perm _ _
theorem sortR_le (l : List RuleD) : (sortR l).Pairwise fun a b => ¬ ruleLt b a := by
 have := List.pairwise_mergeSort (le := fun a b : RuleD => decide (¬ ruleLt b a)) (fun a b c h1 h2 => by simp only [decide_eq_true_eq] at *; exact ruleLe_trans a b c h1 h2) (fun a b => by
  simp only [Bool.or_eq_true, decide_eq_true_eq]
  by_cases h : ruleLt b a
  ·exact .inr fun h2 => ruleLt_irrefl _ (ruleLt_trans h h2)
  ·exact .inl h) l
 exact this.imp fun h => by simpa using h
theorem sortR_unique {l m : List RuleD} (ho : ∀ r ∈ l, RuleOk r) (hp : m.Perm l) (hs : m.Pairwise fun a b => ¬ ruleLt b a) : m = sortR l := by
 refine (hp.trans (sortR_perm l).symm).eq_of_pairwise (fun a b ha hb h1 h2 => ?_) hs (sortR_le l)
 rcases ruleLt_tri a b with h | ⟨h, h'⟩ | h
 ·exact absurd h h2
 ·have := right_inj (ho a (hp.mem_iff.1 ha)) (ho b ((sortR_perm l).mem_iff.1 hb)) h'
  exact Prod.ext h this
 ·exact absurd h h1
def canN (ns : List Wd) : List Wd := ns.take 1 ++ sortW (ns.drop 1)
theorem canN_perm (ns : List Wd) : (canN ns).Perm ns := by
 have := (sortW_perm (ns.drop 1)).append_left (ns.take 1)
 rwa [List.take_append_drop] at this
def symM (ns ts ns' ts' : List Wd) (s : Int) : Int := if s < 0 then -1 - ((ts'.idxOf (ts.getD (-1 - s).toNat []) : Nat) : Int) else ((ns'.idxOf (ns.getD s.toNat []) : Nat) : Int)
def ruleM (ns ts ns' ts' : List Wd) (r : RuleD) : RuleD := (symM ns ts ns' ts' r.1, r.2.map (symM ns ts ns' ts'))
def canR (ns ts : List Wd) (rs : List RuleD) : List RuleD := sortR (rs.map (ruleM ns ts (canN ns) (sortW ts)))
theorem idx_getD {l l' : List Wd} (hp : l'.Perm l) {i : Nat} (hi : i < l.length) : l'.idxOf (l.getD i []) < l'.length := by
 rw [List.idxOf_lt_length_iff, hp.mem_iff, List.getD_eq_getElem?_getD, List.getElem?_eq_getElem hi]
 exact List.getElem_mem hi
theorem idx_inj {l l' : List Wd} (hp : l'.Perm l) (hn : l.Nodup) {i j : Nat} (hi : i < l.length) (hj : j < l.length) (h : l'.idxOf (l.getD i []) = l'.idxOf (l.getD j [])) : i = j := by
 have h1 := idx_getD hp hi
 have h2 := idx_getD hp hj
 have e1 := List.getElem_idxOf h1
 have e2 := List.getElem_idxOf h2
 have e3 : l.getD i [] = l.getD j [] := by rw [← e1, ← e2]; congr 1
 rw [List.getD_eq_getElem?_getD, List.getD_eq_getElem?_getD, List.getElem?_eq_getElem hi, List.getElem?_eq_getElem hj] at e3
 replace e3 : l[i] = l[j] := e3
 have hpw := List.pairwise_iff_getElem.1 hn
 rcases Nat.lt_trichotomy i j with h3 | h3 | h3
 ·exact absurd e3 (hpw i j hi hj h3)
 ·exact h3
 ·exact absurd e3.symm (hpw j i hj hi h3)
theorem idx_onto {l l' : List Wd} (hp : l'.Perm l) (hn : l.Nodup) {j : Nat} (hj : j < l.length) : ∃ i < l.length, l'.idxOf (l.getD i []) = j := by
 have hj' : j < l'.length := by rw [hp.length_eq]; exact hj
 obtain ⟨i, hi, e⟩ := List.getElem_of_mem (hp.mem_iff.1 (List.getElem_mem hj'))
 refine ⟨i, hi, ?_⟩
 rw [List.getD_eq_getElem?_getD, List.getElem?_eq_getElem hi]
 show l'.idxOf l[i] = j
 rw [e]
 exact List.Nodup.idxOf_getElem (hp.nodup_iff.2 hn) j hj'
theorem symM_sign (ns ts ns' ts' : List Wd) (s : Int) : symM ns ts ns' ts' s < 0 ↔ s < 0 := by
 unfold symM
 split <;> omega
def SymIn (n m : Nat) (s : Int) : Prop := -(m : Int) ≤ s ∧ s < n
section
variable {ns ts ns' ts' : List Wd} (hp : ns'.Perm ns) (hq : ts'.Perm ts)
include hp hq
theorem symM_in {s : Int} (h : SymIn ns.length ts.length s) : SymIn ns.length ts.length (symM ns ts ns' ts' s) := by
 unfold SymIn symM at *
 split
 ·have := idx_getD hq (i := (-1 - s).toNat) (by omega)
  rw [hq.length_eq] at this
  omega
 ·have := idx_getD hp (i := s.toNat) (by omega)
  rw [hp.length_eq] at this
  omega
theorem symM_inj (hn : ns.Nodup) (hm : ts.Nodup) {s t : Int} (h : SymIn ns.length ts.length s) (k : SymIn ns.length ts.length t) (e : symM ns ts ns' ts' s = symM ns ts ns' ts' t) : s = t := by
 unfold SymIn symM at *
 split at e <;> split at e
 ·have := idx_inj hq hm (i := (-1 - s).toNat) (j := (-1 - t).toNat) (by omega) (by omega) (by omega)
  omega
 ·omega
 ·omega
 ·have := idx_inj hp hn (i := s.toNat) (j := t.toNat) (by omega) (by omega) (by omega)
  omega
end
def symT (ns ts : List Wd) (s : Int) : Wd := if s < 0 then 39 :: (ts.getD (-1 - s).toNat [] ++ [39]) else ns.getD s.toNat []
def altT (ns ts : List Wd) (r : List Int) : Wd := r.flatMap fun s => 32 :: symT ns ts s
def altsT : List Wd → Wd
 |[] => []
 |x :: r => x ++ r.flatMap fun y => 32 :: 124 :: y
theorem altsT_snoc (l : List Wd) (y : Wd) : altsT (l ++ [y]) = altsT l ++ if l = [] then y else 32 :: 124 :: y := by
 cases l with
 |nil => simp [altsT]
 |cons x r => simp [altsT, List.flatMap_append]
def ofLeft (rs : List RuleD) (i : Nat) : List (List Int) := (rs.filter fun r => decide (r.1 = (i : Int))).map fun r => r.2
def lineT (ns ts : List Wd) (rs : List RuleD) (i : Nat) : Wd := ns.getD i [] ++ [32, 58] ++ altsT ((ofLeft rs i).map (altT ns ts)) ++ [32, 59, 10]
def gramT (ns ts : List Wd) (rs : List RuleD) : Wd := (List.range ns.length).flatMap (lineT ns ts rs)
def canT (ns ts : List Wd) (rs : List RuleD) : Wd := gramT (canN ns) (sortW ts) (canR ns ts rs)
end Go.Proofs.YthojelhpipmkiaaGreatDoor
namespace Go.Proofs.YthojelhpipmkiaaGreatDoor
open Go.RowKit

theorem rt1 {a a' : Value} (h : a = a') : Ending.returned a = .returned a' := by rw [h]
theorem rt2 {a b a' b' : Value} (h : a = a') (h2 : b = b') : Ending.returned (.tuple #[a, b]) = .returned (.tuple #[a', b']) := by rw [h, h2]
theorem vint {k : IntKind} {a b : Int} (h : a = b) : Value.int k a = .int k b := by rw [h]
theorem vbool {a b : Bool} (h : a = b) : Value.bool a = .bool b := by rw [h]
theorem vstr {a b : ByteArray} (h : a = b) : Value.string a = .string b := by rw [h]

def Rd (w : World) (B : Nat) (A : Option Addr) (xs : List Value) : Prop :=
 xs ≠ [] → ∃ b off, A = some ⟨b, off, none⟩ ∧ b < B ∧ ∀ j u, xs[j]? = some u → w.cell? ⟨b, off + j, none⟩ = some u

theorem addr_plain {w : World} {a : Addr} {v : Value} (h : w.cell? a = some v) : a = ⟨a.block, a.off, none⟩ := by
 obtain ⟨b, o, s⟩ := a
 cases s with
 |none => rfl
 |some s =>
  exfalso
  simp only [World.cell?] at h
  split at h
  ·simp at h
  ·cases h

section
variable {w w' : World} {B B' : Nat} {A : Option Addr} {xs : List Value}
theorem Rd.nil_ : Rd w B A [] := fun h => absurd rfl h
theorem Rd.at_ (h : Rd w B A xs) {k : Nat} (hk : k < xs.length) : ∃ b off, A = some ⟨b, off, none⟩ ∧ b < B ∧ w.cell? ⟨b, off + k, none⟩ = some xs[k] := by
 obtain ⟨b, off, e, hb, hc⟩ := h (by intro e; subst e; simp at hk)
 exact ⟨b, off, e, hb, hc k _ (List.getElem?_eq_getElem hk)⟩
theorem Rd.keep (h : Rd w B A xs) (hk : ∀ p : Addr, p.block < B → w'.cell? p = w.cell? p) : Rd w' B A xs := fun hn => by
 obtain ⟨b, off, e, hb, hc⟩ := h hn
 exact ⟨b, off, e, hb, fun j u hu => (hk _ hb).trans (hc j u hu)⟩
theorem Rd.more (h : Rd w B A xs) (hB : B ≤ B') : Rd w B' A xs := fun hn => by
 obtain ⟨b, off, e, hb, hc⟩ := h hn
 exact ⟨b, off, e, by omega, hc⟩
theorem Rd.below (h : Rd w B A xs) (hb : Below B w w') : Rd w' B A xs := h.keep fun _ hp => hb.cell hp
theorem Rd.drop_ (h : Rd w B A xs) (k : Nat) {cap : Nat} (hc : k < xs.length → k ≠ cap) :
  Rd w B (if cap = k then A else A.map (·.add k)) (xs.drop k) := fun hn => by
 have hl : k < xs.length := by
  rcases Nat.lt_or_ge k xs.length with h' | h'
  ·exact h'
  ·exact absurd (List.drop_eq_nil_of_le h') hn
 obtain ⟨b, off, rfl, hb, hcell⟩ := h (by intro e; subst e; simp at hl)
 have := hc hl
 rw [if_neg (by omega)]
 refine ⟨b, off + k, by simp [Addr.add_lit], hb, fun j u hu => ?_⟩
 rw [Nat.add_assoc]
 exact hcell _ u (by rw [← hu, List.getElem?_drop])
theorem Rd.take_ (h : Rd w B A xs) (k : Nat) : Rd w B A (xs.take k) := fun hn => by
 obtain ⟨b, off, e, hb, hcell⟩ := h (by intro e; subst e; simp at hn)
 refine ⟨b, off, e, hb, fun j u hu => hcell j u ?_⟩
 rw [List.getElem?_take] at hu
 split at hu
 ·exact hu
 ·cases hu
theorem Rd.of_own {base : Nat} {e : TypeId} {size n c : Nat} (h : w.ownsRow base e size (.slice A n c) n xs) : Rd w w.heap.size A xs := fun hn => by
 rcases h.2 with ⟨hv, h0⟩ | ⟨g, cap, cur, hv, _, hg, _⟩
 ·have h1 := h.1
  rw [h0] at h1
  exact absurd (List.eq_nil_of_length_eq_zero (by omega)) hn
 ·have hA : A = some ⟨g, 0, none⟩ := by injection hv
  subst hA
  refine ⟨g, 0, rfl, (Array.getElem?_eq_some_iff.1 hg).1, fun j u hu => ?_⟩
  have := h.cells (g := g) rfl j u hu
  rwa [Addr.add_lit] at this
end

theorem own_form {w : World} {base : Nat} {e : TypeId} {size : Nat} {v : Value} {n : Nat} {xs : List Value} (h : w.ownsRow base e size v n xs) :
  ∃ A c, v = .slice A n c ∧ n ≤ c ∧ c ≤ maxLen := by
 rcases h.2 with ⟨rfl, rfl⟩ | ⟨g, cap, cur, rfl, _, _, h1, h2, _⟩
 ·exact ⟨none, 0, rfl, by omega, by simp [maxLen]⟩
 ·exact ⟨_, cap, rfl, h1, h2⟩
theorem own_more {w : World} {base base' : Nat} {e : TypeId} {size : Nat} {v : Value} {n : Nat} {xs : List Value} (h : w.ownsRow base e size v n xs) (hb : base' ≤ base) :
  w.ownsRow base' e size v n xs := by
 refine ⟨h.1, ?_⟩
 rcases h.2 with h' | ⟨g, cap, cur, rfl, hg, r⟩
 ·exact .inl h'
 ·exact .inr ⟨g, cap, cur, rfl, by omega, r⟩
theorem own_below {w w' : World} {base : Nat} {e : TypeId} {size : Nat} {v : Value} {n : Nat} {xs : List Value} (h : w.ownsRow base e size v n xs) (hb : Below w.heap.size w w') :
  w'.ownsRow base e size v n xs := by
 refine ⟨h.1, ?_⟩
 rcases h.2 with h' | ⟨g, cap, cur, rfl, hg, hh, r⟩
 ·exact .inl h'
 ·exact .inr ⟨g, cap, cur, rfl, hg, (hb.block g (Array.getElem?_eq_some_iff.1 hh).1).trans hh, r⟩

theorem world_eq {a b : World} (h : a.heap = b.heap) (h2 : a.tape = b.tape) (h3 : a.drawn = b.drawn) (h4 : a.os = b.os) (h5 : a.output = b.output) : a = b := by
 cases a; cases b; simp only at *; subst h h2 h3 h4 h5; rfl
theorem setRow_alloc (w : World) (cur cs : Array Value) (e : TypeId) : (w.alloc (.cells cur e)).setRow w.heap.size cs = w.alloc (.cells cs e) := by
 refine world_eq ?_ rfl rfl rfl rfl
 apply Array.ext_getElem?
 intro i
 by_cases hi : i = w.heap.size
 ·subst hi
  rw [setRow_heap _ _ cur cs e (0, 0) (Go.heap_alloc_new w _), Go.heap_alloc_new w _]
 ·rw [setRow_other _ _ _ _ hi]
  show (w.heap.push _)[i]? = (w.heap.push _)[i]?
  rw [Array.getElem?_push, Array.getElem?_push, if_neg hi, if_neg hi]
theorem run_store_new {P : Program} (w : World) (cur : Array Value) (e : TypeId) (xs : List Value) (hl : xs.length = cur.size) (h1 : ∀ u ∈ xs, u.oneCell' = true) :
  (storeCells ⟨w.heap.size, 0, none⟩ xs).run P (w.alloc (.cells cur e)) = .ok () (w.alloc (.cells xs.toArray e)) := by
 have h := run_storeCells_at P w.heap.size 0 e xs 0 cur (w.alloc (.cells cur e)) (Go.heap_alloc_new w _) (by omega) h1
 rw [h, setRow_alloc]
 congr 4
 simp [List.drop_eq_nil_of_le (show cur.toList.length ≤ xs.length by simp; omega)]

theorem Rd.row {w : World} {B g : Nat} {e : TypeId} {fr : Nat × Nat} {cs : Array Value} (h : w.heap[g]? = some (.cells cs e fr)) (hB : g < B) : Rd w B (some ⟨g, 0, none⟩) cs.toList := fun _ =>
 ⟨g, 0, rfl, hB, fun j u hu => by
  rw [Nat.zero_add, cell_of_row w g j cs e fr h, ← Array.getElem?_toList]
  exact hu⟩

theorem heap_two (w : World) (o o' : Obj) : ((w.alloc o).alloc o').heap[w.heap.size + 1]? = some o' := by
 have := Go.heap_alloc_new (w.alloc o) o'
 rwa [World.size_alloc] at this
structure AppTy (P : Program) (t e : TypeId) (size bytes : Nat) (z : Value) : Prop where
 und : P.underlying t = some (.slice e)
 info : ∃ i, P.info? e = some i ∧ i.zero = some z ∧ i.size = size ∧ i.bytes = bytes
 cells : z.cells.size = size
 pos : 0 < size
theorem appTy {P : Program} {t e : TypeId} {size bytes : Nat} {z : Value} (h1 : P.underlying t = some (.slice e)) (h2 : (P.info? e).map (fun i => (i.zero, i.size, i.bytes)) = some (some z, size, bytes))
  (h3 : z.cells.size = size) (h4 : 0 < size) : AppTy P t e size bytes z := ⟨h1, info_parts h2, h3, h4⟩

section
variable {P : Program} {w : World}
theorem run_app {t ty e : TypeId} {size bytes : Nat} {z : Value} (T : AppTy P t e size bytes z) {base : Nat} {v : Value} {n : Nat} {xs : List Value} (hown : w.ownsRow base e size v n xs)
  {B : Nat} {A : Option Addr} {m c : Nat} {news : List Value} (hr : Rd w B A news) (hl : news.length = m * size) (h1 : ∀ u ∈ news, u.oneCell' = true)
  (h63 : n + m ≤ maxLen) (hbytes : (n + m) * bytes ≤ 140737488355328) (hbase : base ≤ w.heap.size) :
  ∃ v' w', (Builtin.append_ #[t, t] ty #[v, .slice A m c]).run P w = .ok v' w' ∧ w'.ownsRow base e size v' (n + m) (xs ++ news) ∧ w.grownBy w' v.ownBlock ∧
   (v'.ownBlock = v.ownBlock ∨ v'.ownBlock = some w.heap.size) ∧ (v' = .slice none 0 0 ↔ v = .slice none 0 0 ∧ m = 0) := by
 obtain ⟨i, hi, hz, hs, hby⟩ := T.info
 by_cases hm : m = 0
 ·subst hm
  have hn : news = [] := List.eq_nil_of_length_eq_zero (by simpa using hl)
  subst hn
  rcases A with _ | ad
  ·refine ⟨v, w, ?_, by simpa using hown, ⟨rfl, rfl, rfl, Nat.le_refl _, fun _ _ _ => rfl⟩, .inl rfl, by simp⟩
   rcases hown.2 with ⟨rfl, rfl⟩ | ⟨g, cap, cur, rfl, _, _, hnc, _⟩
   ·simp [Builtin.append_, run_underlying T.und, sizeOf, typeInfo, hi, Builtin.lenOf, Builtin.firstCells]
   ·simp [Builtin.append_, run_underlying T.und, sizeOf, typeInfo, hi, Builtin.lenOf, Builtin.firstCells, hnc, storeCells]
  ·obtain ⟨v', w', g1, g2, g3, g4, g5⟩ := run_append_own_at (P := P) w base t ty e i z size bytes T.und hi hz hs hby T.cells T.pos v n xs hown ad 0 c [] (by simp) (by simp) (by simp) h63 hbytes hbase
   exact ⟨v', w', g1, g2, g3, g5, g4⟩
 ·have hne : news ≠ [] := by
   intro e
   subst e
   simp only [List.length_nil] at hl
   have := Nat.mul_pos (Nat.pos_of_ne_zero hm) T.pos
   omega
  obtain ⟨b, off, rfl, _, hc⟩ := hr hne
  obtain ⟨v', w', g1, g2, g3, g4, g5⟩ := run_append_own_at (P := P) w base t ty e i z size bytes T.und hi hz hs hby T.cells T.pos v n xs hown ⟨b, off, none⟩ m c news hl (fun j u hu => by rw [Addr.add_lit]; exact hc j u hu) h1 h63 hbytes hbase
  exact ⟨v', w', g1, g2, g3, g5, g4⟩
theorem wp_app {o : Oper} {a : Act} {K : Act → World → Prop} {Q : Exit → Act → World → Prop} {s x : Operand} {t e : TypeId} {size bytes : Nat} {z : Value} (T : AppTy P t e size bytes z)
  (ho : o.op = .call { callee := .builtin .append, args := #[s, x], argTypes := #[t, t] })
  {v : Value} {A : Option Addr} {m c : Nat} (hs : a.eval s = v) (hx : a.eval x = .slice A m c)
  {base : Nat} {n : Nat} {xs : List Value} (hown : w.ownsRow base e size v n xs)
  {B : Nat} {news : List Value} (hr : Rd w B A news) (hl : news.length = m * size) (h1 : ∀ u ∈ news, u.oneCell' = true)
  (h63 : n + m ≤ maxLen) (hbytes : (n + m) * bytes ≤ 140737488355328) (hbase : base ≤ w.heap.size)
  (h : ∀ v' w', w'.ownsRow base e size v' (n + m) (xs ++ news) → w.grownBy w' v.ownBlock → (v'.ownBlock = v.ownBlock ∨ v'.ownBlock = some w.heap.size) → (v' = .slice none 0 0 ↔ v = .slice none 0 0 ∧ m = 0) → K (a.put o.dst v') w') : o.wp P a w K Q := by
 obtain ⟨v', w', hrun, h2, h3, h4, h5⟩ := run_app (ty := o.type) T hown (c := c) hr hl h1 h63 hbytes hbase
 unfold Oper.wp execOp
 simp only [ho, resolve, invoke, builtin, Sem.run_bind, Sem.run_pure, Result.andThen_ok, List.map_toArray, List.map_cons, List.map_nil, hs, hx, hrun]
 exact h v' w' h2 h3 h4 h5
theorem wpList_app {ops : Array Oper} {rest : List Oper} {o : Oper} {a : Act} {Q : Exit → Act → World → Prop} {s x : Operand} {t e : TypeId} {size bytes : Nat} {z : Value} (T : AppTy P t e size bytes z)
  (hgd : o.guard = none) (ho : o.op = .call { callee := .builtin .append, args := #[s, x], argTypes := #[t, t] })
  {v : Value} {A : Option Addr} {m c : Nat} (hs : a.eval s = v) (hx : a.eval x = .slice A m c)
  {base : Nat} {n : Nat} {xs : List Value} (hown : w.ownsRow base e size v n xs)
  {B : Nat} {news : List Value} (hr : Rd w B A news) (hl : news.length = m * size) (h1 : ∀ u ∈ news, u.oneCell' = true)
  (h63 : n + m ≤ maxLen) (hbytes : (n + m) * bytes ≤ 140737488355328) (hbase : base ≤ w.heap.size)
  (h : ∀ v' w', w'.ownsRow base e size v' (n + m) (xs ++ news) → w.grownBy w' v.ownBlock → (v'.ownBlock = v.ownBlock ∨ v'.ownBlock = some w.heap.size) → (v' = .slice none 0 0 ↔ v = .slice none 0 0 ∧ m = 0) → wpList P ops Q rest (a.put o.dst v') w') :
  wpList P ops Q (o :: rest) a w :=
 wpList_plain hgd fun _ hK => wp_app T ho hs hx hown hr hl h1 h63 hbytes hbase fun v' w' h2 h3 h4 h5 => hK _ _ (h v' w' h2 h3 h4 h5)
end
theorem grown_below {w0 w w' : World} {B base : Nat} {e : TypeId} {size n : Nat} {v : Value} {xs : List Value} (hb : Below B w0 w) (hg : w.grownBy w' v.ownBlock) (hown : w.ownsRow base e size v n xs) (h1 : B ≤ base) (h2 : B ≤ w.heap.size) : Below B w0 w' :=
 hb.grown hg h2 fun k hk => by have := (hown.lt k hk).1; omega
theorem grown_other {w w' : World} {base : Nat} {e e' : TypeId} {size n : Nat} {v : Value} {xs : List Value} {g : Nat} {cs : Array Value} {fr : Nat × Nat} (hown : w.ownsRow base e size v n xs) (hg : w.grownBy w' v.ownBlock)
  (h : w.heap[g]? = some (.cells cs e' fr)) (hne : e' ≠ e) : w'.heap[g]? = some (.cells cs e' fr) := by
 refine (hg.block g (Array.getElem?_eq_some_iff.1 h).1 fun he => ?_).trans h
 rcases hown.2 with ⟨rfl, _⟩ | ⟨g', cap, cur, rfl, _, hh, _⟩
 ·simp [Value.ownBlock] at he
 ·have : g = g' := by simpa [Value.ownBlock] using he
  subst this
  rw [h] at hh
  injection hh with hh
  injection hh with _ h2
  exact hne h2

def bcell (b : UInt8) : Value := .int .u8 (b.toNat : Int)
def bcells (l : List UInt8) : List Value := l.map bcell
theorem bcells_length (l : List UInt8) : (bcells l).length = l.length := by simp [bcells]
theorem bcells_get (l : List UInt8) (k : Nat) (h : k < (bcells l).length) : (bcells l)[k] = .int .u8 ((l[k]'(by simpa [bcells] using h)).toNat : Int) := by simp [bcells, bcell]
theorem bcells_append (l r : List UInt8) : bcells (l ++ r) = bcells l ++ bcells r := by simp [bcells]
theorem Rd.byte {w : World} {B : Nat} {A : Option Addr} {l : List UInt8} (h : Rd w B A (bcells l)) {k : Nat} (hk : k < l.length) :
  ∃ b off, A = some ⟨b, off, none⟩ ∧ b < B ∧ w.cell? ⟨b, off + k, none⟩ = some (.int .u8 (l[k].toNat : Int)) := by
 obtain ⟨b, off, e, hb, hc⟩ := h.at_ (k := k) (by rw [bcells_length]; exact hk)
 exact ⟨b, off, e, hb, by rw [hc, bcells_get]⟩

def bat (s : ByteArray) (k : Nat) : Int := if h : k < s.size then ((s[k]'h).toNat : Int) else 0
theorem bat_get (s : ByteArray) : ∀ (n : Nat) (h : n < s.size), ((s[n]'h).toNat : Int) = bat s n := fun n h => by unfold bat; rw [dif_pos h]
theorem bat_list (s : ByteArray) (k : Nat) (h : k < s.data.toList.length) : bat s k = (s.data.toList[k].toNat : Int) := by
 have h' : k < s.size := by simpa using h
 unfold bat
 rw [dif_pos h']
 simp [ByteArray.getElem_eq_getElem_data]
theorem conv_bytes {P : Program} {w : World} {B : Nat} {A : Option Addr} {l : List UInt8} (h : Rd w B A (bcells l)) {src dst e : TypeId} (hs : P.underlying src = some (.slice e)) (he : P.underlying e = some (.int .u8)) (hd : P.underlying dst = some .string)
  (n : Nat) (hn : n = l.length) (c : Nat) : (convert src dst (.slice A n c)).run P w = .ok (.string ⟨l.toArray⟩) w := by
 subst hn
 cases A with
 |some ad => 
  refine run_convert_bytes_back w src dst e ad c l hs he hd fun j hj => ?_
  obtain ⟨b, off, e', _, hc⟩ := h.byte hj
  injection e' with e'
  subst e'
  rw [Addr.add_lit]
  exact hc
 |none =>
  have hl : l = [] := by
   cases l with
   |nil => rfl
   |cons b r => obtain ⟨_, _, e', _⟩ := h.byte (k := 0) (by simp); cases e'
  subst hl
  exact run_convert_bytes_nil w src e hs he _ c dst hd
theorem bcells_one (l : List UInt8) : ∀ u ∈ bcells l, u.oneCell' = true := by
 intro u hu
 obtain ⟨b, _, rfl⟩ := List.mem_map.1 hu
 rfl

end Go.Proofs.YthojelhpipmkiaaGreatDoor
namespace Go.Proofs.YthojelhpipmkiaaGreatDoor
open Go.ChangeShapes Go.WideShapes Go.ChangeAt Go.RowKit

section
variable {H : Type} {enc : TypeId × Value → H} {P : Program}

theorem trodAll_below (hl : laidOutB P = true) {W W' : World} (hb : Below W.heap.size W W') : ∀ (ts : List TypeId) (vs : List Value) (ds : List (DataW H)) (ps : List MemPlace),
  ts.all (fun t => P.readableRec t && decide (t < P.types.size)) = true → DataW.TrodAll enc P W 0 (fun _ => true) true ts vs ds ps → (∀ x ∈ ps, x.block < W.heap.size) →
  DataW.TrodAll enc P W' 0 (fun b => decide (b < W.heap.size)) true ts vs ds ps
 |[], vs, ds, ps, _, h, _ => by
  obtain ⟨rfl, rfl, rfl⟩ := trodAll_nil h
  exact trodAll_mk0
 |t :: ts, vs, ds, ps, hp, h, hlt => by
  obtain ⟨v, vs', d, ds', p, q, rfl, rfl, rfl, hd, hr⟩ := trodAll_cons h
  rw [List.all_cons, Bool.and_eq_true, Bool.and_eq_true, decide_eq_true_eq] at hp
  exact trodAll_cons_mk (Below.trod hl hp.1.1 hp.1.2 hd hb fun x hx => hlt x (List.mem_append_left _ hx)) (trodAll_below hl hb ts vs' ds' q hp.2 hr fun x hx => hlt x (List.mem_append_right _ hx))

theorem law_post {f : Func} {s : ChangeSpec} {W W' : World} {args : Array Value} {ds gs : List (DataW H)} {before : List MemPlace} {tb : TypeId} (hl : laidOutB P = true)
  (hp : f.params.toList.all (fun t => P.readableRec t && decide (t < P.types.size)) = true) (hvars : s.vars = []) (hres : f.resultTypes = #[tb]) (htb : P.underlying tb = some .bool)
  (hfn : s.fn H (ds ++ gs) = { results := [.lit (.bool true)], args := ds }) (hW : DataW.Whole enc P f.params.toList s.vars false W args.toList ds gs before) (hb : Below W.heap.size W W') :
  s.post enc P f false true false false W args (.bool true) W' := by
 have hlt := hW.lt
 have hW' := hW
 obtain ⟨p, q, hA, hV, rfl, hfz, hnd⟩ := hW'
 rw [hvars] at hV
 obtain ⟨rfl, rfl⟩ := trodVars_none hV
 refine ⟨ds, [], p ++ [], [], p, [], hW, ?_, ?_, ?_, ?_, fun h => by cases h⟩
 ·rw [hfn, hres]
  exact trodAll_mk1 (shut_bool htb true)
 ·rw [hfn]
  exact trodAll_below hl hb _ _ _ _ hp hA fun x hx => hlt x (List.mem_append_left _ hx)
 ·rw [hfn, hvars]
  rfl
 ·exact hb.frame _

end
end Go.Proofs.YthojelhpipmkiaaGreatDoor
namespace Go.Proofs.YthojelhpipmkiaaGreatDoor
open Go.ChangeShapes Go.WideShapes Go.ChangeAt Go.RowKit

structure Elt (α : Type) where
 size : Nat
 rep : World → Nat → List Value → α → Prop
 len : ∀ {w B cs x}, rep w B cs x → cs.length = size
 keep : ∀ {w w' B cs x}, rep w B cs x → (∀ p : Addr, p.block < B → w'.cell? p = w.cell? p) → rep w' B cs x
 more : ∀ {w B B' cs x}, rep w B cs x → B ≤ B' → rep w B' cs x
 one : ∀ {w B cs x}, rep w B cs x → ∀ u ∈ cs, u.oneCell' = true

theorem Elt.below {α : Type} (E : Elt α) {w w' : World} {B : Nat} {cs : List Value} {x : α} (h : E.rep w B cs x) (hb : Below B w w') : E.rep w' B cs x := E.keep h fun _ hp => hb.cell hp

def eInt : Elt Int where
 size := 1
 rep := fun _ _ cs x => cs = [.int .i64 x] ∧ -9223372036854775808 ≤ x ∧ x ≤ 9223372036854775807
 len := fun h => by rw [h.1]; rfl
 keep := fun h _ => h
 more := fun h _ => h
 one := fun h => by rw [h.1]; simp [Value.oneCell']
def eStr : Elt ByteArray where
 size := 1
 rep := fun _ _ cs x => cs = [.string x] ∧ x.size ≤ maxLen
 len := fun h => by rw [h.1]; rfl
 keep := fun h _ => h
 more := fun h _ => h
 one := fun h => by rw [h.1]; simp [Value.oneCell']
def eBool : Elt Bool where
 size := 1
 rep := fun _ _ cs x => cs = [.bool x]
 len := fun h => by rw [h]; rfl
 keep := fun h _ => h
 more := fun h _ => h
 one := fun h => by rw [h]; simp [Value.oneCell']
def SlR {α : Type} (E : Elt α) (w : World) (B : Nat) (v : Value) (xs : List α) : Prop :=
 ∃ (A : Option Addr) (c : Nat) (css : List (List Value)), v = .slice A xs.length c ∧ xs.length ≤ c ∧ c ≤ maxLen ∧ css.length = xs.length ∧ Rd w B A css.flatten ∧
  ∀ (i : Nat) (cs : List Value) (x : α), css[i]? = some cs → xs[i]? = some x → E.rep w B cs x

section
variable {α : Type} {E : Elt α} {w w' : World} {B B' : Nat} {v : Value} {xs : List α}
theorem SlR.keep (h : SlR E w B v xs) (hk : ∀ p : Addr, p.block < B → w'.cell? p = w.cell? p) : SlR E w' B v xs := by
 obtain ⟨A, c, css, e, h1, h2, h3, h4, h5⟩ := h
 exact ⟨A, c, css, e, h1, h2, h3, h4.keep hk, fun i cs x hc hx => E.keep (h5 i cs x hc hx) hk⟩
theorem SlR.below (h : SlR E w B v xs) (hb : Below B w w') : SlR E w' B v xs := h.keep fun _ hp => hb.cell hp
theorem SlR.more (h : SlR E w B v xs) (hB : B ≤ B') : SlR E w B' v xs := by
 obtain ⟨A, c, css, e, h1, h2, h3, h4, h5⟩ := h
 exact ⟨A, c, css, e, h1, h2, h3, h4.more hB, fun i cs x hc hx => E.more (h5 i cs x hc hx) hB⟩
theorem SlR.next (h : SlR E w B v xs) (hb : Below B w w') (hB : B ≤ B') : SlR E w' B' v xs := (h.below hb).more hB
theorem SlR.fut {N : Nat} (h : SlR E w B v xs) (hb : Below N w w') (h1 : B ≤ N) (h2 : B ≤ B') : SlR E w' B' v xs := (h.below (hb.mono h1)).more h2
theorem SlR.nil_ : SlR E w B (.slice none 0 0) [] := ⟨none, 0, [], rfl, Nat.le_refl _, by simp [maxLen], rfl, Rd.nil_, fun i cs x hc => by simp at hc⟩
theorem SlR.form (h : SlR E w B v xs) : ∃ A c, v = .slice A xs.length c ∧ xs.length ≤ c ∧ c ≤ maxLen := by
 obtain ⟨A, c, css, e, h1, h2, _⟩ := h
 exact ⟨A, c, e, h1, h2⟩
end
theorem flat_get {α : Type} (n : Nat) : ∀ (css : List (List α)), (∀ cs ∈ css, cs.length = n) → ∀ (i j : Nat) (cs : List α) (u : α), css[i]? = some cs → cs[j]? = some u → css.flatten[i * n + j]? = some u
 |[], _, i, j, cs, u, h, _ => by simp at h
 |c :: css, hl, 0, j, cs, u, h, hu => by
  simp only [List.getElem?_cons_zero, Option.some.injEq] at h
  subst h
  rw [Nat.zero_mul, Nat.zero_add, List.flatten_cons, List.getElem?_append_left (List.getElem?_eq_some_iff.1 hu).1]
  exact hu
 |c :: css, hl, i + 1, j, cs, u, h, hu => by
  have hc := hl c (by simp)
  rw [List.flatten_cons, List.getElem?_append_right (by rw [hc, Nat.add_mul]; omega), hc, show (i + 1) * n + j - n = i * n + j by rw [Nat.add_mul]; omega]
  exact flat_get n css (fun cs hcs => hl cs (by simp [hcs])) i j cs u (by simpa using h) hu
section
variable {α : Type} {E : Elt α} {w w' : World} {B B' : Nat} {v : Value} {xs : List α}
theorem SlR.lens {css : List (List Value)} (h3 : css.length = xs.length) (h5 : ∀ (i : Nat) (cs : List Value) (x : α), css[i]? = some cs → xs[i]? = some x → E.rep w B cs x) : ∀ cs ∈ css, cs.length = E.size := by
 intro cs hcs
 obtain ⟨i, hi, rfl⟩ := List.getElem_of_mem hcs
 exact E.len (h5 i _ _ (List.getElem?_eq_getElem hi) (List.getElem?_eq_getElem (by omega)))
theorem SlR.at_ (h : SlR E w B v xs) {k : Nat} (hk : k < xs.length) (hpos : 0 < E.size) : ∃ b off c cs, v = .slice (some ⟨b, off, none⟩) xs.length c ∧ xs.length ≤ c ∧ b < B ∧ E.rep w B cs xs[k] ∧
  ∀ j u, cs[j]? = some u → w.cell? ⟨b, off + (k * E.size + j), none⟩ = some u := by
 obtain ⟨A, c, css, rfl, h1, h2, h3, h4, h5⟩ := h
 have hkc : k < css.length := by omega
 have hr := h5 k _ _ (List.getElem?_eq_getElem hkc) (List.getElem?_eq_getElem hk)
 have hls := SlR.lens h3 h5
 have hne : css.flatten ≠ [] := by
  intro e
  have hl := hls css[k] (List.getElem_mem hkc)
  have h0 : 0 < css[k].length := by omega
  have := flat_get E.size css hls k 0 css[k] css[k][0] (List.getElem?_eq_getElem hkc) (List.getElem?_eq_getElem h0)
  rw [e] at this
  simp at this
 obtain ⟨b, off, rfl, hb, hc⟩ := h4 hne
 exact ⟨b, off, c, css[k], rfl, h1, hb, hr, fun j u hu => hc _ _ (flat_get E.size css hls k j _ u (List.getElem?_eq_getElem hkc) hu)⟩
theorem SlR.get {A : Option Addr} {n c : Nat} (h : SlR E w B (.slice A n c) xs) {k : Nat} (hk : k < xs.length) (hpos : 0 < E.size) : ∃ b off cs, A = some ⟨b, off, none⟩ ∧ n ≤ c ∧ b < B ∧ E.rep w B cs xs[k] ∧
  ∀ j u, cs[j]? = some u → w.cell? ⟨b, off + (k * E.size + j), none⟩ = some u := by
 obtain ⟨b, off, c', cs, e, h1, h2, h3, h4⟩ := h.at_ hk hpos
 injection e with e1 e2 e3
 subst e2
 exact ⟨b, off, cs, e1, by omega, h2, h3, h4⟩
theorem SlR.n_eq {A : Option Addr} {n c : Nat} (h : SlR E w B (.slice A n c) xs) : n = xs.length := by
 obtain ⟨_, _, e, _⟩ := h.form
 injection e
theorem SlR.n_le {A : Option Addr} {n c : Nat} (h : SlR E w B (.slice A n c) xs) : n ≤ c ∧ c ≤ 9223372036854775807 := by
 obtain ⟨_, _, e, h1, h2⟩ := h.form
 injection e with _ e2 e3
 subst e2 e3
 exact ⟨h1, by simpa [maxLen] using h2⟩
theorem SlR.take_ {A : Option Addr} {n c : Nat} (h : SlR E w B (.slice A n c) xs) (k : Nat) {n' : Nat} (hn : n' = (xs.take k).length) : SlR E w B (.slice A n' c) (xs.take k) := by
 obtain ⟨A, c, css, e, h1, h2, h3, h4, h5⟩ := h
 injection e with e1 e2 e3
 subst e1 e2 e3 hn
 refine ⟨_, _, css.take k, rfl, by rw [List.length_take]; omega, h2, by rw [List.length_take, List.length_take, h3], ?_, fun i cs x hc hx => ?_⟩
 ·intro hne
  obtain ⟨b, off, e, hb, hc⟩ := h4 (by
   intro e
   apply hne
   have hz : ∀ cs ∈ css, cs = [] := List.flatten_eq_nil_iff.1 e
   exact List.flatten_eq_nil_iff.2 fun cs hcs => hz cs (List.mem_of_mem_take hcs))
  refine ⟨b, off, e, hb, fun j u hu => hc j u ?_⟩
  have hd : css.flatten = (css.take k).flatten ++ (css.drop k).flatten := by rw [← List.flatten_append, List.take_append_drop]
  rw [hd, List.getElem?_append_left (List.getElem?_eq_some_iff.1 hu).1]
  exact hu
 ·rw [List.getElem?_take] at hc hx
  split at hc
  ·rename_i hik
   rw [if_pos hik] at hx
   exact h5 i cs x hc hx
  ·cases hc
end

def eSl {α : Type} (E : Elt α) : Elt (List α) where
 size := 1
 rep := fun w B cs xs => ∃ v, cs = [v] ∧ SlR E w B v xs
 len := fun ⟨v, h, _⟩ => by rw [h]; rfl
 keep := fun ⟨v, h, hs⟩ hk => ⟨v, h, hs.keep hk⟩
 more := fun ⟨v, h, hs⟩ hB => ⟨v, h, hs.more hB⟩
 one := fun ⟨v, h, hs⟩ u hu => by
  rw [h, List.mem_singleton] at hu
  obtain ⟨A, c, e, _⟩ := hs.form
  subst hu
  rw [e]
  rfl
def eProd {α β : Type} (E : Elt α) (F : Elt β) : Elt (α × β) where
 size := E.size + F.size
 rep := fun w B cs x => ∃ c1 c2, cs = c1 ++ c2 ∧ E.rep w B c1 x.1 ∧ F.rep w B c2 x.2
 len := fun ⟨c1, c2, h, h1, h2⟩ => by rw [h, List.length_append, E.len h1, F.len h2]
 keep := fun ⟨c1, c2, h, h1, h2⟩ hk => ⟨c1, c2, h, E.keep h1 hk, F.keep h2 hk⟩
 more := fun ⟨c1, c2, h, h1, h2⟩ hB => ⟨c1, c2, h, E.more h1 hB, F.more h2 hB⟩
 one := fun ⟨c1, c2, h, h1, h2⟩ u hu => by
  rw [h, List.mem_append] at hu
  rcases hu with hu | hu
  ·exact E.one h1 u hu
  ·exact F.one h2 u hu
def eMap {α β : Type} (E : Elt β) (f : α → β) : Elt α where
 size := E.size
 rep := fun w B cs x => E.rep w B cs (f x)
 len := fun h => E.len h
 keep := fun h hk => E.keep h hk
 more := fun h hB => E.more h hB
 one := fun h => E.one h

section
variable {H : Type}
def Opens {α : Type} (enc : TypeId × Value → H) (P : Program) (E : Elt α) (t : TypeId) : Prop :=
 ∀ (W : World) (fuel : Nat) (cs : List Value) (x : DataW H × List MemPlace), DataW.trod enc P W 0 (fun _ => true) true fuel t cs = some x → ∃ a, E.rep W W.heap.size cs a
variable {enc : TypeId × Value → H} {P : Program}
theorem opens_int {t : TypeId} (ht : P.underlying t = some (.int .i64)) : Opens enc P eInt t := by
 intro W fuel cs x h
 obtain ⟨n, rfl, _, hw⟩ := DataW.trod_int ht h
 simp [Lit.wf, IntKind.min, IntKind.max, IntKind.signed, IntKind.bits] at hw
 exact ⟨n, rfl, by omega, by omega⟩
theorem opens_str {t : TypeId} (ht : P.underlying t = some .string) : Opens enc P eStr t := by
 intro W fuel cs x h
 obtain ⟨s, rfl, _, hw⟩ := DataW.trod_string ht h
 exact ⟨s, rfl, hw⟩
theorem choose_list {α β : Type} (n : Nat) (Q : Nat → α → β → Prop) (h : ∀ i, i < n → ∃ a b, Q i a b) : ∃ (us : List α) (bs : List β), us.length = n ∧ bs.length = n ∧ ∀ i a b, us[i]? = some a → bs[i]? = some b → Q i a b := by
 induction n with
 |zero => exact ⟨[], [], rfl, rfl, fun i a b ha => by simp at ha⟩
 |succ n ih =>
  obtain ⟨us, bs, h1, h2, h3⟩ := ih fun i hi => h i (by omega)
  obtain ⟨a, b, hab⟩ := h n (by omega)
  refine ⟨us ++ [a], bs ++ [b], by simp [h1], by simp [h2], fun i x y hx hy => ?_⟩
  rcases Nat.lt_trichotomy i n with hi | hi | hi
  ·rw [List.getElem?_append_left (by omega)] at hx hy
   exact h3 i x y hx hy
  ·subst hi
   rw [List.getElem?_append_right (by omega)] at hx hy
   simp only [h1, h2, Nat.sub_self, List.getElem?_cons_zero, Option.some.injEq] at hx hy
   subst hx hy
   exact hab
  ·have := (List.getElem?_eq_some_iff.1 hx).1
   simp at this
   omega
theorem flat_cells {w : World} {b off n : Nat} : ∀ (css : List (List Value)) (o : Nat), (∀ cs ∈ css, cs.length = n) → (∀ i cs, css[i]? = some cs → ∀ j u, cs[j]? = some u → w.cell? ⟨b, off + (o + i) * n + j, none⟩ = some u) →
  ∀ j u, css.flatten[j]? = some u → w.cell? ⟨b, off + o * n + j, none⟩ = some u
 |[], o, _, _, j, u, hu => by simp at hu
 |c :: css, o, hl, hc, j, u, hu => by
  have hcl := hl c (by simp)
  rw [List.flatten_cons] at hu
  rcases Nat.lt_or_ge j c.length with hj | hj
  ·rw [List.getElem?_append_left hj] at hu
   have := hc 0 c (by simp) j u hu
   simpa using this
  ·rw [List.getElem?_append_right hj] at hu
   have := flat_cells (off := off) css (o + 1) (fun cs hcs => hl cs (by simp [hcs])) (fun i cs hi j u hu => by
    have := hc (i + 1) cs (by simpa using hi) j u hu
    rwa [show o + (i + 1) = o + 1 + i by omega] at this) (j - c.length) u hu
   rw [Nat.add_mul, Nat.one_mul, hcl, show off + (o * n + n) + (j - n) = off + o * n + j by omega] at this
   exact this
theorem opens_sl {α : Type} {E : Elt α} {t e : TypeId} (hE : Opens enc P E e) (ht : P.underlying t = some (.slice e)) (hs : P.cellsOf e = E.size) (hpos : 0 < E.size) : Opens enc P (eSl E) t := by
 intro W fuel cs x h
 rcases DataW.trod_slice ht h with ⟨rfl, _⟩ | ⟨a, len, cap, elems, rest, n, _, rfl, _, _, hl, hm, hlen, hel, _, _⟩
 ·exact ⟨[], _, rfl, SlR.nil_⟩
 ·have hex : ∀ i, i < len → ∃ (cs : List Value) (y : α), E.rep W W.heap.size cs y ∧ cs.length = E.size ∧ ∀ j, j < E.size → W.cell? ((a.add (i * E.size)).add j) = cs[j]? := by
   intro i hi
   have h1 := hel i hi
   rw [List.getElem?_eq_getElem (by omega), hs] at h1
   cases hc : W.cells? 0 (a.add (i * E.size)) E.size with
   |none => rw [hc] at h1; simp at h1
   |some cs =>
    rw [hc] at h1
    obtain ⟨y, hy⟩ := hE W n cs _ h1
    obtain ⟨_, g2, g3⟩ := World.cells?_some hc
    exact ⟨cs, y, hy, g2, g3⟩
  obtain ⟨css, ys, l1, l2, hall⟩ := choose_list len (fun i (cs : List Value) (y : α) => E.rep W W.heap.size cs y ∧ cs.length = E.size ∧ ∀ j, j < E.size → W.cell? ((a.add (i * E.size)).add j) = cs[j]?) hex
  refine ⟨ys, _, rfl, some a, cap, css, by rw [l2], by rw [l2]; exact hl, hm, by rw [l1, l2], fun hne => ?_, fun i cs y hc hy => (hall i cs y hc hy).1⟩
  have hlpos : 0 < len := by
   rcases Nat.eq_zero_or_pos len with h0 | h0
   ·exfalso
    apply hne
    subst h0
    rw [List.eq_nil_of_length_eq_zero l1]
    rfl
   ·exact h0
  have h0 := hall 0 _ _ (List.getElem?_eq_getElem (by omega)) (List.getElem?_eq_getElem (by omega))
  have hz := h0.2.2 0 hpos
  have hcell0 : W.cell? a = some css[0][0] := by
   have : (a.add (0 * E.size)).add 0 = a := by simp [Addr.add]
   rw [this] at hz
   rw [hz, List.getElem?_eq_getElem]
  have hpl := addr_plain hcell0
  refine ⟨a.block, a.off, by rw [← hpl], World.block_lt_of_cell? W _ hcell0, fun j u hu => ?_⟩
  have := flat_cells (w := W) (b := a.block) (off := a.off) (n := E.size) css 0 (fun cs hcs => by
   obtain ⟨i, hi, rfl⟩ := List.getElem_of_mem hcs
   exact (hall i _ _ (List.getElem?_eq_getElem hi) (List.getElem?_eq_getElem (by omega))).2.1) (fun i cs hi j u hu => by
   have hil : i < css.length := (List.getElem?_eq_some_iff.1 hi).1
   have h3 := hall i cs _ hi (List.getElem?_eq_getElem (by omega))
   have hj : j < cs.length := (List.getElem?_eq_some_iff.1 hu).1
   have h4 := h3.2.2 j (by omega)
   rw [hpl, Addr.add_lit, Addr.add_lit] at h4
   rw [Nat.zero_add, h4, hu]) j u hu
  simpa using this
theorem opens_field {α : Type} {E : Elt α} {fs : Array Field} {n : Nat} {W : World} {cs : List Value} {xs : List (DataW H × List MemPlace)} (hlen : xs.length = fs.size)
  (hf : ∀ (i : Nat) (f : Field), fs[i]? = some f → DataW.trod enc P W 0 (fun _ => true) true n f.type ((cs.drop f.offset).take (P.cellsOf f.type)) = xs[i]?)
  (i : Nat) (f : Field) (hi : fs[i]? = some f) (hE : Opens enc P E f.type) : ∃ a, E.rep W W.heap.size ((cs.drop f.offset).take (P.cellsOf f.type)) a := by
 have h := hf i f hi
 rw [List.getElem?_eq_getElem (by have := (Array.getElem?_eq_some_iff.1 hi).1; omega)] at h
 exact hE W n _ _ h
theorem opens_two {α β : Type} {E : Elt α} {F : Elt β} {t : TypeId} {f0 f1 : Field} (ht : P.underlying t = some (.struct #[f0, f1])) (h0 : Opens enc P E f0.type) (h1 : Opens enc P F f1.type)
  (s0 : P.cellsOf f0.type = E.size) (s1 : P.cellsOf f1.type = F.size) (o0 : f0.offset = 0) (o1 : f1.offset = E.size) (st : P.cellsOf t = E.size + F.size) : Opens enc P (eProd E F) t := by
 intro W fuel cs x h
 obtain ⟨xs, n, _, _, hl, hlen, hf⟩ := DataW.trod_struct ht h
 obtain ⟨a, ha⟩ := opens_field hlen hf 0 f0 rfl h0
 obtain ⟨b, hb⟩ := opens_field hlen hf 1 f1 rfl h1
 rw [o0, s0, List.drop_zero] at ha
 rw [o1, s1, List.take_of_length_le (by rw [List.length_drop]; omega)] at hb
 exact ⟨(a, b), _, _, (List.take_append_drop E.size cs).symm, ha, hb⟩
theorem opens_three {α β γ : Type} {E : Elt α} {F : Elt β} {G : Elt γ} {t : TypeId} {f0 f1 f2 : Field} (ht : P.underlying t = some (.struct #[f0, f1, f2])) (h0 : Opens enc P E f0.type) (h1 : Opens enc P F f1.type) (h2 : Opens enc P G f2.type)
  (s0 : P.cellsOf f0.type = E.size) (s1 : P.cellsOf f1.type = F.size) (s2 : P.cellsOf f2.type = G.size) (o0 : f0.offset = 0) (o1 : f1.offset = E.size) (o2 : f2.offset = E.size + F.size) (st : P.cellsOf t = E.size + F.size + G.size) :
  Opens enc P (eProd E (eProd F G)) t := by
 intro W fuel cs x h
 obtain ⟨xs, n, _, _, hl, hlen, hf⟩ := DataW.trod_struct ht h
 obtain ⟨a, ha⟩ := opens_field hlen hf 0 f0 rfl h0
 obtain ⟨b, hb⟩ := opens_field hlen hf 1 f1 rfl h1
 obtain ⟨c, hc⟩ := opens_field hlen hf 2 f2 rfl h2
 rw [o0, s0, List.drop_zero] at ha
 rw [o1, s1] at hb
 rw [o2, s2, List.take_of_length_le (by rw [List.length_drop]; omega)] at hc
 refine ⟨(a, b, c), _, _, (List.take_append_drop E.size cs).symm, ha, _, _, (List.take_append_drop F.size _).symm, hb, ?_⟩
 rw [List.drop_drop]
 exact hc
theorem open_agg {α : Type} {E : Elt α} {W : World} {base : Nat} {t : TypeId} {fs : Array Field} {v : Value} {d : DataW H} {p : List MemPlace} (hE : Opens enc P E t) (ht : P.underlying t = some (.struct fs))
  (hval : Value.okWide P W .any base t v) (h : DataW.Trod enc P W 0 (fun _ => true) true t v d p) : ∃ (cs : List Value) (x : α), v = .agg cs.toArray ∧ E.rep W W.heap.size cs x := by
 obtain ⟨cs, rfl, _⟩ := okWide_struct ht hval
 obtain ⟨fuel, hf⟩ := h
 obtain ⟨x, hx⟩ := hE W fuel _ _ hf
 exact ⟨cs.toList, x, by simp, by simpa [Value.cells] using hx⟩
end
end Go.Proofs.YthojelhpipmkiaaGreatDoor
