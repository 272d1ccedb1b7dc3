/- Texts of this proof joined: Rf20a, Rf20b, Rf20c, Rf20d, Rf20e, Rf20f. -/
import Derived.Test.YtfpihflepeiagaaGreatDoorLO30
import Derived.Test.YtfpihflepeiagaaGreatDoorLO09
import Derived.Test.YtfpihflepeiagaaGreatDoorLO07
import Derived.Test.YtfpihflepeiagaaGreatDoorLO04
import Derived.Deep.LoopGhost
import Derived.Maps.AppendAt
import Derived.OwnWalk
namespace Go.Proofs.YtfpihflepeiagaaGreatDoor
open Go.RowKit

def bl (L : Nat) (f : Nat → Bool) : List Bool := (List.range (L + 1)).map f
theorem bl_len (L : Nat) (f : Nat → Bool) : (bl L f).length = L + 1 := by simp [bl]
theorem bl_get {L : Nat} {f : Nat → Bool} {k : Nat} (h : k ≤ L) : (bl L f)[k]? = some (f k) := by
  unfold bl
  rw [List.getElem?_map, List.getElem?_range (by omega)]
  rfl
theorem bl_at {L : Nat} {f : Nat → Bool} {k : Nat} (h : k ≤ L) (hk : k < (bl L f).length) : (bl L f)[k] = f k := by
  have := bl_get (f := f) h
  rw [List.getElem?_eq_getElem hk] at this
  injection this
theorem bl_ext {L : Nat} {f g : Nat → Bool} (h : ∀ k, k ≤ L → f k = g k) : bl L f = bl L g := by
  unfold bl
  apply List.map_congr_left
  intro k hk
  exact h k (by have := List.mem_range.1 hk; omega)
theorem bl_set {L : Nat} {f : Nat → Bool} {q : Nat} : (bl L f).set q true = bl L (fun x => f x || decide (x = q)) := by
  apply List.ext_getElem?
  intro i
  rw [List.getElem?_set]
  by_cases hi : i ≤ L
  · rw [bl_get hi, bl_get hi]
    split
    · rename_i e
      subst e
      rw [if_pos (by rw [bl_len]; omega)]
      simp
    · rename_i e
      rw [show decide (i = q) = false by simp; omega, Bool.or_false]
  · have h1 : (bl L f)[i]? = none := List.getElem?_eq_none (by rw [bl_len]; omega)
    have h2 : ∀ g, (bl L g)[i]? = none := fun g => List.getElem?_eq_none (by rw [bl_len]; omega)
    rw [h1, h2]
    split
    · rename_i e
      rw [if_neg (by rw [bl_len]; omega)]
    · rfl
section
variable {w : World} {B : Nat} {A : Option Addr} {n c : Nat}
theorem SlR.boolAt {l : List Bool} (h : SlR eBool w B (.slice A n c) l) {k : Nat} (hk : k < l.length) : ∃ b off, A = some ⟨b, off, none⟩ ∧ n ≤ c ∧ b < B ∧ w.cell? ⟨b, off + k, none⟩ = some (.bool l[k]) := by
  obtain ⟨b, off, cs, h1, h2, h3, h4, h5⟩ := h.get hk (by decide)
  have h4' : cs = [.bool l[k]] := h4
  subst h4'
  have := h5 0 _ rfl
  simp only [show eBool.size = 1 from rfl, Nat.mul_one, Nat.add_zero] at this
  exact ⟨b, off, h1, h2, h3, this⟩
theorem SlR.slAt {α : Type} {E : Elt α} {xs : List (List α)} (h : SlR (eSl E) w B (.slice A n c) xs) {k : Nat} (hk : k < xs.length) : ∃ b off A2 c2, A = some ⟨b, off, none⟩ ∧ n ≤ c ∧ b < B ∧ w.cell? ⟨b, off + k, none⟩ = some (.slice A2 xs[k].length c2) ∧ xs[k].length ≤ c2 ∧ c2 ≤ maxLen ∧ SlR E w B (.slice A2 xs[k].length c2) xs[k] := by
  obtain ⟨b, off, cs, h1, h2, h3, h4, h5⟩ := h.get hk (show 0 < (eSl E).size from Nat.one_pos)
  obtain ⟨v, rfl, hs⟩ := h4
  obtain ⟨A2, c2, rfl, h6, h7⟩ := hs.form
  have := h5 0 _ rfl
  simp only [show (eSl E).size = 1 from rfl, Nat.mul_one, Nat.add_zero] at this
  exact ⟨b, off, A2, c2, h1, h2, h3, this, h6, h7, hs⟩
end
def cubeL (n L : Nat) (E : Nat → Nat → Nat → Bool) : List (List (List Bool)) := (List.range n).map fun a => (List.range (L + 1)).map fun p => bl L (E a p)
def sqL (n L : Nat) (F : Nat → Nat → Bool) : List (List Bool) := (List.range n).map fun a => bl L (F a)
structure TabR (w : World) (B : Nat) (AE : Option Addr) (ce : Nat) (AF : Option Addr) (cf n L : Nat) (T : TabD) : Prop where
  ex : SlR (eSl (eSl eBool)) w B (.slice AE n ce) (cubeL n L T.E)
  fr : SlR (eSl eBool) w B (.slice AF n cf) (sqL n L T.F)
theorem sq_at {w : World} {B : Nat} {AF : Option Addr} {cf n L : Nat} {F : Nat → Nat → Bool} (h : SlR (eSl eBool) w B (.slice AF n cf) (sqL n L F)) {a p : Nat} (ha : a < n) (hp : p ≤ L) :
    ∃ b1 o1 b2 o2 c2, AF = some ⟨b1, o1, none⟩ ∧ n ≤ cf ∧ L + 1 ≤ c2 ∧ w.cell? ⟨b1, o1 + a, none⟩ = some (.slice (some ⟨b2, o2, none⟩) (L + 1) c2) ∧ w.cell? ⟨b2, o2 + p, none⟩ = some (.bool (F a p)) ∧ SlR eBool w B (.slice (some ⟨b2, o2, none⟩) (L + 1) c2) (bl L (F a)) := by
  have hk : a < (sqL n L F).length := by simp [sqL]; exact ha
  have hxa : (sqL n L F)[a] = bl L (F a) := by simp [sqL]
  obtain ⟨b1, o1, A2, c2, h1, h2, _, h3, h4, h5, h6⟩ := h.slAt hk
  rw [hxa] at h3 h4 h6
  rw [bl_len] at h3 h4 h6
  obtain ⟨b2, o2, rfl, _, _, h7⟩ := h6.boolAt (k := p) (by rw [bl_len]; omega)
  rw [bl_at hp] at h7
  exact ⟨b1, o1, b2, o2, c2, h1, h2, h4, h3, h7, h6⟩
section
variable {w w' : World} {B B' N : Nat} {AE AF : Option Addr} {ce cf n L : Nat} {T : TabD}
theorem TabR.fut (h : TabR w B AE ce AF cf n L T) (hb : Below N w w') (h1 : B ≤ N) (h2 : B ≤ B') : TabR w' B' AE ce AF cf n L T := ⟨h.ex.fut hb h1 h2, h.fr.fut hb h1 h2⟩
theorem TabR.at_ (h : TabR w B AE ce AF cf n L T) {a p q : Nat} (ha : a < n) (hp : p ≤ L) (hq : q ≤ L) :
    ∃ b1 o1 b2 o2 c2 b3 o3 c3, AE = some ⟨b1, o1, none⟩ ∧ n ≤ ce ∧ L + 1 ≤ c2 ∧ L + 1 ≤ c3 ∧ w.cell? ⟨b1, o1 + a, none⟩ = some (.slice (some ⟨b2, o2, none⟩) (L + 1) c2) ∧ w.cell? ⟨b2, o2 + p, none⟩ = some (.slice (some ⟨b3, o3, none⟩) (L + 1) c3) ∧ w.cell? ⟨b3, o3 + q, none⟩ = some (.bool (T.E a p q)) := by
  have hk : a < (cubeL n L T.E).length := by simp [cubeL]; exact ha
  have hxa : (cubeL n L T.E)[a] = sqL (L + 1) L (T.E a) := by simp [cubeL, sqL]
  obtain ⟨b1, o1, A2, c2, h1, h2, _, h3, h4, h5, h6⟩ := h.ex.slAt hk
  rw [hxa] at h3 h4 h6
  have hl : (sqL (L + 1) L (T.E a)).length = L + 1 := by simp [sqL]
  rw [hl] at h3 h4 h6
  obtain ⟨b2, o2, b3, o3, c3, rfl, _, h7, h8, h9, _⟩ := sq_at h6 (a := p) (p := q) (by omega) hq
  exact ⟨b1, o1, b2, o2, c2, b3, o3, c3, h1, h2, h4, h7, h3, h8, h9⟩
end
end Go.Proofs.YtfpihflepeiagaaGreatDoor
namespace Go.Proofs.YtfpihflepeiagaaGreatDoor
open Go.RowKit

theorem rd_bools {w : World} {g : Nat} {l : List Bool} {n : Nat} (h : w.heap[g]? = some (.cells (bcellsB l).toArray 4 (0, 0))) (hl : n = l.length) (hn : n ≤ maxLen) : SlR eBool w w.heap.size (.slice (some ⟨g, 0, none⟩) n n) l := by
  subst hl
  refine ⟨some ⟨g, 0, none⟩, l.length, l.map fun b => [Value.bool b], rfl, Nat.le_refl _, hn, by simp, ?_, fun i cs x hc hx => ?_⟩
  · have : (l.map fun b => [Value.bool b]).flatten = bcellsB l := by
      unfold bcellsB
      clear h hn
      induction l with
      | nil => rfl
      | cons x l ih => rw [List.map_cons, List.flatten_cons, ih]; rfl
    rw [this]
    have h2 : Rd w w.heap.size (some ⟨g, 0, none⟩) (bcellsB l).toArray.toList := Rd.row h (Array.getElem?_eq_some_iff.1 h).1
    exact h2
  · rw [List.getElem?_map, hx] at hc
    injection hc with hc
    exact hc.symm
end Go.Proofs.YtfpihflepeiagaaGreatDoor
namespace Go.Proofs.YtfpihflepeiagaaGreatDoor
open Go.RowKit

end Go.Proofs.YtfpihflepeiagaaGreatDoor
namespace Go.Proofs.YtfpihflepeiagaaGreatDoor
open Go.RowKit

end Go.Proofs.YtfpihflepeiagaaGreatDoor
namespace Go.Proofs.YtfpihflepeiagaaGreatDoor
open Go.RowKit

theorem own_keep20 {w w' : World} {base : Nat} {e : TypeId} {size : Nat} {v : Value} {n : Nat} {xs : List Value} (h : w.ownsRow base e size v n xs) (hk : ∀ g cur, base ≤ g → v.ownBlock = some g → w.heap[g]? = some (.cells cur e (0, 0)) → w'.heap[g]? = w.heap[g]?) : w'.ownsRow base e size v n xs := by
  refine ⟨h.1, ?_⟩
  rcases h.2 with h' | ⟨g, cap, cur, rfl, hg, hh, r⟩
  · exact .inl h'
  · exact .inr ⟨g, cap, cur, rfl, hg, (hk g cur hg rfl hh).trans hh, r⟩
def blks (L : Nat) (l : List Nat) : List Value := l.map fun x => .slice (some ⟨x, 0, none⟩) (L + 1) (L + 1)
theorem blks_len (L : Nat) (l : List Nat) : (blks L l).length = l.length := by simp [blks]
theorem blks_get {L : Nat} {l : List Nat} {k : Nat} (h : k < l.length) : (blks L l)[k]? = some (.slice (some ⟨l[k], 0, none⟩) (L + 1) (L + 1)) := by simp [blks, h]
abbrev BlkB (w : World) (x L : Nat) (f : Nat → Bool) : Prop := w.heap[x]? = some (.cells (bcellsB (bl L f)).toArray 4 (0, 0))
theorem sl_rows {w : World} {base : Nat} {t : TypeId} {A : Option Addr} {n c L : Nat} {l : List Nat} {F : Nat → Nat → Bool} (h : w.ownsRow base t 1 (.slice A n c) n (blks L l)) (hl : l.length = n) (hL : L + 1 ≤ maxLen) (hb : ∀ a x, l[a]? = some x → BlkB w x L (F a)) : SlR (eSl eBool) w w.heap.size (.slice A n c) (sqL n L F) := by
  obtain ⟨A', c', e, h1, h2⟩ := own_form h
  injection e with e1 e2 e3
  subst e1 e3
  have hsl : (sqL n L F).length = n := by simp [sqL]
  refine ⟨A, c, (blks L l).map fun v => [v], by rw [hsl], by rw [hsl]; exact h1, h2, by simp [blks, sqL, hl], ?_, fun i cs x hc hx => ?_⟩
  · have : ((blks L l).map fun v => [v]).flatten = blks L l := by
      generalize blks L l = vs
      induction vs with
      | nil => rfl
      | cons v vs ih => rw [List.map_cons, List.flatten_cons, ih]; rfl
    rw [this]
    exact Rd.of_own h
  · rw [List.getElem?_map] at hc
    have hi : i < l.length := by
      rcases Nat.lt_or_ge i l.length with h | h
      · exact h
      · rw [List.getElem?_eq_none (by rw [blks_len]; exact h)] at hc; cases hc
    rw [blks_get hi, Option.map_some] at hc
    injection hc with hc
    subst hc
    have hx2 : x = bl L (F i) := by
      unfold sqL at hx
      rw [List.getElem?_map, List.getElem?_range (by omega), Option.map_some] at hx
      injection hx with hx
      exact hx.symm
    subst hx2
    exact ⟨_, rfl, rd_bools (hb i l[i] (List.getElem?_eq_getElem hi)) (bl_len L (F i)).symm hL⟩
structure Sq (w : World) (base n L : Nat) (v : Value) (fs : List Nat) (F : Nat → Nat → Bool) : Prop where
  len : fs.length = n
  own : w.ownsRow base 60 1 v n (blks L fs)
  blk : ∀ (a x : Nat), fs[a]? = some x → base ≤ x ∧ BlkB w x L (F a)
  nd : fs.Nodup
theorem Sq.ext {w : World} {base n L : Nat} {v : Value} {fs : List Nat} {F G : Nat → Nat → Bool} (h : Sq w base n L v fs F) (hf : ∀ a, a < n → ∀ p, p ≤ L → F a p = G a p) : Sq w base n L v fs G := by
  refine ⟨h.len, h.own, fun a x hx => ?_, h.nd⟩
  have ha : a < n := by rw [← h.len]; exact (List.getElem?_eq_some_iff.1 hx).1
  obtain ⟨h1, h2⟩ := h.blk a x hx
  refine ⟨h1, ?_⟩
  show w.heap[x]? = _
  rw [← bl_ext (hf a ha)]
  exact h2
theorem Sq.below {w w' : World} {base n L : Nat} {v : Value} {fs : List Nat} {F : Nat → Nat → Bool} (h : Sq w base n L v fs F) (hb : Below w.heap.size w w') : Sq w' base n L v fs F :=
  ⟨h.len, own_below h.own hb, fun a x hx => ⟨(h.blk a x hx).1, (hb.block x (Array.getElem?_eq_some_iff.1 (h.blk a x hx).2).1).trans (h.blk a x hx).2⟩, h.nd⟩
theorem Sq.sl {w : World} {base n L : Nat} {A : Option Addr} {c : Nat} {fs : List Nat} {F : Nat → Nat → Bool} (h : Sq w base n L (.slice A n c) fs F) (hL : L + 1 ≤ maxLen) : SlR (eSl eBool) w w.heap.size (.slice A n c) (sqL n L F) := sl_rows h.own h.len hL fun a x hx => (h.blk a x hx).2
theorem type_ne {w : World} {g x : Nat} {cur : Array Value} {t : TypeId} {L : Nat} {f : Nat → Bool} (h1 : w.heap[g]? = some (.cells cur t (0, 0))) (h2 : BlkB w x L f) (ht : t ≠ 4) : g ≠ x := by
  rintro rfl
  have h3 := h1.symm.trans h2
  injection h3 with h3
  injection h3 with _ h3
  exact ht h3
theorem Sq.other {w : World} {base n L L' : Nat} {v : Value} {fs : List Nat} {F : Nat → Nat → Bool} (h : Sq w base n L v fs F) {x q : Nat} {f : Nat → Bool} (hx : BlkB w x L' f) (hn : x ∉ fs) (u : Value) : Sq (w.setCell ⟨x, q, none⟩ u) base n L v fs F := by
  refine ⟨h.len, own_keep20 h.own fun g cur _ _ hg => Below.heap_setCell _ _ _ _ (type_ne hg hx (by decide)), fun a y hy => ⟨(h.blk a y hy).1, ?_⟩, h.nd⟩
  exact (Below.heap_setCell _ _ _ _ (fun e => hn (by rw [← show y = x from e]; exact List.mem_of_getElem? hy))).trans (h.blk a y hy).2
theorem Sq.set {w : World} {base n L : Nat} {v : Value} {fs : List Nat} {F : Nat → Nat → Bool} (h : Sq w base n L v fs F) {a p x : Nat} (hx : fs[a]? = some x) : Sq (w.setCell ⟨x, p, none⟩ (.bool true)) base n L v fs (putO F a p) := by
  refine ⟨h.len, own_keep20 h.own fun g cur _ _ hg => Below.heap_setCell _ _ _ _ (type_ne hg (h.blk a x hx).2 (by decide)), fun a' y hy => ⟨(h.blk a' y hy).1, ?_⟩, h.nd⟩
  by_cases e : a' = a
  · subst e
    rw [hx] at hy
    injection hy with hy
    subst hy
    have := bool_row_set (h.blk a' x hx).2 (k := p) true
    rw [bl_set] at this
    refine this.trans ?_
    have e : bl L (fun x => F a' x || decide (x = p)) = bl L (putO F a' p a') := bl_ext fun k _ => by simp [putO]
    rw [e]
  · have hne : y ≠ x := fun e2 => by
      subst e2
      have h1 := List.getElem?_eq_some_iff.1 hx
      have h2 := List.getElem?_eq_some_iff.1 hy
      obtain ⟨l1, g1⟩ := h1
      obtain ⟨l2, g2⟩ := h2
      exact e ((List.getElem_inj h.nd).1 (g2.trans g1.symm))
    refine ((Below.heap_setCell _ _ _ _ hne).trans (h.blk a' y hy).2).trans ?_
    have e : bl L (F a') = bl L (putO F a p a') := bl_ext fun k _ => by simp [putO, e]
    rw [e]
theorem Sq.at_ {w : World} {base n L : Nat} {A : Option Addr} {c : Nat} {fs : List Nat} {F : Nat → Nat → Bool} (h : Sq w base n L (.slice A n c) fs F) {a p : Nat} (ha : a < n) (hp : p ≤ L) :
    ∃ b x, A = some ⟨b, 0, none⟩ ∧ n ≤ c ∧ fs[a]? = some x ∧ base ≤ x ∧ BlkB w x L (F a) ∧ w.cell? ⟨b, a, none⟩ = some (.slice (some ⟨x, 0, none⟩) (L + 1) (L + 1)) ∧ w.cell? ⟨x, p, none⟩ = some (.bool (F a p)) ∧ w.frozen? ⟨x, p, none⟩ = false := by
  have hal : a < fs.length := by rw [h.len]; exact ha
  obtain ⟨h1, h2⟩ := h.blk a fs[a] (List.getElem?_eq_getElem hal)
  rcases h.own.2 with ⟨e, h0⟩ | ⟨g, cap, cur, e, hg, hh, h3, h4, h5, h6⟩
  · omega
  · injection e with e1 e2 e3
    subst e1 e3
    have hc : w.cell? ⟨g, a, none⟩ = some (.slice (some ⟨fs[a], 0, none⟩) (L + 1) (L + 1)) := by
      have := (h.own).cellAt (g := g) (cap := c) a (by omega)
      rw [this, blks_get hal]
    refine ⟨g, fs[a], rfl, h3, List.getElem?_eq_getElem hal, h1, h2, hc, ?_, by simp [World.frozen?, h2]⟩
    rw [bool_row_get h2 (by rw [bl_len]; omega), bl_at hp]
structure Cu (w : World) (base n L : Nat) (v : Value) (es : List Value) (xs : List (List Nat)) (E : Nat → Nat → Nat → Bool) : Prop where
  le : es.length = n
  lx : xs.length = n
  own : w.ownsRow base 64 1 v n es
  row : ∀ (a : Nat) (u : Value) (l : List Nat), es[a]? = some u → xs[a]? = some l → Sq w base (L + 1) L u l (E a)
  nd : xs.flatten.Nodup
theorem Cu.below {w w' : World} {base n L : Nat} {v : Value} {es : List Value} {xs : List (List Nat)} {E : Nat → Nat → Nat → Bool} (h : Cu w base n L v es xs E) (hb : Below w.heap.size w w') : Cu w' base n L v es xs E :=
  ⟨h.le, h.lx, own_below h.own hb, fun a u l hu hl => (h.row a u l hu hl).below hb, h.nd⟩
theorem Cu.other {w : World} {base n L L' : Nat} {v : Value} {es : List Value} {xs : List (List Nat)} {E : Nat → Nat → Nat → Bool} (h : Cu w base n L v es xs E) {x q : Nat} {f : Nat → Bool} (hx : BlkB w x L' f) (hn : x ∉ xs.flatten) (u : Value) : Cu (w.setCell ⟨x, q, none⟩ u) base n L v es xs E :=
  ⟨h.le, h.lx, own_keep20 h.own fun g cur _ _ hg => Below.heap_setCell _ _ _ _ (type_ne hg hx (by decide)), fun a u' l hu hl => (h.row a u' l hu hl).other hx (fun hm => hn (List.mem_flatten.2 ⟨l, List.mem_of_getElem? hl, hm⟩)) u, h.nd⟩
theorem flat_nodup_ne : ∀ {xs : List (List Nat)}, xs.flatten.Nodup → ∀ {a b : Nat} {l m : List Nat} {x : Nat}, xs[a]? = some l → xs[b]? = some m → x ∈ l → x ∈ m → a = b
  | [], _, a, b, l, m, x, h1, _, _, _ => by simp at h1
  | c :: xs, hn, a, b, l, m, x, h1, h2, h3, h4 => by
    rw [List.flatten_cons, List.nodup_append] at hn
    obtain ⟨n1, n2, n3⟩ := hn
    cases a with
    | zero =>
      cases b with
      | zero => rfl
      | succ b =>
        simp only [List.getElem?_cons_zero, List.getElem?_cons_succ] at h1 h2
        injection h1 with h1
        subst h1
        exact absurd rfl (n3 x h3 x (List.mem_flatten.2 ⟨m, List.mem_of_getElem? h2, h4⟩))
    | succ a =>
      cases b with
      | zero =>
        simp only [List.getElem?_cons_zero, List.getElem?_cons_succ] at h1 h2
        injection h2 with h2
        subst h2
        exact absurd rfl (n3 x h4 x (List.mem_flatten.2 ⟨l, List.mem_of_getElem? h1, h3⟩))
      | succ b =>
        simp only [List.getElem?_cons_succ] at h1 h2
        rw [flat_nodup_ne n2 h1 h2 h3 h4]
def putE (E : Nat → Nat → Nat → Bool) (a p q : Nat) : Nat → Nat → Nat → Bool := fun a' p' q' => E a' p' q' || (decide (a' = a) && decide (p' = p) && decide (q' = q))
theorem Cu.set {w : World} {base n L : Nat} {v : Value} {es : List Value} {xs : List (List Nat)} {E : Nat → Nat → Nat → Bool} (h : Cu w base n L v es xs E) {a p q x : Nat} {l : List Nat} (hl : xs[a]? = some l) (hx : l[p]? = some x) : Cu (w.setCell ⟨x, q, none⟩ (.bool true)) base n L v es xs (putE E a p q) := by
  have han : a < n := by rw [← h.lx]; exact (List.getElem?_eq_some_iff.1 hl).1
  have hae : a < es.length := by rw [h.le]; exact han
  have hr := h.row a es[a] l (List.getElem?_eq_getElem hae) hl
  have hB := (hr.blk p x hx).2
  refine ⟨h.le, h.lx, own_keep20 h.own fun g cur _ _ hg => Below.heap_setCell _ _ _ _ (type_ne hg hB (by decide)), fun a' u m hu hm => ?_, h.nd⟩
  have hr' := h.row a' u m hu hm
  by_cases e : a' = a
  · subst e
    rw [hl] at hm
    injection hm with hm
    subst hm
    refine (hr'.set (p := q) hx).ext fun p' _ q' _ => ?_
    simp [putO, putE]
  · have hn : x ∉ m := fun hm2 => e (flat_nodup_ne h.nd hm hl hm2 (List.mem_of_getElem? hx))
    refine (hr'.other hB hn (q := q) (.bool true)).ext fun p' _ q' _ => ?_
    simp [putE, e]
theorem Cu.at_ {w : World} {base n L : Nat} {A : Option Addr} {c : Nat} {es : List Value} {xs : List (List Nat)} {E : Nat → Nat → Nat → Bool} (h : Cu w base n L (.slice A n c) es xs E) {a p q : Nat} (ha : a < n) (hp : p ≤ L) (hq : q ≤ L) :
    ∃ b b2 c2 x l, A = some ⟨b, 0, none⟩ ∧ n ≤ c ∧ L + 1 ≤ c2 ∧ xs[a]? = some l ∧ l[p]? = some x ∧ BlkB w x L (E a p) ∧ w.cell? ⟨b, a, none⟩ = some (.slice (some ⟨b2, 0, none⟩) (L + 1) c2) ∧ w.cell? ⟨b2, p, none⟩ = some (.slice (some ⟨x, 0, none⟩) (L + 1) (L + 1)) ∧ w.cell? ⟨x, q, none⟩ = some (.bool (E a p q)) ∧ w.frozen? ⟨x, q, none⟩ = false ∧ base ≤ x := by
  have hae : a < es.length := by rw [h.le]; exact ha
  have hax : a < xs.length := by rw [h.lx]; exact ha
  have hr := h.row a es[a] xs[a] (List.getElem?_eq_getElem hae) (List.getElem?_eq_getElem hax)
  obtain ⟨A2, c2, he, h1, h2⟩ := own_form hr.own
  rw [he] at hr
  obtain ⟨b2, x, rfl, h3, h4, h5, h6, h7, h8, h9⟩ := hr.at_ (a := p) (p := q) (by omega) hq
  rcases h.own.2 with ⟨e, h0⟩ | ⟨g, cap, cur, e, hg, hh, g3, g4, g5, g6⟩
  · omega
  · injection e with e1 e2 e3
    subst e1 e3
    have hc : w.cell? ⟨g, a, none⟩ = some es[a] := by
      have := (h.own).cellAt (g := g) (cap := c) a (by omega)
      rw [this, List.getElem?_eq_getElem hae]
    rw [he] at hc
    exact ⟨g, b2, c2, x, xs[a], rfl, g3, h1, List.getElem?_eq_getElem hax, h4, h6, hc, h7, h8, h9, h5⟩
theorem Cu.sl {w : World} {base n L : Nat} {A : Option Addr} {c : Nat} {es : List Value} {xs : List (List Nat)} {E : Nat → Nat → Nat → Bool} (h : Cu w base n L (.slice A n c) es xs E) (hL : L + 1 ≤ maxLen) : SlR (eSl (eSl eBool)) w w.heap.size (.slice A n c) (cubeL n L E) := by
  obtain ⟨A', c', e, h1, h2⟩ := own_form h.own
  injection e with e1 e2 e3
  subst e1 e3
  have hsl : (cubeL n L E).length = n := by simp [cubeL]
  refine ⟨A, c, es.map fun v => [v], by rw [hsl], by rw [hsl]; exact h1, h2, by simp [cubeL, h.le], ?_, fun i cs x hc hx => ?_⟩
  · have : (es.map fun v => [v]).flatten = es := by
      generalize es = vs
      induction vs with
      | nil => rfl
      | cons v vs ih => rw [List.map_cons, List.flatten_cons, ih]; rfl
    rw [this]
    exact Rd.of_own h.own
  · rw [List.getElem?_map] at hc
    have hi : i < es.length := by
      rcases Nat.lt_or_ge i es.length with h | h
      · exact h
      · rw [List.getElem?_eq_none h] at hc; cases hc
    rw [List.getElem?_eq_getElem hi, Option.map_some] at hc
    injection hc with hc
    subst hc
    have hin : i < n := by rw [← h.le]; exact hi
    have hx2 : x = sqL (L + 1) L (E i) := by
      unfold cubeL at hx
      rw [List.getElem?_map, List.getElem?_range hin, Option.map_some] at hx
      injection hx with hx
      exact hx.symm
    subst hx2
    have hr := h.row i es[i] _ (List.getElem?_eq_getElem hi) (List.getElem?_eq_getElem (by rw [h.lx]; exact hin))
    obtain ⟨A2, c2, he, _, _⟩ := own_form hr.own
    refine ⟨_, rfl, ?_⟩
    rw [he] at hr ⊢
    exact hr.sl hL
structure Ta (w : World) (base n L : Nat) (vE vF : Value) (es : List Value) (xs : List (List Nat)) (fs : List Nat) (T : TabD) : Prop where
  cu : Cu w base n L vE es xs T.E
  sq : Sq w base n L vF fs T.F
  apart : ∀ x ∈ fs, x ∉ xs.flatten
theorem Ta.below {w w' : World} {base n L : Nat} {vE vF : Value} {es : List Value} {xs : List (List Nat)} {fs : List Nat} {T : TabD} (h : Ta w base n L vE vF es xs fs T) (hb : Below w.heap.size w w') : Ta w' base n L vE vF es xs fs T := ⟨h.cu.below hb, h.sq.below hb, h.apart⟩
theorem Ta.tab {w : World} {base n L : Nat} {AE AF : Option Addr} {ce cf : Nat} {es : List Value} {xs : List (List Nat)} {fs : List Nat} {T : TabD} (h : Ta w base n L (.slice AE n ce) (.slice AF n cf) es xs fs T) (hL : L + 1 ≤ maxLen) : TabR w w.heap.size AE ce AF cf n L T := ⟨h.cu.sl hL, h.sq.sl hL⟩
theorem Ta.setE {w : World} {base n L : Nat} {vE vF : Value} {es : List Value} {xs : List (List Nat)} {fs : List Nat} {T : TabD} (h : Ta w base n L vE vF es xs fs T) {a p q x : Nat} {l : List Nat} (hl : xs[a]? = some l) (hx : l[p]? = some x) : Ta (w.setCell ⟨x, q, none⟩ (.bool true)) base n L vE vF es xs fs ⟨putE T.E a p q, T.F⟩ := by
  have han : a < n := by rw [← h.cu.lx]; exact (List.getElem?_eq_some_iff.1 hl).1
  have hae : a < es.length := by rw [h.cu.le]; exact han
  have hB := ((h.cu.row a es[a] l (List.getElem?_eq_getElem hae) hl).blk p x hx).2
  exact ⟨h.cu.set hl hx, h.sq.other hB (fun hm => h.apart x hm (List.mem_flatten.2 ⟨l, List.mem_of_getElem? hl, List.mem_of_getElem? hx⟩)) _, h.apart⟩
theorem Ta.setF {w : World} {base n L : Nat} {vE vF : Value} {es : List Value} {xs : List (List Nat)} {fs : List Nat} {T : TabD} (h : Ta w base n L vE vF es xs fs T) {a p x : Nat} (hx : fs[a]? = some x) : Ta (w.setCell ⟨x, p, none⟩ (.bool true)) base n L vE vF es xs fs ⟨T.E, putO T.F a p⟩ :=
  ⟨h.cu.other (h.sq.blk a x hx).2 (h.apart x (List.mem_of_getElem? hx)) _, h.sq.set hx, h.apart⟩
end Go.Proofs.YtfpihflepeiagaaGreatDoor
namespace Go.Proofs.YtfpihflepeiagaaGreatDoor
open Go.RowKit

theorem brow_app : AppTy Tryz.prog 64 60 1 24 (.slice none 0 0) := appTy (by kernel_rfl) (by kernel_rfl) rfl (by omega)
theorem Sq.lt {w : World} {base n L : Nat} {v : Value} {fs : List Nat} {F : Nat → Nat → Bool} (h : Sq w base n L v fs F) {x : Nat} (hx : x ∈ fs) : base ≤ x ∧ x < w.heap.size := by
  obtain ⟨a, ha, rfl⟩ := List.getElem_of_mem hx
  obtain ⟨h1, h2⟩ := h.blk a fs[a] (List.getElem?_eq_getElem ha)
  exact ⟨h1, (Array.getElem?_eq_some_iff.1 h2).1⟩
theorem Sq.more {w : World} {base base' n L : Nat} {v : Value} {fs : List Nat} {F : Nat → Nat → Bool} (h : Sq w base n L v fs F) (hb : base' ≤ base) : Sq w base' n L v fs F :=
  ⟨h.len, own_more h.own hb, fun a x hx => ⟨Nat.le_trans hb (h.blk a x hx).1, (h.blk a x hx).2⟩, h.nd⟩
theorem Cu.row_of {w : World} {base n L : Nat} {v : Value} {es : List Value} {xs : List (List Nat)} {E : Nat → Nat → Nat → Bool} (h : Cu w base n L v es xs E) {l : List Nat} (hl : l ∈ xs) : ∃ a u, es[a]? = some u ∧ xs[a]? = some l ∧ Sq w base (L + 1) L u l (E a) := by
  obtain ⟨a, ha, rfl⟩ := List.getElem_of_mem hl
  have hae : a < es.length := by rw [h.le, ← h.lx]; exact ha
  exact ⟨a, es[a], List.getElem?_eq_getElem hae, List.getElem?_eq_getElem ha, h.row a _ _ (List.getElem?_eq_getElem hae) (List.getElem?_eq_getElem ha)⟩
theorem Cu.lt {w : World} {base n L : Nat} {v : Value} {es : List Value} {xs : List (List Nat)} {E : Nat → Nat → Nat → Bool} (h : Cu w base n L v es xs E) {x : Nat} (hx : x ∈ xs.flatten) : base ≤ x ∧ x < w.heap.size := by
  obtain ⟨l, hl, hm⟩ := List.mem_flatten.1 hx
  obtain ⟨a, u, _, _, hs⟩ := h.row_of hl
  exact hs.lt hm
theorem Sq.kept {w w' : World} {base n L : Nat} {v : Value} {fs : List Nat} {F : Nat → Nat → Bool} {o : Option Nat} (h : Sq w base n L v fs F) (hg : w.grownBy w' o) (h1 : v.ownBlock = none ∨ v.ownBlock ≠ o) (h2 : ∀ x ∈ fs, some x ≠ o) : Sq w' base n L v fs F := by
  refine ⟨h.len, h.own.kept hg h1, fun a x hx => ⟨(h.blk a x hx).1, ?_⟩, h.nd⟩
  exact (hg.block x (h.lt (List.mem_of_getElem? hx)).2 (h2 x (List.mem_of_getElem? hx))).trans (h.blk a x hx).2
theorem own_blk {w : World} {base : Nat} {e : TypeId} {size : Nat} {v : Value} {n : Nat} {xs : List Value} (h : w.ownsRow base e size v n xs) {g : Nat} (hg : v.ownBlock = some g) : base ≤ g ∧ ∃ cur, w.heap[g]? = some (.cells cur e (0, 0)) := by
  rcases h.2 with ⟨rfl, rfl⟩ | ⟨g', cap, cur, rfl, hb, hh, _⟩
  · cases hg
  · injection hg with hg
    have hg : g' = g := hg
    subst hg
    exact ⟨hb, cur, hh⟩
theorem own_ne {w : World} {base base' : Nat} {e e' : TypeId} {size size' : Nat} {v v' : Value} {n n' : Nat} {xs xs' : List Value} (h : w.ownsRow base e size v n xs) (h' : w.ownsRow base' e' size' v' n' xs') (he : e ≠ e') : v.ownBlock = none ∨ v.ownBlock ≠ v'.ownBlock := by
  cases hv : v.ownBlock with
  | none => exact .inl rfl
  | some g =>
    right
    intro e2
    obtain ⟨_, c1, h1⟩ := own_blk h hv
    obtain ⟨_, c2, h2⟩ := own_blk h' e2.symm
    rw [h1] at h2
    injection h2 with h2
    injection h2 with _ h2
    exact he h2
theorem own_blkB {w : World} {base : Nat} {e : TypeId} {size : Nat} {v : Value} {n : Nat} {xs : List Value} (h : w.ownsRow base e size v n xs) (he : e ≠ 4) {x L : Nat} {f : Nat → Bool} (hx : BlkB w x L f) : some x ≠ v.ownBlock := by
  intro e2
  obtain ⟨_, c1, h1⟩ := own_blk h e2.symm
  exact type_ne h1 hx he rfl
theorem Sq.snoc {w w1 w2 : World} {base n L x : Nat} {v v' : Value} {fs : List Nat} {F : Nat → Nat → Bool} (h : Sq w base n L v fs F) (hb : Below w.heap.size w w1) (hx : BlkB w1 x L (F n)) (hxw : w.heap.size ≤ x) (hbase : base ≤ w.heap.size)
    (ho : w2.ownsRow base 60 1 v' (n + 1) (blks L fs ++ [.slice (some ⟨x, 0, none⟩) (L + 1) (L + 1)])) (hg : w1.grownBy w2 v.ownBlock) : Sq w2 base (n + 1) L v' (fs ++ [x]) F := by
  have h1 := h.below hb
  refine ⟨by rw [List.length_append, h.len]; rfl, by rw [show blks L (fs ++ [x]) = blks L fs ++ [.slice (some ⟨x, 0, none⟩) (L + 1) (L + 1)] by simp [blks]]; exact ho, fun a y hy => ?_, ?_⟩
  · have hkeep : ∀ {y : Nat} {f : Nat → Bool}, BlkB w1 y L f → BlkB w2 y L f := fun {y f} hB => (hg.block y (Array.getElem?_eq_some_iff.1 hB).1 (own_blkB h1.own (by decide) hB)).trans hB
    rw [List.getElem?_append] at hy
    split at hy
    · exact ⟨(h1.blk a y hy).1, hkeep (h1.blk a y hy).2⟩
    · rename_i hge
      have ha : a = n := by
        have := (List.getElem?_eq_some_iff.1 hy).1
        have := h.len
        simp at *
        omega
      subst ha
      rw [show a - fs.length = 0 by rw [h.len]; omega] at hy
      injection hy with hy
      subst hy
      exact ⟨by omega, hkeep hx⟩
  · rw [List.nodup_append]
    refine ⟨h.nd, by simp, fun y hy z hz e => ?_⟩
    rw [List.mem_singleton] at hz
    subst hz e
    have := (h.lt hy).2
    omega
theorem Cu.snoc {w w1 w2 : World} {base n L : Nat} {v v' u : Value} {es : List Value} {xs : List (List Nat)} {l : List Nat} {E : Nat → Nat → Nat → Bool} (h : Cu w base n L v es xs E) (hs : Sq w base (L + 1) L u l (E n)) (hfr : ∀ x ∈ l, x ∉ xs.flatten) (hb : Below w.heap.size w w1)
    (ho : w2.ownsRow base 64 1 v' (n + 1) (es ++ [u])) (hg : w1.grownBy w2 v.ownBlock) : Cu w2 base (n + 1) L v' (es ++ [u]) (xs ++ [l]) E := by
  have h1 := h.below hb
  have hkeep : ∀ {m : Nat} {u' : Value} {l' : List Nat} {F : Nat → Nat → Bool}, Sq w1 base m L u' l' F → Sq w2 base m L u' l' F := fun {m u' l' F} hs => hs.kept hg (own_ne hs.own h1.own (by decide)) (fun x hx => by
    obtain ⟨a, ha, rfl⟩ := List.getElem_of_mem hx
    exact own_blkB h1.own (by decide) (hs.blk a _ (List.getElem?_eq_getElem ha)).2)
  refine ⟨by rw [List.length_append, h.le]; rfl, by rw [List.length_append, h.lx]; rfl, ho, fun a u' l' hu hl => ?_, ?_⟩
  · rw [List.getElem?_append] at hu hl
    rw [h.le] at hu
    rw [h.lx] at hl
    split at hu
    · rename_i hlt
      rw [if_pos hlt] at hl
      exact hkeep (h1.row a u' l' hu hl)
    · rename_i hge
      rw [if_neg hge] at hl
      have ha : a = n := by
        have := (List.getElem?_eq_some_iff.1 hu).1
        simp at this
        omega
      subst ha
      rw [Nat.sub_self] at hu hl
      injection hu with hu
      injection hl with hl
      subst hu hl
      exact hkeep (hs.below hb)
  · rw [List.flatten_append, List.nodup_append]
    refine ⟨h.nd, by simpa using hs.nd, fun y hy z hz e => ?_⟩
    simp at hz
    subst e
    exact hfr y hz hy
theorem Cu.kept {w w' : World} {base n L : Nat} {v : Value} {es : List Value} {xs : List (List Nat)} {E : Nat → Nat → Nat → Bool} {o : Option Nat} (h : Cu w base n L v es xs E) (hg : w.grownBy w' o) (h1 : v.ownBlock = none ∨ v.ownBlock ≠ o) (h2 : ∀ u ∈ es, u.ownBlock = none ∨ u.ownBlock ≠ o) (h3 : ∀ x ∈ xs.flatten, some x ≠ o) : Cu w' base n L v es xs E :=
  ⟨h.le, h.lx, h.own.kept hg h1, fun a u l hu hl => (h.row a u l hu hl).kept hg (h2 u (List.mem_of_getElem? hu)) fun x hx => h3 x (List.mem_flatten.2 ⟨l, List.mem_of_getElem? hl, hx⟩), h.nd⟩
theorem Cu.ext {w : World} {base n L : Nat} {v : Value} {es : List Value} {xs : List (List Nat)} {E G : Nat → Nat → Nat → Bool} (h : Cu w base n L v es xs E) (hf : E = G) : Cu w base n L v es xs G := hf ▸ h
theorem countP_le {α : Type} {f g : α → Bool} : ∀ (l : List α), (∀ x ∈ l, g x = true → f x = true) → l.countP g ≤ l.countP f
  | [], _ => Nat.le_refl _
  | x :: l, h => by
    have ih := countP_le l fun y hy => h y (by simp [hy])
    rw [List.countP_cons, List.countP_cons]
    have := h x (by simp)
    by_cases hg : g x = true
    · rw [if_pos hg, if_pos (this hg)]; omega
    · rw [if_neg hg]; omega
theorem countP_lt {α : Type} {f g : α → Bool} : ∀ (l : List α), (∀ x ∈ l, g x = true → f x = true) → (∃ x ∈ l, f x = true ∧ g x = false) → l.countP g < l.countP f
  | [], _, ⟨x, hx, _⟩ => by cases hx
  | y :: l, h, ⟨x, hx, h1, h2⟩ => by
    rw [List.countP_cons, List.countP_cons]
    rcases List.mem_cons.1 hx with e | hx
    · subst e
      have := countP_le l fun z hz => h z (by simp [hz])
      rw [h1, h2]
      simp
      omega
    · have ih := countP_lt l (fun z hz => h z (by simp [hz])) ⟨x, hx, h1, h2⟩
      have := h y (by simp)
      by_cases hg : g y = true
      · rw [if_pos hg, if_pos (this hg)]; omega
      · rw [if_neg hg]; omega
def placesE (n L : Nat) : List (Nat × Nat × Nat) := (List.range n).flatMap fun a => (List.range (L + 1)).flatMap fun p => (List.range (L + 1)).map fun q => (a, p, q)
def placesF (n L : Nat) : List (Nat × Nat) := (List.range n).flatMap fun a => (List.range (L + 1)).map fun p => (a, p)
theorem mem_placesE {n L a p q : Nat} (ha : a < n) (hp : p ≤ L) (hq : q ≤ L) : (a, p, q) ∈ placesE n L := by
  simp only [placesE, List.mem_flatMap, List.mem_map, List.mem_range]
  exact ⟨a, ha, p, by omega, q, by omega, rfl⟩
theorem mem_placesF {n L a p : Nat} (ha : a < n) (hp : p ≤ L) : (a, p) ∈ placesF n L := by
  simp only [placesF, List.mem_flatMap, List.mem_map, List.mem_range]
  exact ⟨a, ha, p, by omega, rfl⟩
def roomF (n L : Nat) (F : Nat → Nat → Bool) : Nat := (placesF n L).countP fun x => !F x.1 x.2
def roomT (n L : Nat) (T : TabD) : Nat := ((placesE n L).countP fun x => !T.E x.1 x.2.1 x.2.2) + roomF n L T.F
def GrewT (n L : Nat) (T : TabD) (t : TabD × Bool) : Prop := (∀ a p q, T.E a p q = true → t.1.E a p q = true) ∧ (∀ a p, T.F a p = true → t.1.F a p = true) ∧ (t.2 = true → (∃ a p q, a < n ∧ p ≤ L ∧ q ≤ L ∧ T.E a p q = false ∧ t.1.E a p q = true) ∨ ∃ a p, a < n ∧ p ≤ L ∧ T.F a p = false ∧ t.1.F a p = true)
theorem GrewT.room {n L : Nat} {T T' : TabD} (h : GrewT n L T (T', true)) : roomT n L T' < roomT n L T := by
  obtain ⟨h1, h2, h3⟩ := h
  have hE : ∀ x ∈ placesE n L, (!T'.E x.1 x.2.1 x.2.2) = true → (!T.E x.1 x.2.1 x.2.2) = true := fun x _ hx => by
    cases e : T.E x.1 x.2.1 x.2.2 with
    | false => rfl
    | true => rw [h1 _ _ _ e] at hx; cases hx
  have hF : ∀ x ∈ placesF n L, (!T'.F x.1 x.2) = true → (!T.F x.1 x.2) = true := fun x _ hx => by
    cases e : T.F x.1 x.2 with
    | false => rfl
    | true => rw [h2 _ _ e] at hx; cases hx
  unfold roomT roomF
  rcases h3 rfl with ⟨a, p, q, ha, hp, hq, e1, e2⟩ | ⟨a, p, ha, hp, e1, e2⟩
  · have := countP_lt (placesE n L) hE ⟨(a, p, q), mem_placesE ha hp hq, by simp [e1], by simp; exact e2⟩
    have := countP_le (placesF n L) hF
    omega
  · have := countP_le (placesE n L) hE
    have := countP_lt (placesF n L) hF ⟨(a, p), mem_placesF ha hp, by simp [e1], by simp; exact e2⟩
    omega
end Go.Proofs.YtfpihflepeiagaaGreatDoor
