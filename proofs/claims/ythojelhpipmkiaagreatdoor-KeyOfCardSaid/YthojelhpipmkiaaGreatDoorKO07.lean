/- Texts of this proof joined: Can2, Can3, OwnL, OwnT, Drawn, Can4, Conv, Wd, Wset. -/
import Derived.Test.YthojelhpipmkiaaGreatDoorKO06
import Derived.Test.YthojelhpipmkiaaGreatDoorKO01
import Derived.Deep.Draws
import Derived.Sort.Grow
import Derived.Test.YthojelhpipmkiaaGreatDoorSort
import Derived.Shelf.SlSortCmp.NoneTotal
import Derived.Sort.OwnSorted
import Derived.Laws.IdiomStrings
import Derived.Test.YthojelhpipmkiaaGreatDoorKO05
import Derived.Test.YthojelhpipmkiaaGreatDoorShelf
import Derived.Test.YthojelhpipmkiaaGreatDoorChecked
namespace Go.Proofs.YthojelhpipmkiaaGreatDoor
open Go.RowKit

theorem ordL_cons {a b : Int} {x y : List Int} (h : ordS a b = 0) : ordL (a :: x) (b :: y) = ordL x y := by
 show (if ordS a b = 0 then _ else _) = _
 rw [if_pos h]
theorem ordL_diff {a b : Int} {x y : List Int} (h : ordS a b ≠ 0) : ordL (a :: x) (b :: y) = ordS a b := by
 show (if ordS a b = 0 then _ else _) = _
 rw [if_neg h]
set_option maxRecDepth 100000 in
set_option maxHeartbeats 4000000 in
theorem cmpF_any (v1 v2 : Value) (x y : List Int) (M : Nat) (w : World) (h1 : SlR eInt w M v1 x) (h2 : SlR eInt w M v2 y) (hx : ∀ a ∈ x, (-1000 : Int) ≤ a) (hy : ∀ a ∈ y, (-1000 : Int) ≤ a) :
  Calls Tryz.prog 77 #[v1, v2, .func (.func 78) #[] #[]] w fun e w' => e = .returned (.int .i64 (ordL x y)) ∧ w = w' := by
 obtain ⟨A1, c1, rfl, ha1, ha2⟩ := h1.form
 obtain ⟨A2, c2, rfl, hb1, hb2⟩ := h2.form
 unfold maxLen at ha2 hb2
 have H1 := Lib.hid h1
 have H2 := Lib.hid h2
 have HX := Lib.hid hx
 have HY := Lib.hid hy
 clear h1 h2 hx hy
 obtain ⟨n, hn⟩ : ∃ n, n = x.length := ⟨_, rfl⟩
 obtain ⟨m, hm⟩ : ∃ m, m = y.length := ⟨_, rfl⟩
 rw [← hn] at H1 ha1 ⊢
 rw [← hm] at H2 hb1 ⊢
 have HN := Lib.hid hn
 have HM := Lib.hid hm
 clear hn hm
 go_enter Tryz.func77, Tryz.ntmps77
 go_wp2_with fail
 go_loopw [13] (fun v13 wr => ∃ i : Nat, i ≤ n ∧ i ≤ m ∧ v13 = .int .i64 i ∧ Hid (ordL x y = ordL (x.drop i) (y.drop i)) ∧ wr = w) (fun v13 _ => n - (intOf v13).toNat)
 case atStart => exact ⟨0, by omega, by omega, rfl, by simp [Hid], rfl⟩
 case round =>
  obtain ⟨i, hi, him, rfl, HE, rfl⟩ := hrel
  by_cases hin : i < n
  ·have hix : i < x.length := by rw [← HN.out]; exact hin
   obtain ⟨b1, o1, cs1, rfl, _, _, hrep1, hcell1⟩ := H1.out.get hix (by decide)
   obtain ⟨rfl, hx1, hx2⟩ := hrep1
   have hc1 := hcell1 0 _ rfl
   clear hcell1
   simp only [show eInt.size = 1 from rfl, Nat.mul_one, Nat.add_zero] at hc1
   by_cases hjm : i < m
   ·have hiy : i < y.length := by rw [← HM.out]; exact hjm
    obtain ⟨b2, o2, cs2, rfl, _, _, hrep2, hcell2⟩ := H2.out.get hiy (by decide)
    obtain ⟨rfl, hy1, hy2⟩ := hrep2
    have hc2 := hcell2 0 _ rfl
    clear hcell2
    simp only [show eInt.size = 1 from rfl, Nat.mul_one, Nat.add_zero] at hc2
    have HDX := Lib.hid (List.drop_eq_getElem_cons hix)
    have HDY := Lib.hid (List.drop_eq_getElem_cons hiy)
    have HOR := Lib.hid (orderS_any x[i] y[i] wr (HX.out _ (List.getElem_mem hix)) (HY.out _ (List.getElem_mem hiy)))
    generalize x[i] = a at *
    generalize y[i] = b at *
    by_cases hz : ordS a b = 0
    ·have HZ := Lib.hid hz
     have HNE := Lib.hid (show ordL x y = ordL (x.drop (i + 1)) (y.drop (i + 1)) by rw [HE.out, HDX.out, HDY.out, ordL_cons hz])
     clear hz
     go_wp2_with fail
     refine HOR.out.mono ?_
     rintro e w1 ⟨rfl, rfl⟩
     rw [HZ.out]
     go_wp2_with fail
     go_roundw
     case rel => exact ⟨i + 1, by omega, by omega, by go_num, HNE.out, trivial⟩
     case measure => simp [intOf]; omega
    ·have HNE := Lib.hid (show ordL x y = ordS a b by rw [HE.out, HDX.out, HDY.out, ordL_diff hz])
     have d0 : (ordS a b != 0) = true := by simpa using hz
     clear hz
     go_wp2_with fail
     refine HOR.out.mono ?_
     rintro e w1 ⟨rfl, rfl⟩
     go_wp2_with fail
     go_ret
     exact ⟨rt1 (vint HNE.out.symm), rfl⟩
   ·have HNE := Lib.hid (show ordL x y = 1 by
     rw [HE.out, List.drop_of_length_le (l := y) (by rw [← HM.out]; omega), List.drop_eq_getElem_cons hix]
     rfl)
    go_wp2_with fail
    go_ret
    exact ⟨rt1 (vint HNE.out.symm), rfl⟩
  ·obtain rfl : i = n := by omega
   have hdx : x.drop i = [] := List.drop_of_length_le (by rw [← HN.out]; exact Nat.le_refl _)
   by_cases hjm : i < m
   ·have hiy : i < y.length := by rw [← HM.out]; exact hjm
    have HNE := Lib.hid (show ordL x y = -1 by
     rw [HE.out, hdx, List.drop_eq_getElem_cons hiy]
     rfl)
    clear hdx
    go_wp2_with fail
    go_ret
    exact ⟨rt1 (vint HNE.out.symm), rfl⟩
   ·have HNE := Lib.hid (show ordL x y = 0 by
     rw [HE.out, hdx, List.drop_of_length_le (l := y) (by rw [← HM.out]; omega)]
     rfl)
    clear hdx
    go_wp2_with fail
    go_ret
    exact ⟨rt1 (vint HNE.out.symm), rfl⟩
end Go.Proofs.YthojelhpipmkiaaGreatDoor
namespace Go.Proofs.YthojelhpipmkiaaGreatDoor
open Go.RowKit

set_option maxRecDepth 100000 in
set_option maxHeartbeats 4000000 in
theorem of2_any (v1 v2 : Value) (l1 l2 : Int) (x y : List Int) (M : Nat) (w : World) (h1 : SlR eInt w M v1 x) (h2 : SlR eInt w M v2 y) (hM : M ≤ w.heap.size) (hx : ∀ a ∈ x, (-1000 : Int) ≤ a) (hy : ∀ a ∈ y, (-1000 : Int) ≤ a) :
  Calls Tryz.prog 75 #[.agg #[.int .i64 l1, v1], .agg #[.int .i64 l2, v2]] w fun e w' => e = .returned (.int .i64 (ordU (l1, x) (l2, y))) ∧ Below w.heap.size w w' ∧ w.drawn ≤ w'.drawn := by
 obtain ⟨A1, c1, rfl, ha1, ha2⟩ := h1.form
 obtain ⟨A2, c2, rfl, hb1, hb2⟩ := h2.form
 have hB : Below w.heap.size w ((w.alloc (.cells #[.int .i64 l1, .slice A1 x.length c1] 36)).alloc (.cells #[.int .i64 l2, .slice A2 y.length c2] 36)) := ((Below.refl _ _).alloc (Nat.le_refl _) _).alloc (by rw [World.size_alloc]; omega) _
 have HB := Lib.hid hB
 have HC := Lib.hid (cmpF_any (.slice A1 x.length c1) (.slice A2 y.length c2) x y M _ (h1.below (hB.mono hM)) (h2.below (hB.mono hM)) hx hy)
 clear h1 h2 hx hy hB
 generalize x.length = n at *
 generalize y.length = m at *
 by_cases h : l1 = l2
 ·have d0 : (l1 != l2) = false := by simp [h]
  have HO := Lib.hid (show ordU (l1, x) (l2, y) = ordL x y by unfold ordU; rw [if_pos h])
  clear h
  go_enter Tryz.func75, Tryz.ntmps75
  go_wp2_with fail
  refine HC.out.mono ?_
  rintro e w' ⟨rfl, rfl⟩
  go_wp2_with fail
  go_ret
  exact ⟨rt1 (vint HO.out.symm), HB.out, Nat.le_refl _⟩
 ·have d0 : (l1 != l2) = true := by simp [h]
  have HO := Lib.hid (show ordU (l1, x) (l2, y) = Lib.compareInt l1 l2 by unfold ordU; rw [if_neg h])
  clear h
  go_enter Tryz.func75, Tryz.ntmps75
  go_wp2_with fail
  refine (Tryz.cmp_Compare_int _ _ _).mono ?_
  rintro e w' ⟨rfl, rfl⟩
  go_wp2_with fail
  go_ret
  exact ⟨rt1 (vint HO.out.symm), HB.out, Nat.le_refl _⟩
end Go.Proofs.YthojelhpipmkiaaGreatDoor
namespace Go.Proofs.YthojelhpipmkiaaGreatDoor
open Go.RowKit

def Away (w w' : World) (B : Nat) (r : Option Nat) : Prop := ∀ p : Addr, p.block < B → some p.block ≠ r → w'.cell? p = w.cell? p
theorem Away.refl (w : World) (B : Nat) (r : Option Nat) : Away w w B r := fun _ _ _ => rfl
def OwnL {α : Type} (E : Elt α) (w : World) (base : Nat) (t : TypeId) (v : Value) (xs : List α) : Prop :=
 ∃ css : List (List Value), w.ownsRow base t E.size v xs.length css.flatten ∧ css.length = xs.length ∧ ∀ (i : Nat) (cs : List Value) (x : α), css[i]? = some cs → xs[i]? = some x → ∀ w', Away w w' w.heap.size v.ownBlock → E.rep w' w.heap.size cs x
section
variable {α : Type} {E : Elt α} {w w' w1 : World} {base : Nat} {t : TypeId} {v v1 : Value} {xs : List α}
theorem OwnL.nil (w : World) (base : Nat) (t : TypeId) : OwnL E w base t (.slice none 0 0) [] := ⟨[], World.ownsRow_nil _ _ _ _, rfl, fun i cs x h => by simp at h⟩
theorem OwnL.form (h : OwnL E w base t v xs) : ∃ A c, v = .slice A xs.length c ∧ xs.length ≤ c ∧ c ≤ maxLen := by
 obtain ⟨css, h1, _⟩ := h
 exact own_form h1
theorem OwnL.sl (h : OwnL E w base t v xs) : SlR E w w.heap.size v xs := by
 obtain ⟨css, h1, h2, h3⟩ := h
 obtain ⟨A, c, rfl, ha, hb⟩ := own_form h1
 exact ⟨A, c, css, rfl, ha, hb, h2, Rd.of_own h1, fun i cs x hc hx => h3 i cs x hc hx w (Away.refl _ _ _)⟩
theorem OwnL.later (h : OwnL E w base t v xs) (hb : Below w.heap.size w w1) : OwnL E w1 base t v xs := by
 obtain ⟨css, h1, h2, h3⟩ := h
 refine ⟨css, own_below h1 hb, h2, fun i cs x hc hx w' ha => E.more (h3 i cs x hc hx w' fun p hp hn => ?_) hb.size⟩
 rw [ha p (Nat.lt_of_lt_of_le hp hb.size) hn, hb.cell hp]
theorem OwnL.snoc {css : List (List Value)} {cs : List Value} {x : α} (h2 : css.length = xs.length) (h3 : ∀ (i : Nat) (cs : List Value) (x : α), css[i]? = some cs → xs[i]? = some x → ∀ w', Away w w' w.heap.size v.ownBlock → E.rep w' w.heap.size cs x)
  (hx : ∀ w', Away w w' w.heap.size v.ownBlock → E.rep w' w.heap.size cs x) (ho : w1.ownsRow base t E.size v1 (xs.length + 1) (css.flatten ++ cs)) (hg : w.grownBy w1 v.ownBlock) (hv : v1.ownBlock = v.ownBlock ∨ v1.ownBlock = some w.heap.size) :
  OwnL E w1 base t v1 (xs ++ [x]) := by
 have key : ∀ w', Away w1 w' w1.heap.size v1.ownBlock → Away w w' w.heap.size v.ownBlock := fun w' ha p hp hn => by
  rw [ha p (Nat.lt_of_lt_of_le hp hg.size) ?_]
  ·have hb := hg.block p.block hp hn
   exact World.cell?_of_block (w := w) hb
  ·rcases hv with e | e
   ·rw [e]; exact hn
   ·rw [e]
    intro e2
    injection e2 with e2
    omega
 refine ⟨css ++ [cs], ?_, by simp [h2], fun i cs' x' hc hx' w' ha => ?_⟩
 ·rw [List.flatten_append, List.length_append]
  simpa using ho
 ·by_cases hi : i < xs.length
  ·rw [List.getElem?_append_left (by omega)] at hc hx'
   exact E.more (h3 i cs' x' hc hx' w' (key w' ha)) hg.size
  ·have hil : i = xs.length := by
    have h4 := (List.getElem?_eq_some_iff.1 hx').1
    rw [List.length_append, List.length_singleton] at h4
    omega
   subst hil
   rw [← h2, List.getElem?_append_right (Nat.le_refl _), Nat.sub_self] at hc
   rw [List.getElem?_append_right (Nat.le_refl _), Nat.sub_self] at hx'
   injection hc with hc
   injection hx' with hx'
   subst hc hx'
   exact E.more (hx w' (key w' ha)) hg.size
end
end Go.Proofs.YthojelhpipmkiaaGreatDoor
namespace Go.Proofs.YthojelhpipmkiaaGreatDoor
open Go.RowKit

def KeepT (ts : List TypeId) (w w' : World) : Prop := w.heap.size ≤ w'.heap.size ∧ ∀ (g : Nat) (cur : Array Value) (t : TypeId), t ∈ ts → w.heap[g]? = some (.cells cur t (0, 0)) → w'.heap[g]? = some (.cells cur t (0, 0))
theorem KeepT.refl (ts : List TypeId) (w : World) : KeepT ts w w := ⟨Nat.le_refl _, fun _ _ _ _ h => h⟩
theorem KeepT.trans {ts : List TypeId} {w w1 w2 : World} (h : KeepT ts w w1) (k : KeepT ts w1 w2) : KeepT ts w w2 := ⟨Nat.le_trans h.1 k.1, fun g c t ht hg => k.2 g c t ht (h.2 g c t ht hg)⟩
theorem KeepT.of_below {ts : List TypeId} {w w' : World} (h : Below w.heap.size w w') : KeepT ts w w' := ⟨h.size, fun g _ _ _ hg => (h.block g (Array.getElem?_eq_some_iff.1 hg).1).trans hg⟩
theorem KeepT.of_grown {ts : List TypeId} {w w' : World} {base : Nat} {e : TypeId} {size n : Nat} {v : Value} {xs : List Value} (ho : w.ownsRow base e size v n xs) (hg : w.grownBy w' v.ownBlock) (he : e ∉ ts) : KeepT ts w w' :=
 ⟨hg.size, fun _ _ _ ht hh => grown_other ho hg hh (fun e' => he (e' ▸ ht))⟩
theorem KeepT.less {ts us : List TypeId} {w w' : World} (h : KeepT ts w w') (hs : ∀ t ∈ us, t ∈ ts) : KeepT us w w' := ⟨h.1, fun g c t ht hg => h.2 g c t (hs t ht) hg⟩
theorem own_keepT {ts : List TypeId} {w w' : World} {base : Nat} {e : TypeId} {size n : Nat} {v : Value} {xs : List Value} (h : w.ownsRow base e size v n xs) (hk : KeepT ts w w') (he : e ∈ ts) : w'.ownsRow base e size v n xs := by
 refine ⟨h.1, ?_⟩
 rcases h.2 with h' | ⟨g, cap, cur, rfl, hg, hh, r⟩
 ·exact .inl h'
 ·exact .inr ⟨g, cap, cur, rfl, hg, hk.2 g cur e he hh, r⟩

structure OElt (α : Type) where
 E : Elt α
 ts : List TypeId
 rep : World → Nat → List Value → α → Prop
 elt : ∀ {w N cs x}, rep w N cs x → E.rep w w.heap.size cs x
 keep : ∀ {w w' N cs x}, rep w N cs x → KeepT ts w w' → rep w' N cs x
 more : ∀ {w N N' cs x}, rep w N cs x → N' ≤ N → rep w N' cs x
def oPure {α : Type} (E : Elt α) (hE : ∀ {w w' B B' cs x}, E.rep w B cs x → E.rep w' B' cs x) : OElt α where
 E := E
 ts := []
 rep := fun w _ cs x => E.rep w w.heap.size cs x
 elt := fun h => h
 keep := fun h _ => hE h
 more := fun h _ => h
def oInt : OElt Int := oPure eInt fun h => h
def oStr : OElt ByteArray := oPure eStr fun h => h
def oBool : OElt Bool := oPure eBool fun h => h
def oProd {α β : Type} (O : OElt α) (P : OElt β) : OElt (α × β) where
 E := eProd O.E P.E
 ts := O.ts ++ P.ts
 rep := fun w N cs x => ∃ c1 c2, cs = c1 ++ c2 ∧ O.rep w N c1 x.1 ∧ P.rep w N c2 x.2
 elt := fun ⟨c1, c2, h, h1, h2⟩ => ⟨c1, c2, h, O.elt h1, P.elt h2⟩
 keep := fun ⟨c1, c2, h, h1, h2⟩ hk => ⟨c1, c2, h, O.keep h1 (hk.less fun _ ht => List.mem_append_left _ ht), P.keep h2 (hk.less fun _ ht => List.mem_append_right _ ht)⟩
 more := fun ⟨c1, c2, h, h1, h2⟩ hN => ⟨c1, c2, h, O.more h1 hN, P.more h2 hN⟩
def OwnT {α : Type} (O : OElt α) (t : TypeId) (w : World) (N : Nat) (v : Value) (xs : List α) : Prop :=
 ∃ css : List (List Value), w.ownsRow N t O.E.size v xs.length css.flatten ∧ css.length = xs.length ∧ ∀ (i : Nat) (cs : List Value) (x : α), css[i]? = some cs → xs[i]? = some x → O.rep w N cs x
section
variable {α : Type} {O : OElt α} {t : TypeId} {w w' w1 : World} {N N' : Nat} {v v1 : Value} {xs : List α}
theorem OwnT.nil (w : World) (N : Nat) : OwnT O t w N (.slice none 0 0) [] := ⟨[], World.ownsRow_nil _ _ _ _, rfl, fun i cs x h => by simp at h⟩
theorem OwnT.form (h : OwnT O t w N v xs) : ∃ A c, v = .slice A xs.length c ∧ xs.length ≤ c ∧ c ≤ maxLen := by
 obtain ⟨css, h1, _⟩ := h
 exact own_form h1
theorem OwnT.sl (h : OwnT O t w N v xs) : SlR O.E w w.heap.size v xs := by
 obtain ⟨css, h1, h2, h3⟩ := h
 obtain ⟨A, c, rfl, ha, hb⟩ := own_form h1
 exact ⟨A, c, css, rfl, ha, hb, h2, Rd.of_own h1, fun i cs x hc hx => O.elt (h3 i cs x hc hx)⟩
theorem OwnT.keep (h : OwnT O t w N v xs) (hk : KeepT (t :: O.ts) w w') : OwnT O t w' N v xs := by
 obtain ⟨css, h1, h2, h3⟩ := h
 exact ⟨css, own_keepT h1 hk (List.mem_cons_self ..), h2, fun i cs x hc hx => O.keep (h3 i cs x hc hx) (hk.less fun t ht => List.mem_cons_of_mem _ ht)⟩
theorem OwnT.below (h : OwnT O t w N v xs) (hb : Below w.heap.size w w') : OwnT O t w' N v xs := h.keep (.of_below hb)
theorem OwnT.alloc (h : OwnT O t w N v xs) (o : Obj) : OwnT O t (w.alloc o) N v xs := h.below ((Below.refl _ _).alloc (Nat.le_refl _) o)
theorem OwnT.more (h : OwnT O t w N v xs) (hN : N' ≤ N) : OwnT O t w N' v xs := by
 obtain ⟨css, h1, h2, h3⟩ := h
 exact ⟨css, own_more h1 hN, h2, fun i cs x hc hx => O.more (h3 i cs x hc hx) hN⟩
theorem OwnT.row (h : OwnT O t w N v xs) : ∃ css : List (List Value), w.ownsRow N t O.E.size v xs.length css.flatten ∧ css.length = xs.length ∧ ∀ (i : Nat) (cs : List Value) (x : α), css[i]? = some cs → xs[i]? = some x → O.rep w N cs x := h
theorem OwnT.snoc {css : List (List Value)} {cs : List Value} {x : α} (hn : t ∉ O.ts) (h0 : w.ownsRow N t O.E.size v xs.length css.flatten) (h2 : css.length = xs.length) (h3 : ∀ (i : Nat) (cs : List Value) (x : α), css[i]? = some cs → xs[i]? = some x → O.rep w N cs x)
  (hx : O.rep w N cs x) (ho : w1.ownsRow N t O.E.size v1 (xs.length + 1) (css.flatten ++ cs)) (hg : w.grownBy w1 v.ownBlock) : OwnT O t w1 N v1 (xs ++ [x]) := by
 have hk := KeepT.of_grown h0 hg hn
 refine ⟨css ++ [cs], by rw [List.flatten_append, List.length_append]; simpa using ho, by simp [h2], fun i cs' x' hc hx' => ?_⟩
 by_cases hi : i < xs.length
 ·rw [List.getElem?_append_left (by omega)] at hc hx'
  exact O.keep (h3 i cs' x' hc hx') hk
 ·have hil : i = xs.length := by
   have h4 := (List.getElem?_eq_some_iff.1 hx').1
   rw [List.length_append, List.length_singleton] at h4
   omega
  subst hil
  rw [← h2, List.getElem?_append_right (Nat.le_refl _), Nat.sub_self] at hc
  rw [List.getElem?_append_right (Nat.le_refl _), Nat.sub_self] at hx'
  injection hc with hc
  injection hx' with hx'
  subst hc hx'
  exact O.keep hx hk
end
def oSl {α : Type} (O : OElt α) (t : TypeId) : OElt (List α) where
 E := eSl O.E
 ts := t :: O.ts
 rep := fun w N cs xs => ∃ v, cs = [v] ∧ OwnT O t w N v xs
 elt := fun ⟨v, h, hs⟩ => ⟨v, h, hs.sl⟩
 keep := fun ⟨v, h, hs⟩ hk => ⟨v, h, hs.keep hk⟩
 more := fun ⟨v, h, hs⟩ hN => ⟨v, h, hs.more hN⟩
end Go.Proofs.YthojelhpipmkiaaGreatDoor
namespace Go.Proofs.YthojelhpipmkiaaGreatDoor
open Go.RowKit

theorem grown_of {w w' : World} (hb : Below w.heap.size w w') (hd : w.drawn ≤ w'.drawn) : ∃ q os', w' = Go.Sort.grow (w.drewN q) os' := by
 refine ⟨w'.drawn - w.drawn, w'.heap.extract w.heap.size w'.heap.size, ?_⟩
 refine world_eq ?_ hb.tape ?_ hb.os hb.output
 ·show w'.heap = w.heap ++ w'.heap.extract w.heap.size w'.heap.size
  apply Array.ext_getElem?
  intro i
  by_cases hi : i < w.heap.size
  ·rw [Array.getElem?_append_left hi]
   exact hb.block i hi
  ·rw [Array.getElem?_append_right (by omega), Array.getElem?_extract]
   by_cases h2 : i < w'.heap.size
   ·rw [if_pos (by omega)]
    congr 1
    omega
   ·rw [if_neg (by omega), Array.getElem?_eq_none (by omega)]
 ·show w'.drawn = w.drawn + (w'.drawn - w.drawn)
  omega
end Go.Proofs.YthojelhpipmkiaaGreatDoor
namespace Go.Proofs.YthojelhpipmkiaaGreatDoor
open Go.RowKit Go.Sort

def fcells {α : Type} (enc : α → List Value) (ks : List α) : List Value := (ks.map enc).flatten
section
variable {α : Type} [Inhabited α] {enc : α → List Value} {k : Nat}
omit [Inhabited α] in
theorem fcells_len (hk : ∀ x, (enc x).length = k) : ∀ ks : List α, (fcells enc ks).length = ks.length * k
 |[] => by simp [fcells]
 |x :: r => by
  have ih := fcells_len hk r
  unfold fcells at *
  rw [List.map_cons, List.flatten_cons, List.length_append, ih, hk, List.length_cons, Nat.add_mul]
  omega
theorem fcells_get (hk : ∀ x, (enc x).length = k) (k0 : 0 < k) : ∀ (ks : List α) (t : Nat), t < ks.length * k → (fcells enc ks)[t]? = some ((enc (ks.toArray[t / k]!))[t % k]!)
 |[], t, h => by simp at h
 |x :: r, t, h => by
  unfold fcells
  rw [List.map_cons, List.flatten_cons]
  by_cases ht : t < k
  ·rw [List.getElem?_append_left (by rw [hk]; exact ht), Nat.div_eq_of_lt ht, Nat.mod_eq_of_lt ht]
   have hl : t < (enc x).length := by rw [hk]; exact ht
   rw [List.getElem?_eq_getElem hl]
   simp only [List.getElem!_toArray, List.getElem!_cons_zero]
   rw [getElem!_pos (enc x) t hl]
  ·rw [List.getElem?_append_right (by rw [hk]; omega)]
   have ih := fcells_get hk k0 r (t - k) (by rw [List.length_cons, Nat.add_mul] at h; omega)
   unfold fcells at ih
   rw [hk, ih]
   have e0 : t = (t - k) + k := by omega
   have e1 : t / k = (t - k) / k + 1 := by
    conv => lhs; rw [e0]
    exact Nat.add_div_right _ k0
   have e2 : t % k = (t - k) % k := by
    conv => lhs; rw [e0]
    exact Nat.add_mod_right _ _
   rw [e1, e2]
   have hlt : (t - k) / k < r.length := by
    rw [List.length_cons, Nat.add_mul] at h
    exact Nat.div_lt_of_lt_mul (by rw [Nat.mul_comm]; omega)
   simp [hlt]
theorem flatK_list (hk : ∀ x, (enc x).length = k) (k0 : 0 < k) (ks : List α) : (flatK enc k ks.toArray).toList = fcells enc ks := by
 apply List.ext_getElem?
 intro t
 by_cases h : t < ks.length * k
 ·rw [fcells_get hk k0 ks t h, Array.getElem?_toList]
  have h' : t < ks.toArray.size * k := by simpa using h
  have hs : t < (flatK enc k ks.toArray).size := by rw [size_flatK]; exact h'
  have := get_flatK enc k ks.toArray t h'
  rw [getElem!_pos _ t hs] at this
  rw [Array.getElem?_eq_getElem hs, this]
 ·rw [List.getElem?_eq_none (by rw [Array.length_toList, size_flatK]; simpa using h), List.getElem?_eq_none (by rw [fcells_len hk]; omega)]
theorem holds_fcells (hk : ∀ x, (enc x).length = k) (k0 : 0 < k) {w : World} {g : Nat} {cur : Array Value} {e : TypeId} {ks : List α} (hb : w.heap[g]? = some (.cells cur e (0, 0))) (ht : cur.toList.take (ks.length * k) = fcells enc ks) : HoldsK enc k w g 0 ks.toArray := by
 intro j hj
 have hj' : j < ks.length * k := by simpa using hj
 refine ⟨?_, by simp [World.frozen?, hb]⟩
 have h1 : (cur.toList.take (ks.length * k))[j]? = (flatK enc k ks.toArray).toList[j]? := by rw [ht, flatK_list hk k0]
 rw [List.getElem?_take_of_lt hj', Array.getElem?_toList, Array.getElem?_toList, Array.getElem?_eq_getElem hj] at h1
 rw [getElem!_pos _ j hj]
 simp only [World.cell?, hb, Nat.zero_add]
 simp only [Option.isSome_none, Bool.false_eq_true, if_false]
 rw [h1]
 rfl
end
theorem heap_sortedF {w : World} {g n : Nat} {os : Array Obj} {cur : Array Value} {e : TypeId} {fr : Nat × Nat} (F : Array Value) (hb : w.heap[g]? = some (.cells cur e fr)) :
  (Go.Sort.grow (putRow id (Sort.ahead w n) g 0 F) os).heap[g]? = some (.cells (putCells id 0 F cur) e fr) := by
 have hg : g < w.heap.size := (Array.getElem?_eq_some_iff.1 hb).1
 rw [heap_grow_old _ _ (by simpa using hg)]
 simp [putRow, mapBlock, Sort.ahead, Array.getElem?_modify, hb, onCells]
theorem grownBy_sortedF {w : World} {g n : Nat} {os : Array Obj} (F : Array Value) : w.grownBy (Go.Sort.grow (putRow id (Sort.ahead w n) g 0 F) os) (some g) := by
 refine ⟨rfl, rfl, rfl, by simp, fun k hk hne => ?_⟩
 rw [heap_grow_old _ _ (by simpa using hk)]
 have : g ≠ k := fun e => hne (by rw [e])
 simp [putRow, mapBlock, Sort.ahead, Array.getElem?_modify, this]
theorem take_putCellsF (cur F : Array Value) (h : F.size ≤ cur.size) : (putCells id 0 F cur).toList.take F.size = F.toList := by
 apply List.ext_getElem?
 intro j
 by_cases hj : j < F.size
 ·rw [List.getElem?_take_of_lt hj, Array.getElem?_toList]
  simp [putCells, hj, show j < cur.size by omega]
 ·rw [List.getElem?_take_eq_none (by omega), List.getElem?_eq_none (by simp; omega)]

def oRule : OElt RuleD := oProd oInt (oSl oInt 3)
def KeyR (w : World) (N : Nat) : Type := { p : Int × Value × List Int // (-9223372036854775808 ≤ p.1 ∧ p.1 ≤ 9223372036854775807) ∧ OwnT oInt 3 w N p.2.1 p.2.2 ∧ ∀ a ∈ p.2.2, (-1000 : Int) ≤ a }
instance {w : World} {N : Nat} : Inhabited (KeyR w N) := ⟨⟨(0, .slice none 0 0, []), ⟨by decide, by decide⟩, OwnT.nil w N, by simp⟩⟩
def encKR {w : World} {N : Nat} (p : KeyR w N) : List Value := [.int .i64 p.1.1, p.1.2.1]
def decKR {w : World} {N : Nat} (p : KeyR w N) : RuleD := (p.1.1, p.1.2.2)
theorem keys_of {w : World} {N : Nat} : ∀ (css : List (List Value)) (rs : List RuleD), css.length = rs.length → (∀ (i : Nat) (cs : List Value) (x : RuleD), css[i]? = some cs → rs[i]? = some x → oRule.rep w N cs x) → (∀ r ∈ rs, RuleOk r) →
  ∃ ks : List (KeyR w N), fcells encKR ks = css.flatten ∧ ks.map decKR = rs
 |[], [], _, _, _ => ⟨[], rfl, rfl⟩
 |[], _ :: _, h, _, _ => by simp at h
 |_ :: _, [], h, _, _ => by simp at h
 |cs :: css, r :: rs, hl, h, ho => by
  obtain ⟨ks, e1, e2⟩ := keys_of css rs (by simpa using hl) (fun i cs x hc hx => h (i + 1) cs x hc hx) fun r hr => ho r (List.mem_cons_of_mem _ hr)
  obtain ⟨c1, c2, hc, ⟨h1, h2⟩, v, h3, h4⟩ := h 0 cs r rfl rfl
  obtain ⟨p, hp1, hp2⟩ : ∃ p : KeyR w N, encKR p = [.int .i64 r.1, v] ∧ decKR p = r := ⟨⟨(r.1, v, r.2), h2, h4, ho r (List.mem_cons_self ..)⟩, rfl, rfl⟩
  refine ⟨p :: ks, ?_, ?_⟩
  ·unfold fcells at e1 ⊢
   rw [List.map_cons, List.flatten_cons, List.flatten_cons, e1, hc, h1, h3, hp1]
   rfl
  ·rw [List.map_cons, e2, hp2]
theorem reps_of {w w' : World} {N : Nat} (hk : KeepT [3] w w') (ks : List (KeyR w N)) : ∀ (i : Nat) (cs : List Value) (x : RuleD), (ks.map encKR)[i]? = some cs → (ks.map decKR)[i]? = some x → oRule.rep w' N cs x := by
 intro i cs x hc hx
 rw [List.getElem?_map] at hc hx
 cases hki : ks[i]? with
 |none => rw [hki] at hc; cases hc
 |some p =>
  rw [hki] at hc hx
  injection hc with hc
  injection hx with hx
  subst hc hx
  exact ⟨[.int .i64 p.1.1], [p.1.2.1], rfl, ⟨rfl, p.2.1⟩, p.1.2.1, rfl, p.2.2.1.keep hk⟩
theorem ltOf_ordU {w : World} {N : Nat} (x y : KeyR w N) : ltOf (fun a b => ordU (decKR a) (decKR b)) x y = true ↔ ruleLt (decKR x) (decKR y) := by
 unfold ltOf
 rw [decide_eq_true_eq]
 exact ordU_lt _ _
theorem ltOf_ordUF {w : World} {N : Nat} (x y : KeyR w N) : ltOf (fun a b => ordU (decKR a) (decKR b)) x y = false ↔ ¬ ruleLt (decKR x) (decKR y) := by
 rw [← ltOf_ordU, Bool.not_eq_true]
theorem swoU {w : World} {N : Nat} : SWO (ltOf fun a b : KeyR w N => ordU (decKR a) (decKR b)) where
 irrefl := fun x => by rw [ltOf_ordUF]; exact ruleLt_irrefl _
 trans := fun x y z h1 h2 => by rw [ltOf_ordU] at *; exact ruleLt_trans h1 h2
 ntrans := fun x y z h1 h2 => by rw [ltOf_ordUF] at *; exact ruleLe_trans _ _ _ h2 h1
theorem isAgg_rule (w : World) : (isAgg 36).run Tryz.prog w = .ok true w := by kernel_rfl
theorem sizeOf_rule (w : World) : (Go.sizeOf 36).run Tryz.prog w = .ok 2 w := by kernel_rfl
theorem own_one {w : World} {N : Nat} {v : Value} {xs : List Int} (h : OwnT oInt 3 w N v xs) : v.oneCell' = true := by
 obtain ⟨A, c, rfl, _⟩ := h.form
 rfl
set_option maxRecDepth 100000 in
set_option maxHeartbeats 2000000 in
theorem sortRules_any (N : Nat) (v : Value) (rs : List RuleD) (w : World) (h : OwnT oRule 36 w N v rs) (ho : ∀ r ∈ rs, RuleOk r) (hn : rs.length < 4611686018427387904) :
  Calls Tryz.prog 74 #[v, .func (.func 75) #[] #[]] w fun e w' => e = .returned (.tuple #[]) ∧ OwnT oRule 36 w' N v (sortR rs) ∧ w.grownBy w' v.ownBlock := by
 have eg : ∀ args w, (callFunc 75 args).run Tryz.prog w = .ok (.enter 75 args) w := enters_of Tryz.func75 (by kernel_rfl) rfl
 obtain ⟨css, hown, hcl, hrep⟩ := h
 obtain ⟨ks, hf, hks⟩ := keys_of css rs hcl hrep ho
 have hkl : ks.length = rs.length := by rw [← hks, List.length_map]
 rcases hown.2 with ⟨hnil, h0⟩ | ⟨g, cap, cur, hv, hbase, hb, h1, h2, h3, h4⟩
 ·subst hnil
  have hr : rs = [] := List.eq_nil_of_length_eq_zero h0
  subst hr
  refine (AnyF.slices_SortFunc_none { Tryz.sortLay with } none 0 _ w).mono fun e w' ⟨he, hw⟩ => ⟨he, ?_, ?_⟩
  ·subst hw
   rw [show sortR [] = [] by simp [sortR]]
   exact OwnT.nil _ _
  ·subst hw; exact ⟨rfl, rfl, rfl, Nat.le_refl _, fun _ _ _ => rfl⟩
 ·subst hv
  rw [← hkl] at h1 h4 hn ⊢
  have hlen : ∀ x : KeyR w N, (encKR x).length = 2 := fun _ => rfl
  have hH : HoldsK encKR 2 w g 0 ks.toArray := holds_fcells hlen (by decide) hb (by rw [hf]; exact h4)
  have hgl : g < w.heap.size := (Array.getElem?_eq_some_iff.1 hb).1
  have hkeep : ∀ (F : Array Value) (m : Nat) (os : Array Obj), KeepT [3] w (Go.Sort.grow (putRow id (Sort.ahead w m) g 0 F) os) := fun F m os => by
   have hgr := grownBy_sortedF (w := w) (g := g) (n := m) (os := os) F
   refine ⟨hgr.size, fun j cu t ht hj => (hgr.block j (Array.getElem?_eq_some_iff.1 hj).1 ?_).trans hj⟩
   intro e
   injection e with e
   subst e
   rw [hb] at hj
   injection hj with hj
   injection hj with _ hj
   subst hj
   exact absurd ht (by decide)
  have := AnyQ.slices_SortFunc Tryz.sortLay 2 isAgg_rule sizeOf_rule encKR hlen (fun p u hu => by simp only [encKR, List.mem_cons, List.not_mem_nil, or_false] at hu; rcases hu with rfl | rfl; rfl; exact own_one p.2.2.1) (fun a b => ordU (decKR a) (decKR b)) swoU 75 #[] g 0 cap ks.toArray w eg (fun m os dk hdk x y => (of2_any x.1.2.1 y.1.2.1 x.1.1 y.1.1 x.1.2.2 y.1.2.2 _ _ (x.2.2.1.keep (hkeep _ m os)).sl (y.2.2.1.keep (hkeep _ m os)).sl (Nat.le_refl _) x.2.2.2 y.2.2.2).mono fun e w' ⟨he, hb, hd⟩ => ⟨he, grown_of hb hd⟩) hH hgl (by simpa using hn)
  simp only [List.size_toArray] at this
  refine Calls.mono this fun e w' ⟨he, d', n, os, hp, hs, hw⟩ => ⟨he, ?_, ?_⟩
  ·have hperm : (d'.toList.map decKR).Perm rs := by
    rw [← hks]
    refine List.Perm.map _ ?_
    obtain ⟨p1, _, p3⟩ := hp
    have e1 : d'.extract 0 ks.length = d' := by
     apply Array.extract_eq_self_of_le; rw [p1]; simp
    have e2 : ks.toArray.extract 0 ks.length = ks.toArray := by
     apply Array.extract_eq_self_of_le; simp
    rw [e1, e2] at p3
    simpa using p3
   have hsort : (d'.toList.map decKR).Pairwise fun a b => ¬ ruleLt b a := by
    rw [List.pairwise_map, List.pairwise_iff_getElem]
    intro i j hi hj hij
    have hsz : d'.size = ks.length := by rw [hp.1]; simp
    have := hs i j (Nat.zero_le _) hij (by rw [← hsz]; simpa using hj)
    rw [ltOf_ordUF] at this
    have hj' : j < d'.size := by simpa using hj
    have hi' : i < d'.size := by simpa using hi
    rw [getElem!_pos d' j hj', getElem!_pos d' i hi'] at this
    simpa using this
   rw [← sortR_unique ho hperm hsort]
   have hsz : d'.toList.length = ks.length := by rw [Array.length_toList, hp.1]; simp
   have hF : (flatK encKR 2 d') = (flatK encKR 2 d'.toList.toArray) := by simp
   subst hw
   refine ⟨d'.toList.map encKR, ⟨by rw [← fcells, fcells_len hlen, List.length_map]; rfl, .inr ⟨g, cap, _, by rw [List.length_map, hsz], hbase, heap_sortedF _ hb, by rw [List.length_map, hsz]; exact h1, h2, by simpa [putCells] using h3, ?_⟩⟩, by simp, reps_of (hkeep _ n os) d'.toList⟩
   have hfs : (flatK encKR 2 d').size = ks.length * 2 := by rw [size_flatK, hp.1]; simp
   have := take_putCellsF cur (flatK encKR 2 d') (by rw [hfs, h3]; exact Nat.mul_le_mul_right 2 h1)
   rw [List.length_map, hsz]
   rw [hfs] at this
   show List.take (ks.length * 2) _ = _
   rw [this, hF, flatK_list hlen (by decide)]
   rfl
  ·subst hw
   exact grownBy_sortedF _
end Go.Proofs.YthojelhpipmkiaaGreatDoor
namespace Go.Proofs.YthojelhpipmkiaaGreatDoor
open Go.RowKit

theorem bytesRow_take (s : ByteArray) (c : Nat) : ∀ (j : Nat) (u : Value), (bcells s.data.toList)[j]? = some u → (bytesRow s c)[j]? = some u := by
 intro j u hu
 have hj : j < s.data.size := by
  have := (List.getElem?_eq_some_iff.1 hu).1
  rw [bcells_length] at this
  simpa using this
 rw [bytesRow_at s c j hj]
 unfold bcells at hu
 rw [List.getElem?_map, List.getElem?_eq_getElem (by simpa using hj)] at hu
 simpa [bcell] using hu
theorem conv_own {P : Program} (w : World) (src dst e : TypeId) (s : ByteArray) (hs : P.underlying src = some .string) (hd : P.underlying dst = some (.slice e)) (he : P.underlying e = some (.int .u8)) :
  ∃ w' c, (convert src dst (.string s)).run P w = .ok (.slice (some ⟨w.heap.size, 0, none⟩) s.size c) w' ∧ Below w.heap.size w w' ∧ w'.heap.size = w.heap.size + 1 ∧ Rd w' (w.heap.size + 1) (some ⟨w.heap.size, 0, none⟩) (bcells s.data.toList) := by
 refine ⟨_, _, run_bytes_of_string w src dst e s hs hd he, ((Below.refl _ _).drew).alloc (Nat.le_refl _) _, by simp, ?_⟩
 have hcell := Rd.row (w := w.drew.alloc (.cells (bytesRow s (grownCap w s.size 0 e)) e ((bytesRow s (grownCap w s.size 0 e)).size, (bytesRow s (grownCap w s.size 0 e)).size + 1))) (B := w.heap.size + 1) (g := w.heap.size) (heap_alloc_new w.drew _) (Nat.lt_succ_self _)
 intro hne
 obtain ⟨b, off, e1, hb, hc⟩ := hcell (by
  intro e1
  cases hl : bcells s.data.toList with
  |nil => exact hne hl
  |cons u r =>
   have := bytesRow_take s (grownCap w s.size 0 e) 0 u (by rw [hl]; rfl)
   rw [← Array.getElem?_toList, e1] at this
   cases this)
 refine ⟨b, off, e1, hb, fun j u hu => hc j u ?_⟩
 rw [Array.getElem?_toList]
 exact bytesRow_take s _ j u hu
theorem Rd.fut {w w' : World} {B B' N : Nat} {A : Option Addr} {xs : List Value} (h : Rd w B A xs) (hb : Below N w w') (h1 : B ≤ N) (h2 : B ≤ B') : Rd w' B' A xs := (h.below (hb.mono h1)).more h2
end Go.Proofs.YthojelhpipmkiaaGreatDoor
namespace Go.Proofs.YthojelhpipmkiaaGreatDoor
open Go.RowKit

def eW : Elt Wd := eMap eStr fun l => ⟨l.toArray⟩
abbrev wv (x : Wd) : Value := .string ⟨x.toArray⟩
theorem eW_open {w : World} {B : Nat} {cs : List Value} {x : Wd} (h : eW.rep w B cs x) : cs = [wv x] ∧ x.length ≤ maxLen := by
 obtain ⟨h1, h2⟩ := h
 exact ⟨h1, by simpa [ByteArray.size] using h2⟩
theorem eW_mk {w : World} {B : Nat} {x : Wd} (h : x.length ≤ maxLen) : eW.rep w B [wv x] x := ⟨rfl, by simpa [ByteArray.size] using h⟩
def Fits (xs : List Wd) : Prop := ∀ x ∈ xs, x.length ≤ maxLen
def wcells (xs : List Wd) : List Value := xs.map wv
theorem flat_wv : ∀ (xs : List Wd), (xs.map fun x => [wv x]).flatten = wcells xs
 |[] => rfl
 |x :: l => by rw [List.map_cons, List.flatten_cons, flat_wv l]; rfl
theorem wcells_len (xs : List Wd) : (wcells xs).length = xs.length := by simp [wcells]
theorem wcells_one (xs : List Wd) : ∀ u ∈ wcells xs, u.oneCell' = true := by
 intro u hu
 obtain ⟨x, _, rfl⟩ := List.mem_map.1 hu
 rfl
section
variable {w w' : World} {B : Nat} {v : Value} {xs : List Wd}
theorem SlR.fits (h : SlR eW w B v xs) : Fits xs := by
 obtain ⟨A, c, css, e, h1, h2, h3, h4, h5⟩ := h
 intro x hx
 obtain ⟨i, hi, rfl⟩ := List.getElem_of_mem hx
 exact (eW_open (h5 i _ _ (List.getElem?_eq_getElem (by omega)) (List.getElem?_eq_getElem hi))).2
theorem slW_of {A : Option Addr} {c : Nat} (hf : Fits xs) (hr : Rd w B A (wcells xs)) (h1 : xs.length ≤ c) (h2 : c ≤ maxLen) : SlR eW w B (.slice A xs.length c) xs := by
 refine ⟨A, c, xs.map fun x => [wv x], rfl, h1, h2, by simp, ?_, fun i cs x hc hx => ?_⟩
 ·rw [flat_wv]
  exact hr
 ·rw [List.getElem?_map, hx] at hc
  injection hc with hc
  subst hc
  exact eW_mk (hf x (List.mem_of_getElem? hx))
theorem SlR.wd {A : Option Addr} {n c : Nat} (h : SlR eW w B (.slice A n c) xs) {k : Nat} (hk : k < xs.length) : ∃ b off, A = some ⟨b, off, none⟩ ∧ n ≤ c ∧ b < B ∧ w.cell? ⟨b, off + k, none⟩ = some (wv xs[k]) := by
 obtain ⟨b, off, cs, e, h1, h2, h3, h4⟩ := h.get hk (by decide)
 obtain ⟨rfl, _⟩ := eW_open h3
 have := h4 0 _ rfl
 simp only [show eW.size = 1 from rfl, Nat.mul_one, Nat.add_zero] at this
 exact ⟨b, off, e, h1, h2, this⟩
theorem slW_own {base : Nat} {t : TypeId} (hf : Fits xs) (h : w.ownsRow base t 1 v xs.length (wcells xs)) : SlR eW w w.heap.size v xs := by
 obtain ⟨A, c, rfl, h1, h2⟩ := own_form h
 exact slW_of hf (Rd.of_own h) h1 h2
end
theorem wv_app (x y : Wd) : (⟨x.toArray⟩ : ByteArray) ++ ⟨y.toArray⟩ = ⟨(x ++ y).toArray⟩ := by
 apply ByteArray.ext
 simp
theorem cell0 {w : World} {S : Nat} {v : Value} {t : TypeId} (h : w.heap[S]? = some (.cells #[v] t (0, 0))) : w.cell? ⟨S, 0, none⟩ = some v := by rw [cell_of_row w S 0 _ _ _ h]; rfl
end Go.Proofs.YthojelhpipmkiaaGreatDoor
namespace Go.Proofs.YthojelhpipmkiaaGreatDoor
open Go.RowKit Go.Sort

def CloneTo (w : World) (xs : List Wd) (e : Ending) (w' : World) : Prop := ∃ v', e = .returned v' ∧ w'.ownsRow w.heap.size 9 1 v' xs.length (wcells xs) ∧ Below w.heap.size w w'
theorem clone_any (A : Option Addr) (c : Nat) (xs : List Wd) (w : World) (h : SlR eW w w.heap.size (.slice A xs.length c) xs) (hb : xs.length * 16 ≤ 140737488355328) :
  Calls Tryz.prog 69 #[.slice A xs.length c] w (CloneTo w xs) := by
 cases A with
 |none =>
  have hx : xs = [] := by
   rcases Nat.eq_zero_or_pos xs.length with h0 | h0
   ·exact List.eq_nil_of_length_eq_zero h0
   ·obtain ⟨b, off, e, _⟩ := h.wd (k := 0) h0
    cases e
  subst hx
  refine (Tryz.slices_Clone_string_nil 0 c w).mono ?_
  rintro e w' ⟨rfl, rfl⟩
  exact ⟨_, rfl, World.ownsRow_nil _ _ _ _, Below.refl _ _⟩
 |some a =>
  rcases Nat.eq_zero_or_pos xs.length with h0 | h0
  ·have hx : xs = [] := List.eq_nil_of_length_eq_zero h0
   subst hx
   refine (Tryz.slices_Clone_string_zero a c w).mono ?_
   rintro e w' ⟨v', rfl, hown, _, hbe⟩
   exact ⟨v', rfl, hown, hbe⟩
  ·obtain ⟨b, off, e, _, _, _⟩ := h.wd (k := 0) h0
   injection e with e
   subst e
   have := Tryz.slices_Clone_string b off xs.length c (xs.map fun x => (⟨x.toArray⟩ : ByteArray)) w (by simp) hb (fun j hj => by
    have hj' : j < xs.length := by simpa using hj
    obtain ⟨b', off', e, _, _, hc⟩ := h.wd hj'
    injection e with e
    injection e with e1 e2
    subst e1 e2
    rw [hc, List.getD_eq_getElem?_getD, List.getElem?_map, List.getElem?_eq_getElem hj']
    rfl)
   refine Calls.mono this ?_
   rintro e w' ⟨v', rfl, hown, _, hbe⟩
   refine ⟨v', rfl, ?_, hbe⟩
   rw [show ((xs.map fun x => (⟨x.toArray⟩ : ByteArray)).take xs.length).map Value.string = wcells xs by rw [List.take_of_length_le (by simp)]; simp [wcells]] at hown
   exact hown
def SortTo (w : World) (base : Nat) (v : Value) (xs : List Wd) (e : Ending) (w' : World) : Prop := e = .returned (.tuple #[]) ∧ w'.ownsRow base 9 1 v xs.length (wcells (xs.mergeSort fun x y => decide (x ≤ y))) ∧ w.grownBy w' v.ownBlock
theorem sort_any (base : Nat) (v : Value) (xs : List Wd) (w : World) (h : w.ownsRow base 9 1 v xs.length (wcells xs)) (hn : xs.length < 4611686018427387904) :
  Calls Tryz.prog 70 #[v] w (SortTo w base v xs) := by
 rcases h.2 with ⟨rfl, h0⟩ | ⟨g, cap, cur, rfl, hbase, hb, h1, h2, h3, h4⟩
 ·have hx : xs = [] := List.eq_nil_of_length_eq_zero h0
  subst hx
  refine (Tryz.slices_Sort_string_none none 0 w).mono ?_
  rintro e w' ⟨rfl, rfl⟩
  exact ⟨rfl, by have := World.ownsRow_nil w' base 9 1; simpa [wcells] using this, rfl, rfl, rfl, Nat.le_refl _, fun _ _ _ => rfl⟩
 ·rw [Nat.mul_one] at h4
  have := Tryz.slices_Sort_string g 0 cap xs w (holds_of_block hb h4) (Array.getElem?_eq_some_iff.1 hb).1 hn
  refine Calls.mono this ?_
  rintro e w' ⟨rfl, n, os, rfl⟩
  exact ⟨rfl, ownsRow_sorted (by simp) hbase hb h1 h2 h3, grownBy_sorted _⟩
end Go.Proofs.YthojelhpipmkiaaGreatDoor
