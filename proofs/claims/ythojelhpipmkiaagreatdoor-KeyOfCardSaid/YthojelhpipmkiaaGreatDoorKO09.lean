/- Texts of this proof joined: Inv, Float, Float2g, TakeUg. -/
import Derived.Test.YthojelhpipmkiaaGreatDoorKO04
import Derived.Test.YthojelhpipmkiaaGreatDoorKO08
import Derived.OrdersHeld
namespace Go.Proofs.YthojelhpipmkiaaGreatDoor.TextI
open Go Go.RowKit Go.Proofs.YthojelhpipmkiaaGreatDoor.Text
variable {P : Program} {ops : Array Oper} {I : World → Prop}

def YOld (P : Program) (ops : Array Oper) (I : World → Prop) (o : Oper) (v : Value) (a : Act) : Prop :=
 (Region.wanted o (yielded ops a.tmps) = true ∧ ∀ w, I w → (execOp a.eval o).run P w = .ok (.value v) w) ∨ (Region.wanted o (yielded ops a.tmps) = false ∧ v = undef)
theorem yold_keep {o : Oper} {v : Value} {a a' : Act} {d : Option Tmp} (hsel : ∀ cs b, o.op ≠ .select cs b) (h1 : ∀ t, d = some t → t ∉ o.looksAt ops) (hs : Same a a' d) :
  YOld P ops I o v a ↔ YOld P ops I o v a' := by
 obtain ⟨u, ds, rfl⟩ := hs
 have e1 : execOp (({ a with defers := ds } : Act).put d u).eval o = execOp a.eval o := (execOp_put (ops := ops) o hsel _ d u h1).trans rfl
 have e2 : Region.wanted o (yielded ops (({ a with defers := ds } : Act).put d u).tmps) = Region.wanted o (yielded ops a.tmps) := wanted_put o _ d u h1
 unfold YOld
 rw [e1, e2]
theorem yold_one {w0 : World} (h0 : I w0) {o : Oper} {v v' : Value} {a : Act} (h : YOld P ops I o v a) (h' : YOld P ops I o v' a) : v = v' := by
 rcases h with ⟨hw, h⟩ | ⟨hw, rfl⟩ <;> rcases h' with ⟨hw', h'⟩ | ⟨hw', rfl⟩
 ·have := (h w0 h0).symm.trans (h' w0 h0)
  injection this with h1 _
  injection h1
 ·rw [hw] at hw'; cases hw'
 ·rw [hw] at hw'; cases hw'
 ·rfl

def Yc (P : Program) (ops : Array Oper) (I : World → Prop) (c : Nat) (o : Oper) (v : Value) (a : Act) : Prop := if c = 0 then Yields P ops o v a else YOld P ops I o v a
theorem yc_keep {c : Nat} {o : Oper} {v : Value} {a a' : Act} {d : Option Tmp} (hsel : ∀ cs b, o.op ≠ .select cs b) (h1 : ∀ t, d = some t → t ∉ o.looksAt ops) (hs : Same a a' d) :
  Yc P ops I c o v a ↔ Yc P ops I c o v a' := by
 unfold Yc
 split
 ·exact yields_keep hsel h1 hs
 ·exact yold_keep hsel h1 hs
theorem yc_one {w0 : World} (h0 : I w0) {c : Nat} {o : Oper} {v v' : Value} {a : Act} (h : Yc P ops I c o v a) (h' : Yc P ops I c o v' a) : v = v' := by
 unfold Yc at h h'
 split at h
 ·rename_i hc; rw [if_pos hc] at h'; exact yields_one w0 h h'
 ·rename_i hc; rw [if_neg hc] at h'; exact yold_one h0 h h'

def stG (P : Program) (ops : Array Oper) (I : World → Prop) (c : Nat) (o : Oper) (K : Act → World → Prop) (a : Act) (w : World) : Prop :=
 if c ≤ 1 then ∃ v, Yc P ops I c o v a ∧ K (a.put o.dst v) w
 else if Region.wanted o (yielded ops a.tmps) = true then o.wp P a w (fun a' w' => (c = 3 → I w') ∧ K a' w') NoQ else K (a.put o.dst undef) w

theorem stG_mono {c : Nat} {o : Oper} {K K' : Act → World → Prop} {a : Act} {w : World} (h : ∀ a w, K a w → K' a w) (hh : stG P ops I c o K a w) : stG P ops I c o K' a w := by
 unfold stG at *
 split at hh
 ·rename_i hc; rw [if_pos hc]; obtain ⟨v, h1, h2⟩ := hh; exact ⟨v, h1, h _ _ h2⟩
 ·rename_i hc
  rw [if_neg hc]
  split at hh
  ·rename_i hw; rw [if_pos hw]; exact Oper.wp_mono (fun a w hk => ⟨hk.1, h _ _ hk.2⟩) hh
  ·rename_i hw; rw [if_neg hw]; exact h _ _ hh
theorem stG_some {c : Nat} {o : Oper} {K : Act → World → Prop} {a : Act} {w : World} (hh : stG P ops I c o K a w) : ∃ a' w', Same a a' o.dst ∧ K a' w' := by
 unfold stG at hh
 split at hh
 ·obtain ⟨v, _, h⟩ := hh; exact ⟨_, _, same_put _ _ _, h⟩
 ·split at hh
  ·obtain ⟨a', w', hs, _, hk⟩ := upon_some noQ_not hh; exact ⟨a', w', hs, hk⟩
  ·exact ⟨_, _, same_put _ _ _, hh⟩
theorem stG_put {c : Nat} {o : Oper} {K K' : Act → World → Prop} {a : Act} {w : World} {dst : Option Tmp} {v : Value}
  (hsel : ∀ cs b, o.op ≠ .select cs b) (h1 : ∀ d, dst = some d → d ∉ o.looksAt ops) (h2 : ∀ d, dst = some d → o.dst ≠ some d)
  (hK : ∀ a' w', Same a a' o.dst → K a' w' → K' (a'.put dst v) w') (hh : stG P ops I c o K a w) : stG P ops I c o K' (a.put dst v) w := by
 unfold stG at *
 split at hh
 ·rename_i hc
  rw [if_pos hc]
  obtain ⟨u, hy, h⟩ := hh
  refine ⟨u, (yc_keep hsel h1 (same_put a dst v)).1 hy, ?_⟩
  rw [Act.put_comm a v u h2]
  exact hK _ _ (same_put _ _ _) h
 ·rename_i hc
  rw [if_neg hc, wanted_put o a dst v h1]
  split at hh
  ·rename_i hw; rw [if_pos hw]; exact upon_mono hsel h1 h2 (fun a' w' hs hk => ⟨hk.1, hK _ _ hs hk.2⟩) hh
  ·rename_i hw; rw [if_neg hw, Act.put_comm a v undef h2]; exact hK _ _ (same_put _ _ _) hh
theorem stG_unput {c : Nat} {o : Oper} {K K' : Act → World → Prop} {a : Act} {w : World} {dst : Option Tmp} {v : Value}
  (hsel : ∀ cs b, o.op ≠ .select cs b) (h1 : ∀ d, dst = some d → d ∉ o.looksAt ops) (h2 : ∀ d, dst = some d → o.dst ≠ some d)
  (hK : ∀ a' w', Same a a' o.dst → K (a'.put dst v) w' → K' a' w') (hh : stG P ops I c o K (a.put dst v) w) : stG P ops I c o K' a w := by
 unfold stG at *
 split at hh
 ·rename_i hc
  rw [if_pos hc]
  obtain ⟨u, hy, h⟩ := hh
  refine ⟨u, (yc_keep hsel h1 (same_put a dst v)).2 hy, ?_⟩
  rw [Act.put_comm a v u h2] at h
  exact hK _ _ (same_put _ _ _) h
 ·rename_i hc
  rw [if_neg hc]
  rw [wanted_put o a dst v h1] at hh
  split at hh
  ·rename_i hw; rw [if_pos hw]; exact upon_unput hsel h1 h2 (fun a' w' hs hk => ⟨hk.1, hK _ _ hs hk.2⟩) hh
  ·rename_i hw; rw [if_neg hw]; rw [Act.put_comm a v undef h2] at hh; exact hK _ _ (same_put _ _ _) hh
theorem swapG {w0 : World} (h0 : I w0) {cx cy : Nat} {x y : Oper} {K : Act → World → Prop} {a : Act} {w : World} (hsx : ∀ cs b, x.op ≠ .select cs b) (hsy : ∀ cs b, y.op ≠ .select cs b)
  (hap : x.apart ops y = true) (hc : cx ≤ 1 ∨ cy ≤ 1) (h : stG P ops I cx x (stG P ops I cy y K) a w) : stG P ops I cy y (stG P ops I cx x K) a w := by
 obtain ⟨p1, p2, p3⟩ := Oper.apart_spec hap
 have p2' : ∀ d, y.dst = some d → x.dst ≠ some d := fun d hd hx => p2 d hx hd
 rcases hc with hx | hy
 ·have h' := h
  unfold stG at h'
  rw [if_pos hx] at h'
  obtain ⟨v, hv, h2⟩ := h'
  refine stG_unput hsy p1 p2 (fun a' w' hs hk => ?_) h2
  unfold stG
  rw [if_pos hx]
  exact ⟨v, (yc_keep hsx p3 hs).1 hv, hk⟩
 ·obtain ⟨a1, w1, hs, hst⟩ := stG_some h
  unfold stG at hst
  rw [if_pos hy] at hst
  obtain ⟨v, hv, _⟩ := hst
  have hv0 := (yc_keep hsy p1 hs).2 hv
  have goal : stG P ops I cx x K (a.put y.dst v) w := stG_put hsx p3 p2' (fun a' w' hs' hk => by
   unfold stG at hk
   rw [if_pos hy] at hk
   obtain ⟨v', hv', hk⟩ := hk
   have := yc_one h0 hv' ((yc_keep hsy p1 hs').1 hv0)
   subst this
   exact hk) h
  unfold stG
  rw [if_pos hy]
  exact ⟨v, hv0, goal⟩

def wpG (P : Program) (ops : Array Oper) (I : World → Prop) (cl : Nat → Nat) (Q : Act → World → Prop) : List Nat → Act → World → Prop
 |[], a, w => Q a w
 |i :: r, a, w => match ops[i]? with
  |none => wpG P ops I cl Q r a w
  |some o => stG P ops I (cl i) o (wpG P ops I cl Q r) a w
theorem frontG {w0 : World} (h0 : I w0) {cl : Nat → Nat} {Q : Act → World → Prop} (hsel : Region.noSelect ops = true) (i : Nat) (l2 : List Nat) : ∀ (l1 : List Nat) (a : Act) (w : World), (∀ x ∈ l1, compatG ops cl x i = true) →
  wpG P ops I cl Q (l1 ++ i :: l2) a w → wpG P ops I cl Q (i :: (l1 ++ l2)) a w
 |[], _, _, _, h => h
 |x :: l1, a, w, hc, h => by
  have hx := hc x (by simp)
  have ih := fun a w => frontG h0 (cl := cl) (Q := Q) hsel i l2 l1 a w (fun y hy => hc y (by simp [hy]))
  cases hox : ops[x]? with
  |none =>
   have h' : wpG P ops I cl Q (l1 ++ i :: l2) a w := by simpa [wpG, hox] using h
   have := ih a w h'
   unfold wpG at this ⊢
   split at this
   ·simpa [wpG, hox] using this
   ·exact stG_mono (fun a w hh => by simpa [wpG, hox] using hh) this
  |some ox =>
   have h1 : stG P ops I (cl x) ox (wpG P ops I cl Q (l1 ++ i :: l2)) a w := by simpa [wpG, hox] using h
   have h2 := stG_mono ih h1
   cases hoi : ops[i]? with
   |none => simpa [wpG, hox, hoi] using h2
   |some oi =>
    simp only [compatG, hox, hoi, Bool.and_eq_true, Bool.or_eq_true, decide_eq_true_eq] at hx
    have h3 : stG P ops I (cl x) ox (stG P ops I (cl i) oi (wpG P ops I cl Q (l1 ++ l2))) a w := by simpa [wpG, hoi] using h2
    have h4 := swapG h0 (fun cs b => Region.noSelect_spec hsel x ox cs b hox) (fun cs b => Region.noSelect_spec hsel i oi cs b hoi) hx.1 hx.2 h3
    have h5 : stG P ops I (cl i) oi (wpG P ops I cl Q (x :: (l1 ++ l2))) a w := stG_mono (fun a w hh => by simpa [wpG, hox] using hh) h4
    simpa [wpG, hoi] using h5

theorem wpOp_of_stG {i c : Nat} {o : Oper} {K : Act → World → Prop} {Q : Exit → Act → World → Prop} {a : Act} {w : World} (hc3 : c ≤ 3) (ho : ops[i]? = some o) (hold : c = 1 → I w)
  (h : stG P ops I c o K a w) : wpOp P ops Q i (fun a' w' => (c ≠ 2 → I w → I w') ∧ K a' w') a w := by
 unfold wpOp
 simp only [ho]
 unfold stG at h
 split at h
 ·rename_i hc
  obtain ⟨v, hy, hk⟩ := h
  unfold Yc at hy
  split at hy
  ·rcases hy with ⟨hw, hv⟩ | ⟨hw, rfl⟩
   ·rw [if_pos hw]; left; unfold Oper.wp; rw [hv w]; exact ⟨fun _ hb => hb, hk⟩
   ·rw [if_neg (by simp [hw])]; exact ⟨fun _ hb => hb, hk⟩
  ·rename_i hc0
   rcases hy with ⟨hw, hv⟩ | ⟨hw, rfl⟩
   ·rw [if_pos hw]; left; unfold Oper.wp; rw [hv w (hold (by omega))]; exact ⟨fun _ hb => hb, hk⟩
   ·rw [if_neg (by simp [hw])]; exact ⟨fun _ hb => hb, hk⟩
 ·rename_i hc
  split at h
  ·rename_i hw
   rw [if_pos hw]
   left
   have h' : o.wp P a w (fun a' w' => (c ≠ 2 → I w → I w') ∧ K a' w') NoQ ∨ c ≠ 2 ∧ c ≠ 3 := by
    by_cases h3 : c = 3
    ·exact .inl (Oper.wp_mono (fun a w hk => ⟨fun _ _ => hk.1 h3, hk.2⟩) h)
    ·by_cases h2 : c = 2
     ·exact .inl (Oper.wp_mono (fun a w hk => ⟨fun hn => absurd h2 hn, hk.2⟩) h)
     ·exact .inr ⟨h2, h3⟩
   rcases h' with h' | ⟨h2, h3⟩
   ·unfold Oper.wp at *
    generalize (execOp a.eval o).run P w = r at *
    cases r with
    |ok n w' =>
     cases n <;> simp only [Oper.upon] at h' ⊢ <;> first
      |exact h'
      |exact Calls.mono h' fun e w'' he => by
        cases e with
        |returned u => exact he
        |panicked c => exact absurd he id
        |outgrown => exact absurd he not_letsOut
    |halt x w' => cases x <;> simp only [Oper.upon] at h' ⊢ <;> first | exact h' | exact absurd h' id
   ·omega
  ·rename_i hw; rw [if_neg hw]; exact ⟨fun _ hb => hb, h⟩

theorem any_of_G {w0 : World} (hI0 : I w0) {cl : Nat → Nat} {Q : Exit → Act → World → Prop} (hsel : Region.noSelect ops = true) (hback : backB ops = true) (hp : pairsG ops cl = true) (hlate : lateB ops cl = true) (hc3 : ∀ i, cl i ≤ 3) :
  ∀ (rem : List Nat) (listed : Array Bool) (a : Act) (w : World), listed.size = ops.size → rem.Pairwise (· < ·) → (∀ j, j ∈ rem ↔ j < ops.size ∧ listed.getD j false = false) → Closed ops listed →
   ((∀ j, j < ops.size → cl j = 2 → listed.getD j false = false) → I w) →
   wpG P ops I cl (fun a w => Q .normal a w) rem a w → wpAny P .any ops Q rem.length listed a w := by
 intro rem
 induction hn : rem.length generalizing rem with
 |zero =>
  intro listed a w hs _ hm _ _ h
  have he : rem = [] := List.eq_nil_of_length_eq_zero hn
  subst he
  refine ⟨?_, h⟩
  apply List.eq_nil_iff_forall_not_mem.2
  intro j hj
  obtain ⟨h0, o, ho, _⟩ := mem_ready.1 hj
  have hlt : j < ops.size := (Array.getElem?_eq_some_iff.1 ho).1
  rw [getD_flip hs hlt] at h0
  exact absurd ((hm j).2 ⟨hlt, h0⟩) (by simp)
 |succ n ih =>
  intro listed a w hs hpw hm hc hinv h
  have hready : Region.ready .any ops listed ≠ [] := by
   cases hr : rem with
   |nil => rw [hr] at hn; cases hn
   |cons i0 r =>
    have hi0 := (hm i0).1 (by rw [hr]; simp)
    intro hnil
    have hmem : i0 ∈ Region.ready .any ops listed := by
     refine mem_ready.2 ⟨by rw [getD_flip hs hi0.1]; exact hi0.2, ops[i0], Array.getElem?_eq_getElem hi0.1, fun e he hb => ?_⟩
     have h1 := List.all_eq_true.1 hback i0 (List.mem_range.2 hi0.1)
     simp only [Array.getElem?_eq_getElem hi0.1] at h1
     have h2 := Array.all_eq_true_iff_forall_mem.1 h1 e he
     simp only [hb, Bool.not_true, Bool.false_or, decide_eq_true_eq] at h2
     rcases Bool.eq_false_or_eq_true (listed.getD e.on false) with h3 | h3
     ·exact h3
     ·have h4 := (hm e.on).2 ⟨by omega, h3⟩
      rw [hr] at h4 hpw
      rcases List.mem_cons.1 h4 with h5 | h5
      ·omega
      ·have := (List.pairwise_cons.1 hpw).1 _ h5; omega
    rw [hnil] at hmem
    cases hmem
  refine ⟨fun h0 => absurd h0 hready, fun i hi => ?_⟩
  obtain ⟨h0, o, ho, hall⟩ := mem_ready.1 hi
  have hlt : i < ops.size := (Array.getElem?_eq_some_iff.1 ho).1
  rw [getD_flip hs hlt] at h0
  have hir : i ∈ rem := (hm i).2 ⟨hlt, h0⟩
  obtain ⟨l1, l2, hl⟩ := List.append_of_mem hir
  subst hl
  rw [List.pairwise_append] at hpw
  obtain ⟨pw1, pw2, pw3⟩ := hpw
  have pw2' := List.pairwise_cons.1 pw2
  have hf := frontG hI0 hsel i l2 l1 a w (fun x hx => by
   have hxi : x < i := pw3 x hx i (by simp)
   rcases pairsG_spec hp hlt hxi with hd | hcp
   ·have := dep_listed hc hd (fun o' ho' e he hb => by rw [ho] at ho'; injection ho' with e2; subst e2; exact hall e he hb)
    have h2 := ((hm x).1 (by simp [hx])).2
    rw [this] at h2
    cases h2
   ·exact hcp) h
  have hst : stG P ops I (cl i) o (wpG P ops I cl (fun a w => Q .normal a w) (l1 ++ l2)) a w := by simpa [wpG, ho] using hf
  have hold : cl i = 1 → I w := fun hci => hinv fun j hj hcj => by
   rcases Bool.eq_false_or_eq_true (listed.getD j false) with h3 | h3
   ·exfalso
    have hd := lateB_spec hlate hlt hj hci hcj
    have := dep_listed hc hd (fun o' ho' e he hb => hc j o' ho' h3 e he hb)
    rw [h0] at this
    cases this
   ·exact h3
  refine wpOp_mono (fun a' w' hh => ?_) (wpOp_of_stG (Q := Q) (hc3 i) ho hold hst)
  have hlen : (l1 ++ l2).length = n := by simp at hn ⊢; omega
  refine ih (l1 ++ l2) hlen (listed.setIfInBounds i true) a' w' (by simpa using hs) ?_ (fun j => ?_) ?_ ?_ hh.2
  ·rw [List.pairwise_append]
   exact ⟨pw1, pw2'.2, fun x hx y hy => pw3 x hx y (by simp [hy])⟩
  ·by_cases hji : j = i
   ·subst hji
    constructor
    ·intro hj
     rcases List.mem_append.1 hj with h5 | h5
     ·have := pw3 j h5 j (by simp); omega
     ·have := pw2'.1 j h5; omega
    ·intro ⟨_, h5⟩
     have : j < listed.size := by omega
     simp [this] at h5
   ·rw [getD_set_ne false (Ne.symm hji), ← hm j]
    simp [hji]
  ·intro j oj hoj hj e he hb
   by_cases hji : j = i
   ·subst hji
    rw [ho] at hoj
    injection hoj with e2
    subst e2
    exact getD_set_true (hall e he hb)
   ·rw [getD_set_ne false (Ne.symm hji)] at hj
    exact getD_set_true (hc j oj hoj hj e he hb)
  ·intro hno
   have hci : cl i ≠ 2 := fun hci => by
    have := hno i hlt hci
    have hsz : i < listed.size := by omega
    simp [hsz] at this
   refine hh.1 hci (hinv fun j hj hcj => ?_)
   have := hno j hj hcj
   by_cases hji : j = i
   ·subst hji; exact absurd hcj hci
   ·rwa [getD_set_ne false (Ne.symm hji)] at this

def wpS (P : Program) (ops : Array Oper) (I : World → Prop) (G : List Nat) (Q : Act → World → Prop) : Nat → List Oper → Act → World → Prop
 |_, [], a, w => Q a w
 |k, o :: r, a, w => if Region.wanted o (yielded ops a.tmps) = true then
   o.wp P a w (fun a' w' => (G.contains k = true → I w') ∧ wpS P ops I G Q (k + 1) r a' w') NoQ
  else wpS P ops I G Q (k + 1) r (a.put o.dst undef) w
theorem wpS_seg {G : List Nat} {Q : Act → World → Prop} : ∀ (n k : Nat) (l : List Oper) (a : Act) (w : World), (List.range' k n).all (fun i => !G.contains i) = true →
  (∀ Q' : Exit → Act → World → Prop, (∀ a w, wpS P ops I G Q (k + n) (l.drop n) a w → Q' .normal a w) → wpList P ops Q' (l.take n) a w) → wpS P ops I G Q k l a w
 |0, k, l, a, w, _, h => by
  have := h (fun e a w => e = .normal ∧ wpS P ops I G Q k l a w) (fun a w hh => ⟨rfl, by simpa using hh⟩)
  simpa [wpList] using this
 |n + 1, k, [], a, w, _, h => by
  have := h (fun e a w => e = .normal ∧ Q a w) (fun a w hh => ⟨rfl, by simpa [wpS] using hh⟩)
  simpa [wpList, wpS] using this
 |n + 1, k, o :: r, a, w, hG, h => by
  rw [List.range'_succ, List.all_cons, Bool.and_eq_true] at hG
  have hk : G.contains k = false := by simpa using hG.1
  have h0 := h (fun e a w => e = .normal ∧ wpS P ops I G Q (k + (n + 1)) ((o :: r).drop (n + 1)) a w) (fun a w hh => ⟨rfl, hh⟩)
  have hnl : ¬ LetsOut (fun e a w => e = Exit.normal ∧ wpS P ops I G Q (k + (n + 1)) ((o :: r).drop (n + 1)) a w) := fun ⟨_, _, hh⟩ => by cases hh.1
  have hno : ∀ (e : Exit) (a : Act) (w : World), e ≠ .normal → ¬ (e = Exit.normal ∧ wpS P ops I G Q (k + (n + 1)) ((o :: r).drop (n + 1)) a w) := fun _ _ _ hn hh => hn hh.1
  have ih : ∀ a w, wpList P ops (fun e a w => e = .normal ∧ wpS P ops I G Q (k + (n + 1)) ((o :: r).drop (n + 1)) a w) (r.take n) a w → wpS P ops I G Q (k + 1) r a w := fun a w hl =>
   wpS_seg n (k + 1) r a w hG.2 fun Q' hQ' => by
    refine wpList_mono' (fun e a w hh => ?_) _ _ _ hl
    obtain ⟨rfl, hh⟩ := hh
    exact hQ' _ _ (by simpa [Nat.add_assoc, Nat.add_comm 1 n] using hh)
  rw [List.take_succ_cons] at h0
  unfold wpList at h0
  unfold wpS
  split at h0
  ·rename_i hw
   rw [if_pos hw]
   have h1 := h0.resolve_right fun hh => hnl hh.2
   have h2 := Oper.wp_mono (K' := fun a' w' => (G.contains k = true → I w') ∧ wpS P ops I G Q (k + 1) r a' w') (fun a w hh => ⟨fun hk' => (by rw [hk] at hk'; cases hk'), ih a w hh⟩) h1
   exact wp_noQ hno hnl h2
  ·rename_i hw
   rw [if_neg hw]
   exact ih _ _ h0

def oldAt (P : Program) (ops : Array Oper) (I : World → Prop) (a : Act) (i : Nat) : Prop :=
 match ops[i]? with
 |some o => match o.op with
  |.load t x => Region.wanted o (yielded ops a.tmps) = true → ∃ v, ∀ w', I w' → (Instr.loadAt t (a.eval x)).run P w' = .ok v w'
  |.convert s d x => Region.wanted o (yielded ops a.tmps) = true → ∃ v, ∀ w', I w' → (convert s d (a.eval x)).run P w' = .ok v w'
  |_ => True
 |none => True
def oldAll (P : Program) (ops : Array Oper) (I : World → Prop) (a : Act) : List Nat → Prop
 |[] => True
 |i :: r => oldAt P ops I a i ∧ oldAll P ops I a r
theorem oldAll_mem {a : Act} : ∀ {l : List Nat} {i : Nat}, oldAll P ops I a l → i ∈ l → oldAt P ops I a i
 |j :: r, i, h, hi => by
  rcases List.mem_cons.1 hi with rfl | hi
  ·exact h.1
  ·exact oldAll_mem h.2 hi

theorem reachS {G LD ex : List Nat} {Q : Act → World → Prop} : ∀ (l : List Oper) (k : Nat) (a : Act) (w : World), (∀ j, l[j]? = ops[k + j]?) →
  wpS P ops I G (fun a w => chk ops ex a = true ∧ oldAll P ops I a LD ∧ Q a w) k l a w → ∃ a', chk ops ex a' = true ∧ oldAll P ops I a' LD ∧ OffDsts ops (List.range' k l.length) a a'
 |[], k, a, w, _, h => ⟨a, h.1, h.2.1, fun _ _ => rfl⟩
 |o :: r, k, a, w, hl, h => by
  have ho : ops[k]? = some o := by simpa using (hl 0).symm
  have hl' : ∀ j, r[j]? = ops[k + 1 + j]? := fun j => by have := hl (j + 1); simpa [Nat.add_assoc, Nat.add_comm 1 j] using this
  unfold wpS at h
  have hn : ∃ a1 w1, Same a a1 o.dst ∧ wpS P ops I G (fun a w => chk ops ex a = true ∧ oldAll P ops I a LD ∧ Q a w) (k + 1) r a1 w1 := by
   split at h
   ·obtain ⟨a1, w1, hs, _, hk⟩ := upon_some noQ_not h
    exact ⟨a1, w1, hs, hk⟩
   ·exact ⟨_, _, same_put _ _ _, h⟩
  obtain ⟨a1, w1, hs, h1⟩ := hn
  obtain ⟨a', h2, h3, h4⟩ := reachS r (k + 1) a1 w1 hl' h1
  refine ⟨a', h2, h3, fun t ht => (h4 t fun j hj => ht j ?_).trans (same_off hs (ht k ?_ o ho))⟩
  ·rw [List.length_cons, List.range'_succ]; simp [hj]
  ·rw [List.length_cons, List.range'_succ]; simp

theorem list_G {G LD ex : List Nat} {Q : Act → World → Prop} : ∀ (l : List Oper) (k : Nat) (a : Act) (w : World), (∀ j, l[j]? = ops[k + j]?) → k + l.length = ops.size →
  lateB ops (clG P ops G LD ex) = true → backB ops = true → ((∀ j, j < k → clG P ops G LD ex j ≠ 2) → I w) →
  wpS P ops I G (fun a w => chk ops ex a = true ∧ oldAll P ops I a LD ∧ Q a w) k l a w → wpG P ops I (clG P ops G LD ex) Q (List.range' k l.length) a w
 |[], k, a, w, _, _, _, _, _, h => h.2.2
 |o :: r, k, a, w, hl, hsz, hlate, hback, hinv, h => by
  have ho : ops[k]? = some o := by simpa using (hl 0).symm
  have hlt : k < ops.size := (Array.getElem?_eq_some_iff.1 ho).1
  have hl' : ∀ j, r[j]? = ops[k + 1 + j]? := fun j => by have := hl (j + 1); simpa [Nat.add_assoc, Nat.add_comm 1 j] using this
  have hsz' : k + 1 + r.length = ops.size := by simp at hsz; omega
  obtain ⟨a', hchk, hold, hoff⟩ := reachS (o :: r) k a w hl h
  have ih : ∀ a w, ((∀ j, j < k + 1 → clG P ops G LD ex j ≠ 2) → I w) → wpS P ops I G (fun a w => chk ops ex a = true ∧ oldAll P ops I a LD ∧ Q a w) (k + 1) r a w → wpG P ops I (clG P ops G LD ex) Q (List.range' (k + 1) r.length) a w := fun a w => list_G r (k + 1) a w hl' hsz' hlate hback
  rw [List.length_cons, List.range'_succ]
  unfold wpG
  simp only [ho]
  unfold wpS at h
  -- what is known of the operands at the end holds here
  have hstab : stableB ops k o = true → (∀ t ∈ o.looksAt ops, a'.tmps[t]? = a.tmps[t]?) := by
   intro hst t ht
   refine hoff t fun j hj oj hoj => ?_
   have h5 := List.all_eq_true.1 hst t ht
   have hjr : k ≤ j ∧ j < ops.size := by have := List.mem_range'_1.1 hj; omega
   have h6 := List.all_eq_true.1 h5 j (List.mem_range.2 hjr.2)
   simp only [hoj, Bool.or_eq_true, decide_eq_true_eq, bne_iff_ne] at h6
   rcases h6 with h6 | h6
   ·omega
   ·exact h6
  have hops : (∀ t ∈ o.looksAt ops, a'.tmps[t]? = a.tmps[t]?) → ∀ x ∈ o.op.operands, a'.eval x = a.eval x := fun hlook x hx =>
   eval_off fun t hxt => hlook t (List.mem_append_left _ (List.mem_filterMap.2 ⟨x, by simpa using hx, by rw [hxt]⟩))
  have hwant : (∀ t ∈ o.looksAt ops, a'.tmps[t]? = a.tmps[t]?) → Region.wanted o (yielded ops a'.tmps) = Region.wanted o (yielded ops a.tmps) := by
   intro hlook
   unfold Region.wanted
   cases hg : o.guard with
   |none => rfl
   |some gw =>
    obtain ⟨g, want⟩ := gw
    have hy : yielded ops a'.tmps g = yielded ops a.tmps g := by
     unfold yielded
     cases hb : (ops[g]?).bind (·.dst) with
     |none => rfl
     |some t =>
      have := hlook t (List.mem_append_right _ (by simp [hg, hb]))
      simp [this]
    simp only [hy]
  by_cases hw : Region.wanted o (yielded ops a.tmps) = true
  ·rw [if_pos hw] at h
   have hrun : ∀ (hp : ∀ n w', (execOp a.eval o).run P w = .ok n w' → w' = w ∧ ∃ v, n = .value v), ∃ v, (execOp a.eval o).run P w = .ok (.value v) w ∧
     wpS P ops I G (fun a w => chk ops ex a = true ∧ oldAll P ops I a LD ∧ Q a w) (k + 1) r (a.put o.dst v) w := by
    intro hp
    unfold Oper.wp at h
    cases hr : (execOp a.eval o).run P w with
    |ok n1 w1 =>
     obtain ⟨rfl, v, rfl⟩ := hp n1 w1 hr
     rw [hr] at h
     exact ⟨v, rfl, h.2⟩
    |halt x w1 =>
     rw [hr] at h
     cases x <;> exact absurd h id
   by_cases hc1 : clG P ops G LD ex k ≤ 1
   ·have hinv' : ∀ w', w' = w → ((∀ j, j < k + 1 → clG P ops G LD ex j ≠ 2) → I w') := fun w' e hj => by subst e; exact hinv fun j hjk => hj j (by omega)
    unfold stG
    rw [if_pos hc1]
    have hc := hc1
    unfold clG at hc
    simp only [ho] at hc
    by_cases hcG : G.contains k = true
    ·rw [if_pos hcG] at hc; omega
    rw [if_neg hcG] at hc
    by_cases hcL : LD.contains k = true
    ·rw [if_pos hcL] at hc
     have hls : (isLoad o && stableB ops k o) = true := by
      by_cases hls : (isLoad o && stableB ops k o) = true
      ·exact hls
      ·rw [if_neg hls] at hc; omega
     rw [Bool.and_eq_true] at hls
     have hcl : clG P ops G LD ex k = 1 := by
      unfold clG
      simp only [ho]
      rw [if_neg hcG, if_pos hcL, if_pos (by simp [hls])]
     have hno2 : ∀ j, j < k → clG P ops G LD ex j ≠ 2 := fun j hj hcj => by
      have hd := lateB_spec hlate hlt (show j < ops.size by omega) hcl hcj
      have := dep_lt hback hd
      omega
     have hbw := hinv hno2
     have hlook := hstab hls.2
     have hoa := oldAll_mem hold (by simpa using hcL)
     have hld : (∃ t x, o.op = .load t x) ∨ ∃ s d x, o.op = .convert s d x := by
      have := hls.1
      unfold isLoad at this
      split at this
      ·exact .inl ⟨_, _, by assumption⟩
      ·exact .inr ⟨_, _, _, by assumption⟩
      ·cases this
     rcases hld with ⟨t, x, hop⟩ | ⟨s, d, x, hop⟩
     ·have hx := hops hlook x (by rw [hop]; simp [Op.operands])
      unfold oldAt at hoa
      simp only [ho, hop] at hoa
      obtain ⟨v0, hv0⟩ := hoa (by rw [hwant hlook]; exact hw)
      rw [hx] at hv0
      have hex : ∀ w2, I w2 → (execOp a.eval o).run P w2 = .ok (.value v0) w2 := by
       intro w2 hb2
       obtain ⟨dst, op, type, pos, after, guard⟩ := o
       simp only at hop
       subst hop
       simp only [execOp]
       rw [Sem.run_bind, hv0 w2 hb2]
       rfl
      obtain ⟨v, hv, hk⟩ := hrun fun n w' h => by
       rw [hex w hbw] at h
       injection h with h1 h2
       exact ⟨h2.symm, v0, h1.symm⟩
      rw [hex w hbw] at hv
      injection hv with h1 _
      injection h1 with h1
      subst h1
      refine ⟨v0, ?_, ih _ _ (hinv' _ rfl) hk⟩
      unfold Yc
      rw [if_neg (by omega)]
      exact .inl ⟨hw, hex⟩
     ·have hx := hops hlook x (by rw [hop]; simp [Op.operands])
      unfold oldAt at hoa
      simp only [ho, hop] at hoa
      obtain ⟨v0, hv0⟩ := hoa (by rw [hwant hlook]; exact hw)
      rw [hx] at hv0
      have hex : ∀ w2, I w2 → (execOp a.eval o).run P w2 = .ok (.value v0) w2 := by
       intro w2 hb2
       obtain ⟨dst, op, type, pos, after, guard⟩ := o
       simp only at hop
       subst hop
       simp only [execOp]
       rw [Sem.run_bind, hv0 w2 hb2]
       rfl
      obtain ⟨v, hv, hk⟩ := hrun fun n w' h => by
       rw [hex w hbw] at h
       injection h with h1 h2
       exact ⟨h2.symm, v0, h1.symm⟩
      rw [hex w hbw] at hv
      injection hv with h1 _
      injection h1 with h1
      subst h1
      refine ⟨v0, ?_, ih _ _ (hinv' _ rfl) hk⟩
      unfold Yc
      rw [if_neg (by omega)]
      exact .inl ⟨hw, hex⟩
    ·rw [if_neg hcL] at hc
     by_cases hcE : ex.contains k = true
     ·rw [if_pos hcE] at hc; omega
     rw [if_neg hcE] at hc
     by_cases hnst : (needsDyn o && !stableB ops k o) = true
     ·rw [if_pos hnst] at hc; omega
     rw [if_neg hnst] at hc
     have hcls : clsOf P o = 0 := by
      by_cases hcls : clsOf P o = 0
      ·exact hcls
      ·rw [if_neg hcls] at hc; omega
     have hcl : clG P ops G LD ex k = 0 := by
      unfold clG
      simp only [ho]
      rw [if_neg hcG, if_neg hcL, if_neg hcE, if_neg hnst, if_pos hcls]
     have hpv : PurV P (execOp a.eval o) := by
      refine cls_zero hcls ?_
      by_cases hnd : needsDyn o = true
      ·have hstb : stableB ops k o = true := by
        rw [hnd] at hnst
        simpa using hnst
       have hlook := hstab hstb
       have hc2 := List.all_eq_true.1 hchk k (List.mem_range.2 hlt)
       simp only [ho, Bool.or_eq_true, hnd, Bool.not_true, Bool.false_eq_true, false_or] at hc2
       rcases hc2 with hc2 | hc2 | hc2
       ·exact absurd hc2 hcE
       ·rw [hwant hlook, hw] at hc2; cases hc2
       ·rw [dyn_congr (hops hlook)] at hc2; exact hc2
      ·unfold needsDyn at hnd
       unfold dynOk
       split at hnd <;> first | (exact absurd rfl hnd) | rfl | (split <;> first | rfl | (simp_all; done))
     obtain ⟨v, hv, hk⟩ := hrun fun n w' hr => let ⟨e, v, hn, _⟩ := hpv w n w' hr; ⟨e, v, hn⟩
     obtain ⟨_, v', hn, hall⟩ := hpv _ _ _ hv
     injection hn with hn
     subst hn
     refine ⟨v, ?_, ih _ _ (hinv' _ rfl) hk⟩
     unfold Yc
     rw [if_pos hcl]
     exact .inl ⟨hw, hall⟩
   ·unfold stG
    rw [if_neg hc1, if_pos hw]
    refine Oper.wp_mono (fun a1 w1 hh => ?_) h
    have h3 : clG P ops G LD ex k = 3 → G.contains k = true := by
     intro h3
     unfold clG at h3
     simp only [ho] at h3
     by_cases hcG : G.contains k = true
     ·exact hcG
     ·rw [if_neg hcG] at h3
      repeat' (split at h3)
      all_goals omega
    refine ⟨fun hc3 => hh.1 (h3 hc3), ih _ _ (fun hj => ?_) hh.2⟩
    have hk2 := hj k (by omega)
    have hk3 : clG P ops G LD ex k = 3 := by have := clG_le (P := P) (ops := ops) G LD ex k; omega
    exact hh.1 (h3 hk3)
  ·rw [if_neg hw] at h
   have hwf : Region.wanted o (yielded ops a.tmps) = false := by simpa using hw
   have h2 := ih _ _ (fun hj => hinv fun j hjk => hj j (by omega)) h
   unfold stG
   split
   ·refine ⟨undef, ?_, h2⟩
    unfold Yc
    split
    ·exact .inr ⟨hwf, rfl⟩
    ·exact .inr ⟨hwf, rfl⟩
   ·exact h2

theorem wpS_one {G : List Nat} {Q : Act → World → Prop} {k : Nat} {o : Oper} {r : List Oper} {a : Act} {w : World}
  (h : ∀ Q' : Exit → Act → World → Prop, (∀ a' w', I w' ∧ wpS P ops I G Q (k + 1) r a' w' → Q' .normal a' w') → wpList P ops Q' [o] a w) : wpS P ops I G Q k (o :: r) a w := by
 have h0 := h (fun e a w => e = .normal ∧ I w ∧ wpS P ops I G Q (k + 1) r a w) (fun a w hh => ⟨rfl, hh⟩)
 have hnl : ¬ LetsOut (fun e a w => e = Exit.normal ∧ I w ∧ wpS P ops I G Q (k + 1) r a w) := fun ⟨_, _, hh⟩ => by cases hh.1
 have hno : ∀ (e : Exit) (a : Act) (w : World), e ≠ .normal → ¬ (e = Exit.normal ∧ I w ∧ wpS P ops I G Q (k + 1) r a w) := fun _ _ _ hn hh => hn hh.1
 unfold wpList at h0
 unfold wpS
 split at h0
 ·rename_i hw
  rw [if_pos hw]
  have h1 := h0.resolve_right fun hh => hnl hh.2
  have h2 := Oper.wp_mono (K' := fun a' w' => (G.contains k = true → I w') ∧ wpS P ops I G Q (k + 1) r a' w') (fun a w hh => by
   simp only [wpList] at hh
   exact ⟨fun _ => hh.2.1, hh.2.2⟩) h1
  exact wp_noQ hno hnl h2
 ·rename_i hw
  rw [if_neg hw]
  simp only [wpList] at h0
  exact h0.2.2
end Go.Proofs.YthojelhpipmkiaaGreatDoor.TextI
namespace Go.Proofs.YthojelhpipmkiaaGreatDoor.TextI
open Go Go.RowKit Go.Proofs.YthojelhpipmkiaaGreatDoor.Text
variable {P : Program} {ops : Array Oper} {I : World → Prop}

section
variable {cl : Nat → Nat} {Q : Act → World → Prop} {f : Nat} {fo : Oper} {w0 : World}
end

end Go.Proofs.YthojelhpipmkiaaGreatDoor.TextI
namespace Go.Proofs.YthojelhpipmkiaaGreatDoor.TextI
open Go Go.RowKit Go.Proofs.YthojelhpipmkiaaGreatDoor.Text
variable {P : Program} {ops : Array Oper} {I : World → Prop}
end Go.Proofs.YthojelhpipmkiaaGreatDoor.TextI
namespace Go.Proofs.YthojelhpipmkiaaGreatDoor
open Go.RowKit
section
variable {P : Program} {ops : Array Oper} {I : World → Prop} {G : List Nat} {f : Nat} {fo : Oper}
end
end Go.Proofs.YthojelhpipmkiaaGreatDoor
namespace Go.Proofs.YthojelhpipmkiaaGreatDoor.TextU
open Go Go.RowKit Go.Proofs.YthojelhpipmkiaaGreatDoor.Text
def Q0 (K : Act → World → Prop) : Exit → Act → World → Prop := fun e a w => e = .normal ∧ K a w
def need (us : List Nat) (listed : Array Bool) : Prop := ∃ u ∈ us, listed.getD u true = false
variable {P : Program} {ops : Array Oper} {K : Act → World → Prop} {S : World → Prop} {us : List Nat}
def wpU (P : Program) (ops : Array Oper) (K : Act → World → Prop) (S : World → Prop) (us : List Nat) : Nat → Array Bool → Act → World → Prop
 |0, listed, a, w => Region.ready .any ops listed = [] ∧ K a w
 |fuel + 1, listed, a, w => (Region.ready .any ops listed = [] → K a w) ∧
  ∀ j ∈ Region.ready .any ops listed, wpOp P ops (Q0 K) j (fun a' w' => (need us (listed.setIfInBounds j true) → S w') ∧ wpU P ops K S us fuel (listed.setIfInBounds j true) a' w') a w
theorem any_of_U : ∀ (fuel : Nat) (listed : Array Bool) (a : Act) (w : World), wpU P ops K S us fuel listed a w → wpAny P .any ops (Q0 K) fuel listed a w
 |0, _, _, _, h => ⟨h.1, rfl, h.2⟩
 |fuel + 1, _, _, _, h => ⟨fun h0 => ⟨rfl, h.1 h0⟩, fun j hj => wpOp_mono (fun a' w' hh => any_of_U fuel _ a' w' hh.2) (h.2 j hj)⟩
theorem first_U {i : Nat} {oi : Oper} {v : Value} (hi : ops[i]? = some oi) (hsel : ∀ (j : Nat) (o : Oper) cs b, ops[j]? = some o → o.op ≠ .select cs b) {T : World → Prop}
  (hnotIn : i ∉ us) (hT : (∀ w, T w) ∨ ((∀ w, S w → T w) ∧ ∃ u ∈ us, u ≠ i ∧ ∀ o, ops[u]? = some o → ∃ e ∈ o.after, Region.binds .any e = true ∧ e.on = i)) :
  ∀ (fuel : Nat) (listed : Array Bool) (a : Act) (w : World),
   (∀ j oj, ops[j]? = some oj → j ≠ i → listed.getD j true = false → (∀ e ∈ oj.after, Region.binds .any e = true → e.on ≠ i) → oi.apart ops oj = true) →
   i ∈ Region.ready .any ops listed → (∀ u ∈ us, (∀ o, ops[u]? = some o → ∃ e ∈ o.after, Region.binds .any e = true ∧ e.on = i) → listed.getD u true = false) → YieldsIf P ops T oi v a → T w → (need us (listed.setIfInBounds i true) → S w) →
   wpU P ops K S us fuel (listed.setIfInBounds i true) (a.put oi.dst v) w → wpU P ops K S us (fuel + 1) listed a w := by
 intro fuel
 induction fuel with
 |zero =>
  intro listed a w _ hr _ hy hTw hS H
  refine ⟨fun h => (by rw [h] at hr; cases hr), fun j hj => ?_⟩
  by_cases hji : j = i
  ·subst hji
   exact hy.wpOp hi hTw ⟨hS, H⟩
  ·have := ready_mono hj hji
   rw [H.1] at this
   cases this
 |succ fuel ih =>
  intro listed a w hfree hr hus hy hTw hS H
  refine ⟨fun h => (by rw [h] at hr; cases hr), fun j hj => ?_⟩
  by_cases hji : j = i
  ·subst hji
   exact hy.wpOp hi hTw ⟨hS, H⟩
  have h1 := H.2 j (ready_mono hj hji)
  obtain ⟨hjun, oj, hoj, hall⟩ := mem_ready.1 hj
  have hin := (mem_ready.1 hr).1
  have hnot : ∀ e ∈ oj.after, Region.binds .any e = true → e.on ≠ i := fun e he hb heq => by
   have h5 := hall e he hb
   rw [heq] at h5
   have : listed.getD i true = listed.getD i false := by
    unfold Array.getD
    split
    ·rfl
    ·rename_i hn
     unfold Array.getD at h5
     rw [dif_neg hn] at h5
     cases h5
   rw [this, h5] at hin
   cases hin
  have hju : ∀ u ∈ us, (∀ o, ops[u]? = some o → ∃ e ∈ o.after, Region.binds .any e = true ∧ e.on = i) → u ≠ j := fun u _ hed hju => by
   subst hju
   obtain ⟨e, he, hb, hon⟩ := hed oj hoj
   exact hnot e he hb hon
  have h2 := wpOp_putIf hoj (hfree j oj hoj hji hjun hnot) (fun cs b => hsel i oi cs b hi) (fun cs b => hsel j oj cs b hoj) (fun c a w hh => by cases hh.1) hy h1
  refine wpOp_mono (fun a' w' h3 => ?_) h2
  obtain ⟨hy3, hS3, H3⟩ := h3
  rw [← Array.setIfInBounds_comm _ _ hji] at hS3 H3
  have hus' : ∀ u ∈ us, (∀ o, ops[u]? = some o → ∃ e ∈ o.after, Region.binds .any e = true ∧ e.on = i) → (listed.setIfInBounds j true).getD u true = false := fun u hu hed => by
   rw [getD_set_ne true (Ne.symm (hju u hu hed))]
   exact hus u hu hed
  have hS' : (need us (listed.setIfInBounds j true) → S w') ∧ T w' := by
   rcases hT with hT | ⟨hST, u, hu, hui, hed⟩
   ·refine ⟨fun hn => ?_, hT w'⟩
    by_cases hn2 : need us ((listed.setIfInBounds j true).setIfInBounds i true)
    ·exact hS3 hn2
    ·obtain ⟨u, hu, hun⟩ := hn
     by_cases hui : i = u
     ·subst hui
      exact absurd hu hnotIn
     ·exact absurd ⟨u, hu, by rw [getD_set_ne true hui]; exact hun⟩ hn2
   ·have hn2 : need us ((listed.setIfInBounds j true).setIfInBounds i true) := ⟨u, hu, by rw [getD_set_ne true (Ne.symm hui)]; exact hus' u hu hed⟩
    exact ⟨fun _ => hS3 hn2, hST w' (hS3 hn2)⟩
  refine ⟨hS'.1, ih (listed.setIfInBounds j true) a' w' ?_ (ready_mono hr (Ne.symm hji)) hus' hy3 hS'.2 hS3 H3⟩
  intro k ok hk hki hun hno
  refine hfree k ok hk hki ?_ hno
  by_cases hjk : j = k
  ·subst hjk; exact hjun
  ·rwa [getD_set_ne true hjk] at hun
theorem wp_ofNoQ {o : Oper} {a : Act} {w : World} {K : Act → World → Prop} {Q : Exit → Act → World → Prop} (h : o.wp P a w K NoQ) : o.wp P a w K Q := by
 unfold Oper.wp at *
 generalize (execOp a.eval o).run P w = r at *
 cases r with
 |ok n w' =>
  cases n <;> simp only [Oper.upon] at h ⊢ <;>
   first
    |exact h
    |exact Calls.mono h (fun e w'' he => by cases e <;> first | exact he | (obtain ⟨_, _, hh⟩ := (he : LetsOut NoQ); exact hh.elim) | exact (he : False).elim)
 |halt x w' => cases x <;> simp only [Oper.upon] at h ⊢ <;> first | exact h | exact h.elim
theorem node_U {i : Nat} {o : Oper} {a : Act} {w : World} {K' : Act → World → Prop} (ho : ops[i]? = some o) (h : ∀ Q' : Exit → Act → World → Prop, (∀ a' w', K' a' w' → Q' .normal a' w') → wpList P ops Q' [o] a w) : wpOp P ops (Q0 K) i K' a w := by
 have h0 := h (fun e a w => e = .normal ∧ K' a w) (fun a w hh => ⟨rfl, hh⟩)
 have hnl : ¬ LetsOut (fun e a w => e = Exit.normal ∧ K' a w) := fun ⟨_, _, hh⟩ => by cases hh.1
 have hno : ∀ (e : Exit) (a : Act) (w : World), e ≠ .normal → ¬ (e = Exit.normal ∧ K' a w) := fun _ _ _ hn hh => hn hh.1
 unfold wpList at h0
 unfold wpOp
 simp only [ho]
 split at h0
 ·rename_i hw
  rw [if_pos hw]
  have h1 := h0.resolve_right fun hh => hnl hh.2
  have h2 := Oper.wp_mono (K' := K') (fun a w hh => by
   simp only [wpList] at hh
   exact hh.2) h1
  exact .inl (wp_ofNoQ (wp_noQ hno hnl h2))
 ·rename_i hw
  rw [if_neg hw]
  simp only [wpList] at h0
  exact h0.2
end Go.Proofs.YthojelhpipmkiaaGreatDoor.TextU
namespace Go.Proofs.YthojelhpipmkiaaGreatDoor
open Go.RowKit
structure OkU (us : List Nat) (S : World → Prop) (listed : Array Bool) (w : World) : Prop where
 out : TextU.need us listed → S w
theorem okU {us : List Nat} {S : World → Prop} {listed : Array Bool} {w : World} (h : S w) : OkU us S listed w := ⟨fun _ => h⟩
theorem okU_past {us : List Nat} {S : World → Prop} {listed : Array Bool} {w : World} (h : (us.all fun u => listed.getD u true) = true) : OkU us S listed w := ⟨fun ⟨u, hu, hn⟩ => by
 have := List.all_eq_true.1 h u hu
 rw [hn] at this
 cases this⟩
section
variable {P : Program} {ops : Array Oper} {K : Act → World → Prop} {S : World → Prop} {us : List Nat} {fuel : Nat} {listed : Array Bool} {a : Act} {w : World}
theorem wpU_start {id : Nat} {Q : Exit → Act → World → Prop} {l : List Oper} (S : World → Prop) (us : List Nat) (n : Nat) (hm : P.follows .mixedOrders = true) (hn : l.length = n) (h : Stop (TextU.wpU P l.toArray (fun a w => Q .normal a w) S us n (Array.replicate n false) a w.drew)) : (Code.region id l.toArray true).wp P Q a w := by
 subst hn
 refine Code.wp_mono (Q := TextU.Q0 fun a w => Q .normal a w) ?_ (wp_region_any hm ?_)
 ·rintro e a w ⟨rfl, h⟩
  exact h
 ·have := TextU.any_of_U _ _ _ _ h.out
  simpa using this
theorem wpU_pure {i : Nat} {oi : Oper} {v : Value} (hi : ops[i]? = some oi) (hs : Region.noSelect ops = true) (hf : Region.free .any ops listed i = true) (hr : (Region.ready .any ops listed).contains i = true) (hni : us.contains i = false) (hun : (us.all fun u => !listed.getD u true) = true)
  (hw : Region.wanted oi (yielded ops a.tmps) = true) (hy : ∀ w, (execOp a.eval oi).run P w = .ok (.value v) w) (hS : S w) (h : Stop (TextU.wpU P ops K S us fuel (listed.setIfInBounds i true) (a.put oi.dst v) w)) : Stop (TextU.wpU P ops K S us (fuel + 1) listed a w) :=
 ⟨TextU.first_U hi (Region.noSelect_spec hs) (by simpa using hni) (T := fun _ => True) (.inl fun _ => trivial) fuel listed a w (Region.free_spec hi hf) (by simpa using hr) (fun u hu _ => by have := List.all_eq_true.1 hun u hu; simpa using this) (.inl ⟨hw, fun w _ => hy w⟩) trivial (fun _ => hS) h.out⟩
theorem wpU_load {i : Nat} {oi : Oper} {v : Value} (hi : ops[i]? = some oi) (hs : Region.noSelect ops = true) (hf : Region.free .any ops listed i = true) (hr : (Region.ready .any ops listed).contains i = true) (hni : us.contains i = false) (hun : (us.all fun u => !listed.getD u true) = true)
  (hed : (us.any fun u => match ops[u]? with | some o => o.after.any (fun e => Region.binds .any e && e.on == i) | none => false) = true)
  (hw : Region.wanted oi (yielded ops a.tmps) = true) (hy : ∀ w, S w → (execOp a.eval oi).run P w = .ok (.value v) w) (hS : S w) (h : Stop (TextU.wpU P ops K S us fuel (listed.setIfInBounds i true) (a.put oi.dst v) w)) : Stop (TextU.wpU P ops K S us (fuel + 1) listed a w) :=
 ⟨TextU.first_U hi (Region.noSelect_spec hs) (by simpa using hni) (T := S) (.inr ⟨fun _ h => h, by
  obtain ⟨u, hu, h1⟩ := List.any_eq_true.1 hed
  refine ⟨u, hu, fun e => ?_, fun o ho => ?_⟩
  ·rw [← e] at hni
   simp [hu] at hni
  ·simp only [ho] at h1
   obtain ⟨e, he, h2⟩ := Array.any_eq_true'.1 h1
   rw [Bool.and_eq_true, beq_iff_eq] at h2
   exact ⟨e, he, h2.1, h2.2⟩⟩) fuel listed a w (Region.free_spec hi hf) (by simpa using hr) (fun u hu _ => by have := List.all_eq_true.1 hun u hu; simpa using this) (.inl ⟨hw, hy⟩) hS (fun _ => hS) h.out⟩
theorem wpU_one {i : Nat} {o : Oper} (hr : Region.ready .any ops listed = [i]) (ho : ops[i]? = some o)
  (h : ∀ Q' : Exit → Act → World → Prop, (∀ a' w', OkU us S (listed.setIfInBounds i true) w' ∧ Stop (TextU.wpU P ops K S us fuel (listed.setIfInBounds i true) a' w') → Q' .normal a' w') → wpList P ops Q' [o] a w) : Stop (TextU.wpU P ops K S us (fuel + 1) listed a w) :=
 ⟨(fun h0 => by rw [hr] at h0; cases h0), fun j hj => by
  rw [hr, List.mem_singleton] at hj
  subst hj
  exact TextU.node_U ho fun Q' hQ' => h Q' fun a w hh => hQ' a w ⟨hh.1.out, hh.2.out⟩⟩
theorem wpU_two {i j : Nat} {o p : Oper} (hr : Region.ready .any ops listed = [i, j]) (ho : ops[i]? = some o) (hp : ops[j]? = some p)
  (h : ∀ Q' : Exit → Act → World → Prop, (∀ a' w', OkU us S (listed.setIfInBounds i true) w' ∧ Stop (TextU.wpU P ops K S us fuel (listed.setIfInBounds i true) a' w') → Q' .normal a' w') → wpList P ops Q' [o] a w)
  (k : ∀ Q' : Exit → Act → World → Prop, (∀ a' w', OkU us S (listed.setIfInBounds j true) w' ∧ Stop (TextU.wpU P ops K S us fuel (listed.setIfInBounds j true) a' w') → Q' .normal a' w') → wpList P ops Q' [p] a w) : Stop (TextU.wpU P ops K S us (fuel + 1) listed a w) :=
 ⟨(fun h0 => by rw [hr] at h0; cases h0), fun l hl => by
  rw [hr] at hl
  rcases List.mem_cons.1 hl with rfl | hl
  ·exact TextU.node_U ho fun Q' hQ' => h Q' fun a w hh => hQ' a w ⟨hh.1.out, hh.2.out⟩
  ·rw [List.mem_singleton] at hl
   subst hl
   exact TextU.node_U hp fun Q' hQ' => k Q' fun a w hh => hQ' a w ⟨hh.1.out, hh.2.out⟩⟩
theorem wpU_end (hr : Region.ready .any ops listed = []) (h : K a w) : ∀ fuel, Stop (TextU.wpU P ops K S us fuel listed a w)
 |0 => ⟨hr, h⟩
 |_ + 1 => ⟨fun _ => h, fun j hj => by rw [hr] at hj; cases hj⟩
end
end Go.Proofs.YthojelhpipmkiaaGreatDoor
