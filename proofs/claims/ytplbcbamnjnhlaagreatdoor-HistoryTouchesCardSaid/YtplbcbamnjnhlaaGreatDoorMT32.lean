/- Texts of this proof joined: Comm, BookInt. -/
import Derived.Test.YtplbcbamnjnhlaaGreatDoorMT00
import Derived.Test.YtplbcbamnjnhlaaGreatDoorMT10
import Derived.Test.YtplbcbamnjnhlaaGreatDoorMT20
import Derived.Test.YtplbcbamnjnhlaaGreatDoorMT05
set_option maxRecDepth 100000
set_option maxHeartbeats 40000000
namespace Go.Proofs.YtplbcbamnjnhlaaGreatDoor.TextC
open Go Go.RowKit Go.Proofs.YtplbcbamnjnhlaaGreatDoor.Text Go.Proofs.YtplbcbamnjnhlaaGreatDoor.TextI
variable {P : Program} {ops : Array Oper} {I : World → Prop} {T : World → World}

structure Turns (I : World → Prop) (T : World → World) : Prop where
 keep : ∀ w, I w → I (T w)
 twice : ∀ w, I w → T (T w) = T w
def Yn (n : Next) (v : Value) : Prop := n = .value v ∨ n = .skip ∧ v = undef
def stC (P : Program) (ops : Array Oper) (I : World → Prop) (T : World → World) (c : Nat) (o : Oper) (K : Act → World → Prop) (a : Act) (w : World) : Prop :=
 if c ≤ 1 then ∃ v, Yc P ops I c o v a ∧ K (a.put o.dst v) w
 else if c = 3 then ∃ n v w1, Yn n v ∧ (execOp a.eval o).run P w = .ok n w1 ∧ (execOp a.eval o).run P (T w) = .ok n (T w1) ∧ I w1 ∧ K (a.put o.dst v) w1
 else ∃ n v, Yn n v ∧ (∀ w', I w' → (execOp a.eval o).run P w' = .ok n (T w')) ∧ K (a.put o.dst v) (T w)
theorem qei (hT : Turns I T) {c : Nat} {o : Oper} {K K' : Act → World → Prop} {a : Act} {w : World} (hw : I w) (h : ∀ a w, I w → K a w → K' a w) (hh : stC P ops I T c o K a w) : stC P ops I T c o K' a w := by
 unfold stC at *
 split at hh
 ·rename_i hc; rw [if_pos hc]; obtain ⟨v, h1, h2⟩ := hh; exact ⟨v, h1, h _ _ hw h2⟩
 ·rename_i hc
  rw [if_neg hc]
  split at hh
  ·rename_i h3; rw [if_pos h3]; obtain ⟨n, v, w1, hn, h1, h2, h4, h5⟩ := hh; exact ⟨n, v, w1, hn, h1, h2, h4, h _ _ h4 h5⟩
  ·rename_i h3; rw [if_neg h3]; obtain ⟨n, v, hn, h1, h2⟩ := hh; exact ⟨n, v, hn, h1, h _ _ (hT.keep _ hw) h2⟩
theorem stC_some (hT : Turns I T) {c : Nat} {o : Oper} {K : Act → World → Prop} {a : Act} {w : World} (hw : I w) (hh : stC P ops I T c o K a w) : ∃ a' w', Same a a' o.dst ∧ I w' ∧ K a' w' := by
 unfold stC at hh
 split at hh
 ·obtain ⟨v, _, h⟩ := hh; exact ⟨_, _, bm _ _ _, hw, h⟩
 ·split at hh
  ·obtain ⟨n, v, w1, _, _, _, h4, h5⟩ := hh; exact ⟨_, _, bm _ _ _, h4, h5⟩
  ·obtain ⟨n, v, _, _, h⟩ := hh; exact ⟨_, _, bm _ _ _, hT.keep _ hw, h⟩
theorem tj {o : Oper} {a : Act} {d : Option Tmp} {v : Value} (hsel : ∀ cs b, o.op ≠ .select cs b) (h1 : ∀ t, d = some t → t ∉ o.looksAt ops) : execOp (a.put d v).eval o = execOp a.eval o :=
 (execOp_put (ops := ops) o hsel a d v h1).trans rfl
theorem stC_put (hT : Turns I T) {c : Nat} {o : Oper} {K K' : Act → World → Prop} {a : Act} {w : World} {dst : Option Tmp} {v : Value} (hw : I w)
  (hsel : ∀ cs b, o.op ≠ .select cs b) (h1 : ∀ d, dst = some d → d ∉ o.looksAt ops) (h2 : ∀ d, dst = some d → o.dst ≠ some d)
  (hK : ∀ a' w', Same a a' o.dst → I w' → K a' w' → K' (a'.put dst v) w') (hh : stC P ops I T c o K a w) : stC P ops I T c o K' (a.put dst v) w := by
 unfold stC at *
 split at hh
 ·rename_i hc
  rw [if_pos hc]
  obtain ⟨u, hy, h⟩ := hh
  refine ⟨u, (TextI.yc_keep hsel h1 (bm a dst v)).1 hy, ?_⟩
  rw [Act.put_comm a v u h2]
  exact hK _ _ (bm _ _ _) hw h
 ·rename_i hc
  rw [if_neg hc]
  simp only [tj (a := a) (v := v) hsel h1]
  split at hh
  ·rename_i h3
   rw [if_pos h3]
   obtain ⟨n, u, w1, hn, e1, e2, e3, h⟩ := hh
   refine ⟨n, u, w1, hn, e1, e2, e3, ?_⟩
   rw [Act.put_comm a v u h2]
   exact hK _ _ (bm _ _ _) e3 h
  ·rename_i h3
   rw [if_neg h3]
   obtain ⟨n, u, hn, e1, h⟩ := hh
   refine ⟨n, u, hn, e1, ?_⟩
   rw [Act.put_comm a v u h2]
   exact hK _ _ (bm _ _ _) (hT.keep _ hw) h
theorem qsv (hT : Turns I T) {c : Nat} {o : Oper} {K K' : Act → World → Prop} {a : Act} {w : World} {dst : Option Tmp} {v : Value} (hw : I w)
  (hsel : ∀ cs b, o.op ≠ .select cs b) (h1 : ∀ d, dst = some d → d ∉ o.looksAt ops) (h2 : ∀ d, dst = some d → o.dst ≠ some d)
  (hK : ∀ a' w', Same a a' o.dst → I w' → K (a'.put dst v) w' → K' a' w') (hh : stC P ops I T c o K (a.put dst v) w) : stC P ops I T c o K' a w := by
 unfold stC at *
 split at hh
 ·rename_i hc
  rw [if_pos hc]
  obtain ⟨u, hy, h⟩ := hh
  refine ⟨u, (TextI.yc_keep hsel h1 (bm a dst v)).2 hy, ?_⟩
  rw [Act.put_comm a v u h2] at h
  exact hK _ _ (bm _ _ _) hw h
 ·rename_i hc
  rw [if_neg hc]
  simp only [tj (a := a) (v := v) hsel h1] at hh
  split at hh
  ·rename_i h3
   rw [if_pos h3]
   obtain ⟨n, u, w1, hn, e1, e2, e3, h⟩ := hh
   refine ⟨n, u, w1, hn, e1, e2, e3, ?_⟩
   rw [Act.put_comm a v u h2] at h
   exact hK _ _ (bm _ _ _) e3 h
  ·rename_i h3
   rw [if_neg h3]
   obtain ⟨n, u, hn, e1, h⟩ := hh
   refine ⟨n, u, hn, e1, ?_⟩
   rw [Act.put_comm a v u h2] at h
   exact hK _ _ (bm _ _ _) (hT.keep _ hw) h
theorem swapC (hT : Turns I T) {cx cy : Nat} {x y : Oper} {K : Act → World → Prop} {a : Act} {w : World} (hw : I w) (hsx : ∀ cs b, x.op ≠ .select cs b) (hsy : ∀ cs b, y.op ≠ .select cs b)
  (hap : x.apart ops y = true) (hc : cx ≤ 1 ∨ cy ≤ 1 ∨ cx = 3 ∧ cy = 4) (h : stC P ops I T cx x (stC P ops I T cy y K) a w) : stC P ops I T cy y (stC P ops I T cx x K) a w := by
 obtain ⟨p1, p2, p3⟩ := Oper.apart_spec hap
 have p2' : ∀ d, y.dst = some d → x.dst ≠ some d := fun d hd hx => p2 d hx hd
 rcases hc with hx | hy | ⟨rfl, rfl⟩
 ·have h' := h
  unfold stC at h'
  rw [if_pos hx] at h'
  obtain ⟨v, hv, h2⟩ := h'
  refine qsv hT hw hsy p1 p2 (fun a' w' hs _ hk => ?_) h2
  unfold stC
  rw [if_pos hx]
  exact ⟨v, (TextI.yc_keep hsx p3 hs).1 hv, hk⟩
 ·obtain ⟨a1, w1, hs, _, hst⟩ := stC_some hT hw h
  unfold stC at hst
  rw [if_pos hy] at hst
  obtain ⟨v, hv, _⟩ := hst
  have hv0 := (TextI.yc_keep hsy p1 hs).2 hv
  have goal : stC P ops I T cx x K (a.put y.dst v) w := stC_put hT hw hsx p3 p2' (fun a' w' hs' _ hk => by
   unfold stC at hk
   rw [if_pos hy] at hk
   obtain ⟨v', hv', hk⟩ := hk
   have := TextI.yc_one hw hv' ((TextI.yc_keep hsy p1 hs').1 hv0)
   subst this
   exact hk) h
  unfold stC
  rw [if_pos hy]
  exact ⟨v, hv0, goal⟩
 ·unfold stC at h ⊢
  rw [if_neg (by omega), if_pos rfl] at h
  rw [if_neg (by omega), if_neg (by omega)]
  obtain ⟨n, v, w1, hn, e1, e2, e3, h2⟩ := h
  rw [if_neg (by omega), if_neg (by omega)] at h2
  obtain ⟨m, u, hm, e4, h5⟩ := h2
  simp only [tj (a := a) (v := v) hsy p1] at e4
  refine ⟨m, u, hm, e4, ?_⟩
  rw [if_neg (by omega), if_pos rfl]
  refine ⟨n, v, T w1, hn, ?_, ?_, hT.keep _ e3, ?_⟩
  ·rw [tj hsx p3]; exact e2
  ·rw [tj hsx p3, hT.twice _ hw, hT.twice _ e3]; exact e2
  ·rw [Act.put_comm a u v p2']; exact h5

def wpC (P : Program) (ops : Array Oper) (I : World → Prop) (T : World → World) (cl : Nat → Nat) (Q : Act → World → Prop) : List Nat → Act → World → Prop
 |[], a, w => Q a w
 |i :: r, a, w => match ops[i]? with
  |none => wpC P ops I T cl Q r a w
  |some o => stC P ops I T (cl i) o (wpC P ops I T cl Q r) a w
def qdu (ops : Array Oper) (cl : Nat → Nat) (i j : Nat) : Bool :=
 match ops[i]?, ops[j]? with
 |some x, some y => x.apart ops y && (decide (cl i ≤ 1) || decide (cl j ≤ 1) || decide (cl i = 3 ∧ cl j = 4))
 |_, _ => true
theorem frontC (hT : Turns I T) {cl : Nat → Nat} {Q : Act → World → Prop} (hsel : Region.noSelect ops = true) (i : Nat) (l2 : List Nat) : ∀ (l1 : List Nat) (a : Act) (w : World), I w → (∀ x ∈ l1, qdu ops cl x i = true) →
  wpC P ops I T cl Q (l1 ++ i :: l2) a w → wpC P ops I T cl Q (i :: (l1 ++ l2)) a w
 |[], _, _, _, _, h => h
 |x :: l1, a, w, hw, hc, h => by
  have hx := hc x (by simp)
  have ih := fun a w hw => frontC hT (cl := cl) (Q := Q) hsel i l2 l1 a w hw (fun y hy => hc y (by simp [hy]))
  cases hox : ops[x]? with
  |none =>
   have h' : wpC P ops I T cl Q (l1 ++ i :: l2) a w := by simpa [wpC, hox] using h
   have := ih a w hw h'
   unfold wpC at this ⊢
   split at this
   ·simpa [wpC, hox] using this
   ·exact qei hT hw (fun a w _ hh => by simpa [wpC, hox] using hh) this
  |some ox =>
   have h1 : stC P ops I T (cl x) ox (wpC P ops I T cl Q (l1 ++ i :: l2)) a w := by simpa [wpC, hox] using h
   have h2 := qei hT hw ih h1
   cases hoi : ops[i]? with
   |none => simpa [wpC, hox, hoi] using h2
   |some oi =>
    simp only [qdu, hox, hoi, Bool.and_eq_true, Bool.or_eq_true, decide_eq_true_eq] at hx
    have h3 : stC P ops I T (cl x) ox (stC P ops I T (cl i) oi (wpC P ops I T cl Q (l1 ++ l2))) a w := by simpa [wpC, hoi] using h2
    have h4 := swapC hT hw (fun cs b => Region.noSelect_spec hsel x ox cs b hox) (fun cs b => Region.noSelect_spec hsel i oi cs b hoi) hx.1 (by rcases hx.2 with (h | h) | h; exact .inl h; exact .inr (.inl h); exact .inr (.inr h)) h3
    have h5 : stC P ops I T (cl i) oi (wpC P ops I T cl Q (x :: (l1 ++ l2))) a w := qei hT hw (fun a w _ hh => by simpa [wpC, hox] using hh) h4
    simpa [wpC, hoi] using h5
def qng (ops : Array Oper) (cl : Nat → Nat) : Bool := (List.range ops.size).all fun i => decide (cl i ≤ 1) || ((decide (cl i = 3) || decide (cl i = 4)) && match ops[i]? with | some o => o.guard.isNone | none => true)
theorem qgo {cl : Nat → Nat} (h : qng ops cl = true) {i : Nat} {o : Oper} (ho : ops[i]? = some o) : cl i ≤ 1 ∨ (cl i = 3 ∨ cl i = 4) ∧ ∀ y, Region.wanted o y = true := by
 have hlt : i < ops.size := (gl ho)
 have h1 := List.all_eq_true.1 h i (List.mem_range.2 hlt)
 simp only [ho, Bool.or_eq_true, Bool.and_eq_true, decide_eq_true_eq, Option.isNone_iff_eq_none] at h1
 rcases h1 with h1 | ⟨h1, h2⟩
 ·exact .inl h1
 ·exact .inr ⟨h1, fun y => by simp [Region.wanted, h2]⟩
theorem qkn (hT : Turns I T) {i : Nat} {cl : Nat → Nat} {o : Oper} {K : Act → World → Prop} {Q : Exit → Act → World → Prop} {a : Act} {w : World} (hb : qng ops cl = true) (ho : ops[i]? = some o) (hw : I w)
  (h : stC P ops I T (cl i) o K a w) : wpOp P ops Q i (fun a' w' => I w' ∧ K a' w') a w := by
 unfold wpOp
 simp only [ho]
 unfold stC at h
 split at h
 ·rename_i hc
  obtain ⟨v, hy, hk⟩ := h
  unfold TextI.Yc at hy
  split at hy
  ·rcases hy with ⟨hwn, hv⟩ | ⟨hwn, rfl⟩
   ·rw [if_pos hwn]; left; unfold Oper.wp; rw [hv w]; exact ⟨hw, hk⟩
   ·rw [if_neg (by simp [hwn])]; exact ⟨hw, hk⟩
  ·rcases hy with ⟨hwn, hv⟩ | ⟨hwn, rfl⟩
   ·rw [if_pos hwn]; left; unfold Oper.wp; rw [hv w hw]; exact ⟨hw, hk⟩
   ·rw [if_neg (by simp [hwn])]; exact ⟨hw, hk⟩
 ·rename_i hc
  have hbs := (qgo hb ho).resolve_left hc
  rw [if_pos (hbs.2 _)]
  left
  unfold Oper.wp
  split at h
  ·obtain ⟨n, v, w1, hn, e1, _, e3, hk⟩ := h
   rw [e1]
   rcases hn with rfl | ⟨rfl, rfl⟩ <;> exact ⟨e3, hk⟩
  ·obtain ⟨n, v, hn, e1, hk⟩ := h
   rw [e1 w hw]
   rcases hn with rfl | ⟨rfl, rfl⟩ <;> exact ⟨hT.keep _ hw, hk⟩
def qol (ops : Array Oper) (cl : Nat → Nat) : Bool :=
 let m := qag ops.toList []
 (List.range ops.size).all fun i => (List.range i).all fun x => (m.getD i 0).testBit x || qdu ops cl x i
theorem qlp {cl : Nat → Nat} (h : qol ops cl = true) {i x : Nat} (hi : i < ops.size) (hx : x < i) : Dep ops i x ∨ qdu ops cl x i = true := by
 have h1 := List.all_eq_true.1 h i (List.mem_range.2 hi)
 have h2 := List.all_eq_true.1 h1 x (List.mem_range.2 hx)
 rw [Bool.or_eq_true] at h2
 rcases h2 with h2 | h2
 ·exact .inl (mq ops.toList [] (by simp) (fun i x hi => absurd hi (by simp)) i x h2)
 ·exact .inr h2
theorem any_of_C (hT : Turns I T) {cl : Nat → Nat} {Q : Exit → Act → World → Prop} (hsel : Region.noSelect ops = true) (hback : ny ops = true) (hp : qol ops cl = true) (hbare : qng ops cl = true) :
  ∀ (rem : List Nat) (listed : Array Bool) (a : Act) (w : World), listed.size = ops.size → rem.Pairwise (· < ·) → (∀ j, j ∈ rem ↔ j < ops.size ∧ listed.getD j false = false) → zp ops listed →
   I w →
   wpC P ops I T cl (fun a w => Q .normal a w) rem a w → wpAny P .any ops Q rem.length listed a w := by
 intro rem
 induction hn : rem.length generalizing rem with
 |zero =>
  intro listed a w hs _ hm _ _ h
  have he : rem = [] := List.eq_nil_of_length_eq_zero hn
  subst he
  refine ⟨?_, h⟩
  apply List.eq_nil_iff_forall_not_mem.2
  intro j hj
  obtain ⟨h0, o, ho, _⟩ := mem_ready.1 hj
  have hlt : j < ops.size := (gl ho)
  rw [fe hs hlt] at h0
  exact absurd ((hm j).2 ⟨hlt, h0⟩) (by simp)
 |succ n ih =>
  intro listed a w hs hpw hm hc hinv h
  have hready : Region.ready .any ops listed ≠ [] := by
   cases hr : rem with
   |nil => rw [hr] at hn; cases hn
   |cons i0 r =>
    have hi0 := (hm i0).1 (by rw [hr]; simp)
    intro hnil
    have hmem : i0 ∈ Region.ready .any ops listed := by
     refine mem_ready.2 ⟨by rw [fe hs hi0.1]; exact hi0.2, ops[i0], Array.getElem?_eq_getElem hi0.1, fun e he hb => ?_⟩
     have h1 := List.all_eq_true.1 hback i0 (List.mem_range.2 hi0.1)
     simp only [Array.getElem?_eq_getElem hi0.1] at h1
     have h2 := Array.all_eq_true_iff_forall_mem.1 h1 e he
     simp only [hb, Bool.not_true, Bool.false_or, decide_eq_true_eq] at h2
     rcases Bool.eq_false_or_eq_true (listed.getD e.on false) with h3 | h3
     ·exact h3
     ·have h4 := (hm e.on).2 ⟨by omega, h3⟩
      rw [hr] at h4 hpw
      rcases List.mem_cons.1 h4 with h5 | h5
      ·omega
      ·have := (List.pairwise_cons.1 hpw).1 _ h5; omega
    rw [hnil] at hmem
    cases hmem
  refine ⟨fun h0 => absurd h0 hready, fun i hi => ?_⟩
  obtain ⟨h0, o, ho, hall⟩ := mem_ready.1 hi
  have hlt : i < ops.size := (gl ho)
  rw [fe hs hlt] at h0
  have hir : i ∈ rem := (hm i).2 ⟨hlt, h0⟩
  obtain ⟨l1, l2, hl⟩ := List.append_of_mem hir
  subst hl
  rw [List.pairwise_append] at hpw
  obtain ⟨pw1, pw2, pw3⟩ := hpw
  have pw2' := List.pairwise_cons.1 pw2
  have hf := frontC hT hsel i l2 l1 a w hinv (fun x hx => by
   have hxi : x < i := pw3 x hx i (by simp)
   rcases qlp hp hlt hxi with hd | hcp
   ·have := jd hc hd (fun o' ho' e he hb => by rw [ho] at ho'; injection ho' with e2; subst e2; exact hall e he hb)
    have h2 := ((hm x).1 (by simp [hx])).2
    rw [this] at h2
    cases h2
   ·exact hcp) h
  have hst : stC P ops I T (cl i) o (wpC P ops I T cl (fun a w => Q .normal a w) (l1 ++ l2)) a w := by simpa [wpC, ho] using hf
  refine wpOp_mono (fun a' w' hh => ?_) (qkn hT (Q := Q) hbare ho hinv hst)
  have hlen : (l1 ++ l2).length = n := by simp at hn ⊢; omega
  refine ih (l1 ++ l2) hlen (listed.setIfInBounds i true) a' w' (by simpa using hs) ?_ (fun j => ?_) ?_ ?_ hh.2
  ·rw [List.pairwise_append]
   exact ⟨pw1, pw2'.2, fun x hx y hy => pw3 x hx y (by simp [hy])⟩
  ·by_cases hji : j = i
   ·subst hji
    constructor
    ·intro hj
     rcases List.mem_append.1 hj with h5 | h5
     ·have := pw3 j h5 j (by simp); omega
     ·have := pw2'.1 j h5; omega
    ·intro ⟨_, h5⟩
     have : j < listed.size := by omega
     simp [this] at h5
   ·rw [getD_set_ne false (Ne.symm hji), ← hm j]
    simp [hji]
  ·intro j oj hoj hj e he hb
   by_cases hji : j = i
   ·subst hji
    rw [ho] at hoj
    injection hoj with e2
    subst e2
    exact getD_set_true (hall e he hb)
   ·rw [getD_set_ne false (Ne.symm hji)] at hj
    exact getD_set_true (hc j oj hoj hj e he hb)
  ·exact hh.1

def wpSc (P : Program) (ops : Array Oper) (I : World → Prop) (T : World → World) (G BL : List Nat) (f : Nat) (Q : Act → World → Prop) : Nat → List Oper → Act → World → Prop
 |_, [], a, w => Q a w
 |k, o :: r, a, w =>
  if k = f then ∃ n v, Yn n v ∧ (∀ w', I w' → (execOp a.eval o).run P w' = .ok n (T w')) ∧ wpSc P ops I T G BL f Q (k + 1) r (a.put o.dst v) (T w)
  else if G.contains k then ∃ n v w1, Yn n v ∧ (execOp a.eval o).run P w = .ok n w1 ∧ (execOp a.eval o).run P (T w) = .ok n (T w1) ∧ I w1 ∧ wpSc P ops I T G BL f Q (k + 1) r (a.put o.dst v) w1
  else if BL.contains k then ∃ v, Region.wanted o (yielded ops a.tmps) = true ∧ (∀ w', I w' → (execOp a.eval o).run P w' = .ok (.value v) w') ∧ wpSc P ops I T G BL f Q (k + 1) r (a.put o.dst v) w
  else if Region.wanted o (yielded ops a.tmps) = true then o.wp P a w (fun a' w' => wpSc P ops I T G BL f Q (k + 1) r a' w') NoQ
  else wpSc P ops I T G BL f Q (k + 1) r (a.put o.dst undef) w
theorem wpSc_seg {G BL : List Nat} {f : Nat} {Q : Act → World → Prop} : ∀ (n k : Nat) (l : List Oper) (a : Act) (w : World), (List.range' k n).all (fun i => !G.contains i && !BL.contains i && i != f) = true →
  (∀ Q' : Exit → Act → World → Prop, (∀ a w, wpSc P ops I T G BL f Q (k + n) (l.drop n) a w → Q' .normal a w) → wpList P ops Q' (l.take n) a w) → wpSc P ops I T G BL f Q k l a w
 |0, k, l, a, w, _, h => by
  have := h (fun e a w => e = .normal ∧ wpSc P ops I T G BL f Q k l a w) (fun a w hh => ⟨rfl, by simpa using hh⟩)
  simpa [wpList] using this
 |n + 1, k, [], a, w, _, h => by
  have := h (fun e a w => e = .normal ∧ Q a w) (fun a w hh => ⟨rfl, by simpa [wpSc] using hh⟩)
  simpa [wpList, wpSc] using this
 |n + 1, k, o :: r, a, w, hG, h => by
  rw [List.range'_succ, List.all_cons, Bool.and_eq_true, Bool.and_eq_true, Bool.and_eq_true] at hG
  have hk : ¬ G.contains k = true := by simpa using hG.1.1.1
  have hkb : ¬ BL.contains k = true := by simpa using hG.1.1.2
  have hkf : ¬ k = f := by simpa using hG.1.2
  have h0 := h (fun e a w => e = .normal ∧ wpSc P ops I T G BL f Q (k + (n + 1)) ((o :: r).drop (n + 1)) a w) (fun a w hh => ⟨rfl, hh⟩)
  have hnl : ¬ LetsOut (fun e a w => e = Exit.normal ∧ wpSc P ops I T G BL f Q (k + (n + 1)) ((o :: r).drop (n + 1)) a w) := fun ⟨_, _, hh⟩ => by cases hh.1
  have hno : ∀ (e : Exit) (a : Act) (w : World), e ≠ .normal → ¬ (e = Exit.normal ∧ wpSc P ops I T G BL f Q (k + (n + 1)) ((o :: r).drop (n + 1)) a w) := fun _ _ _ hn hh => hn hh.1
  have ih : ∀ a w, wpList P ops (fun e a w => e = .normal ∧ wpSc P ops I T G BL f Q (k + (n + 1)) ((o :: r).drop (n + 1)) a w) (r.take n) a w → wpSc P ops I T G BL f Q (k + 1) r a w := fun a w hl =>
   wpSc_seg n (k + 1) r a w hG.2 fun Q' hQ' => by
    refine wpList_mono' (fun e a w hh => ?_) _ _ _ hl
    obtain ⟨rfl, hh⟩ := hh
    exact hQ' _ _ (by simpa [Nat.add_assoc, Nat.add_comm 1 n] using hh)
  rw [List.take_succ_cons] at h0
  unfold wpList at h0
  unfold wpSc
  rw [if_neg hkf, if_neg hk, if_neg hkb]
  split at h0
  ·rename_i hw
   rw [if_pos hw]
   have h1 := h0.resolve_right fun hh => hnl hh.2
   have h2 := Oper.wp_mono (K' := fun a' w' => wpSc P ops I T G BL f Q (k + 1) r a' w') (fun a w hh => ih a w hh) h1
   exact wp_noQ hno hnl h2
  ·rename_i hw
   rw [if_neg hw]
   exact ih _ _ h0
theorem qqy {G BL LD ex : List Nat} {f : Nat} {Q : Act → World → Prop} : ∀ (l : List Oper) (k : Nat) (a : Act) (w : World), (∀ j, l[j]? = ops[k + j]?) →
  wpSc P ops I T G BL f (fun a w => chk ops ex a = true ∧ oldAll P ops I a LD ∧ Q a w) k l a w → ∃ a', chk ops ex a' = true ∧ oldAll P ops I a' LD ∧ uz ops (List.range' k l.length) a a'
 |[], k, a, w, _, h => ⟨a, h.1, h.2.1, fun _ _ => rfl⟩
 |o :: r, k, a, w, hl, h => by
  have ho : ops[k]? = some o := by simpa using (hl 0).symm
  have hl' : ∀ j, r[j]? = ops[k + 1 + j]? := fun j => by have := hl (j + 1); simpa [Nat.add_assoc, Nat.add_comm 1 j] using this
  unfold wpSc at h
  have hn : ∃ a1 w1, Same a a1 o.dst ∧ wpSc P ops I T G BL f (fun a w => chk ops ex a = true ∧ oldAll P ops I a LD ∧ Q a w) (k + 1) r a1 w1 := by
   split at h
   ·obtain ⟨n, v, _, _, hk⟩ := h; exact ⟨_, _, bm _ _ _, hk⟩
   ·split at h
    ·obtain ⟨n, v, w1, _, _, _, _, hk⟩ := h; exact ⟨_, _, bm _ _ _, hk⟩
    ·split at h
     ·obtain ⟨v, _, _, hk⟩ := h; exact ⟨_, _, bm _ _ _, hk⟩
     ·split at h
      ·obtain ⟨a1, w1, hs, hk⟩ := lw ry h
       exact ⟨a1, w1, hs, hk⟩
      ·exact ⟨_, _, bm _ _ _, h⟩
  obtain ⟨a1, w1, hs, h1⟩ := hn
  obtain ⟨a', h2, h3, h4⟩ := qqy r (k + 1) a1 w1 hl' h1
  refine ⟨a', h2, h3, fun t ht => (h4 t fun j hj => ht j ?_).trans (su hs (ht k ?_ o ho))⟩
  ·rw [List.length_cons, List.range'_succ]; simp [hj]
  ·rw [List.length_cons, List.range'_succ]; simp
def clC (P : Program) (ops : Array Oper) (G BL LD ex : List Nat) (f i : Nat) : Nat := if i = f then 4 else if G.contains i then 3 else if BL.contains i then 1 else clG P ops G LD ex i
theorem list_C (hT : Turns I T) {G BL LD ex : List Nat} {f : Nat} {Q : Act → World → Prop} (hbare : qng ops (clC P ops G BL LD ex f) = true) : ∀ (l : List Oper) (k : Nat) (a : Act) (w : World), (∀ j, l[j]? = ops[k + j]?) → k + l.length = ops.size →
  I w →
  wpSc P ops I T G BL f (fun a w => chk ops ex a = true ∧ oldAll P ops I a LD ∧ Q a w) k l a w → wpC P ops I T (clC P ops G BL LD ex f) Q (List.range' k l.length) a w
 |[], k, a, w, _, _, _, h => h.2.2
 |o :: r, k, a, w, hl, hsz, hinv, h => by
  have ho : ops[k]? = some o := by simpa using (hl 0).symm
  have hlt : k < ops.size := (gl ho)
  have hl' : ∀ j, r[j]? = ops[k + 1 + j]? := fun j => by have := hl (j + 1); simpa [Nat.add_assoc, Nat.add_comm 1 j] using this
  have hsz' : k + 1 + r.length = ops.size := by simp at hsz; omega
  obtain ⟨a', hchk, hold, hoff⟩ := qqy (o :: r) k a w hl h
  have ih : ∀ a w, I w → wpSc P ops I T G BL f (fun a w => chk ops ex a = true ∧ oldAll P ops I a LD ∧ Q a w) (k + 1) r a w → wpC P ops I T (clC P ops G BL LD ex f) Q (List.range' (k + 1) r.length) a w := fun a w hw => list_C hT hbare r (k + 1) a w hl' hsz' hw
  rw [List.length_cons, List.range'_succ]
  unfold wpC
  simp only [ho]
  unfold wpSc at h
  -- what is known of the operands at the end holds here
  have hstab : ft ops k o = true → (∀ t ∈ o.looksAt ops, a'.tmps[t]? = a.tmps[t]?) := by
   intro hst t ht
   refine hoff t fun j hj oj hoj => ?_
   have h5 := List.all_eq_true.1 hst t ht
   have hjr : k ≤ j ∧ j < ops.size := by have := List.mem_range'_1.1 hj; omega
   have h6 := List.all_eq_true.1 h5 j (List.mem_range.2 hjr.2)
   simp only [hoj, Bool.or_eq_true, decide_eq_true_eq, bne_iff_ne] at h6
   rcases h6 with h6 | h6
   ·omega
   ·exact h6
  have hops : (∀ t ∈ o.looksAt ops, a'.tmps[t]? = a.tmps[t]?) → ∀ x ∈ o.op.operands, a'.eval x = a.eval x := fun hlook x hx =>
   wt fun t hxt => hlook t (List.mem_append_left _ (List.mem_filterMap.2 ⟨x, by simpa using hx, by rw [hxt]⟩))
  have hwant : (∀ t ∈ o.looksAt ops, a'.tmps[t]? = a.tmps[t]?) → Region.wanted o (yielded ops a'.tmps) = Region.wanted o (yielded ops a.tmps) := by
   intro hlook
   unfold Region.wanted
   cases hg : o.guard with
   |none => rfl
   |some gw =>
    obtain ⟨g, want⟩ := gw
    have hy : yielded ops a'.tmps g = yielded ops a.tmps g := by
     unfold yielded
     cases hb : (ops[g]?).bind (·.dst) with
     |none => rfl
     |some t =>
      have := hlook t (List.mem_append_right _ (by simp [hg, hb]))
      simp [this]
    simp only [hy]
  by_cases hkf : k = f
  ·rw [if_pos hkf] at h
   have hcl : clC P ops G BL LD ex f k = 4 := by unfold clC; rw [if_pos hkf]
   obtain ⟨n, v, hn, e1, hk⟩ := h
   unfold stC
   rw [hcl, if_neg (by omega), if_neg (by omega)]
   exact ⟨n, v, hn, e1, ih _ _ (hT.keep _ hinv) hk⟩
  rw [if_neg hkf] at h
  by_cases hkG : G.contains k = true
  ·rw [if_pos hkG] at h
   have hcl : clC P ops G BL LD ex f k = 3 := by unfold clC; rw [if_neg hkf, if_pos hkG]
   obtain ⟨n, v, w1, hn, e1, e2, e3, hk⟩ := h
   unfold stC
   rw [hcl, if_neg (by omega), if_pos rfl]
   exact ⟨n, v, w1, hn, e1, e2, e3, ih _ _ e3 hk⟩
  rw [if_neg hkG] at h
  by_cases hkB : BL.contains k = true
  ·rw [if_pos hkB] at h
   have hcl : clC P ops G BL LD ex f k = 1 := by unfold clC; rw [if_neg hkf, if_neg hkG, if_pos hkB]
   obtain ⟨v, e1, e2, hk⟩ := h
   unfold stC
   rw [hcl, if_pos (nr _)]
   refine ⟨v, ?_, ih _ _ hinv hk⟩
   unfold TextI.Yc
   rw [if_neg (by omega)]
   exact .inl ⟨e1, e2⟩
  rw [if_neg hkB] at h
  have hce : clC P ops G BL LD ex f k = clG P ops G LD ex k := by unfold clC; rw [if_neg hkf, if_neg hkG, if_neg hkB]
  have hcle : clG P ops G LD ex k ≤ 1 := by
   rcases qgo hbare ho with h1 | ⟨h1, _⟩
   ·rw [hce] at h1; exact h1
   ·rw [hce] at h1
    exfalso
    have hle := zi (P := P) (ops := ops) G LD ex k
    have h3 : clG P ops G LD ex k = 3 := by omega
    unfold clG at h3
    simp only [ho] at h3
    rw [if_neg hkG] at h3
    repeat' (split at h3)
    all_goals omega
  rw [hce]
  by_cases hw : Region.wanted o (yielded ops a.tmps) = true
  ·rw [if_pos hw] at h
   have hrun : ∀ (hp : ∀ n w', (execOp a.eval o).run P w = .ok n w' → w' = w ∧ ∃ v, n = .value v), ∃ v, (execOp a.eval o).run P w = .ok (.value v) w ∧
     wpSc P ops I T G BL f (fun a w => chk ops ex a = true ∧ oldAll P ops I a LD ∧ Q a w) (k + 1) r (a.put o.dst v) w := by
    intro hp
    unfold Oper.wp at h
    cases hr : (execOp a.eval o).run P w with
    |ok n1 w1 =>
     obtain ⟨rfl, v, rfl⟩ := hp n1 w1 hr
     rw [hr] at h
     exact ⟨v, rfl, h⟩
    |halt x w1 =>
     rw [hr] at h
     cases x <;> exact absurd h id
   ·have hc1 := hcle
    unfold stC
    rw [if_pos hc1]
    have hc := hc1
    unfold clG at hc
    simp only [ho] at hc
    have hcG := hkG
    rw [if_neg hcG] at hc
    by_cases hcL : LD.contains k = true
    ·rw [if_pos hcL] at hc
     have hls : (og o && ft ops k o) = true := by
      by_cases hls : (og o && ft ops k o) = true
      ·exact hls
      ·rw [if_neg hls] at hc; omega
     rw [Bool.and_eq_true] at hls
     have hcl : clG P ops G LD ex k = 1 := by
      unfold clG
      simp only [ho]
      rw [if_neg hcG, if_pos hcL, if_pos (by simp [hls])]
     have hbw := hinv
     have hlook := hstab hls.2
     have hoa := oldAll_mem hold (by simpa using hcL)
     have hld : (∃ t x, o.op = .load t x) ∨ ∃ s d x, o.op = .convert s d x := by
      have := hls.1
      unfold og at this
      split at this
      ·exact .inl ⟨_, _, by assumption⟩
      ·exact .inr ⟨_, _, _, by assumption⟩
      ·cases this
     rcases hld with ⟨t, x, hop⟩ | ⟨s, d, x, hop⟩
     ·have hx := hops hlook x (by rw [hop]; simp [Op.operands])
      unfold TextI.oldAt at hoa
      simp only [ho, hop] at hoa
      obtain ⟨v0, hv0⟩ := hoa (by rw [hwant hlook]; exact hw)
      rw [hx] at hv0
      have hex : ∀ w2, I w2 → (execOp a.eval o).run P w2 = .ok (.value v0) w2 := by
       intro w2 hb2
       obtain ⟨dst, op, type, pos, after, guard⟩ := o
       simp only at hop
       subst hop
       simp only [execOp]
       rw [Sem.run_bind, hv0 w2 hb2]
       rfl
      obtain ⟨v, hv, hk⟩ := hrun fun n w' h => by
       rw [hex w hbw] at h
       injection h with h1 h2
       exact ⟨h2.symm, v0, h1.symm⟩
      rw [hex w hbw] at hv
      injection hv with h1 _
      injection h1 with h1
      subst h1
      refine ⟨v0, ?_, ih _ _ hinv hk⟩
      unfold TextI.Yc
      rw [if_neg (by omega)]
      exact .inl ⟨hw, hex⟩
     ·have hx := hops hlook x (by rw [hop]; simp [Op.operands])
      unfold TextI.oldAt at hoa
      simp only [ho, hop] at hoa
      obtain ⟨v0, hv0⟩ := hoa (by rw [hwant hlook]; exact hw)
      rw [hx] at hv0
      have hex : ∀ w2, I w2 → (execOp a.eval o).run P w2 = .ok (.value v0) w2 := by
       intro w2 hb2
       obtain ⟨dst, op, type, pos, after, guard⟩ := o
       simp only at hop
       subst hop
       simp only [execOp]
       rw [Sem.run_bind, hv0 w2 hb2]
       rfl
      obtain ⟨v, hv, hk⟩ := hrun fun n w' h => by
       rw [hex w hbw] at h
       injection h with h1 h2
       exact ⟨h2.symm, v0, h1.symm⟩
      rw [hex w hbw] at hv
      injection hv with h1 _
      injection h1 with h1
      subst h1
      refine ⟨v0, ?_, ih _ _ hinv hk⟩
      unfold TextI.Yc
      rw [if_neg (by omega)]
      exact .inl ⟨hw, hex⟩
    ·rw [if_neg hcL] at hc
     by_cases hcE : ex.contains k = true
     ·rw [if_pos hcE] at hc; omega
     rw [if_neg hcE] at hc
     by_cases hnst : (gz o && !ft ops k o) = true
     ·rw [if_pos hnst] at hc; omega
     rw [if_neg hnst] at hc
     have hcls : tp P o = 0 := by
      by_cases hcls : tp P o = 0
      ·exact hcls
      ·rw [if_neg hcls] at hc; omega
     have hcl : clG P ops G LD ex k = 0 := by
      unfold clG
      simp only [ho]
      rw [if_neg hcG, if_neg hcL, if_neg hcE, if_neg hnst, if_pos hcls]
     have hpv : PurV P (execOp a.eval o) := by
      refine xa hcls ?_
      by_cases hnd : gz o = true
      ·have hstb : ft ops k o = true := by
        rw [hnd] at hnst
        simpa using hnst
       have hlook := hstab hstb
       have hc2 := List.all_eq_true.1 hchk k (List.mem_range.2 hlt)
       simp only [ho, Bool.or_eq_true, hnd, Bool.not_true, Bool.false_eq_true, false_or] at hc2
       rcases hc2 with hc2 | hc2 | hc2
       ·exact absurd hc2 hcE
       ·rw [hwant hlook, hw] at hc2; cases hc2
       ·rw [tn (hops hlook)] at hc2; exact hc2
      ·unfold gz at hnd
       unfold si
       split at hnd <;> first | (exact absurd rfl hnd) | rfl | (split <;> first | rfl | (simp_all; done))
     obtain ⟨v, hv, hk⟩ := hrun fun n w' hr => let ⟨e, v, hn, _⟩ := hpv w n w' hr; ⟨e, v, hn⟩
     obtain ⟨_, v', hn, hall⟩ := hpv _ _ _ hv
     injection hn with hn
     subst hn
     refine ⟨v, ?_, ih _ _ hinv hk⟩
     unfold TextI.Yc
     rw [if_pos hcl]
     exact .inl ⟨hw, hall⟩
  ·rw [if_neg hw] at h
   have hwf : Region.wanted o (yielded ops a.tmps) = false := by simpa using hw
   have h2 := ih _ _ hinv h
   unfold stC
   rw [if_pos hcle]
   refine ⟨undef, ?_, h2⟩
   unfold TextI.Yc
   split
   ·exact .inr ⟨hwf, rfl⟩
   ·exact .inr ⟨hwf, rfl⟩

def commB (P : Program) (ops : Array Oper) (G BL LD ex : List Nat) (f : Nat) : Bool := Region.noSelect ops && ny ops && qol ops (clC P ops G BL LD ex f) && qng ops (clC P ops G BL LD ex f)
theorem wp_comm {id : Nat} {Q : Exit → Act → World → Prop} {a : Act} {w : World} {l : List Oper} (G BL LD ex : List Nat) (f : Nat) (I : World → Prop) (T : World → World) (hT : Turns I T) (hI : I w.drew) (hm : P.follows .mixedOrders = true) (hB : commB P l.toArray G BL LD ex f = true)
  (h : wpSc P l.toArray I T G BL f (fun a' w' => chk l.toArray ex a' = true ∧ oldAll P l.toArray I a' LD ∧ Q .normal a' w') 0 l a w.drew) : (Code.region id l.toArray true).wp P Q a w := by
 simp only [commB, Bool.and_eq_true] at hB
 refine wp_region_any hm ?_
 have h2 := list_C hT hB.2 l 0 a w.drew (by simp) (by simp) hI h
 have h3 := any_of_C hT hB.1.1.1 hB.1.1.2 hB.1.2 hB.2 (List.range' 0 l.length) (Array.replicate l.toArray.size false) a w.drew (by simp) (List.pairwise_lt_range') (fun j => by
  rw [List.mem_range'_1]
  constructor
  ·intro hj
   have hjl : j < l.length := by simpa using hj.2
   exact ⟨by simpa using hjl, by simp [hjl]⟩
  ·intro hj; have := hj.1; simp at this; exact ⟨by omega, by omega⟩) (fun j o ho hj => by
   exfalso
   have : j < l.toArray.size := (gl ho)
   simp at this
   simp [this] at hj) hI h2
 simpa using h3
end Go.Proofs.YtplbcbamnjnhlaaGreatDoor.TextC
namespace Go.Proofs.YtplbcbamnjnhlaaGreatDoor
open Go.RowKit

section
variable {P : Program} {ops : Array Oper} {I : World → Prop} {T : World → World} {G BL : List Nat} {f : Nat}
theorem wpK_comm {id : Nat} {Q : Exit → Act → World → Prop} {a : Act} {w : World} {l : List Oper} (G BL LD ex : List Nat) (f : Nat) (I : World → Prop) (T : World → World) (hT : TextC.Turns I T) (hI : I w.drew) (hm : P.follows .mixedOrders = true) (hB : TextC.commB P l.toArray G BL LD ex f = true)
  (h : Stop (TextC.wpSc P l.toArray I T G BL f (fun a' w' => Text.chk l.toArray ex a' = true ∧ TextI.oldAll P l.toArray I a' LD ∧ Q .normal a' w') 0 l a w.drew)) : (Code.region id l.toArray true).wp P Q a w :=
 TextC.wp_comm G BL LD ex f I T hT hI hm hB h.o
theorem rq {Q : Act → World → Prop} (n : Nat) {k : Nat} {l : List Oper} {a : Act} {w : World} (hG : (List.range' k n).all (fun i => !G.contains i && !BL.contains i && i != f) = true)
  (h : ∀ Q' : Exit → Act → World → Prop, (∀ a w, Stop (TextC.wpSc P ops I T G BL f Q (k + n) (l.drop n) a w) → Q' .normal a w) → wpList P ops Q' (l.take n) a w) : Stop (TextC.wpSc P ops I T G BL f Q k l a w) :=
 ⟨TextC.wpSc_seg n k l a w hG fun Q' hQ' => h Q' fun a w hh => hQ' a w hh.o⟩
theorem xf {Q : Act → World → Prop} {k : Nat} {o : Oper} {r : List Oper} {a : Act} {w : World} {v : Value} (h1 : k ≠ f) (h2 : G.contains k = false) (h3 : BL.contains k = true) (hw : Region.wanted o (yielded ops a.tmps) = true) (hrun : ∀ w', I w' → (execOp a.eval o).run P w' = .ok (.value v) w')
  (h : Stop (TextC.wpSc P ops I T G BL f Q (k + 1) r (a.put o.dst v) w)) : Stop (TextC.wpSc P ops I T G BL f Q k (o :: r) a w) := ⟨by
 unfold TextC.wpSc
 rw [if_neg h1, if_neg (by rw [h2]; exact Bool.false_ne_true), if_pos h3]
 exact ⟨v, hw, hrun, h.o⟩⟩
theorem qqk {Q : Act → World → Prop} {k : Nat} {o : Oper} {r : List Oper} {a : Act} {w w1 : World} {v : Value} {n : Next} (h1 : k ≠ f) (h2 : G.contains k = true) (hn : TextC.Yn n v) (hrun : (execOp a.eval o).run P w = .ok n w1) (hrunT : (execOp a.eval o).run P (T w) = .ok n (T w1)) (hI : I w1)
  (h : Stop (TextC.wpSc P ops I T G BL f Q (k + 1) r (a.put o.dst v) w1)) : Stop (TextC.wpSc P ops I T G BL f Q k (o :: r) a w) := ⟨by
 unfold TextC.wpSc
 rw [if_neg h1, if_pos h2]
 exact ⟨n, v, w1, hn, hrun, hrunT, hI, h.o⟩⟩
theorem qsb {Q : Act → World → Prop} {o : Oper} {r : List Oper} {a : Act} {w : World} {v : Value} {n : Next} (hn : TextC.Yn n v) (hrun : ∀ w', I w' → (execOp a.eval o).run P w' = .ok n (T w'))
  (h : Stop (TextC.wpSc P ops I T G BL f Q (f + 1) r (a.put o.dst v) (T w))) : Stop (TextC.wpSc P ops I T G BL f Q f (o :: r) a w) := ⟨by
 unfold TextC.wpSc
 rw [if_pos rfl]
 exact ⟨n, v, hn, hrun, h.o⟩⟩
theorem wpK_end {Q : Act → World → Prop} {k : Nat} {a : Act} {w : World} (h : Q a w) : Stop (TextC.wpSc P ops I T G BL f Q k [] a w) := ⟨h⟩
end

def setO (w : World) (q : Nat) (o : Obj) : World := { w with heap := w.heap.setIfInBounds q o }
theorem qqo {w : World} {q : Nat} {o o' : Obj} (h : w.heap[q]? = some o') : (setO w q o).heap[q]? = some o := by
 have hlt := (gl h)
 simp [setO, hlt]
theorem uc {w : World} {q k : Nat} {o : Obj} (h : k ≠ q) : (setO w q o).heap[k]? = w.heap[k]? := by
 unfold setO
 exact Array.getElem?_setIfInBounds_ne (Ne.symm h)
theorem qen (w : World) (q : Nat) (o : Obj) : w.grownBy (setO w q o) (some q) := ol w q o
theorem qhr (w : World) {q : Nat} {o : Obj} {p : Addr} {v : Value} (h : p.block ≠ q) : (setO w q o).setCell p v = setO (w.setCell p v) q o := by
 refine vi ?_ rfl rfl rfl rfl
 apply Array.ext_getElem?
 intro k
 simp only [World.setCell, setO, Array.getElem?_modify]
 by_cases hk : k = q
 ·subst hk
  rw [if_neg h]
  simp [Array.getElem?_setIfInBounds]
 ·rw [Array.getElem?_setIfInBounds_ne (Ne.symm hk), Array.getElem?_setIfInBounds_ne (Ne.symm hk), Array.getElem?_modify]
theorem qgw (w : World) (p : Addr) (v : Value) : (w.setCell p v).setCell p v = w.setCell p v := by
 refine vi ?_ rfl rfl rfl rfl
 apply Array.ext_getElem?
 intro k
 simp only [World.setCell, Array.getElem?_modify]
 by_cases hk : p.block = k
 ·simp only [hk, if_true]
  cases w.heap[k]? with
  |none => rfl
  |some o =>
   cases o <;> simp
   intro hp
   simp [hp]
 ·simp only [hk, if_false]
theorem qai {α : Type} [DecidableEq α] {P : Program} {mt kt et : TypeId} {κ : α → Value} (K : rl P mt kt et κ) {w : World} {q : Nat} {es : Array MapEntry} {c : Nat} {l : List (α × Value)} {z : Value} (hh : w.heap[q]? = some (.map es c)) (he : es.toList.map vf = l.map (fun p => (κ p.1, p.2)))
  (hz : ∀ w : World, (zeroValue et).run P w = .ok z w) {k : α} (hk : ∀ p ∈ l, p.1 ≠ k) : (Instr.mapEntry mt (.map (some q)) (κ k)).run P w = .ok (.tuple #[z, goInt c]) (setO w q (.map (es.push { key := κ k, val := z, born := c }) (c + 1))) := by
 have hf := K.find k l es.toList w he
 have hi : l.findIdx? (fun p => decide (p.1 = k)) = none := by
  rw [List.findIdx?_eq_none_iff]
  intro p hp
  simpa using hk p hp
 rw [hi] at hf
 simp only [Option.bind_none] at hf
 simp [Instr.mapEntry, run_underlying K.und, getObj, Sem.run, hh, K.check, hf, hz, setObj, Result.andThen, setO]
theorem wu {P : Program} {mt : TypeId} {w : World} {q : Nat} {es : Array MapEntry} {c : Nat} {kx z v : Value} (hh : w.heap[q]? = some (.map (es.push { key := kx, val := z, born := c }) (c + 1))) (hs : ∀ x ∈ es.toList, x.born < c) :
  (Instr.entryStore mt (.map (some q)) (goInt c) v).run P w = .ok () (setO w q (.map (es.push { key := kx, val := v, born := c }) (c + 1))) := by
 have hi : (es.push { key := kx, val := z, born := c }).findIdx? (fun e => ((e.born : Nat) : Int) == (c : Int)) = some es.size := by
  rw [Array.findIdx?_push]
  have : es.findIdx? (fun e => ((e.born : Nat) : Int) == (c : Int)) = none := by
   rw [Array.findIdx?_eq_none_iff]
   intro x hx
   have := hs x (by simpa using hx)
   simp
   omega
  rw [this]
  simp
 have hm : (es.push { key := kx, val := z, born := c }).modify es.size (fun e => { e with val := v }) = es.push { key := kx, val := v, born := c } := by
  apply Array.ext_getElem?
  intro j
  rw [Array.getElem?_modify, Array.getElem?_push, Array.getElem?_push]
  by_cases hj : j = es.size
  ·subst hj; simp
  ·rw [if_neg (Ne.symm hj), if_neg hj, if_neg hj]
 simp [Instr.entryStore, getObj, Sem.run, hh, setObj, Result.andThen, setO, goInt, asInt, asIntOf, hi, hm]
theorem mapS_new {α : Type} {κ : α → Value} {w : World} {q : Nat} {es : Array MapEntry} {c : Nat} {l : List (α × Value)} {k : α} {v : Value} (hh : w.heap[q]? = some (.map (es.push { key := κ k, val := v, born := c }) (c + 1))) (he : es.toList.map vf = l.map (fun p => (κ p.1, p.2))) (hs : zm es.toList c) :
  MapS κ w q (l ++ [(k, v)]) := ⟨_, _, hh, by simp [he, vf], by rw [Array.toList_push]; exact qch hs _ _⟩
end Go.Proofs.YtplbcbamnjnhlaaGreatDoor
