/- Texts of this proof joined: Text4, Text5. -/
import Derived.Test.YthojelhpipmkiaaGreatDoorKO02
namespace Go.Proofs.YthojelhpipmkiaaGreatDoor.Text
open Go
variable {P : Program} {ops : Array Oper}

inductive Dep (ops : Array Oper) : Nat → Nat → Prop
 |here {i : Nat} {o : Oper} {e : Edge} (ho : ops[i]? = some o) (he : e ∈ o.after) (hb : Region.binds .any e = true) : Dep ops i e.on
 |there {i x : Nat} {o : Oper} {e : Edge} (ho : ops[i]? = some o) (he : e ∈ o.after) (hb : Region.binds .any e = true) (h : Dep ops e.on x) : Dep ops i x

def maskOf (acc : List Nat) (o : Oper) : Nat := o.after.toList.foldl (fun s e => if Region.binds .any e then s ||| (2 ^ e.on ||| acc.getD e.on 0) else s) 0
def masks : List Oper → List Nat → List Nat
 |[], acc => acc
 |o :: r, acc => masks r (acc ++ [maskOf acc o])

theorem foldl_bit (acc : List Nat) (x : Nat) : ∀ (l : List Edge) (s : Nat), (l.foldl (fun s e => if Region.binds .any e then s ||| (2 ^ e.on ||| acc.getD e.on 0) else s) s).testBit x = true →
  s.testBit x = true ∨ ∃ e ∈ l, Region.binds .any e = true ∧ (e.on = x ∨ (acc.getD e.on 0).testBit x = true)
 |[], s, h => .inl h
 |e :: l, s, h => by
  rw [List.foldl_cons] at h
  rcases foldl_bit acc x l _ h with h1 | ⟨e', he', hb, h1⟩
  ·split at h1
   ·rename_i hb
    rw [Nat.testBit_or, Nat.testBit_or, Bool.or_eq_true, Bool.or_eq_true] at h1
    rcases h1 with h1 | h1 | h1
    ·exact .inl h1
    ·refine .inr ⟨e, by simp, hb, .inl ?_⟩
     rw [Nat.testBit_two_pow] at h1
     simpa using h1
    ·exact .inr ⟨e, by simp, hb, .inr h1⟩
   ·exact .inl h1
  ·exact .inr ⟨e', by simp [he'], hb, h1⟩

theorem masks_spec : ∀ (l : List Oper) (acc : List Nat), (∀ j, l[j]? = ops[acc.length + j]?) → (∀ i x, i < acc.length → (acc.getD i 0).testBit x = true → Dep ops i x) →
  ∀ i x, ((masks l acc).getD i 0).testBit x = true → Dep ops i x
 |[], acc, _, h, i, x, hb => by
  rcases Nat.lt_or_ge i acc.length with hi | hi
  ·exact h i x hi hb
  ·simp [masks, List.getD_eq_getElem?_getD, List.getElem?_eq_none hi] at hb
 |o :: r, acc, hl, h, i, x, hb => by
  refine masks_spec r (acc ++ [maskOf acc o]) (fun j => ?_) (fun i x hi hb => ?_) i x hb
  ·have := hl (j + 1)
   simp only [List.getElem?_cons_succ] at this
   rw [this, List.length_append, List.length_singleton]
   congr 1
   omega
  ·rw [List.length_append, List.length_singleton] at hi
   by_cases hia : i < acc.length
   ·rw [List.getD_eq_getElem?_getD, List.getElem?_append_left hia, ← List.getD_eq_getElem?_getD] at hb
    exact h i x hia hb
   ·have hie : i = acc.length := by omega
    subst hie
    rw [List.getD_eq_getElem?_getD, List.getElem?_append_right (Nat.le_refl _)] at hb
    simp only [Nat.sub_self, List.getElem?_cons_zero, Option.getD_some] at hb
    have ho : ops[acc.length]? = some o := by simpa using (hl 0).symm
    rcases foldl_bit acc x _ _ hb with h1 | ⟨e, he, hbi, h1⟩
    ·simp at h1
    ·rcases h1 with rfl | h1
     ·exact .here ho (by simpa using he) hbi
     ·rcases Nat.lt_or_ge e.on acc.length with hlt | hge
      ·exact .there ho (by simpa using he) hbi (h _ _ hlt h1)
      ·simp [List.getD_eq_getElem?_getD, List.getElem?_eq_none hge] at h1

def backB (ops : Array Oper) : Bool := (List.range ops.size).all fun i => match ops[i]? with
 |some o => o.after.all fun e => !Region.binds .any e || decide (e.on < i)
 |none => true
def pairsB (ops : Array Oper) (cl : Nat → Nat) : Bool :=
 let m := masks ops.toList []
 (List.range ops.size).all fun i => (List.range i).all fun x => (m.getD i 0).testBit x || compat ops cl x i
theorem pairs_spec {cl : Nat → Nat} (h : pairsB ops cl = true) {i x : Nat} (hi : i < ops.size) (hx : x < i) : Dep ops i x ∨ compat ops cl x i = true := by
 have h1 := List.all_eq_true.1 h i (List.mem_range.2 hi)
 have h2 := List.all_eq_true.1 h1 x (List.mem_range.2 hx)
 rw [Bool.or_eq_true] at h2
 rcases h2 with h2 | h2
 ·exact .inl (masks_spec ops.toList [] (by simp) (fun i x hi => absurd hi (by simp)) i x h2)
 ·exact .inr h2

def Closed (ops : Array Oper) (listed : Array Bool) : Prop := ∀ j o, ops[j]? = some o → listed.getD j false = true → ∀ e ∈ o.after, Region.binds .any e = true → listed.getD e.on false = true
theorem dep_listed {listed : Array Bool} (hc : Closed ops listed) {i x : Nat} (h : Dep ops i x) :
  (∀ o, ops[i]? = some o → ∀ e ∈ o.after, Region.binds .any e = true → listed.getD e.on false = true) → listed.getD x false = true := by
 induction h with
 |here ho he hb => intro h; exact h _ ho _ he hb
 |there ho he hb _ ih => intro h; exact ih fun o' ho' => hc _ o' ho' (h _ ho _ he hb)

theorem getD_flip {listed : Array Bool} {n i : Nat} (hn : listed.size = n) (hi : i < n) : listed.getD i true = listed.getD i false := by
 subst hn
 simp [hi]

theorem wpOp_of_stT {i c : Nat} {o : Oper} {K : Act → World → Prop} {Q : Exit → Act → World → Prop} {a : Act} {w : World} (ho : ops[i]? = some o) (h : stT P ops c o K a w) : wpOp P ops Q i K a w := by
 unfold wpOp
 simp only [ho]
 unfold stT at h
 split at h
 ·obtain ⟨v, hy, hk⟩ := h
  rcases hy with ⟨hw, hv⟩ | ⟨hw, rfl⟩
  ·rw [if_pos hw]; left; unfold Oper.wp; rw [hv w]; exact hk
  ·rw [if_neg (by simp [hw])]; exact hk
 ·obtain ⟨v, hy, hk⟩ := h
  rcases hy with ⟨hw, hv⟩ | ⟨hw, rfl⟩
  ·rw [if_pos hw]; left; unfold Oper.wp; rw [hv]; exact hk
  ·rw [if_neg (by simp [hw])]; exact hk
 ·split at h
  ·rename_i hw
   rw [if_pos hw]
   left
   unfold Oper.wp at *
   generalize (execOp a.eval o).run P w = r at *
   cases r with
   |ok n w' =>
    cases n <;> simp only [Oper.upon] at h ⊢ <;> first
     |exact h
     |exact Calls.mono h fun e w'' he => by
       cases e with
       |returned u => exact he
       |panicked c => exact absurd he id
       |outgrown => exact absurd he not_letsOut
   |halt x w' => cases x <;> simp only [Oper.upon] at h ⊢ <;> first | exact h | exact absurd h id
  ·rename_i hw; rw [if_neg hw]; exact h

theorem any_of_T {cl : Nat → Nat} {Q : Exit → Act → World → Prop} (hsel : Region.noSelect ops = true) (hback : backB ops = true) (hp : pairsB ops cl = true) :
  ∀ (rem : List Nat) (listed : Array Bool) (a : Act) (w : World), listed.size = ops.size → rem.Pairwise (· < ·) → (∀ j, j ∈ rem ↔ j < ops.size ∧ listed.getD j false = false) → Closed ops listed →
   wpT P ops cl (fun a w => Q .normal a w) rem a w → wpAny P .any ops Q rem.length listed a w := by
 intro rem
 induction hn : rem.length generalizing rem with
 |zero =>
  intro listed a w hs _ hm _ h
  have he : rem = [] := List.eq_nil_of_length_eq_zero hn
  subst he
  refine ⟨?_, h⟩
  apply List.eq_nil_iff_forall_not_mem.2
  intro j hj
  obtain ⟨h0, o, ho, _⟩ := mem_ready.1 hj
  have hlt : j < ops.size := (Array.getElem?_eq_some_iff.1 ho).1
  rw [getD_flip hs hlt] at h0
  exact absurd ((hm j).2 ⟨hlt, h0⟩) (by simp)
 |succ n ih =>
  intro listed a w hs hpw hm hc h
  have hready : Region.ready .any ops listed ≠ [] := by
   cases hr : rem with
   |nil => rw [hr] at hn; cases hn
   |cons i0 r =>
    have hi0 := (hm i0).1 (by rw [hr]; simp)
    intro hnil
    have hmem : i0 ∈ Region.ready .any ops listed := by
     refine mem_ready.2 ⟨by rw [getD_flip hs hi0.1]; exact hi0.2, ops[i0], Array.getElem?_eq_getElem hi0.1, fun e he hb => ?_⟩
     have h1 := List.all_eq_true.1 hback i0 (List.mem_range.2 hi0.1)
     simp only [Array.getElem?_eq_getElem hi0.1] at h1
     have h2 := Array.all_eq_true_iff_forall_mem.1 h1 e he
     simp only [hb, Bool.not_true, Bool.false_or, decide_eq_true_eq] at h2
     rcases Bool.eq_false_or_eq_true (listed.getD e.on false) with h3 | h3
     ·exact h3
     ·have h4 := (hm e.on).2 ⟨by omega, h3⟩
      rw [hr] at h4 hpw
      rcases List.mem_cons.1 h4 with h5 | h5
      ·omega
      ·have := (List.pairwise_cons.1 hpw).1 _ h5; omega
    rw [hnil] at hmem
    cases hmem
  refine ⟨fun h0 => absurd h0 hready, fun i hi => ?_⟩
  obtain ⟨h0, o, ho, hall⟩ := mem_ready.1 hi
  have hlt : i < ops.size := (Array.getElem?_eq_some_iff.1 ho).1
  rw [getD_flip hs hlt] at h0
  have hir : i ∈ rem := (hm i).2 ⟨hlt, h0⟩
  obtain ⟨l1, l2, hl⟩ := List.append_of_mem hir
  subst hl
  rw [List.pairwise_append] at hpw
  obtain ⟨pw1, pw2, pw3⟩ := hpw
  have pw2' := List.pairwise_cons.1 pw2
  have hf := front hsel i l2 l1 a w (fun x hx => by
   have hxi : x < i := pw3 x hx i (by simp)
   rcases pairs_spec hp hlt hxi with hd | hcp
   ·have := dep_listed hc hd (fun o' ho' e he hb => by rw [ho] at ho'; injection ho' with e2; subst e2; exact hall e he hb)
    have h2 := ((hm x).1 (by simp [hx])).2
    rw [this] at h2
    cases h2
   ·exact hcp) h
  have hst : stT P ops (cl i) o (wpT P ops cl (fun a w => Q .normal a w) (l1 ++ l2)) a w := by simpa [wpT, ho] using hf
  refine wpOp_mono (fun a' w' hh => ?_) (wpOp_of_stT (Q := Q) ho hst)
  have hlen : (l1 ++ l2).length = n := by simp at hn ⊢; omega
  refine ih (l1 ++ l2) hlen (listed.setIfInBounds i true) a' w' (by simpa using hs) ?_ (fun j => ?_) ?_ hh
  ·rw [List.pairwise_append]
   exact ⟨pw1, pw2'.2, fun x hx y hy => pw3 x hx y (by simp [hy])⟩
  ·by_cases hji : j = i
   ·subst hji
    constructor
    ·intro hj
     rcases List.mem_append.1 hj with h5 | h5
     ·have := pw3 j h5 j (by simp); omega
     ·have := pw2'.1 j h5; omega
    ·intro ⟨_, h5⟩
     have : j < listed.size := by omega
     simp [this] at h5
   ·rw [getD_set_ne false (Ne.symm hji), ← hm j]
    simp [hji]
  ·intro j oj hoj hj e he hb
   by_cases hji : j = i
   ·subst hji
    rw [ho] at hoj
    injection hoj with e2
    subst e2
    exact getD_set_true (hall e he hb)
   ·rw [getD_set_ne false (Ne.symm hji)] at hj
    exact getD_set_true (hc j oj hoj hj e he hb)
end Go.Proofs.YthojelhpipmkiaaGreatDoor.Text
namespace Go.Proofs.YthojelhpipmkiaaGreatDoor.Text
open Go
variable {P : Program} {ops : Array Oper}

def stableB (ops : Array Oper) (i : Nat) (o : Oper) : Bool := (o.looksAt ops).all fun t => (List.range ops.size).all fun j => decide (j < i) || match ops[j]? with
 |some oj => oj.dst != some t
 |none => true
def clAt (P : Program) (ops : Array Oper) (ex : List Nat) (i : Nat) : Nat :=
 match ops[i]? with
 |none => 2
 |some o => if ex.contains i then 2 else if needsDyn o && !stableB ops i o then 2 else clsOf P o
def chk (ops : Array Oper) (ex : List Nat) (a : Act) : Bool := (List.range ops.size).all fun i => ex.contains i || match ops[i]? with
 |some o => !needsDyn o || !Region.wanted o (yielded ops a.tmps) || dynOk a.eval o
 |none => true
def Only (ops : Array Oper) (ex : List Nat) (Q : Exit → Act → World → Prop) : Exit → Act → World → Prop := fun e a w => e = .normal ∧ chk ops ex a = true ∧ Q .normal a w
theorem only_not (ex : List Nat) (Q : Exit → Act → World → Prop) : ∀ (e : Exit) (a : Act) (w : World), e ≠ .normal → ¬ Only ops ex Q e a w := fun _ _ _ h h2 => h h2.1
theorem only_intro {ex : List Nat} {Q : Exit → Act → World → Prop} {a : Act} {w : World} (h1 : chk ops ex a = true) (h2 : Q .normal a w) : Only ops ex Q .normal a w := ⟨rfl, h1, h2⟩
theorem only_letsOut (ex : List Nat) (Q : Exit → Act → World → Prop) : ¬ LetsOut (Only ops ex Q) := fun ⟨_, _, h⟩ => by cases h.1

theorem upon_only {o : Oper} {a : Act} {w : World} {ex : List Nat} {Q : Exit → Act → World → Prop} {K : Act → World → Prop} (h : o.wp P a w K (Only ops ex Q)) : o.wp P a w K NoQ := by
 unfold Oper.wp at *
 generalize (execOp a.eval o).run P w = r at *
 cases r with
 |ok n w' =>
  cases n <;> simp only [Oper.upon] at h ⊢ <;> first
   |exact h
   |exact Calls.mono h fun e w'' he => by
     cases e with
     |returned u => exact he
     |panicked c => exact absurd he (only_not _ _ _ _ _ (by simp))
     |outgrown => exact absurd he (only_letsOut _ _)
 |halt x w' => cases x <;> simp only [Oper.upon] at h ⊢ <;> first | exact h | exact absurd h (only_not _ _ _ _ _ (by simp))

def OffDsts (ops : Array Oper) (idx : List Nat) (a a' : Act) : Prop := ∀ t, (∀ i ∈ idx, ∀ o, ops[i]? = some o → o.dst ≠ some t) → a'.tmps[t]? = a.tmps[t]?
theorem same_off {a a' : Act} {d : Option Tmp} (h : Same a a' d) {t : Tmp} (ht : d ≠ some t) : a'.tmps[t]? = a.tmps[t]? := by
 obtain ⟨u, ds, rfl⟩ := h
 cases d with
 |none => rfl
 |some d =>
  have : d ≠ t := fun e => ht (by rw [e])
  simp [Act.put, Array.getElem?_setIfInBounds_ne this]

theorem reach {ex : List Nat} {Q : Exit → Act → World → Prop} : ∀ (idx : List Nat) (a : Act) (w : World), wpOps P ops (Only ops ex Q) idx a w → ∃ a', chk ops ex a' = true ∧ OffDsts ops idx a a'
 |[], a, w, h => ⟨a, (show Only ops ex Q .normal a w from h).2.1, fun _ _ => rfl⟩
 |i :: r, a, w, h => by
  unfold wpOps at h
  cases ho : ops[i]? with
  |none =>
   simp only [ho] at h
   obtain ⟨a', h1, h2⟩ := reach r a w h
   exact ⟨a', h1, fun t ht => h2 t fun j hj => ht j (by simp [hj])⟩
  |some o =>
   simp only [ho] at h
   have hn : ∃ a1 w1, Same a a1 o.dst ∧ wpOps P ops (Only ops ex Q) r a1 w1 := by
    split at h
    ·rcases h with h | ⟨_, h⟩
     ·exact upon_some (only_not _ _) h
     ·exact absurd h (only_letsOut _ _)
    ·exact ⟨_, _, same_put _ _ _, h⟩
   obtain ⟨a1, w1, hs, h1⟩ := hn
   obtain ⟨a', h2, h3⟩ := reach r a1 w1 h1
   exact ⟨a', h2, fun t ht => (h3 t fun j hj => ht j (by simp [hj])).trans (same_off hs (ht i (by simp) o ho))⟩

theorem eval_off {a a' : Act} {x : Operand} (h : ∀ t, x = .tmp t → a'.tmps[t]? = a.tmps[t]?) : a'.eval x = a.eval x := by
 cases x with
 |tmp t => simp [Act.eval, h t rfl]
 |_ => rfl
theorem dyn_congr {ρ ρ' : Operand → Value} {o : Oper} (h : ∀ x ∈ o.op.operands, ρ' x = ρ x) : dynOk ρ' o = dynOk ρ o := by
 obtain ⟨dst, op, type, pos, after, guard⟩ := o
 cases op <;> simp only [dynOk]
 case binOp op t x y yt => rw [h x (by simp [Op.operands]), h y (by simp [Op.operands])]
 case unOp op t x => rw [h x (by simp [Op.operands])]
 case nilCheck x => rw [h x (by simp [Op.operands])]
 case convert s d x => rw [h x (by simp [Op.operands])]
 case call c =>
  obtain ⟨callee, ⟨l⟩, ts⟩ := c
  match l with
  |[] => rfl
  |[x] => simp only; rw [h x (by simp [Op.operands, Call.operands])]
  |x :: y :: r => rfl

theorem list_T {ex : List Nat} {Q : Exit → Act → World → Prop} : ∀ (n k : Nat) (a : Act) (w : World), k + n = ops.size → wpOps P ops (Only ops ex Q) (List.range' k n) a w →
  wpT P ops (clAt P ops ex) (fun a w => Q .normal a w) (List.range' k n) a w
 |0, k, a, w, _, h => (show Only ops ex Q .normal a w from h).2.2
 |n + 1, k, a, w, hk, h => by
  rw [List.range'_succ] at h ⊢
  obtain ⟨a', hchk, hoff⟩ := reach _ a w h
  have hlt : k < ops.size := by omega
  have ho := Array.getElem?_eq_getElem hlt
  generalize ops[k] = o at ho
  have ih : ∀ a w, wpOps P ops (Only ops ex Q) (List.range' (k + 1) n) a w → wpT P ops (clAt P ops ex) (fun a w => Q .normal a w) (List.range' (k + 1) n) a w := fun a w => list_T n (k + 1) a w (by omega)
  unfold wpOps at h
  simp only [ho] at h
  unfold wpT
  simp only [ho]
  by_cases hw : Region.wanted o (yielded ops a.tmps) = true
  ·rw [if_pos hw] at h
   have h1 : o.wp P a w (wpOps P ops (Only ops ex Q) (List.range' (k + 1) n)) (Only ops ex Q) := h.resolve_right fun h => only_letsOut _ _ h.2
   have h2 := Oper.wp_mono ih (upon_only h1)
   -- what the run comes to, where it cannot but be a value
   have hrun : ∀ (hp : ∀ n w', (execOp a.eval o).run P w = .ok n w' → w' = w ∧ ∃ v, n = .value v), ∃ v, (execOp a.eval o).run P w = .ok (.value v) w ∧ wpT P ops (clAt P ops ex) (fun a w => Q .normal a w) (List.range' (k + 1) n) (a.put o.dst v) w := by
    intro hp
    unfold Oper.wp at h2
    cases hr : (execOp a.eval o).run P w with
    |ok n1 w1 =>
     obtain ⟨rfl, v, rfl⟩ := hp n1 w1 hr
     rw [hr] at h2
     exact ⟨v, rfl, h2⟩
    |halt x w1 =>
     rw [hr] at h2
     cases x <;> exact absurd h2 id
   unfold stT
   split
   ·rename_i hc
    -- class 0
    have hdyn : PurV P (execOp a.eval o) := by
     unfold clAt at hc
     simp only [ho] at hc
     split at hc
     ·cases hc
     rename_i hex
     split at hc
     ·cases hc
     rename_i hst
     refine cls_zero hc ?_
     by_cases hnd : needsDyn o = true
     ·have hstb : stableB ops k o = true := by
       rw [hnd] at hst
       simpa using hst
      have hlook : ∀ t ∈ o.looksAt ops, a'.tmps[t]? = a.tmps[t]? := by
       intro t ht
       refine hoff t fun j hj oj hoj => ?_
       have h5 := List.all_eq_true.1 hstb t ht
       have hjr : k ≤ j ∧ j < ops.size := by
        rcases List.mem_cons.1 hj with rfl | hj
        ·exact ⟨Nat.le_refl _, hlt⟩
        ·have := List.mem_range'_1.1 hj; omega
       have h6 := List.all_eq_true.1 h5 j (List.mem_range.2 hjr.2)
       simp only [hoj, Bool.or_eq_true, decide_eq_true_eq, bne_iff_ne] at h6
       rcases h6 with h6 | h6
       ·omega
       ·exact h6
      have hc2 := List.all_eq_true.1 hchk k (List.mem_range.2 hlt)
      simp only [ho, Bool.or_eq_true, hnd, Bool.not_true, Bool.false_eq_true, false_or] at hc2
      have hops : ∀ x ∈ o.op.operands, a'.eval x = a.eval x := fun x hx => eval_off fun t hxt => hlook t (List.mem_append_left _ (List.mem_filterMap.2 ⟨x, by simpa using hx, by rw [hxt]⟩))
      have hwant : Region.wanted o (yielded ops a'.tmps) = Region.wanted o (yielded ops a.tmps) := by
       unfold Region.wanted
       cases hg : o.guard with
       |none => rfl
       |some gw =>
        obtain ⟨g, want⟩ := gw
        have hy : yielded ops a'.tmps g = yielded ops a.tmps g := by
         unfold yielded
         cases hb : (ops[g]?).bind (·.dst) with
         |none => rfl
         |some t =>
          have := hlook t (List.mem_append_right _ (by simp [hg, hb]))
          simp [this]
        simp only [hy]
      rcases hc2 with hc2 | hc2 | hc2
      ·exact absurd hc2 hex
      ·rw [hwant, hw] at hc2; cases hc2
      ·rw [dyn_congr hops] at hc2; exact hc2
     ·unfold needsDyn at hnd
      unfold dynOk
      split at hnd <;> first | (exact absurd rfl hnd) | rfl | (split <;> first | rfl | (simp_all; done))
    obtain ⟨v, hv, hk'⟩ := hrun fun n w' hr => let ⟨e, v, hn, _⟩ := hdyn w n w' hr; ⟨e, v, hn⟩
    obtain ⟨_, v', hn, hall⟩ := hdyn _ _ _ hv
    injection hn with hn
    subst hn
    exact ⟨v, .inl ⟨hw, hall⟩, hk'⟩
   ·rename_i hc
    have hld : ∃ t x, o.op = .load t x := by
     unfold clAt at hc
     simp only [ho] at hc
     split at hc
     ·cases hc
     split at hc
     ·cases hc
     unfold clsOf at hc
     repeat' (split at hc)
     all_goals first | (cases hc; done) | exact ⟨_, _, by assumption⟩
    obtain ⟨t, x, hop⟩ := hld
    have hr : RdrV P (execOp a.eval o) := by
     obtain ⟨dst, op, type, pos, after, guard⟩ := o
     simp only at hop
     subst hop
     exact rdrV_of (rdr_loadAt _ _)
    obtain ⟨v, hv, hk'⟩ := hrun fun n w' h => hr w n w' h
    exact ⟨v, .inl ⟨hw, hv⟩, hk'⟩
   ·rw [if_pos hw]; exact h2
  ·rw [if_neg hw] at h
   have h2 := ih _ _ h
   have hwf : Region.wanted o (yielded ops a.tmps) = false := by simpa using hw
   unfold stT
   split
   ·exact ⟨undef, .inr ⟨hwf, rfl⟩, h2⟩
   ·exact ⟨undef, .inr ⟨hwf, rfl⟩, h2⟩
   ·rw [if_neg hw]; exact h2

def textB (P : Program) (ops : Array Oper) (ex : List Nat) : Bool := Region.noSelect ops && backB ops && pairsB ops (clAt P ops ex)

theorem wp_region_text {id : Nat} {Q : Exit → Act → World → Prop} {a : Act} {w : World} {l : List Oper} (ex : List Nat) (hm : P.follows .mixedOrders = true) (hB : textB P l.toArray ex = true)
  (h : wpList P l.toArray (Only l.toArray ex Q) l a w.drew) : (Code.region id l.toArray true).wp P Q a w := by
 simp only [textB, Bool.and_eq_true] at hB
 refine wp_region_any hm ?_
 have h1 : wpOps P l.toArray (Only l.toArray ex Q) (List.range' 0 l.length) a w.drew := by
  rw [wpOps_eq_wpList l 0 (by simp)]; exact h
 have h2 := list_T l.length 0 a w.drew (by simp) h1
 have h3 := any_of_T hB.1.1 hB.1.2 hB.2 (List.range' 0 l.length) (Array.replicate l.toArray.size false) a w.drew (by simp) (List.pairwise_lt_range') (fun j => by
  rw [List.mem_range'_1]
  constructor
  ·intro hj
   have hjl : j < l.length := by simpa using hj.2
   exact ⟨by simpa using hjl, by simp [hjl]⟩
  ·intro hj; have := hj.1; simp at this; exact ⟨by omega, by omega⟩) (fun j o ho hj => by
   exfalso
   have : j < l.toArray.size := (Array.getElem?_eq_some_iff.1 ho).1
   simp at this
   simp [this] at hj) h2
 simpa using h3
theorem wp_text {id : Nat} {Q : Exit → Act → World → Prop} {a : Act} {w : World} {l : List Oper} (ex : List Nat) (hm : P.follows .mixedOrders = true) (hB : textB P l.toArray ex = true)
  (h : ∀ Q' : Exit → Act → World → Prop, (∀ a w, chk l.toArray ex a = true ∧ Q .normal a w → Q' .normal a w) → wpList P l.toArray Q' l a w.drew) : (Code.region id l.toArray true).wp P Q a w :=
 wp_region_text ex hm hB (h _ fun _ _ hh => only_intro hh.1 hh.2)
end Go.Proofs.YthojelhpipmkiaaGreatDoor.Text
