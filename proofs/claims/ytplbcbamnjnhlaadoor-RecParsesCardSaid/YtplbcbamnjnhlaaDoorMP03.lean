/- A region that draws its order and holds calls beside loads: walked in the order of its text, where the calls leave old memory as it was. No program is named here. -/
import Derived.Test.YtplbcbamnjnhlaaDoorMP02
import Derived.Below
namespace Go.Proofs.YtplbcbamnjnhlaaDoor.Text
open Go Go.RowKit
variable {P : Program} {ops : Array Oper} {w0 : World}

def YOld (P : Program) (ops : Array Oper) (w0 : World) (o : Oper) (v : Value) (a : Act) : Prop :=
  (Region.wanted o (yielded ops a.tmps) = true ∧ ∀ w, Below w0.heap.size w0 w → (execOp a.eval o).run P w = .ok (.value v) w) ∨ (Region.wanted o (yielded ops a.tmps) = false ∧ v = undef)
theorem yold_keep {o : Oper} {v : Value} {a a' : Act} {d : Option Tmp} (hsel : ∀ cs b, o.op ≠ .select cs b) (h1 : ∀ t, d = some t → t ∉ o.looksAt ops) (hs : Same a a' d) :
    YOld P ops w0 o v a ↔ YOld P ops w0 o v a' := by
  obtain ⟨u, ds, rfl⟩ := hs
  have e1 : execOp (({ a with defers := ds } : Act).put d u).eval o = execOp a.eval o := (execOp_put (ops := ops) o hsel _ d u h1).trans rfl
  have e2 : Region.wanted o (yielded ops (({ a with defers := ds } : Act).put d u).tmps) = Region.wanted o (yielded ops a.tmps) := wanted_put o _ d u h1
  unfold YOld
  rw [e1, e2]
theorem yold_one {o : Oper} {v v' : Value} {a : Act} (h : YOld P ops w0 o v a) (h' : YOld P ops w0 o v' a) : v = v' := by
  rcases h with ⟨hw, h⟩ | ⟨hw, rfl⟩ <;> rcases h' with ⟨hw', h'⟩ | ⟨hw', rfl⟩
  · have := (h w0 (Below.refl _ _)).symm.trans (h' w0 (Below.refl _ _))
    injection this with h1 _
    injection h1
  · rw [hw] at hw'; cases hw'
  · rw [hw] at hw'; cases hw'
  · rfl

/-- what an operation of class 0 or 1 yields, whatever the world (of the kind) -/
def Yc (P : Program) (ops : Array Oper) (w0 : World) (c : Nat) (o : Oper) (v : Value) (a : Act) : Prop := if c = 0 then Yields P ops o v a else YOld P ops w0 o v a
theorem yc_keep {c : Nat} {o : Oper} {v : Value} {a a' : Act} {d : Option Tmp} (hsel : ∀ cs b, o.op ≠ .select cs b) (h1 : ∀ t, d = some t → t ∉ o.looksAt ops) (hs : Same a a' d) :
    Yc P ops w0 c o v a ↔ Yc P ops w0 c o v a' := by
  unfold Yc
  split
  · exact yields_keep hsel h1 hs
  · exact yold_keep hsel h1 hs
theorem yc_one {c : Nat} {o : Oper} {v v' : Value} {a : Act} (h : Yc P ops w0 c o v a) (h' : Yc P ops w0 c o v' a) : v = v' := by
  unfold Yc at h h'
  split at h
  · rename_i hc; rw [if_pos hc] at h'; exact yields_one w0 h h'
  · rename_i hc; rw [if_neg hc] at h'; exact yold_one h h'

def stG (P : Program) (ops : Array Oper) (w0 : World) (c : Nat) (o : Oper) (K : Act → World → Prop) (a : Act) (w : World) : Prop :=
  if c ≤ 1 then ∃ v, Yc P ops w0 c o v a ∧ K (a.put o.dst v) w
  else if Region.wanted o (yielded ops a.tmps) = true then o.wp P a w (fun a' w' => (c = 3 → Below w0.heap.size w0 w') ∧ K a' w') NoQ else K (a.put o.dst undef) w

theorem stG_mono {c : Nat} {o : Oper} {K K' : Act → World → Prop} {a : Act} {w : World} (h : ∀ a w, K a w → K' a w) (hh : stG P ops w0 c o K a w) : stG P ops w0 c o K' a w := by
  unfold stG at *
  split at hh
  · rename_i hc; rw [if_pos hc]; obtain ⟨v, h1, h2⟩ := hh; exact ⟨v, h1, h _ _ h2⟩
  · rename_i hc
    rw [if_neg hc]
    split at hh
    · rename_i hw; rw [if_pos hw]; exact Oper.wp_mono (fun a w hk => ⟨hk.1, h _ _ hk.2⟩) hh
    · rename_i hw; rw [if_neg hw]; exact h _ _ hh
theorem stG_some {c : Nat} {o : Oper} {K : Act → World → Prop} {a : Act} {w : World} (hh : stG P ops w0 c o K a w) : ∃ a' w', Same a a' o.dst ∧ K a' w' := by
  unfold stG at hh
  split at hh
  · obtain ⟨v, _, h⟩ := hh; exact ⟨_, _, same_put _ _ _, h⟩
  · split at hh
    · obtain ⟨a', w', hs, _, hk⟩ := upon_some noQ_not hh; exact ⟨a', w', hs, hk⟩
    · exact ⟨_, _, same_put _ _ _, hh⟩
theorem stG_put {c : Nat} {o : Oper} {K K' : Act → World → Prop} {a : Act} {w : World} {dst : Option Tmp} {v : Value}
    (hsel : ∀ cs b, o.op ≠ .select cs b) (h1 : ∀ d, dst = some d → d ∉ o.looksAt ops) (h2 : ∀ d, dst = some d → o.dst ≠ some d)
    (hK : ∀ a' w', Same a a' o.dst → K a' w' → K' (a'.put dst v) w') (hh : stG P ops w0 c o K a w) : stG P ops w0 c o K' (a.put dst v) w := by
  unfold stG at *
  split at hh
  · rename_i hc
    rw [if_pos hc]
    obtain ⟨u, hy, h⟩ := hh
    refine ⟨u, (yc_keep hsel h1 (same_put a dst v)).1 hy, ?_⟩
    rw [Act.put_comm a v u h2]
    exact hK _ _ (same_put _ _ _) h
  · rename_i hc
    rw [if_neg hc, wanted_put o a dst v h1]
    split at hh
    · rename_i hw; rw [if_pos hw]; exact upon_mono hsel h1 h2 (fun a' w' hs hk => ⟨hk.1, hK _ _ hs hk.2⟩) hh
    · rename_i hw; rw [if_neg hw, Act.put_comm a v undef h2]; exact hK _ _ (same_put _ _ _) hh
theorem stG_unput {c : Nat} {o : Oper} {K K' : Act → World → Prop} {a : Act} {w : World} {dst : Option Tmp} {v : Value}
    (hsel : ∀ cs b, o.op ≠ .select cs b) (h1 : ∀ d, dst = some d → d ∉ o.looksAt ops) (h2 : ∀ d, dst = some d → o.dst ≠ some d)
    (hK : ∀ a' w', Same a a' o.dst → K (a'.put dst v) w' → K' a' w') (hh : stG P ops w0 c o K (a.put dst v) w) : stG P ops w0 c o K' a w := by
  unfold stG at *
  split at hh
  · rename_i hc
    rw [if_pos hc]
    obtain ⟨u, hy, h⟩ := hh
    refine ⟨u, (yc_keep hsel h1 (same_put a dst v)).2 hy, ?_⟩
    rw [Act.put_comm a v u h2] at h
    exact hK _ _ (same_put _ _ _) h
  · rename_i hc
    rw [if_neg hc]
    rw [wanted_put o a dst v h1] at hh
    split at hh
    · rename_i hw; rw [if_pos hw]; exact upon_unput hsel h1 h2 (fun a' w' hs hk => ⟨hk.1, hK _ _ hs hk.2⟩) hh
    · rename_i hw; rw [if_neg hw]; rw [Act.put_comm a v undef h2] at hh; exact hK _ _ (same_put _ _ _) hh
theorem swapG {cx cy : Nat} {x y : Oper} {K : Act → World → Prop} {a : Act} {w : World} (hsx : ∀ cs b, x.op ≠ .select cs b) (hsy : ∀ cs b, y.op ≠ .select cs b)
    (hap : x.apart ops y = true) (hc : cx ≤ 1 ∨ cy ≤ 1) (h : stG P ops w0 cx x (stG P ops w0 cy y K) a w) : stG P ops w0 cy y (stG P ops w0 cx x K) a w := by
  obtain ⟨p1, p2, p3⟩ := Oper.apart_spec hap
  have p2' : ∀ d, y.dst = some d → x.dst ≠ some d := fun d hd hx => p2 d hx hd
  rcases hc with hx | hy
  · have h' := h
    unfold stG at h'
    rw [if_pos hx] at h'
    obtain ⟨v, hv, h2⟩ := h'
    refine stG_unput hsy p1 p2 (fun a' w' hs hk => ?_) h2
    unfold stG
    rw [if_pos hx]
    exact ⟨v, (yc_keep hsx p3 hs).1 hv, hk⟩
  · obtain ⟨a1, w1, hs, hst⟩ := stG_some h
    unfold stG at hst
    rw [if_pos hy] at hst
    obtain ⟨v, hv, _⟩ := hst
    have hv0 := (yc_keep hsy p1 hs).2 hv
    have goal : stG P ops w0 cx x K (a.put y.dst v) w := stG_put hsx p3 p2' (fun a' w' hs' hk => by
      unfold stG at hk
      rw [if_pos hy] at hk
      obtain ⟨v', hv', hk⟩ := hk
      have := yc_one hv' ((yc_keep hsy p1 hs').1 hv0)
      subst this
      exact hk) h
    unfold stG
    rw [if_pos hy]
    exact ⟨v, hv0, goal⟩

def wpG (P : Program) (ops : Array Oper) (w0 : World) (cl : Nat → Nat) (Q : Act → World → Prop) : List Nat → Act → World → Prop
  | [], a, w => Q a w
  | i :: r, a, w => match ops[i]? with
    | none => wpG P ops w0 cl Q r a w
    | some o => stG P ops w0 (cl i) o (wpG P ops w0 cl Q r) a w
def compatG (ops : Array Oper) (cl : Nat → Nat) (i j : Nat) : Bool :=
  match ops[i]?, ops[j]? with
  | some x, some y => x.apart ops y && (decide (cl i ≤ 1) || decide (cl j ≤ 1))
  | _, _ => true
theorem frontG {cl : Nat → Nat} {Q : Act → World → Prop} (hsel : Region.noSelect ops = true) (i : Nat) (l2 : List Nat) : ∀ (l1 : List Nat) (a : Act) (w : World), (∀ x ∈ l1, compatG ops cl x i = true) →
    wpG P ops w0 cl Q (l1 ++ i :: l2) a w → wpG P ops w0 cl Q (i :: (l1 ++ l2)) a w
  | [], _, _, _, h => h
  | x :: l1, a, w, hc, h => by
    have hx := hc x (by simp)
    have ih := fun a w => frontG (cl := cl) (Q := Q) hsel i l2 l1 a w (fun y hy => hc y (by simp [hy]))
    cases hox : ops[x]? with
    | none =>
      have h' : wpG P ops w0 cl Q (l1 ++ i :: l2) a w := by simpa [wpG, hox] using h
      have := ih a w h'
      unfold wpG at this ⊢
      split at this
      · simpa [wpG, hox] using this
      · exact stG_mono (fun a w hh => by simpa [wpG, hox] using hh) this
    | some ox =>
      have h1 : stG P ops w0 (cl x) ox (wpG P ops w0 cl Q (l1 ++ i :: l2)) a w := by simpa [wpG, hox] using h
      have h2 := stG_mono ih h1
      cases hoi : ops[i]? with
      | none => simpa [wpG, hox, hoi] using h2
      | some oi =>
        simp only [compatG, hox, hoi, Bool.and_eq_true, Bool.or_eq_true, decide_eq_true_eq] at hx
        have h3 : stG P ops w0 (cl x) ox (stG P ops w0 (cl i) oi (wpG P ops w0 cl Q (l1 ++ l2))) a w := by simpa [wpG, hoi] using h2
        have h4 := swapG (fun cs b => Region.noSelect_spec hsel x ox cs b hox) (fun cs b => Region.noSelect_spec hsel i oi cs b hoi) hx.1 hx.2 h3
        have h5 : stG P ops w0 (cl i) oi (wpG P ops w0 cl Q (x :: (l1 ++ l2))) a w := stG_mono (fun a w hh => by simpa [wpG, hox] using hh) h4
        simpa [wpG, hoi] using h5

def pairsG (ops : Array Oper) (cl : Nat → Nat) : Bool :=
  let m := masks ops.toList []
  (List.range ops.size).all fun i => (List.range i).all fun x => (m.getD i 0).testBit x || compatG ops cl x i
/-- what may write old memory waits for all loads -/
def lateB (ops : Array Oper) (cl : Nat → Nat) : Bool :=
  let m := masks ops.toList []
  (List.range ops.size).all fun j => cl j != 2 || (List.range ops.size).all fun i => cl i != 1 || (m.getD j 0).testBit i
theorem pairsG_spec {cl : Nat → Nat} (h : pairsG ops cl = true) {i x : Nat} (hi : i < ops.size) (hx : x < i) : Dep ops i x ∨ compatG ops cl x i = true := by
  have h1 := List.all_eq_true.1 h i (List.mem_range.2 hi)
  have h2 := List.all_eq_true.1 h1 x (List.mem_range.2 hx)
  rw [Bool.or_eq_true] at h2
  rcases h2 with h2 | h2
  · exact .inl (masks_spec ops.toList [] (by simp) (fun i x hi => absurd hi (by simp)) i x h2)
  · exact .inr h2
theorem lateB_spec {cl : Nat → Nat} (h : lateB ops cl = true) {i j : Nat} (hi : i < ops.size) (hj : j < ops.size) (ci : cl i = 1) (cj : cl j = 2) : Dep ops j i := by
  have h1 := List.all_eq_true.1 h j (List.mem_range.2 hj)
  rw [cj] at h1
  simp only [bne_self_eq_false, Bool.false_or] at h1
  have h2 := List.all_eq_true.1 h1 i (List.mem_range.2 hi)
  rw [ci] at h2
  simp only [bne_self_eq_false, Bool.false_or] at h2
  exact masks_spec ops.toList [] (by simp) (fun i x hi => absurd hi (by simp)) j i h2

theorem wpOp_of_stG {i c : Nat} {o : Oper} {K : Act → World → Prop} {Q : Exit → Act → World → Prop} {a : Act} {w : World} (hc3 : c ≤ 3) (ho : ops[i]? = some o) (hold : c = 1 → Below w0.heap.size w0 w)
    (h : stG P ops w0 c o K a w) : wpOp P ops Q i (fun a' w' => (c ≠ 2 → Below w0.heap.size w0 w → Below w0.heap.size w0 w') ∧ K a' w') a w := by
  unfold wpOp
  simp only [ho]
  unfold stG at h
  split at h
  · rename_i hc
    obtain ⟨v, hy, hk⟩ := h
    unfold Yc at hy
    split at hy
    · rcases hy with ⟨hw, hv⟩ | ⟨hw, rfl⟩
      · rw [if_pos hw]; left; unfold Oper.wp; rw [hv w]; exact ⟨fun _ hb => hb, hk⟩
      · rw [if_neg (by simp [hw])]; exact ⟨fun _ hb => hb, hk⟩
    · rename_i hc0
      rcases hy with ⟨hw, hv⟩ | ⟨hw, rfl⟩
      · rw [if_pos hw]; left; unfold Oper.wp; rw [hv w (hold (by omega))]; exact ⟨fun _ hb => hb, hk⟩
      · rw [if_neg (by simp [hw])]; exact ⟨fun _ hb => hb, hk⟩
  · rename_i hc
    split at h
    · rename_i hw
      rw [if_pos hw]
      left
      have h' : o.wp P a w (fun a' w' => (c ≠ 2 → Below w0.heap.size w0 w → Below w0.heap.size w0 w') ∧ K a' w') NoQ ∨ c ≠ 2 ∧ c ≠ 3 := by
        by_cases h3 : c = 3
        · exact .inl (Oper.wp_mono (fun a w hk => ⟨fun _ _ => hk.1 h3, hk.2⟩) h)
        · by_cases h2 : c = 2
          · exact .inl (Oper.wp_mono (fun a w hk => ⟨fun hn => absurd h2 hn, hk.2⟩) h)
          · exact .inr ⟨h2, h3⟩
      rcases h' with h' | ⟨h2, h3⟩
      · unfold Oper.wp at *
        generalize (execOp a.eval o).run P w = r at *
        cases r with
        | ok n w' =>
          cases n <;> simp only [Oper.upon] at h' ⊢ <;> first
            | exact h'
            | exact Calls.mono h' fun e w'' he => by
                cases e with
                | returned u => exact he
                | panicked c => exact absurd he id
                | outgrown => exact absurd he not_letsOut
        | halt x w' => cases x <;> simp only [Oper.upon] at h' ⊢ <;> first | exact h' | exact absurd h' id
      · omega
    · rename_i hw; rw [if_neg hw]; exact ⟨fun _ hb => hb, h⟩

theorem wp_noQ {o : Oper} {a : Act} {w : World} {K : Act → World → Prop} {Q : Exit → Act → World → Prop} (hno : ∀ (e : Exit) (a : Act) (w : World), e ≠ .normal → ¬ Q e a w) (hnl : ¬ LetsOut Q) (h : o.wp P a w K Q) : o.wp P a w K NoQ := by
  unfold Oper.wp at *
  generalize (execOp a.eval o).run P w = r at *
  cases r with
  | ok n w' =>
    cases n <;> simp only [Oper.upon] at h ⊢ <;> first
      | exact h
      | exact Calls.mono h fun e w'' he => by
          cases e with
          | returned u => exact he
          | panicked c => exact absurd he (hno _ _ _ (by simp))
          | outgrown => exact absurd he hnl
  | halt x w' => cases x <;> simp only [Oper.upon] at h ⊢ <;> first | exact h | exact absurd h (hno _ _ _ (by simp))
theorem wp_Q {o : Oper} {a : Act} {w : World} {K : Act → World → Prop} {Q Q' : Exit → Act → World → Prop} (hQ : ∀ e a w, Q e a w → Q' e a w) (h : o.wp P a w K Q) : o.wp P a w K Q' := by
  unfold Oper.wp at *
  generalize (execOp a.eval o).run P w = r at *
  cases r with
  | ok n w' =>
    cases n <;> simp only [Oper.upon] at h ⊢ <;> first
      | exact h
      | exact Calls.mono h fun e w'' he => by
          cases e with
          | returned u => exact he
          | panicked c => exact hQ _ _ _ he
          | outgrown => obtain ⟨a2, w2, h2⟩ := (he : LetsOut Q); exact (⟨a2, w2, hQ _ _ _ h2⟩ : LetsOut Q')
  | halt x w' => cases x <;> simp only [Oper.upon] at h ⊢ <;> first | exact h | exact hQ _ _ _ h
theorem wpList_mono' {Q Q' : Exit → Act → World → Prop} (hQ : ∀ e a w, Q e a w → Q' e a w) : ∀ (l : List Oper) (a : Act) (w : World), wpList P ops Q l a w → wpList P ops Q' l a w
  | [], a, w, h => hQ _ _ _ h
  | o :: r, a, w, h => by
    unfold wpList at *
    split at h
    · rename_i hw
      rw [if_pos hw]
      rcases h with h | ⟨h1, a2, w2, h2⟩
      · exact .inl (wp_Q hQ (Oper.wp_mono (wpList_mono' hQ r) h))
      · exact .inr ⟨h1, a2, w2, hQ _ _ _ h2⟩
    · rename_i hw
      rw [if_neg hw]
      exact wpList_mono' hQ r _ _ h

theorem any_of_G {cl : Nat → Nat} {Q : Exit → Act → World → Prop} (hsel : Region.noSelect ops = true) (hback : backB ops = true) (hp : pairsG ops cl = true) (hlate : lateB ops cl = true) (hc3 : ∀ i, cl i ≤ 3) :
    ∀ (rem : List Nat) (listed : Array Bool) (a : Act) (w : World), listed.size = ops.size → rem.Pairwise (· < ·) → (∀ j, j ∈ rem ↔ j < ops.size ∧ listed.getD j false = false) → Closed ops listed →
      ((∀ j, j < ops.size → cl j = 2 → listed.getD j false = false) → Below w0.heap.size w0 w) →
      wpG P ops w0 cl (fun a w => Q .normal a w) rem a w → wpAny P .any ops Q rem.length listed a w := by
  intro rem
  induction hn : rem.length generalizing rem with
  | zero =>
    intro listed a w hs _ hm _ _ h
    have he : rem = [] := List.eq_nil_of_length_eq_zero hn
    subst he
    refine ⟨?_, h⟩
    apply List.eq_nil_iff_forall_not_mem.2
    intro j hj
    obtain ⟨h0, o, ho, _⟩ := mem_ready.1 hj
    have hlt : j < ops.size := (Array.getElem?_eq_some_iff.1 ho).1
    rw [getD_flip hs hlt] at h0
    exact absurd ((hm j).2 ⟨hlt, h0⟩) (by simp)
  | succ n ih =>
    intro listed a w hs hpw hm hc hinv h
    have hready : Region.ready .any ops listed ≠ [] := by
      cases hr : rem with
      | nil => rw [hr] at hn; cases hn
      | cons i0 r =>
        have hi0 := (hm i0).1 (by rw [hr]; simp)
        intro hnil
        have hmem : i0 ∈ Region.ready .any ops listed := by
          refine mem_ready.2 ⟨by rw [getD_flip hs hi0.1]; exact hi0.2, ops[i0], Array.getElem?_eq_getElem hi0.1, fun e he hb => ?_⟩
          have h1 := List.all_eq_true.1 hback i0 (List.mem_range.2 hi0.1)
          simp only [Array.getElem?_eq_getElem hi0.1] at h1
          have h2 := Array.all_eq_true_iff_forall_mem.1 h1 e he
          simp only [hb, Bool.not_true, Bool.false_or, decide_eq_true_eq] at h2
          rcases Bool.eq_false_or_eq_true (listed.getD e.on false) with h3 | h3
          · exact h3
          · have h4 := (hm e.on).2 ⟨by omega, h3⟩
            rw [hr] at h4 hpw
            rcases List.mem_cons.1 h4 with h5 | h5
            · omega
            · have := (List.pairwise_cons.1 hpw).1 _ h5; omega
        rw [hnil] at hmem
        cases hmem
    refine ⟨fun h0 => absurd h0 hready, fun i hi => ?_⟩
    obtain ⟨h0, o, ho, hall⟩ := mem_ready.1 hi
    have hlt : i < ops.size := (Array.getElem?_eq_some_iff.1 ho).1
    rw [getD_flip hs hlt] at h0
    have hir : i ∈ rem := (hm i).2 ⟨hlt, h0⟩
    obtain ⟨l1, l2, hl⟩ := List.append_of_mem hir
    subst hl
    rw [List.pairwise_append] at hpw
    obtain ⟨pw1, pw2, pw3⟩ := hpw
    have pw2' := List.pairwise_cons.1 pw2
    have hf := frontG hsel i l2 l1 a w (fun x hx => by
      have hxi : x < i := pw3 x hx i (by simp)
      rcases pairsG_spec hp hlt hxi with hd | hcp
      · have := dep_listed hc hd (fun o' ho' e he hb => by rw [ho] at ho'; injection ho' with e2; subst e2; exact hall e he hb)
        have h2 := ((hm x).1 (by simp [hx])).2
        rw [this] at h2
        cases h2
      · exact hcp) h
    have hst : stG P ops w0 (cl i) o (wpG P ops w0 cl (fun a w => Q .normal a w) (l1 ++ l2)) a w := by simpa [wpG, ho] using hf
    have hold : cl i = 1 → Below w0.heap.size w0 w := fun hci => hinv fun j hj hcj => by
      rcases Bool.eq_false_or_eq_true (listed.getD j false) with h3 | h3
      · exfalso
        have hd := lateB_spec hlate hlt hj hci hcj
        have := dep_listed hc hd (fun o' ho' e he hb => hc j o' ho' h3 e he hb)
        rw [h0] at this
        cases this
      · exact h3
    refine wpOp_mono (fun a' w' hh => ?_) (wpOp_of_stG (Q := Q) (hc3 i) ho hold hst)
    have hlen : (l1 ++ l2).length = n := by simp at hn ⊢; omega
    refine ih (l1 ++ l2) hlen (listed.setIfInBounds i true) a' w' (by simpa using hs) ?_ (fun j => ?_) ?_ ?_ hh.2
    · rw [List.pairwise_append]
      exact ⟨pw1, pw2'.2, fun x hx y hy => pw3 x hx y (by simp [hy])⟩
    · by_cases hji : j = i
      · subst hji
        constructor
        · intro hj
          rcases List.mem_append.1 hj with h5 | h5
          · have := pw3 j h5 j (by simp); omega
          · have := pw2'.1 j h5; omega
        · intro ⟨_, h5⟩
          have : j < listed.size := by omega
          simp [this] at h5
      · rw [getD_set_ne false (Ne.symm hji), ← hm j]
        simp [hji]
    · intro j oj hoj hj e he hb
      by_cases hji : j = i
      · subst hji
        rw [ho] at hoj
        injection hoj with e2
        subst e2
        exact getD_set_true (hall e he hb)
      · rw [getD_set_ne false (Ne.symm hji)] at hj
        exact getD_set_true (hc j oj hoj hj e he hb)
    · intro hno
      have hci : cl i ≠ 2 := fun hci => by
        have := hno i hlt hci
        have hsz : i < listed.size := by omega
        simp [hsz] at this
      refine hh.1 hci (hinv fun j hj hcj => ?_)
      have := hno j hj hcj
      by_cases hji : j = i
      · subst hji; exact absurd hcj hci
      · rwa [getD_set_ne false (Ne.symm hji)] at this

/-! a load of old memory reads the same in every world that has old memory -/
theorem load_same {p : Addr} {m : Mode} {v : Value} {w w1 w' : World} {cs : Array Value} {t : TypeId} {fr : Nat × Nat} (h1 : w.heap[p.block]? = some (.cells cs t fr)) (h2 : w1.heap[p.block]? = some (.cells cs t fr)) (h : (load p m).run P w = .ok v w') :
    w' = w ∧ (load p m).run P w1 = .ok v w1 := by
  have hc : w.cell? p = w1.cell? p := by simp [World.cell?, h1, h2]
  simp only [load, Sem.run] at h ⊢
  rw [← hc]
  cases hcell : w.cell? p with
  | some u => rw [hcell] at h; injection h with e1 e2; subst e1; exact ⟨e2.symm, rfl⟩
  | none =>
    rw [hcell] at h
    simp only [World.farLoad, h1, World.noCell] at h
    cases h
theorem loadCells_same {p : Addr} {w1 : World} {cs : Array Value} {t : TypeId} {fr : Nat × Nat} : ∀ (n i : Nat) (acc vs : Array Value) (w w' : World), w.heap[p.block]? = some (.cells cs t fr) → w1.heap[p.block]? = some (.cells cs t fr) →
    (loadCellsFrom p i n acc).run P w = .ok vs w' → (loadCellsFrom p i n acc).run P w1 = .ok vs w1
  | 0, i, acc, vs, w, w', h1, h2, h => by
    simp only [loadCellsFrom, Sem.run_pure] at h ⊢
    injection h with e1 e2
    subst e1
    rfl
  | n + 1, i, acc, vs, w, w', h1, h2, h => by
    unfold loadCellsFrom at h ⊢
    obtain ⟨v, w2, g1, g2⟩ := ok_bind h
    have hb : (p.add i).block = p.block := by unfold Addr.add; split <;> rfl
    obtain ⟨e, g3⟩ := load_same (p := p.add i) (by rw [hb]; exact h1) (by rw [hb]; exact h2) g1
    subst e
    rw [Sem.run_bind, g3]
    exact loadCells_same n (i + 1) _ vs _ w' h1 h2 g2
theorem loadAt_same {t : TypeId} {ad : Addr} {u v : Value} {w w1 w' : World} (h0 : w0.cell? ad = some u) (hw : Below w0.heap.size w0 w) (hw1 : Below w0.heap.size w0 w1) (h : (Instr.loadAt t (.pointer (some ad))).run P w = .ok v w') :
    (Instr.loadAt t (.pointer (some ad))).run P w1 = .ok v w1 := by
  have hlt := World.block_lt_of_cell? w0 _ h0
  have hcs : ∃ cs t fr, w0.heap[ad.block]? = some (.cells cs t fr) := by
    unfold World.cell? at h0
    split at h0
    · exact ⟨_, _, _, by assumption⟩
    · cases h0
  obtain ⟨cs, te, fr, hh⟩ := hcs
  have h1 : w.heap[ad.block]? = some (.cells cs te fr) := (hw.block _ hlt).trans hh
  have h2 : w1.heap[ad.block]? = some (.cells cs te fr) := (hw1.block _ hlt).trans hh
  unfold Instr.loadAt at h ⊢
  obtain ⟨a, wa, g1, g2⟩ := ok_bind h
  simp only [Instr.sureAddr, Sem.run_pure] at g1
  injection g1 with e1 e2
  subst e1 e2
  rw [Sem.run_bind]
  simp only [Instr.sureAddr, Sem.run_pure, Result.andThen]
  unfold loadVar at g2 ⊢
  obtain ⟨b, wb, g3, g4⟩ := ok_bind g2
  obtain ⟨e3, g5⟩ := pur_isAgg (P := P) t _ b wb g3
  subst e3
  rw [Sem.run_bind, g5 w1]
  simp only [Result.andThen]
  cases b with
  | true =>
    rw [if_pos rfl] at g4 ⊢
    obtain ⟨n, wn, g6, g7⟩ := ok_bind g4
    obtain ⟨e4, g8⟩ := pur_sizeOf (P := P) t _ n wn g6
    subst e4
    obtain ⟨vs, wv, g9, g10⟩ := ok_bind g7
    rw [Sem.run_bind, g8 w1]
    simp only [Result.andThen]
    unfold loadCells at g9 ⊢
    rw [Sem.run_bind, loadCells_same n 0 _ vs _ wv h1 h2 g9]
    simp only [Result.andThen, Sem.run_pure] at g10 ⊢
    injection g10 with e5 _
    rw [e5]
  | false =>
    rw [if_neg (by simp)] at g4 ⊢
    exact (load_same h1 h2 g4).2

def wpS (P : Program) (ops : Array Oper) (w0 : World) (G : List Nat) (Q : Act → World → Prop) : Nat → List Oper → Act → World → Prop
  | _, [], a, w => Q a w
  | k, o :: r, a, w => if Region.wanted o (yielded ops a.tmps) = true then
      o.wp P a w (fun a' w' => (G.contains k = true → Below w0.heap.size w0 w') ∧ wpS P ops w0 G Q (k + 1) r a' w') NoQ
    else wpS P ops w0 G Q (k + 1) r (a.put o.dst undef) w
theorem wpS_seg {G : List Nat} {Q : Act → World → Prop} : ∀ (n k : Nat) (l : List Oper) (a : Act) (w : World), (List.range' k n).all (fun i => !G.contains i) = true →
    (∀ Q' : Exit → Act → World → Prop, (∀ a w, wpS P ops w0 G Q (k + n) (l.drop n) a w → Q' .normal a w) → wpList P ops Q' (l.take n) a w) → wpS P ops w0 G Q k l a w
  | 0, k, l, a, w, _, h => by
    have := h (fun e a w => e = .normal ∧ wpS P ops w0 G Q k l a w) (fun a w hh => ⟨rfl, by simpa using hh⟩)
    simpa [wpList] using this
  | n + 1, k, [], a, w, _, h => by
    have := h (fun e a w => e = .normal ∧ Q a w) (fun a w hh => ⟨rfl, by simpa [wpS] using hh⟩)
    simpa [wpList, wpS] using this
  | n + 1, k, o :: r, a, w, hG, h => by
    rw [List.range'_succ, List.all_cons, Bool.and_eq_true] at hG
    have hk : G.contains k = false := by simpa using hG.1
    have h0 := h (fun e a w => e = .normal ∧ wpS P ops w0 G Q (k + (n + 1)) ((o :: r).drop (n + 1)) a w) (fun a w hh => ⟨rfl, hh⟩)
    have hnl : ¬ LetsOut (fun e a w => e = Exit.normal ∧ wpS P ops w0 G Q (k + (n + 1)) ((o :: r).drop (n + 1)) a w) := fun ⟨_, _, hh⟩ => by cases hh.1
    have hno : ∀ (e : Exit) (a : Act) (w : World), e ≠ .normal → ¬ (e = Exit.normal ∧ wpS P ops w0 G Q (k + (n + 1)) ((o :: r).drop (n + 1)) a w) := fun _ _ _ hn hh => hn hh.1
    have ih : ∀ a w, wpList P ops (fun e a w => e = .normal ∧ wpS P ops w0 G Q (k + (n + 1)) ((o :: r).drop (n + 1)) a w) (r.take n) a w → wpS P ops w0 G Q (k + 1) r a w := fun a w hl =>
      wpS_seg n (k + 1) r a w hG.2 fun Q' hQ' => by
        refine wpList_mono' (fun e a w hh => ?_) _ _ _ hl
        obtain ⟨rfl, hh⟩ := hh
        exact hQ' _ _ (by simpa [Nat.add_assoc, Nat.add_comm 1 n] using hh)
    rw [List.take_succ_cons] at h0
    unfold wpList at h0
    unfold wpS
    split at h0
    · rename_i hw
      rw [if_pos hw]
      have h1 := h0.resolve_right fun hh => hnl hh.2
      have h2 := Oper.wp_mono (K' := fun a' w' => (G.contains k = true → Below w0.heap.size w0 w') ∧ wpS P ops w0 G Q (k + 1) r a' w') (fun a w hh => ⟨fun hk' => (by rw [hk] at hk'; cases hk'), ih a w hh⟩) h1
      exact wp_noQ hno hnl h2
    · rename_i hw
      rw [if_neg hw]
      exact ih _ _ h0
end Go.Proofs.YtplbcbamnjnhlaaDoor.Text
