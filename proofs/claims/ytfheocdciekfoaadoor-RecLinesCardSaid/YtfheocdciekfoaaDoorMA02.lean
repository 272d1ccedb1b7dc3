/- Texts of this proof joined: Text3, Text4. -/
import Derived.Test.YtfheocdciekfoaaDoorMA01
/- A region that draws its order may be walked in the order of its text (third part). No program is named here. -/
namespace Go.Proofs.YtfheocdciekfoaaDoor.Text
open Go
variable {P : Program} {ops : Array Oper}

/-- what a step may do to the act: its own slot, and a deferred call -/
def Same (a a' : Act) (d : Option Tmp) : Prop := ∃ u ds, a' = ({ a with defers := ds } : Act).put d u
theorem same_put (a : Act) (d : Option Tmp) (u : Value) : Same a (a.put d u) d := ⟨u, a.defers, rfl⟩
theorem put_defers (a : Act) (d : Option Tmp) (v : Value) (ds : List Deferred) : ({ a.put d v with defers := ds } : Act) = ({ a with defers := ds } : Act).put d v := by cases d <;> rfl

def Y1 (P : Program) (ops : Array Oper) (o : Oper) (v : Value) (a : Act) (w : World) : Prop :=
  (Region.wanted o (yielded ops a.tmps) = true ∧ (execOp a.eval o).run P w = .ok (.value v) w) ∨ (Region.wanted o (yielded ops a.tmps) = false ∧ v = undef)
def NoQ : Exit → Act → World → Prop := fun _ _ _ => False

def stT (P : Program) (ops : Array Oper) (c : Nat) (o : Oper) (K : Act → World → Prop) (a : Act) (w : World) : Prop :=
  match c with
  | 0 => ∃ v, Yields P ops o v a ∧ K (a.put o.dst v) w
  | 1 => ∃ v, Y1 P ops o v a w ∧ K (a.put o.dst v) w
  | _ => if Region.wanted o (yielded ops a.tmps) = true then o.wp P a w K NoQ else K (a.put o.dst undef) w

theorem upon_some {o : Oper} {a : Act} {w : World} {K : Act → World → Prop} {Q : Exit → Act → World → Prop} (hQ : ∀ e a w, e ≠ .normal → ¬ Q e a w) (h : o.wp P a w K Q) : ∃ a' w', Same a a' o.dst ∧ K a' w' := by
  unfold Oper.wp at h
  generalize (execOp a.eval o).run P w = r at h
  cases r with
  | ok n w' =>
    cases n <;> simp only [Oper.upon] at h
    case value v => exact ⟨_, w', same_put _ _ _, h⟩
    case skip => exact ⟨_, w', same_put _ _ _, h⟩
    case defer d => exact ⟨_, w', ⟨undef, _, rfl⟩, h⟩
    case enter f args =>
      obtain ⟨e, w'', fr, he, _⟩ := h []
      cases e with
      | returned v => exact ⟨_, w'', same_put _ _ _, he⟩
      | panicked c => exact absurd he (hQ _ _ _ (by simp))
      | outgrown => obtain ⟨a2, w2, h2⟩ := (he : LetsOut Q); exact absurd h2 (hQ _ _ _ (by simp))
    case row row args =>
      obtain ⟨v, w'', he, _⟩ := h default []
      exact ⟨_, w'', same_put _ _ _, he⟩
  | halt x w' =>
    cases x <;> simp only [Oper.upon] at h
    case panic v => exact absurd h (hQ _ _ _ (by simp))

theorem noQ_not : ∀ (e : Exit) (a : Act) (w : World), e ≠ .normal → ¬ NoQ e a w := fun _ _ _ _ h => h
theorem not_letsOut : ¬ LetsOut NoQ := fun ⟨_, _, h⟩ => h

/-- monotone, and told what the next act is -/
theorem upon_mono {o : Oper} {a : Act} {w : World} {K K' : Act → World → Prop} {dst : Option Tmp} {v : Value}
    (hsel : ∀ cs b, o.op ≠ .select cs b) (h1 : ∀ d, dst = some d → d ∉ o.looksAt ops) (h2 : ∀ d, dst = some d → o.dst ≠ some d)
    (hK : ∀ a' w', Same a a' o.dst → K a' w' → K' (a'.put dst v) w') (h : o.wp P a w K NoQ) : o.wp P (a.put dst v) w K' NoQ := by
  unfold Oper.wp at *
  rw [execOp_put (ops := ops) o hsel a dst v h1]
  generalize (execOp a.eval o).run P w = r at *
  cases r with
  | ok n w' =>
    cases n <;> simp only [Oper.upon] at h ⊢
    case value u => rw [Act.put_comm a v u h2]; exact hK _ _ (same_put _ _ _) h
    case skip => rw [Act.put_comm a v undef h2]; exact hK _ _ (same_put _ _ _) h
    case defer d =>
      rw [Act.put_defers, Act.put_comm _ v undef h2]
      exact hK _ _ ⟨undef, _, rfl⟩ h
    case enter f args =>
      refine Calls.mono h fun e w'' he => ?_
      cases e with
      | returned u => simp only at he ⊢; rw [Act.put_comm a v u h2]; exact hK _ _ (same_put _ _ _) he
      | panicked c => exact he
      | outgrown => exact he
    case row row args => exact Rows.mono h fun u w'' he => by rw [Act.put_comm a v u h2]; exact hK _ _ (same_put _ _ _) he
  | halt x w' => cases x <;> simp only [Oper.upon] at h ⊢ <;> exact h
theorem upon_unput {o : Oper} {a : Act} {w : World} {K K' : Act → World → Prop} {dst : Option Tmp} {v : Value}
    (hsel : ∀ cs b, o.op ≠ .select cs b) (h1 : ∀ d, dst = some d → d ∉ o.looksAt ops) (h2 : ∀ d, dst = some d → o.dst ≠ some d)
    (hK : ∀ a' w', Same a a' o.dst → K (a'.put dst v) w' → K' a' w') (h : o.wp P (a.put dst v) w K NoQ) : o.wp P a w K' NoQ := by
  unfold Oper.wp at *
  rw [execOp_put (ops := ops) o hsel a dst v h1] at h
  generalize (execOp a.eval o).run P w = r at *
  cases r with
  | ok n w' =>
    cases n <;> simp only [Oper.upon] at h ⊢
    case value u => rw [Act.put_comm a v u h2] at h; exact hK _ _ (same_put _ _ _) h
    case skip => rw [Act.put_comm a v undef h2] at h; exact hK _ _ (same_put _ _ _) h
    case defer d =>
      rw [Act.put_defers, Act.put_comm _ v undef h2] at h
      exact hK _ _ ⟨undef, _, rfl⟩ h
    case enter f args =>
      refine Calls.mono h fun e w'' he => ?_
      cases e with
      | returned u => simp only at he ⊢; rw [Act.put_comm a v u h2] at he; exact hK _ _ (same_put _ _ _) he
      | panicked c => exact he
      | outgrown => exact he
    case row row args => exact Rows.mono h fun u w'' he => by rw [Act.put_comm a v u h2] at he; exact hK _ _ (same_put _ _ _) he
  | halt x w' => cases x <;> simp only [Oper.upon] at h ⊢ <;> exact h

theorem yields_keep {o : Oper} {v : Value} {a a' : Act} {d : Option Tmp} (hsel : ∀ cs b, o.op ≠ .select cs b) (h1 : ∀ t, d = some t → t ∉ o.looksAt ops) (hs : Same a a' d) :
    Yields P ops o v a ↔ Yields P ops o v a' := by
  obtain ⟨u, ds, rfl⟩ := hs
  have e1 : execOp (({ a with defers := ds } : Act).put d u).eval o = execOp a.eval o := (execOp_put (ops := ops) o hsel _ d u h1).trans rfl
  have e2 : Region.wanted o (yielded ops (({ a with defers := ds } : Act).put d u).tmps) = Region.wanted o (yielded ops a.tmps) := wanted_put o _ d u h1
  exact ⟨fun h => h.of_same e1 e2, fun h => h.of_same e1.symm e2.symm⟩
theorem yields_one {o : Oper} {v v' : Value} {a : Act} (w : World) (h : Yields P ops o v a) (h' : Yields P ops o v' a) : v = v' := by
  rcases h with ⟨hw, h⟩ | ⟨hw, rfl⟩ <;> rcases h' with ⟨hw', h'⟩ | ⟨hw', rfl⟩
  · have := (h w).symm.trans (h' w)
    injection this with h1 _
    injection h1
  · rw [hw] at hw'; cases hw'
  · rw [hw] at hw'; cases hw'
  · rfl
theorem y1_put {o : Oper} {v : Value} {a : Act} {w : World} {d : Option Tmp} {u : Value} (hsel : ∀ cs b, o.op ≠ .select cs b) (h1 : ∀ t, d = some t → t ∉ o.looksAt ops) :
    Y1 P ops o v (a.put d u) w ↔ Y1 P ops o v a w := by
  unfold Y1
  rw [execOp_put (ops := ops) o hsel a d u h1, wanted_put o a d u h1]

theorem stT_mono {c : Nat} {o : Oper} {K K' : Act → World → Prop} {a : Act} {w : World} (h : ∀ a w, K a w → K' a w) (hh : stT P ops c o K a w) : stT P ops c o K' a w := by
  unfold stT at *
  split at hh
  · obtain ⟨v, h1, h2⟩ := hh; exact ⟨v, h1, h _ _ h2⟩
  · obtain ⟨v, h1, h2⟩ := hh; exact ⟨v, h1, h _ _ h2⟩
  · split at hh
    · rename_i hw; rw [if_pos hw]; exact Oper.wp_mono h hh
    · rename_i hw; rw [if_neg hw]; exact h _ _ hh
theorem stT_some {c : Nat} {o : Oper} {K : Act → World → Prop} {a : Act} {w : World} (hh : stT P ops c o K a w) : ∃ a' w', Same a a' o.dst ∧ K a' w' := by
  unfold stT at hh
  split at hh
  · obtain ⟨v, _, h⟩ := hh; exact ⟨_, _, same_put _ _ _, h⟩
  · obtain ⟨v, _, h⟩ := hh; exact ⟨_, _, same_put _ _ _, h⟩
  · split at hh
    · exact upon_some noQ_not hh
    · exact ⟨_, _, same_put _ _ _, hh⟩
theorem stT_put {c : Nat} {o : Oper} {K K' : Act → World → Prop} {a : Act} {w : World} {dst : Option Tmp} {v : Value}
    (hsel : ∀ cs b, o.op ≠ .select cs b) (h1 : ∀ d, dst = some d → d ∉ o.looksAt ops) (h2 : ∀ d, dst = some d → o.dst ≠ some d)
    (hK : ∀ a' w', Same a a' o.dst → K a' w' → K' (a'.put dst v) w') (hh : stT P ops c o K a w) : stT P ops c o K' (a.put dst v) w := by
  unfold stT at *
  split at hh
  · obtain ⟨u, hy, h⟩ := hh
    refine ⟨u, (yields_keep hsel h1 (same_put a dst v)).1 hy, ?_⟩
    rw [Act.put_comm a v u h2]
    exact hK _ _ (same_put _ _ _) h
  · obtain ⟨u, hy, h⟩ := hh
    refine ⟨u, (y1_put hsel h1).2 hy, ?_⟩
    rw [Act.put_comm a v u h2]
    exact hK _ _ (same_put _ _ _) h
  · rw [wanted_put o a dst v h1]
    split at hh
    · rename_i hw; rw [if_pos hw]; exact upon_mono hsel h1 h2 hK hh
    · rename_i hw; rw [if_neg hw, Act.put_comm a v undef h2]; exact hK _ _ (same_put _ _ _) hh
theorem stT_unput {c : Nat} {o : Oper} {K K' : Act → World → Prop} {a : Act} {w : World} {dst : Option Tmp} {v : Value}
    (hsel : ∀ cs b, o.op ≠ .select cs b) (h1 : ∀ d, dst = some d → d ∉ o.looksAt ops) (h2 : ∀ d, dst = some d → o.dst ≠ some d)
    (hK : ∀ a' w', Same a a' o.dst → K (a'.put dst v) w' → K' a' w') (hh : stT P ops c o K (a.put dst v) w) : stT P ops c o K' a w := by
  unfold stT at *
  split at hh
  · obtain ⟨u, hy, h⟩ := hh
    refine ⟨u, (yields_keep hsel h1 (same_put a dst v)).2 hy, ?_⟩
    rw [Act.put_comm a v u h2] at h
    exact hK _ _ (same_put _ _ _) h
  · obtain ⟨u, hy, h⟩ := hh
    refine ⟨u, (y1_put hsel h1).1 hy, ?_⟩
    rw [Act.put_comm a v u h2] at h
    exact hK _ _ (same_put _ _ _) h
  · rw [wanted_put o a dst v h1] at hh
    split at hh
    · rename_i hw; rw [if_pos hw]; exact upon_unput hsel h1 h2 hK hh
    · rename_i hw; rw [if_neg hw]; rw [Act.put_comm a v undef h2] at hh; exact hK _ _ (same_put _ _ _) hh

theorem swap {cx cy : Nat} {x y : Oper} {K : Act → World → Prop} {a : Act} {w : World} (hsx : ∀ cs b, x.op ≠ .select cs b) (hsy : ∀ cs b, y.op ≠ .select cs b)
    (hap : x.apart ops y = true) (hc : cx = 0 ∨ cy = 0 ∨ (cx = 1 ∧ cy = 1)) (h : stT P ops cx x (stT P ops cy y K) a w) : stT P ops cy y (stT P ops cx x K) a w := by
  obtain ⟨p1, p2, p3⟩ := Oper.apart_spec hap
  have p2' : ∀ d, y.dst = some d → x.dst ≠ some d := fun d hd hx => p2 d hx hd
  rcases hc with rfl | rfl | ⟨rfl, rfl⟩
  · obtain ⟨v, hy, h2⟩ := h
    exact stT_unput hsy p1 p2 (fun a' w' hs hk => ⟨v, (yields_keep hsx p3 hs).1 hy, hk⟩) h2
  · obtain ⟨a1, w1, hs, v, hy, _⟩ := stT_some h
    have hy0 := (yields_keep hsy p1 hs).2 hy
    refine ⟨v, hy0, stT_put hsx p3 p2' (fun a' w' hs' hk => ?_) h⟩
    obtain ⟨v', hy', hk⟩ := hk
    have := yields_one w' hy' ((yields_keep hsy p1 hs').1 hy0)
    subst this
    exact hk
  · obtain ⟨v, hy, u, hu, hk⟩ := h
    refine ⟨u, (y1_put hsy p1).1 hu, v, (y1_put hsx p3).2 hy, ?_⟩
    rw [← Act.put_comm a v u p2]
    exact hk

def wpT (P : Program) (ops : Array Oper) (cl : Nat → Nat) (Q : Act → World → Prop) : List Nat → Act → World → Prop
  | [], a, w => Q a w
  | i :: r, a, w => match ops[i]? with
    | none => wpT P ops cl Q r a w
    | some o => stT P ops (cl i) o (wpT P ops cl Q r) a w
def compat (ops : Array Oper) (cl : Nat → Nat) (i j : Nat) : Bool :=
  match ops[i]?, ops[j]? with
  | some x, some y => x.apart ops y && (cl i == 0 || cl j == 0 || (cl i == 1 && cl j == 1))
  | _, _ => true
theorem wpT_mono {cl : Nat → Nat} {Q Q' : Act → World → Prop} (h : ∀ a w, Q a w → Q' a w) : ∀ (l : List Nat) (a : Act) (w : World), wpT P ops cl Q l a w → wpT P ops cl Q' l a w
  | [], a, w, hh => h a w hh
  | i :: r, a, w, hh => by
    unfold wpT at *
    split at hh
    · rename_i ho; exact wpT_mono h r a w hh
    · rename_i o ho; exact stT_mono (fun a w => wpT_mono h r a w) hh
theorem front {cl : Nat → Nat} {Q : Act → World → Prop} (hsel : Region.noSelect ops = true) (i : Nat) (l2 : List Nat) : ∀ (l1 : List Nat) (a : Act) (w : World), (∀ x ∈ l1, compat ops cl x i = true) →
    wpT P ops cl Q (l1 ++ i :: l2) a w → wpT P ops cl Q (i :: (l1 ++ l2)) a w
  | [], _, _, _, h => h
  | x :: l1, a, w, hc, h => by
    have hx := hc x (by simp)
    have ih := fun a w => front (cl := cl) (Q := Q) hsel i l2 l1 a w (fun y hy => hc y (by simp [hy]))
    cases hox : ops[x]? with
    | none =>
      have h' : wpT P ops cl Q (l1 ++ i :: l2) a w := by simpa [wpT, hox] using h
      have := ih a w h'
      unfold wpT at this ⊢
      split at this
      · simpa [wpT, hox] using this
      · exact stT_mono (fun a w hh => by simpa [wpT, hox] using hh) this
    | some ox =>
      have h1 : stT P ops (cl x) ox (wpT P ops cl Q (l1 ++ i :: l2)) a w := by simpa [wpT, hox] using h
      have h2 := stT_mono ih h1
      cases hoi : ops[i]? with
      | none => simpa [wpT, hox, hoi] using h2
      | some oi =>
        simp only [compat, hox, hoi, Bool.and_eq_true, Bool.or_eq_true, beq_iff_eq] at hx
        have h3 : stT P ops (cl x) ox (stT P ops (cl i) oi (wpT P ops cl Q (l1 ++ l2))) a w := by simpa [wpT, hoi] using h2
        have h4 := swap (fun cs b => Region.noSelect_spec hsel x ox cs b hox) (fun cs b => Region.noSelect_spec hsel i oi cs b hoi) hx.1 (by rcases hx.2 with (h | h) | h; exact .inl h; exact .inr (.inl h); exact .inr (.inr h)) h3
        have h5 : stT P ops (cl i) oi (wpT P ops cl Q (x :: (l1 ++ l2))) a w := stT_mono (fun a w hh => by simpa [wpT, hox] using hh) h4
        simpa [wpT, hoi] using h5
end Go.Proofs.YtfheocdciekfoaaDoor.Text
/- A region that draws its order may be walked in the order of its text (fourth part: the theorem that a walk uses). No program is named here. -/
namespace Go.Proofs.YtfheocdciekfoaaDoor.Text
open Go
variable {P : Program} {ops : Array Oper}

/-! What an operation waits for, through others -/
inductive Dep (ops : Array Oper) : Nat → Nat → Prop
  | here {i : Nat} {o : Oper} {e : Edge} (ho : ops[i]? = some o) (he : e ∈ o.after) (hb : Region.binds .any e = true) : Dep ops i e.on
  | there {i x : Nat} {o : Oper} {e : Edge} (ho : ops[i]? = some o) (he : e ∈ o.after) (hb : Region.binds .any e = true) (h : Dep ops e.on x) : Dep ops i x

def maskOf (acc : List Nat) (o : Oper) : Nat := o.after.toList.foldl (fun s e => if Region.binds .any e then s ||| (2 ^ e.on ||| acc.getD e.on 0) else s) 0
def masks : List Oper → List Nat → List Nat
  | [], acc => acc
  | o :: r, acc => masks r (acc ++ [maskOf acc o])

theorem foldl_bit (acc : List Nat) (x : Nat) : ∀ (l : List Edge) (s : Nat), (l.foldl (fun s e => if Region.binds .any e then s ||| (2 ^ e.on ||| acc.getD e.on 0) else s) s).testBit x = true →
    s.testBit x = true ∨ ∃ e ∈ l, Region.binds .any e = true ∧ (e.on = x ∨ (acc.getD e.on 0).testBit x = true)
  | [], s, h => .inl h
  | e :: l, s, h => by
    rw [List.foldl_cons] at h
    rcases foldl_bit acc x l _ h with h1 | ⟨e', he', hb, h1⟩
    · split at h1
      · rename_i hb
        rw [Nat.testBit_or, Nat.testBit_or, Bool.or_eq_true, Bool.or_eq_true] at h1
        rcases h1 with h1 | h1 | h1
        · exact .inl h1
        · refine .inr ⟨e, by simp, hb, .inl ?_⟩
          rw [Nat.testBit_two_pow] at h1
          simpa using h1
        · exact .inr ⟨e, by simp, hb, .inr h1⟩
      · exact .inl h1
    · exact .inr ⟨e', by simp [he'], hb, h1⟩

theorem masks_spec : ∀ (l : List Oper) (acc : List Nat), (∀ j, l[j]? = ops[acc.length + j]?) → (∀ i x, i < acc.length → (acc.getD i 0).testBit x = true → Dep ops i x) →
    ∀ i x, ((masks l acc).getD i 0).testBit x = true → Dep ops i x
  | [], acc, _, h, i, x, hb => by
    rcases Nat.lt_or_ge i acc.length with hi | hi
    · exact h i x hi hb
    · simp [masks, List.getD_eq_getElem?_getD, List.getElem?_eq_none hi] at hb
  | o :: r, acc, hl, h, i, x, hb => by
    refine masks_spec r (acc ++ [maskOf acc o]) (fun j => ?_) (fun i x hi hb => ?_) i x hb
    · have := hl (j + 1)
      simp only [List.getElem?_cons_succ] at this
      rw [this, List.length_append, List.length_singleton]
      congr 1
      omega
    · rw [List.length_append, List.length_singleton] at hi
      by_cases hia : i < acc.length
      · rw [List.getD_eq_getElem?_getD, List.getElem?_append_left hia, ← List.getD_eq_getElem?_getD] at hb
        exact h i x hia hb
      · have hie : i = acc.length := by omega
        subst hie
        rw [List.getD_eq_getElem?_getD, List.getElem?_append_right (Nat.le_refl _)] at hb
        simp only [Nat.sub_self, List.getElem?_cons_zero, Option.getD_some] at hb
        have ho : ops[acc.length]? = some o := by simpa using (hl 0).symm
        rcases foldl_bit acc x _ _ hb with h1 | ⟨e, he, hbi, h1⟩
        · simp at h1
        · rcases h1 with rfl | h1
          · exact .here ho (by simpa using he) hbi
          · rcases Nat.lt_or_ge e.on acc.length with hlt | hge
            · exact .there ho (by simpa using he) hbi (h _ _ hlt h1)
            · simp [List.getD_eq_getElem?_getD, List.getElem?_eq_none hge] at h1

/-- each operation waits for earlier ones alone -/
def backB (ops : Array Oper) : Bool := (List.range ops.size).all fun i => match ops[i]? with
  | some o => o.after.all fun e => !Region.binds .any e || decide (e.on < i)
  | none => true
def pairsB (ops : Array Oper) (cl : Nat → Nat) : Bool :=
  let m := masks ops.toList []
  (List.range ops.size).all fun i => (List.range i).all fun x => (m.getD i 0).testBit x || compat ops cl x i
theorem pairs_spec {cl : Nat → Nat} (h : pairsB ops cl = true) {i x : Nat} (hi : i < ops.size) (hx : x < i) : Dep ops i x ∨ compat ops cl x i = true := by
  have h1 := List.all_eq_true.1 h i (List.mem_range.2 hi)
  have h2 := List.all_eq_true.1 h1 x (List.mem_range.2 hx)
  rw [Bool.or_eq_true] at h2
  rcases h2 with h2 | h2
  · exact .inl (masks_spec ops.toList [] (by simp) (fun i x hi => absurd hi (by simp)) i x h2)
  · exact .inr h2

/-- what is listed is listed with all that it waits for -/
def Closed (ops : Array Oper) (listed : Array Bool) : Prop := ∀ j o, ops[j]? = some o → listed.getD j false = true → ∀ e ∈ o.after, Region.binds .any e = true → listed.getD e.on false = true
theorem dep_listed {listed : Array Bool} (hc : Closed ops listed) {i x : Nat} (h : Dep ops i x) :
    (∀ o, ops[i]? = some o → ∀ e ∈ o.after, Region.binds .any e = true → listed.getD e.on false = true) → listed.getD x false = true := by
  induction h with
  | here ho he hb => intro h; exact h _ ho _ he hb
  | there ho he hb _ ih => intro h; exact ih fun o' ho' => hc _ o' ho' (h _ ho _ he hb)

theorem getD_flip {listed : Array Bool} {n i : Nat} (hn : listed.size = n) (hi : i < n) : listed.getD i true = listed.getD i false := by
  subst hn
  simp [hi]

theorem wpOp_of_stT {i c : Nat} {o : Oper} {K : Act → World → Prop} {Q : Exit → Act → World → Prop} {a : Act} {w : World} (ho : ops[i]? = some o) (h : stT P ops c o K a w) : wpOp P ops Q i K a w := by
  unfold wpOp
  simp only [ho]
  unfold stT at h
  split at h
  · obtain ⟨v, hy, hk⟩ := h
    rcases hy with ⟨hw, hv⟩ | ⟨hw, rfl⟩
    · rw [if_pos hw]; left; unfold Oper.wp; rw [hv w]; exact hk
    · rw [if_neg (by simp [hw])]; exact hk
  · obtain ⟨v, hy, hk⟩ := h
    rcases hy with ⟨hw, hv⟩ | ⟨hw, rfl⟩
    · rw [if_pos hw]; left; unfold Oper.wp; rw [hv]; exact hk
    · rw [if_neg (by simp [hw])]; exact hk
  · split at h
    · rename_i hw
      rw [if_pos hw]
      left
      unfold Oper.wp at *
      generalize (execOp a.eval o).run P w = r at *
      cases r with
      | ok n w' =>
        cases n <;> simp only [Oper.upon] at h ⊢ <;> first
          | exact h
          | exact Calls.mono h fun e w'' he => by
              cases e with
              | returned u => exact he
              | panicked c => exact absurd he id
              | outgrown => exact absurd he not_letsOut
      | halt x w' => cases x <;> simp only [Oper.upon] at h ⊢ <;> first | exact h | exact absurd h id
    · rename_i hw; rw [if_neg hw]; exact h

theorem any_of_T {cl : Nat → Nat} {Q : Exit → Act → World → Prop} (hsel : Region.noSelect ops = true) (hback : backB ops = true) (hp : pairsB ops cl = true) :
    ∀ (rem : List Nat) (listed : Array Bool) (a : Act) (w : World), listed.size = ops.size → rem.Pairwise (· < ·) → (∀ j, j ∈ rem ↔ j < ops.size ∧ listed.getD j false = false) → Closed ops listed →
      wpT P ops cl (fun a w => Q .normal a w) rem a w → wpAny P .any ops Q rem.length listed a w := by
  intro rem
  induction hn : rem.length generalizing rem with
  | zero =>
    intro listed a w hs _ hm _ h
    have he : rem = [] := List.eq_nil_of_length_eq_zero hn
    subst he
    refine ⟨?_, h⟩
    apply List.eq_nil_iff_forall_not_mem.2
    intro j hj
    obtain ⟨h0, o, ho, _⟩ := mem_ready.1 hj
    have hlt : j < ops.size := (Array.getElem?_eq_some_iff.1 ho).1
    rw [getD_flip hs hlt] at h0
    exact absurd ((hm j).2 ⟨hlt, h0⟩) (by simp)
  | succ n ih =>
    intro listed a w hs hpw hm hc h
    have hready : Region.ready .any ops listed ≠ [] := by
      cases hr : rem with
      | nil => rw [hr] at hn; cases hn
      | cons i0 r =>
        have hi0 := (hm i0).1 (by rw [hr]; simp)
        intro hnil
        have hmem : i0 ∈ Region.ready .any ops listed := by
          refine mem_ready.2 ⟨by rw [getD_flip hs hi0.1]; exact hi0.2, ops[i0], Array.getElem?_eq_getElem hi0.1, fun e he hb => ?_⟩
          have h1 := List.all_eq_true.1 hback i0 (List.mem_range.2 hi0.1)
          simp only [Array.getElem?_eq_getElem hi0.1] at h1
          have h2 := Array.all_eq_true_iff_forall_mem.1 h1 e he
          simp only [hb, Bool.not_true, Bool.false_or, decide_eq_true_eq] at h2
          rcases Bool.eq_false_or_eq_true (listed.getD e.on false) with h3 | h3
          · exact h3
          · have h4 := (hm e.on).2 ⟨by omega, h3⟩
            rw [hr] at h4 hpw
            rcases List.mem_cons.1 h4 with h5 | h5
            · omega
            · have := (List.pairwise_cons.1 hpw).1 _ h5; omega
        rw [hnil] at hmem
        cases hmem
    refine ⟨fun h0 => absurd h0 hready, fun i hi => ?_⟩
    obtain ⟨h0, o, ho, hall⟩ := mem_ready.1 hi
    have hlt : i < ops.size := (Array.getElem?_eq_some_iff.1 ho).1
    rw [getD_flip hs hlt] at h0
    have hir : i ∈ rem := (hm i).2 ⟨hlt, h0⟩
    obtain ⟨l1, l2, hl⟩ := List.append_of_mem hir
    subst hl
    rw [List.pairwise_append] at hpw
    obtain ⟨pw1, pw2, pw3⟩ := hpw
    have pw2' := List.pairwise_cons.1 pw2
    have hf := front hsel i l2 l1 a w (fun x hx => by
      have hxi : x < i := pw3 x hx i (by simp)
      rcases pairs_spec hp hlt hxi with hd | hcp
      · have := dep_listed hc hd (fun o' ho' e he hb => by rw [ho] at ho'; injection ho' with e2; subst e2; exact hall e he hb)
        have h2 := ((hm x).1 (by simp [hx])).2
        rw [this] at h2
        cases h2
      · exact hcp) h
    have hst : stT P ops (cl i) o (wpT P ops cl (fun a w => Q .normal a w) (l1 ++ l2)) a w := by simpa [wpT, ho] using hf
    refine wpOp_mono (fun a' w' hh => ?_) (wpOp_of_stT (Q := Q) ho hst)
    have hlen : (l1 ++ l2).length = n := by simp at hn ⊢; omega
    refine ih (l1 ++ l2) hlen (listed.setIfInBounds i true) a' w' (by simpa using hs) ?_ (fun j => ?_) ?_ hh
    · rw [List.pairwise_append]
      exact ⟨pw1, pw2'.2, fun x hx y hy => pw3 x hx y (by simp [hy])⟩
    · by_cases hji : j = i
      · subst hji
        constructor
        · intro hj
          rcases List.mem_append.1 hj with h5 | h5
          · have := pw3 j h5 j (by simp); omega
          · have := pw2'.1 j h5; omega
        · intro ⟨_, h5⟩
          have : j < listed.size := by omega
          simp [this] at h5
      · rw [getD_set_ne false (Ne.symm hji), ← hm j]
        simp [hji]
    · intro j oj hoj hj e he hb
      by_cases hji : j = i
      · subst hji
        rw [ho] at hoj
        injection hoj with e2
        subst e2
        exact getD_set_true (hall e he hb)
      · rw [getD_set_ne false (Ne.symm hji)] at hj
        exact getD_set_true (hc j oj hoj hj e he hb)
end Go.Proofs.YtfheocdciekfoaaDoor.Text
