/- Texts of this proof joined: Grow2, Words. -/
import Derived.Test.YtplbcbamnjnhlaaDoorMP03
import Derived.WalkKit
import Derived.WalkSpells
import Derived.WalkLawsBesides
import Derived.Handy
import Derived.Lib.Hide
import Derived.Maps.AppendAt
/- A region that draws its order and holds calls beside loads (second part: what a walk uses: 'wp_grow', 'wpS_seg', 'wpS_call', 'wpS_end'). No program is named here. -/
namespace Go.Proofs.YtplbcbamnjnhlaaDoor.Text
open Go Go.RowKit
variable {P : Program} {ops : Array Oper} {w0 : World}

def isLoad (o : Oper) : Bool := match o.op with | .load .. => true | .convert .. => true | _ => false
/-- G: calls (and what makes memory) that leave old memory as it was; LD: loads of old memory; ex: of which nothing shall be reckoned -/
def clG (P : Program) (ops : Array Oper) (G LD ex : List Nat) (i : Nat) : Nat :=
  match ops[i]? with
  | none => 2
  | some o => if G.contains i then 3 else if LD.contains i then (if isLoad o && stableB ops i o then 1 else 2) else if ex.contains i then 2 else if needsDyn o && !stableB ops i o then 2 else if clsOf P o = 0 then 0 else 2
theorem clG_le (G LD ex : List Nat) (i : Nat) : clG P ops G LD ex i ≤ 3 := by
  unfold clG
  split
  · omega
  · repeat' split
    all_goals omega
def chkG (ops : Array Oper) (ex : List Nat) (a : Act) : Bool := chk ops ex a
/-- the loads' addresses are old -/
def oldAt (P : Program) (ops : Array Oper) (w0 : World) (a : Act) (i : Nat) : Prop :=
  match ops[i]? with
  | some o => match o.op with
    | .load _ x => Region.wanted o (yielded ops a.tmps) = true → ∃ ad u, a.eval x = .pointer (some ad) ∧ w0.cell? ad = some u
    | .convert s d x => Region.wanted o (yielded ops a.tmps) = true → ∃ v, ∀ w', Below w0.heap.size w0 w' → (convert s d (a.eval x)).run P w' = .ok v w'
    | _ => True
  | none => True
def oldAll (P : Program) (ops : Array Oper) (w0 : World) (a : Act) : List Nat → Prop
  | [] => True
  | i :: r => oldAt P ops w0 a i ∧ oldAll P ops w0 a r
theorem oldAll_mem {a : Act} : ∀ {l : List Nat} {i : Nat}, oldAll P ops w0 a l → i ∈ l → oldAt P ops w0 a i
  | j :: r, i, h, hi => by
    rcases List.mem_cons.1 hi with rfl | hi
    · exact h.1
    · exact oldAll_mem h.2 hi

theorem dep_lt (hback : backB ops = true) {i x : Nat} (h : Dep ops i x) : x < i := by
  have step : ∀ (i : Nat) (o : Oper) (e : Edge), ops[i]? = some o → e ∈ o.after → Region.binds .any e = true → e.on < i := fun i o e ho he hb => by
    have hlt : i < ops.size := (Array.getElem?_eq_some_iff.1 ho).1
    have h1 := List.all_eq_true.1 hback i (List.mem_range.2 hlt)
    simp only [ho] at h1
    have h2 := Array.all_eq_true_iff_forall_mem.1 h1 e he
    simpa [hb] using h2
  induction h with
  | here ho he hb => exact step _ _ _ ho he hb
  | there ho he hb _ ih => have := step _ _ _ ho he hb; omega
theorem reachS {G LD ex : List Nat} {Q : Act → World → Prop} : ∀ (l : List Oper) (k : Nat) (a : Act) (w : World), (∀ j, l[j]? = ops[k + j]?) →
    wpS P ops w0 G (fun a w => chk ops ex a = true ∧ oldAll P ops w0 a LD ∧ Q a w) k l a w → ∃ a', chk ops ex a' = true ∧ oldAll P ops w0 a' LD ∧ OffDsts ops (List.range' k l.length) a a'
  | [], k, a, w, _, h => ⟨a, h.1, h.2.1, fun _ _ => rfl⟩
  | o :: r, k, a, w, hl, h => by
    have ho : ops[k]? = some o := by simpa using (hl 0).symm
    have hl' : ∀ j, r[j]? = ops[k + 1 + j]? := fun j => by have := hl (j + 1); simpa [Nat.add_assoc, Nat.add_comm 1 j] using this
    unfold wpS at h
    have hn : ∃ a1 w1, Same a a1 o.dst ∧ wpS P ops w0 G (fun a w => chk ops ex a = true ∧ oldAll P ops w0 a LD ∧ Q a w) (k + 1) r a1 w1 := by
      split at h
      · obtain ⟨a1, w1, hs, _, hk⟩ := upon_some noQ_not h
        exact ⟨a1, w1, hs, hk⟩
      · exact ⟨_, _, same_put _ _ _, h⟩
    obtain ⟨a1, w1, hs, h1⟩ := hn
    obtain ⟨a', h2, h3, h4⟩ := reachS r (k + 1) a1 w1 hl' h1
    refine ⟨a', h2, h3, fun t ht => (h4 t fun j hj => ht j ?_).trans (same_off hs (ht k ?_ o ho))⟩
    · rw [List.length_cons, List.range'_succ]; simp [hj]
    · rw [List.length_cons, List.range'_succ]; simp

theorem list_G {G LD ex : List Nat} {Q : Act → World → Prop} : ∀ (l : List Oper) (k : Nat) (a : Act) (w : World), (∀ j, l[j]? = ops[k + j]?) → k + l.length = ops.size →
    lateB ops (clG P ops G LD ex) = true → backB ops = true → ((∀ j, j < k → clG P ops G LD ex j ≠ 2) → Below w0.heap.size w0 w) →
    wpS P ops w0 G (fun a w => chk ops ex a = true ∧ oldAll P ops w0 a LD ∧ Q a w) k l a w → wpG P ops w0 (clG P ops G LD ex) Q (List.range' k l.length) a w
  | [], k, a, w, _, _, _, _, _, h => h.2.2
  | o :: r, k, a, w, hl, hsz, hlate, hback, hinv, h => by
    have ho : ops[k]? = some o := by simpa using (hl 0).symm
    have hlt : k < ops.size := (Array.getElem?_eq_some_iff.1 ho).1
    have hl' : ∀ j, r[j]? = ops[k + 1 + j]? := fun j => by have := hl (j + 1); simpa [Nat.add_assoc, Nat.add_comm 1 j] using this
    have hsz' : k + 1 + r.length = ops.size := by simp at hsz; omega
    obtain ⟨a', hchk, hold, hoff⟩ := reachS (o :: r) k a w hl h
    have ih : ∀ a w, ((∀ j, j < k + 1 → clG P ops G LD ex j ≠ 2) → Below w0.heap.size w0 w) → wpS P ops w0 G (fun a w => chk ops ex a = true ∧ oldAll P ops w0 a LD ∧ Q a w) (k + 1) r a w → wpG P ops w0 (clG P ops G LD ex) Q (List.range' (k + 1) r.length) a w := fun a w => list_G r (k + 1) a w hl' hsz' hlate hback
    rw [List.length_cons, List.range'_succ]
    unfold wpG
    simp only [ho]
    unfold wpS at h
    -- what is known of the operands at the end holds here
    have hstab : stableB ops k o = true → (∀ t ∈ o.looksAt ops, a'.tmps[t]? = a.tmps[t]?) := by
      intro hst t ht
      refine hoff t fun j hj oj hoj => ?_
      have h5 := List.all_eq_true.1 hst t ht
      have hjr : k ≤ j ∧ j < ops.size := by have := List.mem_range'_1.1 hj; omega
      have h6 := List.all_eq_true.1 h5 j (List.mem_range.2 hjr.2)
      simp only [hoj, Bool.or_eq_true, decide_eq_true_eq, bne_iff_ne] at h6
      rcases h6 with h6 | h6
      · omega
      · exact h6
    have hops : (∀ t ∈ o.looksAt ops, a'.tmps[t]? = a.tmps[t]?) → ∀ x ∈ o.op.operands, a'.eval x = a.eval x := fun hlook x hx =>
      eval_off fun t hxt => hlook t (List.mem_append_left _ (List.mem_filterMap.2 ⟨x, by simpa using hx, by rw [hxt]⟩))
    have hwant : (∀ t ∈ o.looksAt ops, a'.tmps[t]? = a.tmps[t]?) → Region.wanted o (yielded ops a'.tmps) = Region.wanted o (yielded ops a.tmps) := by
      intro hlook
      unfold Region.wanted
      cases hg : o.guard with
      | none => rfl
      | some gw =>
        obtain ⟨g, want⟩ := gw
        have hy : yielded ops a'.tmps g = yielded ops a.tmps g := by
          unfold yielded
          cases hb : (ops[g]?).bind (·.dst) with
          | none => rfl
          | some t =>
            have := hlook t (List.mem_append_right _ (by simp [hg, hb]))
            simp [this]
        simp only [hy]
    by_cases hw : Region.wanted o (yielded ops a.tmps) = true
    · rw [if_pos hw] at h
      have hrun : ∀ (hp : ∀ n w', (execOp a.eval o).run P w = .ok n w' → w' = w ∧ ∃ v, n = .value v), ∃ v, (execOp a.eval o).run P w = .ok (.value v) w ∧
          wpS P ops w0 G (fun a w => chk ops ex a = true ∧ oldAll P ops w0 a LD ∧ Q a w) (k + 1) r (a.put o.dst v) w := by
        intro hp
        unfold Oper.wp at h
        cases hr : (execOp a.eval o).run P w with
        | ok n1 w1 =>
          obtain ⟨rfl, v, rfl⟩ := hp n1 w1 hr
          rw [hr] at h
          exact ⟨v, rfl, h.2⟩
        | halt x w1 =>
          rw [hr] at h
          cases x <;> exact absurd h id
      by_cases hc1 : clG P ops G LD ex k ≤ 1
      · have hinv' : ∀ w', w' = w → ((∀ j, j < k + 1 → clG P ops G LD ex j ≠ 2) → Below w0.heap.size w0 w') := fun w' e hj => by subst e; exact hinv fun j hjk => hj j (by omega)
        unfold stG
        rw [if_pos hc1]
        have hc := hc1
        unfold clG at hc
        simp only [ho] at hc
        by_cases hcG : G.contains k = true
        · rw [if_pos hcG] at hc; omega
        rw [if_neg hcG] at hc
        by_cases hcL : LD.contains k = true
        · rw [if_pos hcL] at hc
          have hls : (isLoad o && stableB ops k o) = true := by
            by_cases hls : (isLoad o && stableB ops k o) = true
            · exact hls
            · rw [if_neg hls] at hc; omega
          rw [Bool.and_eq_true] at hls
          have hcl : clG P ops G LD ex k = 1 := by
            unfold clG
            simp only [ho]
            rw [if_neg hcG, if_pos hcL, if_pos (by simp [hls])]
          have hno2 : ∀ j, j < k → clG P ops G LD ex j ≠ 2 := fun j hj hcj => by
            have hd := lateB_spec hlate hlt (show j < ops.size by omega) hcl hcj
            have := dep_lt hback hd
            omega
          have hbw := hinv hno2
          have hlook := hstab hls.2
          have hoa := oldAll_mem hold (by simpa using hcL)
          have hld : (∃ t x, o.op = .load t x) ∨ ∃ s d x, o.op = .convert s d x := by
            have := hls.1
            unfold isLoad at this
            split at this
            · exact .inl ⟨_, _, by assumption⟩
            · exact .inr ⟨_, _, _, by assumption⟩
            · cases this
          rcases hld with ⟨t, x, hop⟩ | ⟨s, d, x, hop⟩
          · have hx := hops hlook x (by rw [hop]; simp [Op.operands])
            unfold oldAt at hoa
            simp only [ho, hop] at hoa
            obtain ⟨ad, u, had, hcell⟩ := hoa (by rw [hwant hlook]; exact hw)
            rw [hx] at had
            have hr0 : RdrV P (execOp a.eval o) := by
              obtain ⟨dst, op, type, pos, after, guard⟩ := o
              simp only at hop
              subst hop
              exact rdrV_of (rdr_loadAt _ _)
            obtain ⟨v, hv, hk⟩ := hrun fun n w' h => hr0 w n w' h
            refine ⟨v, ?_, ih _ _ (hinv' _ rfl) hk⟩
            unfold Yc
            rw [if_neg (by omega)]
            refine .inl ⟨hw, fun w2 hb2 => ?_⟩
            obtain ⟨dst, op, type, pos, after, guard⟩ := o
            simp only at hop
            subst hop
            simp only [execOp] at hv ⊢
            rw [had] at hv ⊢
            obtain ⟨v1, w1, g1, g2⟩ := ok_bind hv
            have := loadAt_same hcell hbw hb2 g1
            rw [Sem.run_bind, this]
            simp only [Sem.run_pure] at g2
            injection g2 with g3 _
            injection g3 with g3
            subst g3
            rfl
          · have hx := hops hlook x (by rw [hop]; simp [Op.operands])
            unfold oldAt at hoa
            simp only [ho, hop] at hoa
            obtain ⟨v0, hv0⟩ := hoa (by rw [hwant hlook]; exact hw)
            rw [hx] at hv0
            have hex : ∀ w2, Below w0.heap.size w0 w2 → (execOp a.eval o).run P w2 = .ok (.value v0) w2 := by
              intro w2 hb2
              obtain ⟨dst, op, type, pos, after, guard⟩ := o
              simp only at hop
              subst hop
              simp only [execOp]
              rw [Sem.run_bind, hv0 w2 hb2]
              rfl
            obtain ⟨v, hv, hk⟩ := hrun fun n w' h => by
              rw [hex w hbw] at h
              injection h with h1 h2
              exact ⟨h2.symm, v0, h1.symm⟩
            rw [hex w hbw] at hv
            injection hv with h1 _
            injection h1 with h1
            subst h1
            refine ⟨v0, ?_, ih _ _ (hinv' _ rfl) hk⟩
            unfold Yc
            rw [if_neg (by omega)]
            exact .inl ⟨hw, hex⟩
        · rw [if_neg hcL] at hc
          by_cases hcE : ex.contains k = true
          · rw [if_pos hcE] at hc; omega
          rw [if_neg hcE] at hc
          by_cases hnst : (needsDyn o && !stableB ops k o) = true
          · rw [if_pos hnst] at hc; omega
          rw [if_neg hnst] at hc
          have hcls : clsOf P o = 0 := by
            by_cases hcls : clsOf P o = 0
            · exact hcls
            · rw [if_neg hcls] at hc; omega
          have hcl : clG P ops G LD ex k = 0 := by
            unfold clG
            simp only [ho]
            rw [if_neg hcG, if_neg hcL, if_neg hcE, if_neg hnst, if_pos hcls]
          have hpv : PurV P (execOp a.eval o) := by
            refine cls_zero hcls ?_
            by_cases hnd : needsDyn o = true
            · have hstb : stableB ops k o = true := by
                rw [hnd] at hnst
                simpa using hnst
              have hlook := hstab hstb
              have hc2 := List.all_eq_true.1 hchk k (List.mem_range.2 hlt)
              simp only [ho, Bool.or_eq_true, hnd, Bool.not_true, Bool.false_eq_true, false_or] at hc2
              rcases hc2 with hc2 | hc2 | hc2
              · exact absurd hc2 hcE
              · rw [hwant hlook, hw] at hc2; cases hc2
              · rw [dyn_congr (hops hlook)] at hc2; exact hc2
            · unfold needsDyn at hnd
              unfold dynOk
              split at hnd <;> first | (exact absurd rfl hnd) | rfl | (split <;> first | rfl | (simp_all; done))
          obtain ⟨v, hv, hk⟩ := hrun fun n w' hr => let ⟨e, v, hn, _⟩ := hpv w n w' hr; ⟨e, v, hn⟩
          obtain ⟨_, v', hn, hall⟩ := hpv _ _ _ hv
          injection hn with hn
          subst hn
          refine ⟨v, ?_, ih _ _ (hinv' _ rfl) hk⟩
          unfold Yc
          rw [if_pos hcl]
          exact .inl ⟨hw, hall⟩
      · unfold stG
        rw [if_neg hc1, if_pos hw]
        refine Oper.wp_mono (fun a1 w1 hh => ?_) h
        have h3 : clG P ops G LD ex k = 3 → G.contains k = true := by
          intro h3
          unfold clG at h3
          simp only [ho] at h3
          by_cases hcG : G.contains k = true
          · exact hcG
          · rw [if_neg hcG] at h3
            repeat' (split at h3)
            all_goals omega
        refine ⟨fun hc3 => hh.1 (h3 hc3), ih _ _ (fun hj => ?_) hh.2⟩
        have hk2 := hj k (by omega)
        have hk3 : clG P ops G LD ex k = 3 := by have := clG_le (P := P) (ops := ops) G LD ex k; omega
        exact hh.1 (h3 hk3)
    · rw [if_neg hw] at h
      have hwf : Region.wanted o (yielded ops a.tmps) = false := by simpa using hw
      have h2 := ih _ _ (fun hj => hinv fun j hjk => hj j (by omega)) h
      unfold stG
      split
      · refine ⟨undef, ?_, h2⟩
        unfold Yc
        split
        · exact .inr ⟨hwf, rfl⟩
        · exact .inr ⟨hwf, rfl⟩
      · exact h2

def growB (P : Program) (ops : Array Oper) (G LD ex : List Nat) : Bool := Region.noSelect ops && backB ops && pairsG ops (clG P ops G LD ex) && lateB ops (clG P ops G LD ex)

/-- THE THEOREM: G: the operations (by number) that make memory or call, and leave old memory as it was; LD: the loads of old memory; ex: as in 'wp_text'. The goal left: 'wpS ..': cut it by 'wpS_seg', 'wpS_call', 'wpS_end'. -/
theorem wp_grow {id : Nat} {Q : Exit → Act → World → Prop} {a : Act} {w : World} {l : List Oper} (G LD ex : List Nat) (hm : P.follows .mixedOrders = true) (hB : growB P l.toArray G LD ex = true)
    (h : wpS P l.toArray w.drew G (fun a' w' => chk l.toArray ex a' = true ∧ oldAll P l.toArray w.drew a' LD ∧ Q .normal a' w') 0 l a w.drew) : (Code.region id l.toArray true).wp P Q a w := by
  simp only [growB, Bool.and_eq_true] at hB
  refine wp_region_any hm ?_
  have h2 := list_G l 0 a w.drew (by simp) (by simp) hB.2 hB.1.1.2 (fun _ => Below.refl _ _) h
  have h3 := any_of_G (w0 := w.drew) hB.1.1.1 hB.1.1.2 hB.1.2 hB.2 (fun i => clG_le G LD ex i) (List.range' 0 l.length) (Array.replicate l.toArray.size false) a w.drew (by simp) (List.pairwise_lt_range') (fun j => by
    rw [List.mem_range'_1]
    constructor
    · intro hj
      have hjl : j < l.length := by simpa using hj.2
      exact ⟨by simpa using hjl, by simp [hjl]⟩
    · intro hj; have := hj.1; simp at this; exact ⟨by omega, by omega⟩) (fun j o ho hj => by
      exfalso
      have : j < l.toArray.size := (Array.getElem?_eq_some_iff.1 ho).1
      simp at this
      simp [this] at hj) (fun _ => Below.refl _ _) h2
  simpa using h3
/-- at a call (or what makes memory) that stands next, without a guard -/
theorem wpS_call {G : List Nat} {Q : Act → World → Prop} {k : Nat} {o : Oper} {r : List Oper} {a : Act} {w : World} (hg : o.guard = none)
    (h : ∀ (K : Act → World → Prop), (∀ a' w', Below w0.heap.size w0 w' ∧ wpS P ops w0 G Q (k + 1) r a' w' → K a' w') → o.wp P a w K NoQ) : wpS P ops w0 G Q k (o :: r) a w := by
  unfold wpS
  rw [if_pos (by simp [Region.wanted, hg])]
  exact Oper.wp_mono (fun a' w' hh => ⟨fun _ => hh.1, hh.2⟩) (h _ fun _ _ hh => hh)
/-- .. with a guard that holds -/
theorem wpS_want {G : List Nat} {Q : Act → World → Prop} {k : Nat} {o : Oper} {r : List Oper} {a : Act} {w : World} (hg : Region.wanted o (yielded ops a.tmps) = true)
    (h : ∀ (K : Act → World → Prop), (∀ a' w', Below w0.heap.size w0 w' ∧ wpS P ops w0 G Q (k + 1) r a' w' → K a' w') → o.wp P a w K NoQ) : wpS P ops w0 G Q k (o :: r) a w := by
  unfold wpS
  rw [if_pos hg]
  exact Oper.wp_mono (fun a' w' hh => ⟨fun _ => hh.1, hh.2⟩) (h _ fun _ _ hh => hh)
/-- .. with a guard that doesn't -/
theorem wpS_skip {G : List Nat} {Q : Act → World → Prop} {k : Nat} {o : Oper} {r : List Oper} {a : Act} {w : World} (hg : Region.wanted o (yielded ops a.tmps) = false)
    (h : wpS P ops w0 G Q (k + 1) r (a.put o.dst undef) w) : wpS P ops w0 G Q k (o :: r) a w := by
  unfold wpS
  rw [if_neg (by simp [hg])]
  exact h
theorem wpS_end {G : List Nat} {Q : Act → World → Prop} {k : Nat} {a : Act} {w : World} (h : Q a w) : wpS P ops w0 G Q k [] a w := h
/-- one operation of G, as a walk takes it: 'go_wp2 ..; the contract', and at its end 'Below .. ∧ wpS ..' of what follows -/
theorem wpS_one {G : List Nat} {Q : Act → World → Prop} {k : Nat} {o : Oper} {r : List Oper} {a : Act} {w : World}
    (h : ∀ Q' : Exit → Act → World → Prop, (∀ a' w', Below w0.heap.size w0 w' ∧ wpS P ops w0 G Q (k + 1) r a' w' → Q' .normal a' w') → wpList P ops Q' [o] a w) : wpS P ops w0 G Q k (o :: r) a w := by
  have h0 := h (fun e a w => e = .normal ∧ Below w0.heap.size w0 w ∧ wpS P ops w0 G Q (k + 1) r a w) (fun a w hh => ⟨rfl, hh⟩)
  have hnl : ¬ LetsOut (fun e a w => e = Exit.normal ∧ Below w0.heap.size w0 w ∧ wpS P ops w0 G Q (k + 1) r a w) := fun ⟨_, _, hh⟩ => by cases hh.1
  have hno : ∀ (e : Exit) (a : Act) (w : World), e ≠ .normal → ¬ (e = Exit.normal ∧ Below w0.heap.size w0 w ∧ wpS P ops w0 G Q (k + 1) r a w) := fun _ _ _ hn hh => hn hh.1
  unfold wpList at h0
  unfold wpS
  split at h0
  · rename_i hw
    rw [if_pos hw]
    have h1 := h0.resolve_right fun hh => hnl hh.2
    have h2 := Oper.wp_mono (K' := fun a' w' => (G.contains k = true → Below w0.heap.size w0 w') ∧ wpS P ops w0 G Q (k + 1) r a' w') (fun a w hh => by
      simp only [wpList] at hh
      exact ⟨fun _ => hh.2.1, hh.2.2⟩) h1
    exact wp_noQ hno hnl h2
  · rename_i hw
    rw [if_neg hw]
    simp only [wpList] at h0
    exact h0.2.2
theorem no_want {b : Bool} {p : Prop} (h2 : b = false) (h : b = true) : p := by rw [h] at h2; cases h2
end Go.Proofs.YtplbcbamnjnhlaaDoor.Text
/- Words of our own: slices that read as lists, endings, small facts. No program is named here. -/
namespace Go.Proofs.YtplbcbamnjnhlaaDoor
open Go.RowKit

/-! Endings -/
theorem rt1 {a a' : Value} (h : a = a') : Ending.returned a = .returned a' := by rw [h]
theorem rt2 {a b a' b' : Value} (h : a = a') (h2 : b = b') : Ending.returned (.tuple #[a, b]) = .returned (.tuple #[a', b']) := by rw [h, h2]
theorem rt3 {a b c a' b' c' : Value} (h : a = a') (h2 : b = b') (h3 : c = c') : Ending.returned (.tuple #[a, b, c]) = .returned (.tuple #[a', b', c']) := by rw [h, h2, h3]
theorem vint {k : IntKind} {a b : Int} (h : a = b) : Value.int k a = .int k b := by rw [h]
theorem vbool {a b : Bool} (h : a = b) : Value.bool a = .bool b := by rw [h]
theorem vstr {a b : ByteArray} (h : a = b) : Value.string a = .string b := by rw [h]

/-! A slice whose cells read as a list of values, below block B -/
def Rd (w : World) (B : Nat) (A : Option Addr) (xs : List Value) : Prop :=
  xs ≠ [] → ∃ b off, A = some ⟨b, off, none⟩ ∧ b < B ∧ ∀ j u, xs[j]? = some u → w.cell? ⟨b, off + j, none⟩ = some u

theorem add_block (a : Addr) (n : Nat) : (a.add n).block = a.block := by unfold Addr.add; split <;> rfl
theorem addr_plain {w : World} {a : Addr} {v : Value} (h : w.cell? a = some v) : a = ⟨a.block, a.off, none⟩ := by
  obtain ⟨b, o, s⟩ := a
  cases s with
  | none => rfl
  | some s =>
    exfalso
    simp only [World.cell?] at h
    split at h
    · simp at h
    · cases h

section
variable {w w' : World} {B B' : Nat} {A : Option Addr} {xs : List Value}
theorem Rd.nil_ : Rd w B A [] := fun h => absurd rfl h
theorem Rd.at_ (h : Rd w B A xs) {k : Nat} (hk : k < xs.length) : ∃ b off, A = some ⟨b, off, none⟩ ∧ b < B ∧ w.cell? ⟨b, off + k, none⟩ = some xs[k] := by
  obtain ⟨b, off, e, hb, hc⟩ := h (by intro e; subst e; simp at hk)
  exact ⟨b, off, e, hb, hc k _ (List.getElem?_eq_getElem hk)⟩
theorem Rd.keep (h : Rd w B A xs) (hk : ∀ p : Addr, p.block < B → w'.cell? p = w.cell? p) : Rd w' B A xs := fun hn => by
  obtain ⟨b, off, e, hb, hc⟩ := h hn
  exact ⟨b, off, e, hb, fun j u hu => (hk _ hb).trans (hc j u hu)⟩
theorem Rd.more (h : Rd w B A xs) (hB : B ≤ B') : Rd w B' A xs := fun hn => by
  obtain ⟨b, off, e, hb, hc⟩ := h hn
  exact ⟨b, off, e, by omega, hc⟩
theorem Rd.below (h : Rd w B A xs) (hb : Below B w w') : Rd w' B A xs := h.keep fun _ hp => hb.cell hp
theorem Rd.drop_ (h : Rd w B A xs) (k : Nat) {cap : Nat} (hc : k < xs.length → k ≠ cap) :
    Rd w B (if cap = k then A else A.map (·.add k)) (xs.drop k) := fun hn => by
  have hl : k < xs.length := by
    rcases Nat.lt_or_ge k xs.length with h' | h'
    · exact h'
    · exact absurd (List.drop_eq_nil_of_le h') hn
  obtain ⟨b, off, rfl, hb, hcell⟩ := h (by intro e; subst e; simp at hl)
  have := hc hl
  rw [if_neg (by omega)]
  refine ⟨b, off + k, by simp [Addr.add_lit], hb, fun j u hu => ?_⟩
  rw [Nat.add_assoc]
  exact hcell _ u (by rw [← hu, List.getElem?_drop])
theorem Rd.take_ (h : Rd w B A xs) (k : Nat) : Rd w B A (xs.take k) := fun hn => by
  obtain ⟨b, off, e, hb, hcell⟩ := h (by intro e; subst e; simp at hn)
  refine ⟨b, off, e, hb, fun j u hu => hcell j u ?_⟩
  rw [List.getElem?_take] at hu
  split at hu
  · exact hu
  · cases hu
theorem Rd.of_own {base : Nat} {e : TypeId} {size n c : Nat} (h : w.ownsRow base e size (.slice A n c) n xs) : Rd w w.heap.size A xs := fun hn => by
  rcases h.2 with ⟨hv, h0⟩ | ⟨g, cap, cur, hv, _, hg, _⟩
  · have h1 := h.1
    rw [h0] at h1
    exact absurd (List.eq_nil_of_length_eq_zero (by omega)) hn
  · have hA : A = some ⟨g, 0, none⟩ := by injection hv
    subst hA
    refine ⟨g, 0, rfl, (Array.getElem?_eq_some_iff.1 hg).1, fun j u hu => ?_⟩
    have := h.cells (g := g) rfl j u hu
    rwa [Addr.add_lit] at this
end

/-- what a slice that the call owns looks like -/
theorem own_form {w : World} {base : Nat} {e : TypeId} {size : Nat} {v : Value} {n : Nat} {xs : List Value} (h : w.ownsRow base e size v n xs) :
    ∃ A c, v = .slice A n c ∧ n ≤ c ∧ c ≤ maxLen := by
  rcases h.2 with ⟨rfl, rfl⟩ | ⟨g, cap, cur, rfl, _, _, h1, h2, _⟩
  · exact ⟨none, 0, rfl, by omega, by simp [maxLen]⟩
  · exact ⟨_, cap, rfl, h1, h2⟩
theorem own_more {w : World} {base base' : Nat} {e : TypeId} {size : Nat} {v : Value} {n : Nat} {xs : List Value} (h : w.ownsRow base e size v n xs) (hb : base' ≤ base) :
    w.ownsRow base' e size v n xs := by
  refine ⟨h.1, ?_⟩
  rcases h.2 with h' | ⟨g, cap, cur, rfl, hg, r⟩
  · exact .inl h'
  · exact .inr ⟨g, cap, cur, rfl, by omega, r⟩
/-- an owned row stays where only what lies below its base has turned .. or rather: where all blocks that were there read as before -/
theorem own_below {w w' : World} {base : Nat} {e : TypeId} {size : Nat} {v : Value} {n : Nat} {xs : List Value} (h : w.ownsRow base e size v n xs) (hb : Below w.heap.size w w') :
    w'.ownsRow base e size v n xs := by
  refine ⟨h.1, ?_⟩
  rcases h.2 with h' | ⟨g, cap, cur, rfl, hg, hh, r⟩
  · exact .inl h'
  · exact .inr ⟨g, cap, cur, rfl, hg, (hb.block g (Array.getElem?_eq_some_iff.1 hh).1).trans hh, r⟩

/-- a whole row stored into the block that was laid last -/
theorem world_eq {a b : World} (h : a.heap = b.heap) (h2 : a.tape = b.tape) (h3 : a.drawn = b.drawn) (h4 : a.os = b.os) (h5 : a.output = b.output) : a = b := by
  cases a; cases b; simp only at *; subst h h2 h3 h4 h5; rfl
theorem setRow_alloc (w : World) (cur cs : Array Value) (e : TypeId) : (w.alloc (.cells cur e)).setRow w.heap.size cs = w.alloc (.cells cs e) := by
  refine world_eq ?_ rfl rfl rfl rfl
  apply Array.ext_getElem?
  intro i
  by_cases hi : i = w.heap.size
  · subst hi
    rw [setRow_heap _ _ cur cs e (0, 0) (Go.heap_alloc_new w _), Go.heap_alloc_new w _]
  · rw [setRow_other _ _ _ _ hi]
    show (w.heap.push _)[i]? = (w.heap.push _)[i]?
    rw [Array.getElem?_push, Array.getElem?_push, if_neg hi, if_neg hi]
theorem run_store_new {P : Program} (w : World) (cur : Array Value) (e : TypeId) (xs : List Value) (hl : xs.length = cur.size) (h1 : ∀ u ∈ xs, u.oneCell' = true) :
    (storeCells ⟨w.heap.size, 0, none⟩ xs).run P (w.alloc (.cells cur e)) = .ok () (w.alloc (.cells xs.toArray e)) := by
  have h := run_storeCells_at P w.heap.size 0 e xs 0 cur (w.alloc (.cells cur e)) (Go.heap_alloc_new w _) (by omega) h1
  rw [h, setRow_alloc]
  congr 4
  simp [List.drop_eq_nil_of_le (show cur.toList.length ≤ xs.length by simp; omega)]

theorem Rd.row {w : World} {B g : Nat} {e : TypeId} {fr : Nat × Nat} {cs : Array Value} (h : w.heap[g]? = some (.cells cs e fr)) (hB : g < B) : Rd w B (some ⟨g, 0, none⟩) cs.toList := fun _ =>
  ⟨g, 0, rfl, hB, fun j u hu => by
    rw [Nat.zero_add, cell_of_row w g j cs e fr h, ← Array.getElem?_toList]
    exact hu⟩

theorem heap_two (w : World) (o o' : Obj) : ((w.alloc o).alloc o').heap[w.heap.size + 1]? = some o' := by
  have := Go.heap_alloc_new (w.alloc o) o'
  rwa [World.size_alloc] at this
/-! append onto a slice that the call owns -/
structure AppTy (P : Program) (t e : TypeId) (size bytes : Nat) (z : Value) : Prop where
  und : P.underlying t = some (.slice e)
  info : ∃ i, P.info? e = some i ∧ i.zero = some z ∧ i.size = size ∧ i.bytes = bytes
  cells : z.cells.size = size
  pos : 0 < size
theorem appTy {P : Program} {t e : TypeId} {size bytes : Nat} {z : Value} (h1 : P.underlying t = some (.slice e)) (h2 : (P.info? e).map (fun i => (i.zero, i.size, i.bytes)) = some (some z, size, bytes))
    (h3 : z.cells.size = size) (h4 : 0 < size) : AppTy P t e size bytes z := ⟨h1, info_parts h2, h3, h4⟩

section
variable {P : Program} {w : World}
theorem run_app {t ty e : TypeId} {size bytes : Nat} {z : Value} (T : AppTy P t e size bytes z) {base : Nat} {v : Value} {n : Nat} {xs : List Value} (hown : w.ownsRow base e size v n xs)
    {B : Nat} {A : Option Addr} {m c : Nat} {news : List Value} (hr : Rd w B A news) (hl : news.length = m * size) (h1 : ∀ u ∈ news, u.oneCell' = true)
    (h63 : n + m ≤ maxLen) (hbytes : (n + m) * bytes ≤ 140737488355328) (hbase : base ≤ w.heap.size) :
    ∃ v' w', (Builtin.append_ #[t, t] ty #[v, .slice A m c]).run P w = .ok v' w' ∧ w'.ownsRow base e size v' (n + m) (xs ++ news) ∧ w.grownBy w' v.ownBlock ∧
      (v'.ownBlock = v.ownBlock ∨ v'.ownBlock = some w.heap.size) ∧ (v' = .slice none 0 0 ↔ v = .slice none 0 0 ∧ m = 0) := by
  obtain ⟨i, hi, hz, hs, hby⟩ := T.info
  by_cases hm : m = 0
  · subst hm
    have hn : news = [] := List.eq_nil_of_length_eq_zero (by simpa using hl)
    subst hn
    rcases A with _ | ad
    · refine ⟨v, w, ?_, by simpa using hown, ⟨rfl, rfl, rfl, Nat.le_refl _, fun _ _ _ => rfl⟩, .inl rfl, by simp⟩
      rcases hown.2 with ⟨rfl, rfl⟩ | ⟨g, cap, cur, rfl, _, _, hnc, _⟩
      · simp [Builtin.append_, run_underlying T.und, sizeOf, typeInfo, hi, Builtin.lenOf, Builtin.firstCells]
      · simp [Builtin.append_, run_underlying T.und, sizeOf, typeInfo, hi, Builtin.lenOf, Builtin.firstCells, hnc, storeCells]
    · obtain ⟨v', w', g1, g2, g3, g4, g5⟩ := run_append_own_at (P := P) w base t ty e i z size bytes T.und hi hz hs hby T.cells T.pos v n xs hown ad 0 c [] (by simp) (by simp) (by simp) h63 hbytes hbase
      exact ⟨v', w', g1, g2, g3, g5, g4⟩
  · have hne : news ≠ [] := by
      intro e
      subst e
      simp only [List.length_nil] at hl
      have := Nat.mul_pos (Nat.pos_of_ne_zero hm) T.pos
      omega
    obtain ⟨b, off, rfl, _, hc⟩ := hr hne
    obtain ⟨v', w', g1, g2, g3, g4, g5⟩ := run_append_own_at (P := P) w base t ty e i z size bytes T.und hi hz hs hby T.cells T.pos v n xs hown ⟨b, off, none⟩ m c news hl (fun j u hu => by rw [Addr.add_lit]; exact hc j u hu) h1 h63 hbytes hbase
    exact ⟨v', w', g1, g2, g3, g5, g4⟩
theorem wp_app {o : Oper} {a : Act} {K : Act → World → Prop} {Q : Exit → Act → World → Prop} {s x : Operand} {t e : TypeId} {size bytes : Nat} {z : Value} (T : AppTy P t e size bytes z)
    (ho : o.op = .call { callee := .builtin .append, args := #[s, x], argTypes := #[t, t] })
    {v : Value} {A : Option Addr} {m c : Nat} (hs : a.eval s = v) (hx : a.eval x = .slice A m c)
    {base : Nat} {n : Nat} {xs : List Value} (hown : w.ownsRow base e size v n xs)
    {B : Nat} {news : List Value} (hr : Rd w B A news) (hl : news.length = m * size) (h1 : ∀ u ∈ news, u.oneCell' = true)
    (h63 : n + m ≤ maxLen) (hbytes : (n + m) * bytes ≤ 140737488355328) (hbase : base ≤ w.heap.size)
    (h : ∀ v' w', w'.ownsRow base e size v' (n + m) (xs ++ news) → w.grownBy w' v.ownBlock → (v'.ownBlock = v.ownBlock ∨ v'.ownBlock = some w.heap.size) → (v' = .slice none 0 0 ↔ v = .slice none 0 0 ∧ m = 0) → K (a.put o.dst v') w') : o.wp P a w K Q := by
  obtain ⟨v', w', hrun, h2, h3, h4, h5⟩ := run_app (ty := o.type) T hown (c := c) hr hl h1 h63 hbytes hbase
  unfold Oper.wp execOp
  simp only [ho, resolve, invoke, builtin, Sem.run_bind, Sem.run_pure, Result.andThen_ok, List.map_toArray, List.map_cons, List.map_nil, hs, hx, hrun]
  exact h v' w' h2 h3 h4 h5
theorem wpList_app {ops : Array Oper} {rest : List Oper} {o : Oper} {a : Act} {Q : Exit → Act → World → Prop} {s x : Operand} {t e : TypeId} {size bytes : Nat} {z : Value} (T : AppTy P t e size bytes z)
    (hgd : o.guard = none) (ho : o.op = .call { callee := .builtin .append, args := #[s, x], argTypes := #[t, t] })
    {v : Value} {A : Option Addr} {m c : Nat} (hs : a.eval s = v) (hx : a.eval x = .slice A m c)
    {base : Nat} {n : Nat} {xs : List Value} (hown : w.ownsRow base e size v n xs)
    {B : Nat} {news : List Value} (hr : Rd w B A news) (hl : news.length = m * size) (h1 : ∀ u ∈ news, u.oneCell' = true)
    (h63 : n + m ≤ maxLen) (hbytes : (n + m) * bytes ≤ 140737488355328) (hbase : base ≤ w.heap.size)
    (h : ∀ v' w', w'.ownsRow base e size v' (n + m) (xs ++ news) → w.grownBy w' v.ownBlock → (v'.ownBlock = v.ownBlock ∨ v'.ownBlock = some w.heap.size) → (v' = .slice none 0 0 ↔ v = .slice none 0 0 ∧ m = 0) → wpList P ops Q rest (a.put o.dst v') w') :
    wpList P ops Q (o :: rest) a w :=
  wpList_plain hgd fun _ hK => wp_app T ho hs hx hown hr hl h1 h63 hbytes hbase fun v' w' h2 h3 h4 h5 => hK _ _ (h v' w' h2 h3 h4 h5)
end
theorem grown_below {w0 w w' : World} {B base : Nat} {e : TypeId} {size n : Nat} {v : Value} {xs : List Value} (hb : Below B w0 w) (hg : w.grownBy w' v.ownBlock) (hown : w.ownsRow base e size v n xs) (h1 : B ≤ base) (h2 : B ≤ w.heap.size) : Below B w0 w' :=
  hb.grown hg h2 fun k hk => by have := (hown.lt k hk).1; omega
/-- a block of another element type than the owned row's stays -/
theorem grown_other {w w' : World} {base : Nat} {e e' : TypeId} {size n : Nat} {v : Value} {xs : List Value} {g : Nat} {cs : Array Value} {fr : Nat × Nat} (hown : w.ownsRow base e size v n xs) (hg : w.grownBy w' v.ownBlock)
    (h : w.heap[g]? = some (.cells cs e' fr)) (hne : e' ≠ e) : w'.heap[g]? = some (.cells cs e' fr) := by
  refine (hg.block g (Array.getElem?_eq_some_iff.1 h).1 fun he => ?_).trans h
  rcases hown.2 with ⟨rfl, _⟩ | ⟨g', cap, cur, rfl, _, hh, _⟩
  · simp [Value.ownBlock] at he
  · have : g = g' := by simpa [Value.ownBlock] using he
    subst this
    rw [h] at hh
    injection hh with hh
    injection hh with _ h2
    exact hne h2

/-- bytes as cells -/
def bcell (b : UInt8) : Value := .int .u8 (b.toNat : Int)
def bcells (l : List UInt8) : List Value := l.map bcell
theorem bcells_length (l : List UInt8) : (bcells l).length = l.length := by simp [bcells]
theorem bcells_get (l : List UInt8) (k : Nat) (h : k < (bcells l).length) : (bcells l)[k] = .int .u8 ((l[k]'(by simpa [bcells] using h)).toNat : Int) := by simp [bcells, bcell]
theorem bcells_append (l r : List UInt8) : bcells (l ++ r) = bcells l ++ bcells r := by simp [bcells]
theorem Rd.byte {w : World} {B : Nat} {A : Option Addr} {l : List UInt8} (h : Rd w B A (bcells l)) {k : Nat} (hk : k < l.length) :
    ∃ b off, A = some ⟨b, off, none⟩ ∧ b < B ∧ w.cell? ⟨b, off + k, none⟩ = some (.int .u8 (l[k].toNat : Int)) := by
  obtain ⟨b, off, e, hb, hc⟩ := h.at_ (k := k) (by rw [bcells_length]; exact hk)
  exact ⟨b, off, e, hb, by rw [hc, bcells_get]⟩

/-- byte k of a string, as a number -/
def bat (s : ByteArray) (k : Nat) : Int := if h : k < s.size then ((s[k]'h).toNat : Int) else 0
theorem bat_get (s : ByteArray) : ∀ (n : Nat) (h : n < s.size), ((s[n]'h).toNat : Int) = bat s n := fun n h => by unfold bat; rw [dif_pos h]
theorem bat_bd (s : ByteArray) (k : Nat) : 0 ≤ bat s k ∧ bat s k ≤ 255 := by
  unfold bat
  split
  · rename_i h; have := (s[k]).toNat_lt; omega
  · omega
theorem bat_list (s : ByteArray) (k : Nat) (h : k < s.data.toList.length) : bat s k = (s.data.toList[k].toNat : Int) := by
  have h' : k < s.size := by simpa using h
  unfold bat
  rw [dif_pos h']
  simp [ByteArray.getElem_eq_getElem_data]
theorem conv_bytes {P : Program} {w : World} {B : Nat} {A : Option Addr} {l : List UInt8} (h : Rd w B A (bcells l)) {src dst e : TypeId} (hs : P.underlying src = some (.slice e)) (he : P.underlying e = some (.int .u8)) (hd : P.underlying dst = some .string)
    (n : Nat) (hn : n = l.length) (c : Nat) : (convert src dst (.slice A n c)).run P w = .ok (.string ⟨l.toArray⟩) w := by
  subst hn
  cases A with
  | some ad => 
    refine run_convert_bytes_back w src dst e ad c l hs he hd fun j hj => ?_
    obtain ⟨b, off, e', _, hc⟩ := h.byte hj
    injection e' with e'
    subst e'
    rw [Addr.add_lit]
    exact hc
  | none =>
    have hl : l = [] := by
      cases l with
      | nil => rfl
      | cons b r => obtain ⟨_, _, e', _⟩ := h.byte (k := 0) (by simp); cases e'
    subst hl
    exact run_convert_bytes_nil w src e hs he _ c dst hd
theorem bcells_one (l : List UInt8) : ∀ u ∈ bcells l, u.oneCell' = true := by
  intro u hu
  obtain ⟨b, _, rfl⟩ := List.mem_map.1 hu
  rfl

end Go.Proofs.YtplbcbamnjnhlaaDoor
