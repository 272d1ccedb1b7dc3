/- A region that draws its order and holds calls beside loads (second part: what a walk uses: 'wp_grow', 'wpS_seg', 'wpS_call', 'wpS_end'). No program is named here. -/
import Derived.Test.YtfheocdciekfoaaDoorMA04
namespace Go.Proofs.YtfheocdciekfoaaDoor.Text
open Go Go.RowKit
variable {P : Program} {ops : Array Oper} {w0 : World}

def isLoad (o : Oper) : Bool := match o.op with | .load .. => true | .convert .. => true | _ => false
/-- G: calls (and what makes memory) that leave old memory as it was; LD: loads of old memory; ex: of which nothing shall be reckoned -/
def clG (P : Program) (ops : Array Oper) (G LD ex : List Nat) (i : Nat) : Nat :=
  match ops[i]? with
  | none => 2
  | some o => if G.contains i then 3 else if LD.contains i then (if isLoad o && stableB ops i o then 1 else 2) else if ex.contains i then 2 else if needsDyn o && !stableB ops i o then 2 else if clsOf P o = 0 then 0 else 2
theorem clG_le (G LD ex : List Nat) (i : Nat) : clG P ops G LD ex i ≤ 3 := by
  unfold clG
  split
  · omega
  · repeat' split
    all_goals omega
def chkG (ops : Array Oper) (ex : List Nat) (a : Act) : Bool := chk ops ex a
/-- the loads' addresses are old -/
def oldAt (P : Program) (ops : Array Oper) (w0 : World) (a : Act) (i : Nat) : Prop :=
  match ops[i]? with
  | some o => match o.op with
    | .load _ x => Region.wanted o (yielded ops a.tmps) = true → ∃ ad u, a.eval x = .pointer (some ad) ∧ w0.cell? ad = some u
    | .convert s d x => Region.wanted o (yielded ops a.tmps) = true → ∃ v, ∀ w', Below w0.heap.size w0 w' → (convert s d (a.eval x)).run P w' = .ok v w'
    | _ => True
  | none => True
def oldAll (P : Program) (ops : Array Oper) (w0 : World) (a : Act) : List Nat → Prop
  | [] => True
  | i :: r => oldAt P ops w0 a i ∧ oldAll P ops w0 a r
theorem oldAll_mem {a : Act} : ∀ {l : List Nat} {i : Nat}, oldAll P ops w0 a l → i ∈ l → oldAt P ops w0 a i
  | j :: r, i, h, hi => by
    rcases List.mem_cons.1 hi with rfl | hi
    · exact h.1
    · exact oldAll_mem h.2 hi

theorem dep_lt (hback : backB ops = true) {i x : Nat} (h : Dep ops i x) : x < i := by
  have step : ∀ (i : Nat) (o : Oper) (e : Edge), ops[i]? = some o → e ∈ o.after → Region.binds .any e = true → e.on < i := fun i o e ho he hb => by
    have hlt : i < ops.size := (Array.getElem?_eq_some_iff.1 ho).1
    have h1 := List.all_eq_true.1 hback i (List.mem_range.2 hlt)
    simp only [ho] at h1
    have h2 := Array.all_eq_true_iff_forall_mem.1 h1 e he
    simpa [hb] using h2
  induction h with
  | here ho he hb => exact step _ _ _ ho he hb
  | there ho he hb _ ih => have := step _ _ _ ho he hb; omega
theorem reachS {G LD ex : List Nat} {Q : Act → World → Prop} : ∀ (l : List Oper) (k : Nat) (a : Act) (w : World), (∀ j, l[j]? = ops[k + j]?) →
    wpS P ops w0 G (fun a w => chk ops ex a = true ∧ oldAll P ops w0 a LD ∧ Q a w) k l a w → ∃ a', chk ops ex a' = true ∧ oldAll P ops w0 a' LD ∧ OffDsts ops (List.range' k l.length) a a'
  | [], k, a, w, _, h => ⟨a, h.1, h.2.1, fun _ _ => rfl⟩
  | o :: r, k, a, w, hl, h => by
    have ho : ops[k]? = some o := by simpa using (hl 0).symm
    have hl' : ∀ j, r[j]? = ops[k + 1 + j]? := fun j => by have := hl (j + 1); simpa [Nat.add_assoc, Nat.add_comm 1 j] using this
    unfold wpS at h
    have hn : ∃ a1 w1, Same a a1 o.dst ∧ wpS P ops w0 G (fun a w => chk ops ex a = true ∧ oldAll P ops w0 a LD ∧ Q a w) (k + 1) r a1 w1 := by
      split at h
      · obtain ⟨a1, w1, hs, _, hk⟩ := upon_some noQ_not h
        exact ⟨a1, w1, hs, hk⟩
      · exact ⟨_, _, same_put _ _ _, h⟩
    obtain ⟨a1, w1, hs, h1⟩ := hn
    obtain ⟨a', h2, h3, h4⟩ := reachS r (k + 1) a1 w1 hl' h1
    refine ⟨a', h2, h3, fun t ht => (h4 t fun j hj => ht j ?_).trans (same_off hs (ht k ?_ o ho))⟩
    · rw [List.length_cons, List.range'_succ]; simp [hj]
    · rw [List.length_cons, List.range'_succ]; simp

theorem list_G {G LD ex : List Nat} {Q : Act → World → Prop} : ∀ (l : List Oper) (k : Nat) (a : Act) (w : World), (∀ j, l[j]? = ops[k + j]?) → k + l.length = ops.size →
    lateB ops (clG P ops G LD ex) = true → backB ops = true → ((∀ j, j < k → clG P ops G LD ex j ≠ 2) → Below w0.heap.size w0 w) →
    wpS P ops w0 G (fun a w => chk ops ex a = true ∧ oldAll P ops w0 a LD ∧ Q a w) k l a w → wpG P ops w0 (clG P ops G LD ex) Q (List.range' k l.length) a w
  | [], k, a, w, _, _, _, _, _, h => h.2.2
  | o :: r, k, a, w, hl, hsz, hlate, hback, hinv, h => by
    have ho : ops[k]? = some o := by simpa using (hl 0).symm
    have hlt : k < ops.size := (Array.getElem?_eq_some_iff.1 ho).1
    have hl' : ∀ j, r[j]? = ops[k + 1 + j]? := fun j => by have := hl (j + 1); simpa [Nat.add_assoc, Nat.add_comm 1 j] using this
    have hsz' : k + 1 + r.length = ops.size := by simp at hsz; omega
    obtain ⟨a', hchk, hold, hoff⟩ := reachS (o :: r) k a w hl h
    have ih : ∀ a w, ((∀ j, j < k + 1 → clG P ops G LD ex j ≠ 2) → Below w0.heap.size w0 w) → wpS P ops w0 G (fun a w => chk ops ex a = true ∧ oldAll P ops w0 a LD ∧ Q a w) (k + 1) r a w → wpG P ops w0 (clG P ops G LD ex) Q (List.range' (k + 1) r.length) a w := fun a w => list_G r (k + 1) a w hl' hsz' hlate hback
    rw [List.length_cons, List.range'_succ]
    unfold wpG
    simp only [ho]
    unfold wpS at h
    -- what is known of the operands at the end holds here
    have hstab : stableB ops k o = true → (∀ t ∈ o.looksAt ops, a'.tmps[t]? = a.tmps[t]?) := by
      intro hst t ht
      refine hoff t fun j hj oj hoj => ?_
      have h5 := List.all_eq_true.1 hst t ht
      have hjr : k ≤ j ∧ j < ops.size := by have := List.mem_range'_1.1 hj; omega
      have h6 := List.all_eq_true.1 h5 j (List.mem_range.2 hjr.2)
      simp only [hoj, Bool.or_eq_true, decide_eq_true_eq, bne_iff_ne] at h6
      rcases h6 with h6 | h6
      · omega
      · exact h6
    have hops : (∀ t ∈ o.looksAt ops, a'.tmps[t]? = a.tmps[t]?) → ∀ x ∈ o.op.operands, a'.eval x = a.eval x := fun hlook x hx =>
      eval_off fun t hxt => hlook t (List.mem_append_left _ (List.mem_filterMap.2 ⟨x, by simpa using hx, by rw [hxt]⟩))
    have hwant : (∀ t ∈ o.looksAt ops, a'.tmps[t]? = a.tmps[t]?) → Region.wanted o (yielded ops a'.tmps) = Region.wanted o (yielded ops a.tmps) := by
      intro hlook
      unfold Region.wanted
      cases hg : o.guard with
      | none => rfl
      | some gw =>
        obtain ⟨g, want⟩ := gw
        have hy : yielded ops a'.tmps g = yielded ops a.tmps g := by
          unfold yielded
          cases hb : (ops[g]?).bind (·.dst) with
          | none => rfl
          | some t =>
            have := hlook t (List.mem_append_right _ (by simp [hg, hb]))
            simp [this]
        simp only [hy]
    by_cases hw : Region.wanted o (yielded ops a.tmps) = true
    · rw [if_pos hw] at h
      have hrun : ∀ (hp : ∀ n w', (execOp a.eval o).run P w = .ok n w' → w' = w ∧ ∃ v, n = .value v), ∃ v, (execOp a.eval o).run P w = .ok (.value v) w ∧
          wpS P ops w0 G (fun a w => chk ops ex a = true ∧ oldAll P ops w0 a LD ∧ Q a w) (k + 1) r (a.put o.dst v) w := by
        intro hp
        unfold Oper.wp at h
        cases hr : (execOp a.eval o).run P w with
        | ok n1 w1 =>
          obtain ⟨rfl, v, rfl⟩ := hp n1 w1 hr
          rw [hr] at h
          exact ⟨v, rfl, h.2⟩
        | halt x w1 =>
          rw [hr] at h
          cases x <;> exact absurd h id
      by_cases hc1 : clG P ops G LD ex k ≤ 1
      · have hinv' : ∀ w', w' = w → ((∀ j, j < k + 1 → clG P ops G LD ex j ≠ 2) → Below w0.heap.size w0 w') := fun w' e hj => by subst e; exact hinv fun j hjk => hj j (by omega)
        unfold stG
        rw [if_pos hc1]
        have hc := hc1
        unfold clG at hc
        simp only [ho] at hc
        by_cases hcG : G.contains k = true
        · rw [if_pos hcG] at hc; omega
        rw [if_neg hcG] at hc
        by_cases hcL : LD.contains k = true
        · rw [if_pos hcL] at hc
          have hls : (isLoad o && stableB ops k o) = true := by
            by_cases hls : (isLoad o && stableB ops k o) = true
            · exact hls
            · rw [if_neg hls] at hc; omega
          rw [Bool.and_eq_true] at hls
          have hcl : clG P ops G LD ex k = 1 := by
            unfold clG
            simp only [ho]
            rw [if_neg hcG, if_pos hcL, if_pos (by simp [hls])]
          have hno2 : ∀ j, j < k → clG P ops G LD ex j ≠ 2 := fun j hj hcj => by
            have hd := lateB_spec hlate hlt (show j < ops.size by omega) hcl hcj
            have := dep_lt hback hd
            omega
          have hbw := hinv hno2
          have hlook := hstab hls.2
          have hoa := oldAll_mem hold (by simpa using hcL)
          have hld : (∃ t x, o.op = .load t x) ∨ ∃ s d x, o.op = .convert s d x := by
            have := hls.1
            unfold isLoad at this
            split at this
            · exact .inl ⟨_, _, by assumption⟩
            · exact .inr ⟨_, _, _, by assumption⟩
            · cases this
          rcases hld with ⟨t, x, hop⟩ | ⟨s, d, x, hop⟩
          · have hx := hops hlook x (by rw [hop]; simp [Op.operands])
            unfold oldAt at hoa
            simp only [ho, hop] at hoa
            obtain ⟨ad, u, had, hcell⟩ := hoa (by rw [hwant hlook]; exact hw)
            rw [hx] at had
            have hr0 : RdrV P (execOp a.eval o) := by
              obtain ⟨dst, op, type, pos, after, guard⟩ := o
              simp only at hop
              subst hop
              exact rdrV_of (rdr_loadAt _ _)
            obtain ⟨v, hv, hk⟩ := hrun fun n w' h => hr0 w n w' h
            refine ⟨v, ?_, ih _ _ (hinv' _ rfl) hk⟩
            unfold Yc
            rw [if_neg (by omega)]
            refine .inl ⟨hw, fun w2 hb2 => ?_⟩
            obtain ⟨dst, op, type, pos, after, guard⟩ := o
            simp only at hop
            subst hop
            simp only [execOp] at hv ⊢
            rw [had] at hv ⊢
            obtain ⟨v1, w1, g1, g2⟩ := ok_bind hv
            have := loadAt_same hcell hbw hb2 g1
            rw [Sem.run_bind, this]
            simp only [Sem.run_pure] at g2
            injection g2 with g3 _
            injection g3 with g3
            subst g3
            rfl
          · have hx := hops hlook x (by rw [hop]; simp [Op.operands])
            unfold oldAt at hoa
            simp only [ho, hop] at hoa
            obtain ⟨v0, hv0⟩ := hoa (by rw [hwant hlook]; exact hw)
            rw [hx] at hv0
            have hex : ∀ w2, Below w0.heap.size w0 w2 → (execOp a.eval o).run P w2 = .ok (.value v0) w2 := by
              intro w2 hb2
              obtain ⟨dst, op, type, pos, after, guard⟩ := o
              simp only at hop
              subst hop
              simp only [execOp]
              rw [Sem.run_bind, hv0 w2 hb2]
              rfl
            obtain ⟨v, hv, hk⟩ := hrun fun n w' h => by
              rw [hex w hbw] at h
              injection h with h1 h2
              exact ⟨h2.symm, v0, h1.symm⟩
            rw [hex w hbw] at hv
            injection hv with h1 _
            injection h1 with h1
            subst h1
            refine ⟨v0, ?_, ih _ _ (hinv' _ rfl) hk⟩
            unfold Yc
            rw [if_neg (by omega)]
            exact .inl ⟨hw, hex⟩
        · rw [if_neg hcL] at hc
          by_cases hcE : ex.contains k = true
          · rw [if_pos hcE] at hc; omega
          rw [if_neg hcE] at hc
          by_cases hnst : (needsDyn o && !stableB ops k o) = true
          · rw [if_pos hnst] at hc; omega
          rw [if_neg hnst] at hc
          have hcls : clsOf P o = 0 := by
            by_cases hcls : clsOf P o = 0
            · exact hcls
            · rw [if_neg hcls] at hc; omega
          have hcl : clG P ops G LD ex k = 0 := by
            unfold clG
            simp only [ho]
            rw [if_neg hcG, if_neg hcL, if_neg hcE, if_neg hnst, if_pos hcls]
          have hpv : PurV P (execOp a.eval o) := by
            refine cls_zero hcls ?_
            by_cases hnd : needsDyn o = true
            · have hstb : stableB ops k o = true := by
                rw [hnd] at hnst
                simpa using hnst
              have hlook := hstab hstb
              have hc2 := List.all_eq_true.1 hchk k (List.mem_range.2 hlt)
              simp only [ho, Bool.or_eq_true, hnd, Bool.not_true, Bool.false_eq_true, false_or] at hc2
              rcases hc2 with hc2 | hc2 | hc2
              · exact absurd hc2 hcE
              · rw [hwant hlook, hw] at hc2; cases hc2
              · rw [dyn_congr (hops hlook)] at hc2; exact hc2
            · unfold needsDyn at hnd
              unfold dynOk
              split at hnd <;> first | (exact absurd rfl hnd) | rfl | (split <;> first | rfl | (simp_all; done))
          obtain ⟨v, hv, hk⟩ := hrun fun n w' hr => let ⟨e, v, hn, _⟩ := hpv w n w' hr; ⟨e, v, hn⟩
          obtain ⟨_, v', hn, hall⟩ := hpv _ _ _ hv
          injection hn with hn
          subst hn
          refine ⟨v, ?_, ih _ _ (hinv' _ rfl) hk⟩
          unfold Yc
          rw [if_pos hcl]
          exact .inl ⟨hw, hall⟩
      · unfold stG
        rw [if_neg hc1, if_pos hw]
        refine Oper.wp_mono (fun a1 w1 hh => ?_) h
        have h3 : clG P ops G LD ex k = 3 → G.contains k = true := by
          intro h3
          unfold clG at h3
          simp only [ho] at h3
          by_cases hcG : G.contains k = true
          · exact hcG
          · rw [if_neg hcG] at h3
            repeat' (split at h3)
            all_goals omega
        refine ⟨fun hc3 => hh.1 (h3 hc3), ih _ _ (fun hj => ?_) hh.2⟩
        have hk2 := hj k (by omega)
        have hk3 : clG P ops G LD ex k = 3 := by have := clG_le (P := P) (ops := ops) G LD ex k; omega
        exact hh.1 (h3 hk3)
    · rw [if_neg hw] at h
      have hwf : Region.wanted o (yielded ops a.tmps) = false := by simpa using hw
      have h2 := ih _ _ (fun hj => hinv fun j hjk => hj j (by omega)) h
      unfold stG
      split
      · refine ⟨undef, ?_, h2⟩
        unfold Yc
        split
        · exact .inr ⟨hwf, rfl⟩
        · exact .inr ⟨hwf, rfl⟩
      · exact h2

def growB (P : Program) (ops : Array Oper) (G LD ex : List Nat) : Bool := Region.noSelect ops && backB ops && pairsG ops (clG P ops G LD ex) && lateB ops (clG P ops G LD ex)

/-- THE THEOREM: G: the operations (by number) that make memory or call, and leave old memory as it was; LD: the loads of old memory; ex: as in 'wp_text'. The goal left: 'wpS ..': cut it by 'wpS_seg', 'wpS_call', 'wpS_end'. -/
theorem wp_grow {id : Nat} {Q : Exit → Act → World → Prop} {a : Act} {w : World} {l : List Oper} (G LD ex : List Nat) (hm : P.follows .mixedOrders = true) (hB : growB P l.toArray G LD ex = true)
    (h : wpS P l.toArray w.drew G (fun a' w' => chk l.toArray ex a' = true ∧ oldAll P l.toArray w.drew a' LD ∧ Q .normal a' w') 0 l a w.drew) : (Code.region id l.toArray true).wp P Q a w := by
  simp only [growB, Bool.and_eq_true] at hB
  refine wp_region_any hm ?_
  have h2 := list_G l 0 a w.drew (by simp) (by simp) hB.2 hB.1.1.2 (fun _ => Below.refl _ _) h
  have h3 := any_of_G (w0 := w.drew) hB.1.1.1 hB.1.1.2 hB.1.2 hB.2 (fun i => clG_le G LD ex i) (List.range' 0 l.length) (Array.replicate l.toArray.size false) a w.drew (by simp) (List.pairwise_lt_range') (fun j => by
    rw [List.mem_range'_1]
    constructor
    · intro hj
      have hjl : j < l.length := by simpa using hj.2
      exact ⟨by simpa using hjl, by simp [hjl]⟩
    · intro hj; have := hj.1; simp at this; exact ⟨by omega, by omega⟩) (fun j o ho hj => by
      exfalso
      have : j < l.toArray.size := (Array.getElem?_eq_some_iff.1 ho).1
      simp at this
      simp [this] at hj) (fun _ => Below.refl _ _) h2
  simpa using h3
/-- at a call (or what makes memory) that stands next, without a guard -/
theorem wpS_call {G : List Nat} {Q : Act → World → Prop} {k : Nat} {o : Oper} {r : List Oper} {a : Act} {w : World} (hg : o.guard = none)
    (h : ∀ (K : Act → World → Prop), (∀ a' w', Below w0.heap.size w0 w' ∧ wpS P ops w0 G Q (k + 1) r a' w' → K a' w') → o.wp P a w K NoQ) : wpS P ops w0 G Q k (o :: r) a w := by
  unfold wpS
  rw [if_pos (by simp [Region.wanted, hg])]
  exact Oper.wp_mono (fun a' w' hh => ⟨fun _ => hh.1, hh.2⟩) (h _ fun _ _ hh => hh)
/-- .. with a guard that holds -/
theorem wpS_want {G : List Nat} {Q : Act → World → Prop} {k : Nat} {o : Oper} {r : List Oper} {a : Act} {w : World} (hg : Region.wanted o (yielded ops a.tmps) = true)
    (h : ∀ (K : Act → World → Prop), (∀ a' w', Below w0.heap.size w0 w' ∧ wpS P ops w0 G Q (k + 1) r a' w' → K a' w') → o.wp P a w K NoQ) : wpS P ops w0 G Q k (o :: r) a w := by
  unfold wpS
  rw [if_pos hg]
  exact Oper.wp_mono (fun a' w' hh => ⟨fun _ => hh.1, hh.2⟩) (h _ fun _ _ hh => hh)
/-- .. with a guard that doesn't -/
theorem wpS_skip {G : List Nat} {Q : Act → World → Prop} {k : Nat} {o : Oper} {r : List Oper} {a : Act} {w : World} (hg : Region.wanted o (yielded ops a.tmps) = false)
    (h : wpS P ops w0 G Q (k + 1) r (a.put o.dst undef) w) : wpS P ops w0 G Q k (o :: r) a w := by
  unfold wpS
  rw [if_neg (by simp [hg])]
  exact h
theorem wpS_end {G : List Nat} {Q : Act → World → Prop} {k : Nat} {a : Act} {w : World} (h : Q a w) : wpS P ops w0 G Q k [] a w := h
/-- one operation of G, as a walk takes it: 'go_wp2 ..; the contract', and at its end 'Below .. ∧ wpS ..' of what follows -/
theorem wpS_one {G : List Nat} {Q : Act → World → Prop} {k : Nat} {o : Oper} {r : List Oper} {a : Act} {w : World}
    (h : ∀ Q' : Exit → Act → World → Prop, (∀ a' w', Below w0.heap.size w0 w' ∧ wpS P ops w0 G Q (k + 1) r a' w' → Q' .normal a' w') → wpList P ops Q' [o] a w) : wpS P ops w0 G Q k (o :: r) a w := by
  have h0 := h (fun e a w => e = .normal ∧ Below w0.heap.size w0 w ∧ wpS P ops w0 G Q (k + 1) r a w) (fun a w hh => ⟨rfl, hh⟩)
  have hnl : ¬ LetsOut (fun e a w => e = Exit.normal ∧ Below w0.heap.size w0 w ∧ wpS P ops w0 G Q (k + 1) r a w) := fun ⟨_, _, hh⟩ => by cases hh.1
  have hno : ∀ (e : Exit) (a : Act) (w : World), e ≠ .normal → ¬ (e = Exit.normal ∧ Below w0.heap.size w0 w ∧ wpS P ops w0 G Q (k + 1) r a w) := fun _ _ _ hn hh => hn hh.1
  unfold wpList at h0
  unfold wpS
  split at h0
  · rename_i hw
    rw [if_pos hw]
    have h1 := h0.resolve_right fun hh => hnl hh.2
    have h2 := Oper.wp_mono (K' := fun a' w' => (G.contains k = true → Below w0.heap.size w0 w') ∧ wpS P ops w0 G Q (k + 1) r a' w') (fun a w hh => by
      simp only [wpList] at hh
      exact ⟨fun _ => hh.2.1, hh.2.2⟩) h1
    exact wp_noQ hno hnl h2
  · rename_i hw
    rw [if_neg hw]
    simp only [wpList] at h0
    exact h0.2.2
theorem no_want {b : Bool} {p : Prop} (h2 : b = false) (h : b = true) : p := by rw [h] at h2; cases h2
end Go.Proofs.YtfheocdciekfoaaDoor.Text
