import Derived.Test.YtplbcbamnjnhlaaGreatDoorMT00
import Derived.Test.YtplbcbamnjnhlaaGreatDoorMT10
set_option maxRecDepth 100000
set_option maxHeartbeats 40000000
namespace Go.Proofs.YtplbcbamnjnhlaaGreatDoor.TextI
open Go Go.RowKit Go.Proofs.YtplbcbamnjnhlaaGreatDoor.Text
variable {P : Program} {ops : Array Oper} {I : World → Prop}

def dpB (ops : Array Oper) (i x : Nat) : Bool := ((qag ops.toList []).getD i 0).testBit x
theorem qju {i x : Nat} (h : dpB ops i x = true) : Dep ops i x := mq ops.toList [] (by simp) (fun i x hi => absurd hi (by simp)) i x h
theorem step_low {G LD ex : List Nat} {k : Nat} {o : Oper} {a a' : Act} {w : World} {K : Act → World → Prop} (ho : ops[k]? = some o) (hlt : k < ops.size) (hc1 : clG P ops G LD ex k ≤ 1) (hchk : chk ops ex a' = true) (hold : oldAll P ops I a' LD)
  (hstab : ft ops k o = true → ∀ t ∈ o.looksAt ops, a'.tmps[t]? = a.tmps[t]?) (hI : clG P ops G LD ex k = 1 → I w)
  (h : if Region.wanted o (yielded ops a.tmps) = true then o.wp P a w (fun a' w' => (G.contains k = true → I w') ∧ K a' w') NoQ else K (a.put o.dst undef) w) : ∃ v, Yc P ops I (clG P ops G LD ex k) o v a ∧ K (a.put o.dst v) w := by
 have hops : (∀ t ∈ o.looksAt ops, a'.tmps[t]? = a.tmps[t]?) → ∀ x ∈ o.op.operands, a'.eval x = a.eval x := fun hlook x hx =>
  wt fun t hxt => hlook t (List.mem_append_left _ (List.mem_filterMap.2 ⟨x, by simpa using hx, by rw [hxt]⟩))
 have hwant : (∀ t ∈ o.looksAt ops, a'.tmps[t]? = a.tmps[t]?) → Region.wanted o (yielded ops a'.tmps) = Region.wanted o (yielded ops a.tmps) := by
  intro hlook
  unfold Region.wanted
  cases hg : o.guard with
  |none => rfl
  |some gw =>
   obtain ⟨g, want⟩ := gw
   have hy : yielded ops a'.tmps g = yielded ops a.tmps g := by
    unfold yielded
    cases hb : (ops[g]?).bind (·.dst) with
    |none => rfl
    |some t =>
     have := hlook t (List.mem_append_right _ (by simp [hg, hb]))
     simp [this]
   simp only [hy]
 by_cases hw : Region.wanted o (yielded ops a.tmps) = true
 ·rw [if_pos hw] at h
  have hrun : ∀ (hp : ∀ n w', (execOp a.eval o).run P w = .ok n w' → w' = w ∧ ∃ v, n = .value v), ∃ v, (execOp a.eval o).run P w = .ok (.value v) w ∧
    K (a.put o.dst v) w := by
   intro hp
   unfold Oper.wp at h
   cases hr : (execOp a.eval o).run P w with
   |ok n1 w1 =>
    obtain ⟨rfl, v, rfl⟩ := hp n1 w1 hr
    rw [hr] at h
    exact ⟨v, rfl, h.2⟩
   |halt x w1 =>
    rw [hr] at h
    cases x <;> exact absurd h id
  ·have hc := hc1
   unfold clG at hc
   simp only [ho] at hc
   by_cases hcG : G.contains k = true
   ·rw [if_pos hcG] at hc; omega
   rw [if_neg hcG] at hc
   by_cases hcL : LD.contains k = true
   ·rw [if_pos hcL] at hc
    have hls : (og o && ft ops k o) = true := by
     by_cases hls : (og o && ft ops k o) = true
     ·exact hls
     ·rw [if_neg hls] at hc; omega
    rw [Bool.and_eq_true] at hls
    have hcl : clG P ops G LD ex k = 1 := by
     unfold clG
     simp only [ho]
     rw [if_neg hcG, if_pos hcL, if_pos (by simp [hls])]
    have hbw := hI hcl
    have hlook := hstab hls.2
    have hoa := oldAll_mem hold (by simpa using hcL)
    have hld : (∃ t x, o.op = .load t x) ∨ ∃ s d x, o.op = .convert s d x := by
     have := hls.1
     unfold og at this
     split at this
     ·exact .inl ⟨_, _, by assumption⟩
     ·exact .inr ⟨_, _, _, by assumption⟩
     ·cases this
    rcases hld with ⟨t, x, hop⟩ | ⟨s, d, x, hop⟩
    ·have hx := hops hlook x (by rw [hop]; simp [Op.operands])
     unfold oldAt at hoa
     simp only [ho, hop] at hoa
     obtain ⟨v0, hv0⟩ := hoa (by rw [hwant hlook]; exact hw)
     rw [hx] at hv0
     have hex : ∀ w2, I w2 → (execOp a.eval o).run P w2 = .ok (.value v0) w2 := by
      intro w2 hb2
      obtain ⟨dst, op, type, pos, after, guard⟩ := o
      simp only at hop
      subst hop
      simp only [execOp]
      rw [Sem.run_bind, hv0 w2 hb2]
      rfl
     obtain ⟨v, hv, hk⟩ := hrun fun n w' h => by
      rw [hex w hbw] at h
      injection h with h1 h2
      exact ⟨h2.symm, v0, h1.symm⟩
     rw [hex w hbw] at hv
     injection hv with h1 _
     injection h1 with h1
     subst h1
     refine ⟨v0, ?_, hk⟩
     unfold Yc
     rw [if_neg (by omega)]
     exact .inl ⟨hw, hex⟩
    ·have hx := hops hlook x (by rw [hop]; simp [Op.operands])
     unfold oldAt at hoa
     simp only [ho, hop] at hoa
     obtain ⟨v0, hv0⟩ := hoa (by rw [hwant hlook]; exact hw)
     rw [hx] at hv0
     have hex : ∀ w2, I w2 → (execOp a.eval o).run P w2 = .ok (.value v0) w2 := by
      intro w2 hb2
      obtain ⟨dst, op, type, pos, after, guard⟩ := o
      simp only at hop
      subst hop
      simp only [execOp]
      rw [Sem.run_bind, hv0 w2 hb2]
      rfl
     obtain ⟨v, hv, hk⟩ := hrun fun n w' h => by
      rw [hex w hbw] at h
      injection h with h1 h2
      exact ⟨h2.symm, v0, h1.symm⟩
     rw [hex w hbw] at hv
     injection hv with h1 _
     injection h1 with h1
     subst h1
     refine ⟨v0, ?_, hk⟩
     unfold Yc
     rw [if_neg (by omega)]
     exact .inl ⟨hw, hex⟩
   ·rw [if_neg hcL] at hc
    by_cases hcE : ex.contains k = true
    ·rw [if_pos hcE] at hc; omega
    rw [if_neg hcE] at hc
    by_cases hnst : (gz o && !ft ops k o) = true
    ·rw [if_pos hnst] at hc; omega
    rw [if_neg hnst] at hc
    have hcls : tp P o = 0 := by
     by_cases hcls : tp P o = 0
     ·exact hcls
     ·rw [if_neg hcls] at hc; omega
    have hcl : clG P ops G LD ex k = 0 := by
     unfold clG
     simp only [ho]
     rw [if_neg hcG, if_neg hcL, if_neg hcE, if_neg hnst, if_pos hcls]
    have hpv : PurV P (execOp a.eval o) := by
     refine xa hcls ?_
     by_cases hnd : gz o = true
     ·have hstb : ft ops k o = true := by
       rw [hnd] at hnst
       simpa using hnst
      have hlook := hstab hstb
      have hc2 := List.all_eq_true.1 hchk k (List.mem_range.2 hlt)
      simp only [ho, Bool.or_eq_true, hnd, Bool.not_true, Bool.false_eq_true, false_or] at hc2
      rcases hc2 with hc2 | hc2 | hc2
      ·exact absurd hc2 hcE
      ·rw [hwant hlook, hw] at hc2; cases hc2
      ·rw [tn (hops hlook)] at hc2; exact hc2
     ·unfold gz at hnd
      unfold si
      split at hnd <;> first | (exact absurd rfl hnd) | rfl | (split <;> first | rfl | (simp_all; done))
    obtain ⟨v, hv, hk⟩ := hrun fun n w' hr => let ⟨e, v, hn, _⟩ := hpv w n w' hr; ⟨e, v, hn⟩
    obtain ⟨_, v', hn, hall⟩ := hpv _ _ _ hv
    injection hn with hn
    subst hn
    refine ⟨v, ?_, hk⟩
    unfold Yc
    rw [if_pos hcl]
    exact .inl ⟨hw, hall⟩
 ·rw [if_neg hw] at h
  have hwf : Region.wanted o (yielded ops a.tmps) = false := by simpa using hw
  refine ⟨undef, ?_, h⟩
  unfold Yc
  split
  ·exact .inr ⟨hwf, rfl⟩
  ·exact .inr ⟨hwf, rfl⟩

def wpC (P : Program) (ops : Array Oper) (I : World → Prop) (cl : Nat → Nat) (Q : Act → World → Prop) (f : Nat) (fo : Oper) : List Nat → Act → World → Prop
 |[], a, w => stG P ops I (cl f) fo Q a w
 |i :: r, a, w => match ops[i]? with
  |none => wpC P ops I cl Q f fo r a w
  |some o => if dpB ops i f = true then stG P ops I (cl f) fo (wpG P ops I cl Q (i :: r)) a w
   else if cl i ≤ 1 then stG P ops I (cl i) o (wpC P ops I cl Q f fo r) a w
   else stG P ops I (cl i) o (wpC P ops I cl Q f fo r) a w ∧ stG P ops I (cl f) fo (wpG P ops I cl Q (i :: r)) a w
def lg (ops : Array Oper) (cl : Nat → Nat) (f : Nat) (fo : Oper) : Bool :=
 fo.after.all (fun e => !Region.binds .any e) && decide (cl f = 3) &&
  (List.range ops.size).all fun i => i == f || match ops[i]? with
   |some o => (dpB ops i f || decide (1 < cl i) || (o.apart ops fo && fo.apart ops o)) && (decide (i < f) || dpB ops i f || decide (cl i ≤ 1))
   |none => true
section
variable {cl : Nat → Nat} {Q : Act → World → Prop} {f : Nat} {fo : Oper} {w0 : World}
theorem ws (h : lg ops cl f fo = true) {i : Nat} {o : Oper} (ho : ops[i]? = some o) (hif : i ≠ f) (hd : dpB ops i f = false) (hc : cl i ≤ 1) : o.apart ops fo = true ∧ fo.apart ops o = true := by
 have hlt : i < ops.size := (gl ho)
 unfold lg at h
 simp only [Bool.and_eq_true] at h
 have h1 := List.all_eq_true.1 h.2 i (List.mem_range.2 hlt)
 simp only [ho, Bool.or_eq_true, Bool.and_eq_true, beq_iff_eq, hif, false_or, hd, Bool.false_eq_true, decide_eq_true_eq] at h1
 rcases h1.1 with h2 | h2
 ·omega
 ·exact h2
theorem qas (h : lg ops cl f fo = true) {i : Nat} {o : Oper} (ho : ops[i]? = some o) (hif : f < i) (hd : dpB ops i f = false) : cl i ≤ 1 := by
 have hlt : i < ops.size := (gl ho)
 unfold lg at h
 simp only [Bool.and_eq_true] at h
 have h1 := List.all_eq_true.1 h.2 i (List.mem_range.2 hlt)
 have hne : (i == f) = false := by rw [beq_eq_false_iff_ne]; omega
 simp only [ho, hne, Bool.false_or, Bool.and_eq_true] at h1
 have h2 := h1.2
 rw [hd, decide_eq_false (by omega : ¬ i < f), Bool.false_or, Bool.false_or] at h2
 exact of_decide_eq_true h2
theorem qfz (h : lg ops cl f fo = true) : cl f = 3 := by
 unfold lg at h
 simp only [Bool.and_eq_true, decide_eq_true_eq] at h
 exact h.1.2
theorem qat (h : lg ops cl f fo = true) : ∀ e ∈ fo.after, Region.binds .any e = true → False := by
 unfold lg at h
 simp only [Bool.and_eq_true] at h
 intro e he hb
 have := Array.all_eq_true_iff_forall_mem.1 h.1.1 e he
 rw [hb] at this
 cases this
theorem qik (h0 : I w0) (hsel : Region.noSelect ops = true) (hfo : ops[f]? = some fo) (hf : lg ops cl f fo = true) : ∀ (rem : List Nat) (a : Act) (w : World), (∀ x ∈ rem, x ≠ f) →
  wpC P ops I cl Q f fo rem a w → stG P ops I (cl f) fo (wpG P ops I cl Q rem) a w
 |[], _, _, _, h => h
 |i :: r, a, w, hne, h => by
  have ih := fun a w => qik h0 hsel hfo hf r a w (fun x hx => hne x (by simp [hx]))
  cases ho : ops[i]? with
  |none =>
   have h' : wpC P ops I cl Q f fo r a w := by simpa [wpC, ho] using h
   exact stG_mono (fun a w hh => by simpa [wpG, ho] using hh) (ih a w h')
  |some o =>
   unfold wpC at h
   simp only [ho] at h
   by_cases hd : dpB ops i f = true
   ·rwa [if_pos hd] at h
   ·rw [if_neg hd] at h
    by_cases hc : cl i ≤ 1
    ·rw [if_pos hc] at h
     have h1 := stG_mono ih h
     have hap := (ws hf ho (hne i (by simp)) (by simpa using hd) hc).1
     have h2 := swapG h0 (fun cs b => Region.noSelect_spec hsel i o cs b ho) (fun cs b => Region.noSelect_spec hsel f fo cs b hfo) hap (.inl hc) h1
     exact stG_mono (fun a w hh => by simpa [wpG, ho] using hh) h2
    ·rw [if_neg hc] at h
     exact h.2
theorem qfy (h0 : I w0) (hsel : Region.noSelect ops = true) (hfo : ops[f]? = some fo) (hf : lg ops cl f fo = true) : ∀ (rem : List Nat) (a : Act) (w : World), (∀ x ∈ rem, f < x) →
  stG P ops I (cl f) fo (wpG P ops I cl Q rem) a w → wpC P ops I cl Q f fo rem a w
 |[], _, _, _, h => h
 |i :: r, a, w, hlt, h => by
  have ih := fun a w => qfy h0 hsel hfo hf r a w (fun x hx => hlt x (by simp [hx]))
  have hfi := hlt i (by simp)
  cases ho : ops[i]? with
  |none =>
   have h' := ih a w (stG_mono (fun a w hh => by simpa [wpG, ho] using hh) h)
   simpa [wpC, ho] using h'
  |some o =>
   unfold wpC
   simp only [ho]
   by_cases hd : dpB ops i f = true
   ·rwa [if_pos hd]
   ·rw [if_neg hd]
    have hc := qas hf ho hfi (by simpa using hd)
    rw [if_pos hc]
    have hap := (ws hf ho (by omega) (by simpa using hd) hc).2
    have h1 : stG P ops I (cl f) fo (stG P ops I (cl i) o (wpG P ops I cl Q r)) a w := stG_mono (fun a w hh => by simpa [wpG, ho] using hh) h
    have h2 := swapG h0 (fun cs b => Region.noSelect_spec hsel f fo cs b hfo) (fun cs b => Region.noSelect_spec hsel i o cs b ho) hap (.inr hc) h1
    exact stG_mono ih h2
theorem stG_both (h0 : I w0) {c : Nat} {o : Oper} {K K' : Act → World → Prop} {a : Act} {w : World} (hc : c ≤ 1) (h : stG P ops I c o K a w) (h' : stG P ops I c o K' a w) : stG P ops I c o (fun a w => K a w ∧ K' a w) a w := by
 unfold stG at *
 rw [if_pos hc] at *
 obtain ⟨v, hv, hk⟩ := h
 obtain ⟨v', hv', hk'⟩ := h'
 have := yc_one h0 hv hv'
 subst this
 exact ⟨v, hv, hk, hk'⟩
theorem qfx (h0 : I w0) (hsel : Region.noSelect ops = true) (hback : ny ops = true) (hfo : ops[f]? = some fo) (hf : lg ops cl f fo = true) {i : Nat} {oi : Oper} (hoi : ops[i]? = some oi) (hif : i ≠ f) (hdi : dpB ops i f = false) (m2 : List Nat) :
  ∀ (m1 : List Nat) (a : Act) (w : World), (∀ x ∈ m1, x ≠ f ∧ x < i ∧ nv ops cl x i = true) → wpC P ops I cl Q f fo (m1 ++ i :: m2) a w → stG P ops I (cl i) oi (wpC P ops I cl Q f fo (m1 ++ m2)) a w
 |[], a, w, _, h => by
  rw [List.nil_append] at h
  unfold wpC at h
  simp only [hoi, hdi, Bool.false_eq_true, if_false] at h
  by_cases hc : cl i ≤ 1
  ·rwa [if_pos hc] at h
  ·rw [if_neg hc] at h
   exact h.1
 |x :: m1, a, w, hm, h => by
  have ih := fun a w => qfx h0 hsel hback hfo hf hoi hif hdi m2 m1 a w (fun y hy => hm y (by simp [hy]))
  obtain ⟨hxf, hxi, hxc⟩ := hm x (by simp)
  have hfront := fun a w => frontG (P := P) h0 (cl := cl) (Q := Q) hsel i m2 (x :: m1) a w (fun y hy => (hm y hy).2.2)
  have hfront' : ∀ a w, wpG P ops I cl Q (x :: (m1 ++ i :: m2)) a w → stG P ops I (cl i) oi (wpG P ops I cl Q (x :: (m1 ++ m2))) a w := fun a w hh => by
   have := hfront a w hh
   simpa [wpG, hoi] using this
  cases hox : ops[x]? with
  |none =>
   have h' : wpC P ops I cl Q f fo (m1 ++ i :: m2) a w := by simpa [wpC, hox] using h
   exact stG_mono (fun a w hh => by simpa [wpC, hox] using hh) (ih a w h')
  |some ox =>
   rw [List.cons_append] at h ⊢
   unfold wpC at h
   simp only [hox] at h
   have hcp : ox.apart ops oi = true ∧ (cl x ≤ 1 ∨ cl i ≤ 1) := by
    unfold nv at hxc
    simpa only [hox, hoi, Bool.and_eq_true, Bool.or_eq_true, decide_eq_true_eq] using hxc
   have hsx := fun cs b => Region.noSelect_spec hsel x ox cs b hox
   have hsi := fun cs b => Region.noSelect_spec hsel i oi cs b hoi
   have hsf := fun cs b => Region.noSelect_spec hsel f fo cs b hfo
   have hfi : cl i ≤ 1 → ∀ a w, stG P ops I (cl f) fo (wpG P ops I cl Q (x :: (m1 ++ i :: m2))) a w → stG P ops I (cl i) oi (stG P ops I (cl f) fo (wpG P ops I cl Q (x :: (m1 ++ m2)))) a w := fun hci a w hh =>
    swapG h0 hsf hsi (ws hf hoi hif hdi hci).2 (.inr hci) (stG_mono hfront' hh)
   by_cases hd : dpB ops x f = true
   ·rw [if_pos hd] at h
    have hfx := qge hback (qju hd)
    have hci := qas hf hoi (by omega) hdi
    have h2 := hfi hci a w h
    refine stG_mono (fun a w hh => ?_) h2
    unfold wpC
    simp only [hox]
    rwa [if_pos hd]
   ·rw [if_neg hd] at h
    by_cases hc : cl x ≤ 1
    ·rw [if_pos hc] at h
     have h2 := swapG h0 hsx hsi hcp.1 (.inl hc) (stG_mono ih h)
     refine stG_mono (fun a w hh => ?_) h2
     unfold wpC
     simp only [hox]
     rwa [if_neg hd, if_pos hc]
    ·rw [if_neg hc] at h
     have hci : cl i ≤ 1 := hcp.2.resolve_left hc
     have h2 := swapG h0 hsx hsi hcp.1 (.inr hci) (stG_mono ih h.1)
     have h3 := hfi hci a w h.2
     refine stG_mono (fun a w hh => ?_) (stG_both h0 hci h2 h3)
     unfold wpC
     simp only [hox]
     rw [if_neg hd, if_neg hc]
     exact hh
end

theorem qup {w0 : World} (hI0 : I w0) {cl : Nat → Nat} {Q : Exit → Act → World → Prop} (hsel : Region.noSelect ops = true) (hback : ny ops = true) (hlate : sy ops cl = true) (hc3 : ∀ i, cl i ≤ 3) :
  ∀ (rem : List Nat) (listed : Array Bool) (a : Act) (w : World), listed.size = ops.size → rem.Pairwise (· < ·) → (∀ i x, i ∈ rem → x ∈ rem → x < i → Dep ops i x ∨ nv ops cl x i = true) → (∀ j, j ∈ rem ↔ j < ops.size ∧ listed.getD j false = false) → zp ops listed →
   ((∀ j, j < ops.size → cl j = 2 → listed.getD j false = false) → I w) →
   wpG P ops I cl (fun a w => Q .normal a w) rem a w → wpAny P .any ops Q rem.length listed a w := by
 intro rem
 induction hn : rem.length generalizing rem with
 |zero =>
  intro listed a w hs _ _ hm _ _ h
  have he : rem = [] := List.eq_nil_of_length_eq_zero hn
  subst he
  refine ⟨?_, h⟩
  apply List.eq_nil_iff_forall_not_mem.2
  intro j hj
  obtain ⟨h0, o, ho, _⟩ := mem_ready.1 hj
  have hlt : j < ops.size := (gl ho)
  rw [fe hs hlt] at h0
  exact absurd ((hm j).2 ⟨hlt, h0⟩) (by simp)
 |succ n ih =>
  intro listed a w hs hpw hp hm hc hinv h
  have hready : Region.ready .any ops listed ≠ [] := by
   cases hr : rem with
   |nil => rw [hr] at hn; cases hn
   |cons i0 r =>
    have hi0 := (hm i0).1 (by rw [hr]; simp)
    intro hnil
    have hmem : i0 ∈ Region.ready .any ops listed := by
     refine mem_ready.2 ⟨by rw [fe hs hi0.1]; exact hi0.2, ops[i0], Array.getElem?_eq_getElem hi0.1, fun e he hb => ?_⟩
     have h1 := List.all_eq_true.1 hback i0 (List.mem_range.2 hi0.1)
     simp only [Array.getElem?_eq_getElem hi0.1] at h1
     have h2 := Array.all_eq_true_iff_forall_mem.1 h1 e he
     simp only [hb, Bool.not_true, Bool.false_or, decide_eq_true_eq] at h2
     rcases Bool.eq_false_or_eq_true (listed.getD e.on false) with h3 | h3
     ·exact h3
     ·have h4 := (hm e.on).2 ⟨by omega, h3⟩
      rw [hr] at h4 hpw
      rcases List.mem_cons.1 h4 with h5 | h5
      ·omega
      ·have := (List.pairwise_cons.1 hpw).1 _ h5; omega
    rw [hnil] at hmem
    cases hmem
  refine ⟨fun h0 => absurd h0 hready, fun i hi => ?_⟩
  obtain ⟨h0, o, ho, hall⟩ := mem_ready.1 hi
  have hlt : i < ops.size := (gl ho)
  rw [fe hs hlt] at h0
  have hir : i ∈ rem := (hm i).2 ⟨hlt, h0⟩
  obtain ⟨l1, l2, hl⟩ := List.append_of_mem hir
  subst hl
  rw [List.pairwise_append] at hpw
  obtain ⟨pw1, pw2, pw3⟩ := hpw
  have pw2' := List.pairwise_cons.1 pw2
  have hf := frontG hI0 hsel i l2 l1 a w (fun x hx => by
   have hxi : x < i := pw3 x hx i (by simp)
   rcases hp i x hir (by simp [hx]) hxi with hd | hcp
   ·have := jd hc hd (fun o' ho' e he hb => by rw [ho] at ho'; injection ho' with e2; subst e2; exact hall e he hb)
    have h2 := ((hm x).1 (by simp [hx])).2
    rw [this] at h2
    cases h2
   ·exact hcp) h
  have hst : stG P ops I (cl i) o (wpG P ops I cl (fun a w => Q .normal a w) (l1 ++ l2)) a w := by simpa [wpG, ho] using hf
  have hold : cl i = 1 → I w := fun hci => hinv fun j hj hcj => by
   rcases Bool.eq_false_or_eq_true (listed.getD j false) with h3 | h3
   ·exfalso
    have hd := mu hlate hlt hj hci hcj
    have := jd hc hd (fun o' ho' e he hb => hc j o' ho' h3 e he hb)
    rw [h0] at this
    cases this
   ·exact h3
  refine wpOp_mono (fun a' w' hh => ?_) (wpOp_of_stG (Q := Q) (hc3 i) ho hold hst)
  have hlen : (l1 ++ l2).length = n := by simp at hn ⊢; omega
  refine ih (l1 ++ l2) hlen (listed.setIfInBounds i true) a' w' (by simpa using hs) ?_ (fun i' x' hi' hx' => hp i' x' ?_ ?_) (fun j => ?_) ?_ ?_ hh.2
  ·rw [List.pairwise_append]
   exact ⟨pw1, pw2'.2, fun x hx y hy => pw3 x hx y (by simp [hy])⟩
  ·rcases List.mem_append.1 hi' with h5 | h5 <;> simp [h5]
  ·rcases List.mem_append.1 hx' with h5 | h5 <;> simp [h5]
  ·by_cases hji : j = i
   ·subst hji
    constructor
    ·intro hj
     rcases List.mem_append.1 hj with h5 | h5
     ·have := pw3 j h5 j (by simp); omega
     ·have := pw2'.1 j h5; omega
    ·intro ⟨_, h5⟩
     have : j < listed.size := by omega
     simp [this] at h5
   ·rw [getD_set_ne false (Ne.symm hji), ← hm j]
    simp [hji]
  ·intro j oj hoj hj e he hb
   by_cases hji : j = i
   ·subst hji
    rw [ho] at hoj
    injection hoj with e2
    subst e2
    exact getD_set_true (hall e he hb)
   ·rw [getD_set_ne false (Ne.symm hji)] at hj
    exact getD_set_true (hc j oj hoj hj e he hb)
  ·intro hno
   have hci : cl i ≠ 2 := fun hci => by
    have := hno i hlt hci
    have hsz : i < listed.size := by omega
    simp [hsz] at this
   refine hh.1 hci (hinv fun j hj hcj => ?_)
   have := hno j hj hcj
   by_cases hji : j = i
   ·subst hji; exact absurd hcj hci
   ·rwa [getD_set_ne false (Ne.symm hji)] at this
theorem any_of_F {w0 : World} (hI0 : I w0) {cl : Nat → Nat} {Q : Exit → Act → World → Prop} {f : Nat} {fo : Oper} (hsel : Region.noSelect ops = true) (hback : ny ops = true) (hlate : sy ops cl = true) (hc3 : ∀ i, cl i ≤ 3) (hfo : ops[f]? = some fo) (hf : lg ops cl f fo = true) :
  ∀ (rem : List Nat) (listed : Array Bool) (a : Act) (w : World), listed.size = ops.size → rem.Pairwise (· < ·) → (∀ i x, i ∈ rem → x ∈ rem → x < i → Dep ops i x ∨ nv ops cl x i = true) → (∀ j, j ∈ rem ↔ j < ops.size ∧ j ≠ f ∧ listed.getD j false = false) → listed.getD f false = false → zp ops listed →
   ((∀ j, j < ops.size → cl j = 2 → listed.getD j false = false) → I w) →
   wpC P ops I cl (fun a w => Q .normal a w) f fo rem a w → wpAny P .any ops Q (rem.length + 1) listed a w := by
 intro rem
 have hflt : f < ops.size := (gl hfo)
 have hcf := qfz hf
 induction hn : rem.length generalizing rem with
 |zero =>
  intro listed a w hs hpw hp hm hfl hc hinv h
  have he : rem = [] := List.eq_nil_of_length_eq_zero hn
  subst he
  have hfr : f ∈ Region.ready .any ops listed := mem_ready.2 ⟨by rw [fe hs hflt]; exact hfl, fo, hfo, fun e he hb => (qat hf e he hb).elim⟩
  refine ⟨fun h0 => (by rw [h0] at hfr; cases hfr), fun i hi => ?_⟩
  obtain ⟨h0, o, ho, hall⟩ := mem_ready.1 hi
  have hlt : i < ops.size := (gl ho)
  rw [fe hs hlt] at h0
  have hif : i = f := Classical.byContradiction fun hne => by
   have := (hm i).2 ⟨hlt, hne, h0⟩
   cases this
  subst hif
  rw [hfo] at ho
  injection ho with ho
  subst ho
  have hst : stG P ops I (cl i) fo (fun a w => Q .normal a w) a w := h
  refine wpOp_mono (fun a' w' hh => ?_) (wpOp_of_stG (Q := Q) (hc3 i) hfo (fun hci => by omega) hst)
  refine ⟨?_, hh.2⟩
  apply List.eq_nil_iff_forall_not_mem.2
  intro j hj
  obtain ⟨h1, oj, hoj, _⟩ := mem_ready.1 hj
  have hjlt : j < ops.size := (gl hoj)
  rw [fe (by simpa using hs) hjlt] at h1
  by_cases hji : j = i
  ·subst hji
   have : j < listed.size := by omega
   simp [this] at h1
  ·rw [getD_set_ne false (Ne.symm hji)] at h1
   have := (hm j).2 ⟨hjlt, hji, h1⟩
   cases this
 |succ n ih =>
  intro listed a w hs hpw hp hm hfl hc hinv h
  have hfr : f ∈ Region.ready .any ops listed := mem_ready.2 ⟨by rw [fe hs hflt]; exact hfl, fo, hfo, fun e he hb => (qat hf e he hb).elim⟩
  refine ⟨fun h0 => (by rw [h0] at hfr; cases hfr), fun i hi => ?_⟩
  obtain ⟨h0, o, ho, hall⟩ := mem_ready.1 hi
  have hlt : i < ops.size := (gl ho)
  rw [fe hs hlt] at h0
  have hdi : dpB ops i f = false := by
   rcases Bool.eq_false_or_eq_true (dpB ops i f) with h3 | h3
   ·have := jd hc (qju h3) (fun o' ho' e he hb => by rw [ho] at ho'; injection ho' with e2; subst e2; exact hall e he hb)
    rw [hfl] at this
    cases this
   ·exact h3
  by_cases hif : i = f
  ·subst hif
   rw [hfo] at ho
   injection ho with ho
   subst ho
   have hst := qik (P := P) (Q := fun a w => Q .normal a w) hI0 hsel hfo hf rem a w (fun x hx => ((hm x).1 hx).2.1) h
   refine wpOp_mono (fun a' w' hh => ?_) (wpOp_of_stG (Q := Q) (hc3 i) hfo (fun hci => by omega) hst)
   have h5 := qup (P := P) (Q := Q) hI0 hsel hback hlate hc3 rem (listed.setIfInBounds i true) a' w' (by simpa using hs) hpw hp (fun j => ?_) ?_ ?_ hh.2
   ·rwa [hn] at h5
   ·by_cases hji : j = i
    ·subst hji
     constructor
     ·intro hj; exact absurd rfl ((hm j).1 hj).2.1
     ·intro ⟨_, h5⟩
      have : j < listed.size := by omega
      simp [this] at h5
    ·rw [getD_set_ne false (Ne.symm hji), hm j]
     simp [hji]
   ·intro j oj hoj hj e he hb
    by_cases hji : j = i
    ·subst hji
     rw [hfo] at hoj
     injection hoj with e2
     subst e2
     exact getD_set_true (hall e he hb)
    ·rw [getD_set_ne false (Ne.symm hji)] at hj
     exact getD_set_true (hc j oj hoj hj e he hb)
   ·intro hno
    refine hh.1 (by omega) (hinv fun j hj hcj => ?_)
    have := hno j hj hcj
    by_cases hji : j = i
    ·subst hji; omega
    ·rwa [getD_set_ne false (Ne.symm hji)] at this
  ·have hir : i ∈ rem := (hm i).2 ⟨hlt, hif, h0⟩
   obtain ⟨l1, l2, hl⟩ := List.append_of_mem hir
   subst hl
   have hpw0 := hpw
   rw [List.pairwise_append] at hpw
   obtain ⟨pw1, pw2, pw3⟩ := hpw
   have pw2' := List.pairwise_cons.1 pw2
   have hst := qfx (P := P) (Q := fun a w => Q .normal a w) hI0 hsel hback hfo hf ho hif hdi l2 l1 a w (fun x hx => by
    have hxi : x < i := pw3 x hx i (by simp)
    refine ⟨((hm x).1 (by simp [hx])).2.1, hxi, ?_⟩
    rcases hp i x hir (by simp [hx]) hxi with hd | hcp
    ·exfalso
     have := jd hc hd (fun o' ho' e he hb => by rw [ho] at ho'; injection ho' with e2; subst e2; exact hall e he hb)
     have h2 := ((hm x).1 (by simp [hx])).2.2
     rw [this] at h2
     cases h2
    ·exact hcp) h
   have hold : cl i = 1 → I w := fun hci => hinv fun j hj hcj => by
    rcases Bool.eq_false_or_eq_true (listed.getD j false) with h3 | h3
    ·exfalso
     have hd := mu hlate hlt hj hci hcj
     have := jd hc hd (fun o' ho' e he hb => hc j o' ho' h3 e he hb)
     rw [h0] at this
     cases this
    ·exact h3
   refine wpOp_mono (fun a' w' hh => ?_) (wpOp_of_stG (Q := Q) (hc3 i) ho hold hst)
   have hlen : (l1 ++ l2).length = n := by simp at hn ⊢; omega
   refine ih (l1 ++ l2) hlen (listed.setIfInBounds i true) a' w' (by simpa using hs) ?_ (fun i' x' hi' hx' => hp i' x' ?_ ?_) (fun j => ?_) ?_ ?_ ?_ hh.2
   ·rw [List.pairwise_append]
    exact ⟨pw1, pw2'.2, fun x hx y hy => pw3 x hx y (by simp [hy])⟩
   ·rcases List.mem_append.1 hi' with h5 | h5 <;> simp [h5]
   ·rcases List.mem_append.1 hx' with h5 | h5 <;> simp [h5]
   ·by_cases hji : j = i
    ·subst hji
     constructor
     ·intro hj
      rcases List.mem_append.1 hj with h5 | h5
      ·have := pw3 j h5 j (by simp); omega
      ·have := pw2'.1 j h5; omega
     ·intro ⟨_, _, h5⟩
      have : j < listed.size := by omega
      simp [this] at h5
    ·rw [getD_set_ne false (Ne.symm hji), ← hm j]
     simp [hji]
   ·rw [getD_set_ne false hif]
    exact hfl
   ·intro j oj hoj hj e he hb
    by_cases hji : j = i
    ·subst hji
     rw [ho] at hoj
     injection hoj with e2
     subst e2
     exact getD_set_true (hall e he hb)
    ·rw [getD_set_ne false (Ne.symm hji)] at hj
     exact getD_set_true (hc j oj hoj hj e he hb)
   ·intro hno
    have hci : cl i ≠ 2 := fun hci => by
     have := hno i hlt hci
     have hsz : i < listed.size := by omega
     simp [hsz] at this
    refine hh.1 hci (hinv fun j hj hcj => ?_)
    have := hno j hj hcj
    by_cases hji : j = i
    ·subst hji; exact absurd hcj hci
    ·rwa [getD_set_ne false (Ne.symm hji)] at this

def wpSx (P : Program) (ops : Array Oper) (I : World → Prop) (G : List Nat) (f : Nat) (Q : Act → World → Prop) : Nat → List Oper → Act → World → Prop
 |_, [], a, w => Q a w
 |k, o :: r, a, w => if k = f then wpSx P ops I G f Q (k + 1) r a w else if Region.wanted o (yielded ops a.tmps) = true then
   o.wp P a w (fun a' w' => (G.contains k = true → I w') ∧ wpSx P ops I G f Q (k + 1) r a' w') NoQ
  else wpSx P ops I G f Q (k + 1) r (a.put o.dst undef) w
def wpF (P : Program) (ops : Array Oper) (I : World → Prop) (G : List Nat) (f : Nat) (fo : Oper) (Q : Act → World → Prop) : Nat → List Oper → Act → World → Prop
 |_, [], _, _ => False
 |k, o :: r, a, w => if k = f then wpS P ops I G Q k (o :: r) a w else
   (G.contains k = true → fo.wp P a w (fun a' w' => I w' ∧ wpSx P ops I G f Q k (o :: r) a' w') NoQ) ∧
   (if Region.wanted o (yielded ops a.tmps) = true then o.wp P a w (fun a' w' => (G.contains k = true → I w') ∧ wpF P ops I G f fo Q (k + 1) r a' w') NoQ
    else wpF P ops I G f fo Q (k + 1) r (a.put o.dst undef) w)
theorem qqx {G LD ex : List Nat} {f : Nat} {Q : Act → World → Prop} : ∀ (l : List Oper) (k : Nat) (a : Act) (w : World), (∀ j, l[j]? = ops[k + j]?) →
  wpSx P ops I G f (fun a w => chk ops ex a = true ∧ oldAll P ops I a LD ∧ Q a w) k l a w → ∃ a', chk ops ex a' = true ∧ oldAll P ops I a' LD ∧ uz ops (List.range' k l.length) a a'
 |[], k, a, w, _, h => ⟨a, h.1, h.2.1, fun _ _ => rfl⟩
 |o :: r, k, a, w, hl, h => by
  have ho : ops[k]? = some o := by simpa using (hl 0).symm
  have hl' : ∀ j, r[j]? = ops[k + 1 + j]? := fun j => by have := hl (j + 1); simpa [Nat.add_assoc, Nat.add_comm 1 j] using this
  unfold wpSx at h
  have hn : ∃ a1 w1, (Same a a1 o.dst ∨ a1 = a) ∧ wpSx P ops I G f (fun a w => chk ops ex a = true ∧ oldAll P ops I a LD ∧ Q a w) (k + 1) r a1 w1 := by
   split at h
   ·exact ⟨_, _, .inr rfl, h⟩
   ·split at h
    ·obtain ⟨a1, w1, hs, _, hk⟩ := lw ry h
     exact ⟨a1, w1, .inl hs, hk⟩
    ·exact ⟨_, _, .inl (bm _ _ _), h⟩
  obtain ⟨a1, w1, hs, h1⟩ := hn
  obtain ⟨a', h2, h3, h4⟩ := qqx r (k + 1) a1 w1 hl' h1
  refine ⟨a', h2, h3, fun t ht => (h4 t fun j hj => ht j ?_).trans ?_⟩
  ·rw [List.length_cons, List.range'_succ]; simp [hj]
  ·rcases hs with hs | rfl
   ·exact su hs (ht k (by rw [List.length_cons, List.range'_succ]; simp) o ho)
   ·rfl
theorem reachF {G LD ex : List Nat} {f : Nat} {fo : Oper} {Q : Act → World → Prop} : ∀ (l : List Oper) (k : Nat) (a : Act) (w : World), (∀ j, l[j]? = ops[k + j]?) →
  wpF P ops I G f fo (fun a w => chk ops ex a = true ∧ oldAll P ops I a LD ∧ Q a w) k l a w → ∃ a', chk ops ex a' = true ∧ oldAll P ops I a' LD ∧ uz ops (List.range' k l.length) a a'
 |[], k, a, w, _, h => h.elim
 |o :: r, k, a, w, hl, h => by
  have ho : ops[k]? = some o := by simpa using (hl 0).symm
  have hl' : ∀ j, r[j]? = ops[k + 1 + j]? := fun j => by have := hl (j + 1); simpa [Nat.add_assoc, Nat.add_comm 1 j] using this
  unfold wpF at h
  by_cases hkf : k = f
  ·rw [if_pos hkf] at h
   exact reachS (o :: r) k a w hl h
  ·rw [if_neg hkf] at h
   have h := h.2
   have hn : ∃ a1 w1, Same a a1 o.dst ∧ wpF P ops I G f fo (fun a w => chk ops ex a = true ∧ oldAll P ops I a LD ∧ Q a w) (k + 1) r a1 w1 := by
    split at h
    ·obtain ⟨a1, w1, hs, _, hk⟩ := lw ry h
     exact ⟨a1, w1, hs, hk⟩
    ·exact ⟨_, _, bm _ _ _, h⟩
   obtain ⟨a1, w1, hs, h1⟩ := hn
   obtain ⟨a', h2, h3, h4⟩ := reachF r (k + 1) a1 w1 hl' h1
   refine ⟨a', h2, h3, fun t ht => (h4 t fun j hj => ht j ?_).trans (su hs (ht k ?_ o ho))⟩
   ·rw [List.length_cons, List.range'_succ]; simp [hj]
   ·rw [List.length_cons, List.range'_succ]; simp
theorem qku {k n : Nat} {o : Oper} {a a' : Act} (hkn : k + n = ops.size) (hoff : uz ops (List.range' k n) a a') : ft ops k o = true → ∀ t ∈ o.looksAt ops, a'.tmps[t]? = a.tmps[t]? := by
 intro hst t ht
 refine hoff t fun j hj oj hoj => ?_
 have h5 := List.all_eq_true.1 hst t ht
 have hjr : k ≤ j ∧ j < ops.size := by have := List.mem_range'_1.1 hj; omega
 have h6 := List.all_eq_true.1 h5 j (List.mem_range.2 hjr.2)
 simp only [hoj, Bool.or_eq_true, decide_eq_true_eq, bne_iff_ne] at h6
 rcases h6 with h6 | h6
 ·omega
 ·exact h6
theorem qir {G LD ex : List Nat} {k : Nat} (hc : clG P ops G LD ex k = 3) : G.contains k = true := by
 unfold clG at hc
 split at hc
 ·omega
 ·by_cases hcG : G.contains k = true
  ·exact hcG
  ·rw [if_neg hcG] at hc
   repeat' (split at hc)
   all_goals omega
theorem low_no2 {G LD ex : List Nat} (hlate : sy ops (clG P ops G LD ex) = true) (hback : ny ops = true) {k : Nat} (hlt : k < ops.size) (hcl : clG P ops G LD ex k = 1) : ∀ j, j < k → clG P ops G LD ex j ≠ 2 := fun j hj hcj => by
 have hd := mu hlate hlt (show j < ops.size by omega) hcl hcj
 have := qge hback hd
 omega
theorem st_of {G LD ex : List Nat} {k : Nat} {o : Oper} {a a' : Act} {w : World} {K K' : Act → World → Prop} (hlate : sy ops (clG P ops G LD ex) = true) (hback : ny ops = true) (ho : ops[k]? = some o) (hlt : k < ops.size) (hchk : chk ops ex a' = true) (hold : oldAll P ops I a' LD)
  (hstab : ft ops k o = true → ∀ t ∈ o.looksAt ops, a'.tmps[t]? = a.tmps[t]?) (hinv : (∀ j, j < k → clG P ops G LD ex j ≠ 2) → I w)
  (hK : ∀ a w, ((∀ j, j < k + 1 → clG P ops G LD ex j ≠ 2) → I w) → K a w → K' a w)
  (h : if Region.wanted o (yielded ops a.tmps) = true then o.wp P a w (fun a' w' => (G.contains k = true → I w') ∧ K a' w') NoQ else K (a.put o.dst undef) w) : stG P ops I (clG P ops G LD ex k) o K' a w := by
 by_cases hc1 : clG P ops G LD ex k ≤ 1
 ·obtain ⟨v, hy, hk⟩ := step_low ho hlt hc1 hchk hold hstab (fun hcl => hinv (low_no2 hlate hback hlt hcl)) h
  unfold stG
  rw [if_pos hc1]
  exact ⟨v, hy, hK _ _ (fun hj => hinv fun j hjk => hj j (by omega)) hk⟩
 ·unfold stG
  rw [if_neg hc1]
  by_cases hw : Region.wanted o (yielded ops a.tmps) = true
  ·rw [if_pos hw] at h ⊢
   refine Oper.wp_mono (fun a1 w1 hh => ?_) h
   refine ⟨fun hc3 => hh.1 (qir hc3), hK _ _ (fun hj => ?_) hh.2⟩
   have hk2 := hj k (by omega)
   have hk3 : clG P ops G LD ex k = 3 := by have := zi (P := P) (ops := ops) G LD ex k; omega
   exact hh.1 (qir hk3)
  ·rw [if_neg hw] at h ⊢
   exact hK _ _ (fun hj => hinv fun j hjk => hj j (by omega)) h
abbrev nw (f k n : Nat) : List Nat := (List.range' k n).filter (fun x => x != f)
theorem yl {f k n : Nat} (h : k ≠ f) : nw f k (n + 1) = k :: nw f (k + 1) n := by
 unfold nw
 rw [List.range'_succ, List.filter_cons_of_pos (by simpa using h)]
theorem qkw {f n : Nat} : nw f f (n + 1) = List.range' (f + 1) n := by
 unfold nw
 rw [List.range'_succ, List.filter_cons_of_neg (by simp), List.filter_eq_self]
 intro x hx
 have := List.mem_range'_1.1 hx
 simp
 omega
theorem qnu {f k n : Nat} (h : f < k) : nw f k n = List.range' k n := by
 unfold nw
 rw [List.filter_eq_self]
 intro x hx
 have := List.mem_range'_1.1 hx
 simp
 omega
theorem qrg {G LD ex : List Nat} {f : Nat} {Q : Act → World → Prop} : ∀ (l : List Oper) (k : Nat) (a : Act) (w : World), (∀ j, l[j]? = ops[k + j]?) → k + l.length = ops.size →
  sy ops (clG P ops G LD ex) = true → ny ops = true → ((∀ j, j < k → clG P ops G LD ex j ≠ 2) → I w) →
  wpSx P ops I G f (fun a w => chk ops ex a = true ∧ oldAll P ops I a LD ∧ Q a w) k l a w → wpG P ops I (clG P ops G LD ex) Q (nw f k l.length) a w
 |[], k, a, w, _, _, _, _, _, h => h.2.2
 |o :: r, k, a, w, hl, hsz, hlate, hback, hinv, h => by
  have ho : ops[k]? = some o := by simpa using (hl 0).symm
  have hlt : k < ops.size := (gl ho)
  have hl' : ∀ j, r[j]? = ops[k + 1 + j]? := fun j => by have := hl (j + 1); simpa [Nat.add_assoc, Nat.add_comm 1 j] using this
  have hsz' : k + 1 + r.length = ops.size := by simp at hsz; omega
  obtain ⟨a', hchk, hold, hoff⟩ := qqx (o :: r) k a w hl h
  have ih : ∀ a w, ((∀ j, j < k + 1 → clG P ops G LD ex j ≠ 2) → I w) → wpSx P ops I G f (fun a w => chk ops ex a = true ∧ oldAll P ops I a LD ∧ Q a w) (k + 1) r a w → wpG P ops I (clG P ops G LD ex) Q (nw f (k + 1) r.length) a w := fun a w => qrg r (k + 1) a w hl' hsz' hlate hback
  unfold wpSx at h
  by_cases hkf : k = f
  ·rw [if_pos hkf] at h
   subst hkf
   rw [List.length_cons, qkw, ← qnu (Nat.lt_succ_self k)]
   exact ih _ _ (fun hj => hinv fun j hjk => hj j (by omega)) h
  ·rw [if_neg hkf] at h
   rw [List.length_cons, yl hkf]
   unfold wpG
   simp only [ho]
   exact st_of hlate hback ho hlt hchk hold (qku (by simpa using hsz) hoff) hinv ih h
theorem list_F {w0 : World} (h0 : I w0) {G LD ex : List Nat} {f : Nat} {fo : Oper} {Q : Act → World → Prop} (hsel : Region.noSelect ops = true) (hfo : ops[f]? = some fo) (hg : fo.guard = none) (hf : lg ops (clG P ops G LD ex) f fo = true) (hGf : ∀ i, i < f → 1 < clG P ops G LD ex i → G.contains i = true) :
  ∀ (l : List Oper) (k : Nat) (a : Act) (w : World), (∀ j, l[j]? = ops[k + j]?) → k + l.length = ops.size → k ≤ f →
  sy ops (clG P ops G LD ex) = true → ny ops = true → ((∀ j, j < k → clG P ops G LD ex j ≠ 2) → I w) →
  wpF P ops I G f fo (fun a w => chk ops ex a = true ∧ oldAll P ops I a LD ∧ Q a w) k l a w → wpC P ops I (clG P ops G LD ex) Q f fo (nw f k l.length) a w
 |[], k, a, w, _, _, _, _, _, _, h => h.elim
 |o :: r, k, a, w, hl, hsz, hkf0, hlate, hback, hinv, h => by
  have ho : ops[k]? = some o := by simpa using (hl 0).symm
  have hlt : k < ops.size := (gl ho)
  have hl' : ∀ j, r[j]? = ops[k + 1 + j]? := fun j => by have := hl (j + 1); simpa [Nat.add_assoc, Nat.add_comm 1 j] using this
  have hsz' : k + 1 + r.length = ops.size := by simp at hsz; omega
  obtain ⟨a', hchk, hold, hoff⟩ := reachF (o :: r) k a w hl h
  unfold wpF at h
  by_cases hkf : k = f
  ·rw [if_pos hkf] at h
   have h1 := list_G (o :: r) k a w hl hsz hlate hback hinv h
   subst hkf
   rw [ho] at hfo
   injection hfo with hfo
   subst hfo
   rw [List.length_cons, List.range'_succ] at h1
   unfold wpG at h1
   simp only [ho] at h1
   rw [List.length_cons, qkw]
   exact qfy h0 hsel ho hf _ a w (fun x hx => by have := List.mem_range'_1.1 hx; omega) h1
  ·rw [if_neg hkf] at h
   have hkf' : k < f := by omega
   have ih : ∀ a w, ((∀ j, j < k + 1 → clG P ops G LD ex j ≠ 2) → I w) → wpF P ops I G f fo (fun a w => chk ops ex a = true ∧ oldAll P ops I a LD ∧ Q a w) (k + 1) r a w → wpC P ops I (clG P ops G LD ex) Q f fo (nw f (k + 1) r.length) a w := fun a w =>
    list_F h0 hsel hfo hg hf hGf r (k + 1) a w hl' hsz' hkf' hlate hback
   have hd : ¬ dpB ops k f = true := fun hd => by have := qge hback (qju hd); omega
   have hst := st_of hlate hback ho hlt hchk hold (qku (by simpa using hsz) hoff) hinv ih h.2
   rw [List.length_cons, yl hkf]
   unfold wpC
   simp only [ho]
   rw [if_neg hd]
   by_cases hc1 : clG P ops G LD ex k ≤ 1
   ·rw [if_pos hc1]; exact hst
   ·rw [if_neg hc1]
    refine ⟨hst, ?_⟩
    have h1 := h.1 (hGf k hkf' (by omega))
    have hcf := qfz hf
    unfold stG
    rw [if_neg (by omega), if_pos (by simp [Region.wanted, hg])]
    refine Oper.wp_mono (fun a1 w1 hh => ⟨fun _ => hh.1, ?_⟩) h1
    have h2 := qrg (o :: r) k a1 w1 hl hsz hlate hback (fun _ => hh.1) hh.2
    rwa [List.length_cons, yl hkf] at h2
def floatB (P : Program) (ops : Array Oper) (G LD ex : List Nat) (f : Nat) (fo : Oper) : Bool :=
 let m := qag ops.toList []
 let cl := clG P ops G LD ex
 Region.noSelect ops && ny ops && sy ops cl && lg ops cl f fo && ((List.range f).all fun i => decide (cl i ≤ 1) || G.contains i) &&
  (List.range ops.size).all fun i => i == f || (List.range i).all fun x => x == f || (m.getD i 0).testBit x || nv ops cl x i
theorem wp_float {id : Nat} {Q : Exit → Act → World → Prop} {a : Act} {w : World} {l : List Oper} (G LD ex : List Nat) (I : World → Prop) (f : Nat) (fo : Oper) (hI : I w.drew) (hm : P.follows .mixedOrders = true) (hfo : l[f]? = some fo) (hg : fo.guard = none) (hB : floatB P l.toArray G LD ex f fo = true)
  (h : wpF P l.toArray I G f fo (fun a' w' => chk l.toArray ex a' = true ∧ oldAll P l.toArray I a' LD ∧ Q .normal a' w') 0 l a w.drew) : (Code.region id l.toArray true).wp P Q a w := by
 simp only [floatB, Bool.and_eq_true] at hB
 obtain ⟨⟨⟨⟨⟨hsel, hback⟩, hlate⟩, hf⟩, hGf⟩, hpr⟩ := hB
 have hfo' : l.toArray[f]? = some fo := by simpa using hfo
 have hflt : f < l.length := (List.getElem?_eq_some_iff.1 hfo).1
 refine wp_region_any hm ?_
 have h2 := list_F hI hsel hfo' hg hf (fun i hi hc => by
  have := List.all_eq_true.1 hGf i (List.mem_range.2 hi)
  rw [Bool.or_eq_true, decide_eq_true_eq] at this
  rcases this with h3 | h3
  ·omega
  ·exact h3) l 0 a w.drew (by simp) (by simp) (Nat.zero_le _) hlate hback (fun _ => hI) h
 have hlen : (nw f 0 l.length).length + 1 = l.toArray.size := by
  have e : List.range' 0 l.length = List.range' 0 f ++ (f :: List.range' (f + 1) (l.length - f - 1)) := by
   have h5 := List.range'_append_1 (s := 0) (m := f) (n := l.length - f)
   rw [show f + (l.length - f) = l.length by omega, Nat.zero_add] at h5
   rw [← h5]
   congr 1
   obtain ⟨q, hq⟩ : ∃ q, l.length - f = q + 1 := ⟨l.length - f - 1, by omega⟩
   rw [hq, List.range'_succ, Nat.add_sub_cancel]
  have e1 : nw f 0 f = List.range' 0 f := by
   unfold nw
   rw [List.filter_eq_self]
   intro x hx
   have := List.mem_range'_1.1 hx
   simp
   omega
  have e2 : nw f 0 l.length = List.range' 0 f ++ List.range' (f + 1) (l.length - f - 1) := by
   unfold nw
   rw [e, List.filter_append]
   have e3 := e1
   unfold nw at e3
   rw [e3, List.filter_cons_of_neg (by simp)]
   congr 1
   rw [List.filter_eq_self]
   intro x hx
   have := List.mem_range'_1.1 hx
   simp
   omega
  rw [e2]
  simp
  omega
 have h3 := any_of_F (P := P) (Q := Q) hI hsel hback hlate (fun i => zi G LD ex i) hfo' hf (nw f 0 l.length) (Array.replicate l.toArray.size false) a w.drew (by simp) (List.Pairwise.filter _ List.pairwise_lt_range') (fun i x hi hx hxi => by
  have hi' := List.mem_filter.1 hi
  have hx' := List.mem_filter.1 hx
  have hir := List.mem_range'_1.1 hi'.1
  have h5 := List.all_eq_true.1 hpr i (List.mem_range.2 (by simp; omega))
  have hif : (i == f) = false := by simpa using hi'.2
  have hxf : (x == f) = false := by simpa using hx'.2
  rw [hif, Bool.false_or] at h5
  have h6 := List.all_eq_true.1 h5 x (List.mem_range.2 hxi)
  rw [hxf, Bool.false_or, Bool.or_eq_true] at h6
  rcases h6 with h6 | h6
  ·exact .inl (mq l.toArray.toList [] (by simp) (fun i x hi => absurd hi (by simp)) i x h6)
  ·exact .inr h6) (fun j => by
  rw [List.mem_filter, List.mem_range'_1]
  constructor
  ·intro hj
   have hjl : j < l.length := by simpa using hj.1.2
   exact ⟨by simpa using hjl, by simpa using hj.2, by simp [hjl]⟩
  ·intro hj
   have h1 := hj.1
   simp at h1
   exact ⟨⟨by omega, by omega⟩, by simpa using hj.2.1⟩) (by simp [hflt]) (fun j o ho hj => by
   exfalso
   have : j < l.toArray.size := (gl ho)
   simp at this
   simp [this] at hj) (fun _ => hI) h2
 rw [hlen] at h3
 simpa using h3
theorem wpSx_seg {G : List Nat} {f : Nat} {Q : Act → World → Prop} : ∀ (n k : Nat) (l : List Oper) (a : Act) (w : World), (List.range' k n).all (fun i => !G.contains i && i != f) = true →
  (∀ Q' : Exit → Act → World → Prop, (∀ a w, wpSx P ops I G f Q (k + n) (l.drop n) a w → Q' .normal a w) → wpList P ops Q' (l.take n) a w) → wpSx P ops I G f Q k l a w
 |0, k, l, a, w, _, h => by
  have := h (fun e a w => e = .normal ∧ wpSx P ops I G f Q k l a w) (fun a w hh => ⟨rfl, by simpa using hh⟩)
  simpa [wpList] using this
 |n + 1, k, [], a, w, _, h => by
  have := h (fun e a w => e = .normal ∧ Q a w) (fun a w hh => ⟨rfl, by simpa [wpSx] using hh⟩)
  simpa [wpList, wpSx] using this
 |n + 1, k, o :: r, a, w, hG, h => by
  rw [List.range'_succ, List.all_cons, Bool.and_eq_true] at hG
  have hkk : G.contains k = false ∧ ¬ k = f := by have := hG.1; simp only [Bool.and_eq_true, bne_iff_ne] at this; exact ⟨by simpa using this.1, this.2⟩
  have hk := hkk.1
  have h0 := h (fun e a w => e = .normal ∧ wpSx P ops I G f Q (k + (n + 1)) ((o :: r).drop (n + 1)) a w) (fun a w hh => ⟨rfl, hh⟩)
  have hnl : ¬ LetsOut (fun e a w => e = Exit.normal ∧ wpSx P ops I G f Q (k + (n + 1)) ((o :: r).drop (n + 1)) a w) := fun ⟨_, _, hh⟩ => by cases hh.1
  have hno : ∀ (e : Exit) (a : Act) (w : World), e ≠ .normal → ¬ (e = Exit.normal ∧ wpSx P ops I G f Q (k + (n + 1)) ((o :: r).drop (n + 1)) a w) := fun _ _ _ hn hh => hn hh.1
  have ih : ∀ a w, wpList P ops (fun e a w => e = .normal ∧ wpSx P ops I G f Q (k + (n + 1)) ((o :: r).drop (n + 1)) a w) (r.take n) a w → wpSx P ops I G f Q (k + 1) r a w := fun a w hl =>
   wpSx_seg n (k + 1) r a w hG.2 fun Q' hQ' => by
    refine wpList_mono' (fun e a w hh => ?_) _ _ _ hl
    obtain ⟨rfl, hh⟩ := hh
    exact hQ' _ _ (by simpa [Nat.add_assoc, Nat.add_comm 1 n] using hh)
  rw [List.take_succ_cons] at h0
  unfold wpList at h0
  unfold wpSx
  rw [if_neg hkk.2]
  split at h0
  ·rename_i hw
   rw [if_pos hw]
   have h1 := h0.resolve_right fun hh => hnl hh.2
   have h2 := Oper.wp_mono (K' := fun a' w' => (G.contains k = true → I w') ∧ wpSx P ops I G f Q (k + 1) r a' w') (fun a w hh => ⟨fun hk' => (by rw [hk] at hk'; cases hk'), ih a w hh⟩) h1
   exact wp_noQ hno hnl h2
  ·rename_i hw
   rw [if_neg hw]
   exact ih _ _ h0
theorem wpSx_one {G : List Nat} {f : Nat} {Q : Act → World → Prop} {k : Nat} {o : Oper} {r : List Oper} {a : Act} {w : World} (hkf : k ≠ f)
  (h : ∀ Q' : Exit → Act → World → Prop, (∀ a' w', I w' ∧ wpSx P ops I G f Q (k + 1) r a' w' → Q' .normal a' w') → wpList P ops Q' [o] a w) : wpSx P ops I G f Q k (o :: r) a w := by
 have h0 := h (fun e a w => e = .normal ∧ I w ∧ wpSx P ops I G f Q (k + 1) r a w) (fun a w hh => ⟨rfl, hh⟩)
 have hnl : ¬ LetsOut (fun e a w => e = Exit.normal ∧ I w ∧ wpSx P ops I G f Q (k + 1) r a w) := fun ⟨_, _, hh⟩ => by cases hh.1
 have hno : ∀ (e : Exit) (a : Act) (w : World), e ≠ .normal → ¬ (e = Exit.normal ∧ I w ∧ wpSx P ops I G f Q (k + 1) r a w) := fun _ _ _ hn hh => hn hh.1
 unfold wpList at h0
 unfold wpSx
 rw [if_neg hkf]
 split at h0
 ·rename_i hw
  rw [if_pos hw]
  have h1 := h0.resolve_right fun hh => hnl hh.2
  have h2 := Oper.wp_mono (K' := fun a' w' => (G.contains k = true → I w') ∧ wpSx P ops I G f Q (k + 1) r a' w') (fun a w hh => by
   simp only [wpList] at hh
   exact ⟨fun _ => hh.2.1, hh.2.2⟩) h1
  exact wp_noQ hno hnl h2
 ·rename_i hw
  rw [if_neg hw]
  simp only [wpList] at h0
  exact h0.2.2
end Go.Proofs.YtplbcbamnjnhlaaGreatDoor.TextI
