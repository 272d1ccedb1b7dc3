/- Texts of this proof joined: FirstW2, WellW, OwnL, Conv, Wd, Well1. -/
import Derived.Test.YtfpihflepeiagaaGreatDoorLO06
import Derived.Test.YtfpihflepeiagaaGreatDoorLO01
import Derived.Laws.IdiomStrings
import Derived.Test.YtfpihflepeiagaaGreatDoorLO05
import Derived.Test.YtfpihflepeiagaaGreatDoorLO03
import Derived.Laws.CopyOwn
import Derived.Laws.CopyRow
import Derived.Deep.OwnRows
import Derived.Test.YtfpihflepeiagaaGreatDoorShelf
namespace Go.Proofs.YtfpihflepeiagaaGreatDoor

def WellG (rs : RuleL) (n : Nat) : Prop := ∀ a r, (a, r) ∈ rs → 0 ≤ a ∧ a < n ∧ ∀ s ∈ r, s < n
def AllAsc (s : Sets) : Prop := ∀ (a : Nat) (x : List Wd), s[a]? = some x → Asc x
theorem AllAsc.getD {s : Sets} (h : AllAsc s) (a : Nat) : Asc (s.getD a []) := by
  rw [List.getD_eq_getElem?_getD]
  cases e : s[a]? with
  | none => exact List.Pairwise.nil
  | some x => exact h a x e
theorem AllAsc.set {s : Sets} (h : AllAsc s) (a : Nat) {x : List Wd} (hx : Asc x) : AllAsc (s.set a x) := by
  intro b y hy
  rw [List.getElem?_set] at hy
  split at hy
  · split at hy
    · injection hy with hy; subst hy; exact hx
    · cases hy
  · exact h b y hy
theorem AllAsc.replicate (n : Nat) : AllAsc (List.replicate n []) := by
  intro b y hy
  rw [List.getElem?_replicate] at hy
  split at hy
  · injection hy with hy; subst hy; exact List.Pairwise.nil
  · cases hy
theorem unionW_asc (a b : List Wd) : Asc (unionW a b) := setOf_asc _
theorem mem_unionW {a b : List Wd} {x : Wd} : x ∈ unionW a b ↔ x ∈ a ∨ x ∈ b := by unfold unionW; rw [mem_setOf, List.mem_append]
theorem set_getD_self (s : Sets) (a : Nat) : s.set a (s.getD a []) = s := by
  apply List.ext_getElem?
  intro i
  rw [List.getElem?_set]
  split
  · rename_i h
    subst h
    split
    · rename_i hl
      rw [List.getD_eq_getElem?_getD, List.getElem?_eq_getElem hl]; rfl
    · rename_i hl
      rw [List.getElem?_eq_none (by omega)]
  · rfl

structure FirstInv (rs : RuleL) (n k : Nat) (s : Sets) : Prop where
  len : s.length = n
  asc : AllAsc s
  sound : SoundF rs k s
theorem firstInv_start (rs : RuleL) (n k : Nat) : FirstInv rs n k (List.replicate n []) := ⟨by simp, AllAsc.replicate n, fun a s h x hx => by
  rw [List.getElem?_replicate] at h
  split at h
  · injection h with h; subst h; cases hx
  · cases h⟩
theorem growW_inv {rs : RuleL} {n k : Nat} {s s' : Sets} {g : Bool} {r : Int × List Int} (hr : r ∈ rs) (hw : WellG rs n) (h : FirstInv rs n k s) (e : growW k s r = some (s', g)) : FirstInv rs n k s' := by
  unfold growW at e
  cases h1 : ofW s k r.2 with
  | none => rw [h1] at e; cases e
  | some x =>
    rw [h1, Option.bind_some] at e
    split at e
    · injection e with e
      injection e with e e2
      subst e
      refine ⟨by rw [List.length_set]; exact h.len, h.asc.set _ (unionW_asc _ _), fun a s1 hs1 y hy => ?_⟩
      rw [List.getElem?_set] at hs1
      split at hs1
      · rename_i ha
        split at hs1
        · injection hs1 with hs1
          subst hs1 ha
          rcases mem_unionW.1 hy with hy | hy
          · rw [List.getD_eq_getElem?_getD] at hy
            cases e3 : s[r.1.toNat]? with
            | none => rw [e3] at hy; cases hy
            | some z => rw [e3] at hy; exact h.sound _ _ e3 y hy
          · obtain ⟨u, hu, rfl⟩ := ofW_sound h.sound h1 hy
            refine ⟨r.2, u, ?_, hu, rfl⟩
            rw [Int.toNat_of_nonneg (hw r.1 r.2 hr).1]
            exact hr
        · cases hs1
      · exact h.sound _ _ hs1 y hy
    · cases e
theorem roundW_inv {rs : RuleL} {n k : Nat} (hw : WellG rs n) : ∀ (l : RuleL) (p q : Sets × Bool), (∀ r ∈ l, r ∈ rs) → FirstInv rs n k p.1 → roundW k l p = some q → FirstInv rs n k q.1
  | [], p, q, _, h, e => by injection e with e; subst e; exact h
  | r :: l, p, q, hl, h, e => by
    simp only [roundW] at e
    cases h1 : growW k p.1 r with
    | none => rw [h1] at e; cases e
    | some t =>
      rw [h1, Option.bind_some] at e
      exact roundW_inv hw l (t.1, p.2 || t.2) q (fun r hr => hl r (by simp [hr])) (growW_inv (g := t.2) (hl r (by simp)) hw h h1) e
theorem growW_still {k : Int} {s s' : Sets} {r : Int × List Int} (ha : AllAsc s) (e : growW k s r = some (s', false)) : s' = s ∧ ∃ x, ofW s k r.2 = some x ∧ ∀ y ∈ x, y ∈ s.getD r.1.toNat [] := by
  unfold growW at e
  cases h1 : ofW s k r.2 with
  | none => rw [h1] at e; cases e
  | some x =>
    rw [h1, Option.bind_some] at e
    split at e
    · injection e with e
      injection e with e e2
      have hle := of_decide_eq_false e2
      obtain ⟨g1, g2⟩ := (union_len (a := s.getD r.1.toNat []) (b := x) (ha.getD _)).2 (Nat.le_of_not_lt hle)
      refine ⟨?_, x, rfl, g2⟩
      rw [← e]
      show s.set _ (setOf _) = s
      rw [g1, set_getD_self]
    · cases e
theorem roundW_still {k : Int} : ∀ (l : RuleL) (s s' : Sets) (g : Bool), AllAsc s → roundW k l (s, g) = some (s', false) → g = false ∧ s' = s ∧ ∀ r ∈ l, ∃ x, ofW s k r.2 = some x ∧ ∀ y ∈ x, y ∈ s.getD r.1.toNat []
  | [], s, s', g, _, e => by
    injection e with e
    injection e with e1 e2
    exact ⟨e2, e1.symm, fun r hr => by cases hr⟩
  | r :: l, s, s', g, ha, e => by
    simp only [roundW] at e
    cases h1 : growW k s r with
    | none => rw [h1] at e; cases e
    | some t =>
      rw [h1, Option.bind_some] at e
      obtain ⟨t1, t2⟩ := t
      cases t2 with
      | true =>
        exfalso
        rw [Bool.or_true] at e
        have : ∀ (l : RuleL) (p : Sets) (q : Sets × Bool), roundW k l (p, true) = some q → q.2 = true := by
          intro l
          induction l with
          | nil => intro p q e; injection e with e; subst e; rfl
          | cons r l ih =>
            intro p q e
            simp only [roundW] at e
            cases h : growW k p r with
            | none => rw [h] at e; cases e
            | some t => rw [h, Option.bind_some, Bool.true_or] at e; exact ih _ _ e
        have := this _ _ _ e
        cases this
      | false =>
        rw [Bool.or_false] at e
        obtain ⟨rfl, x, hx, hs⟩ := growW_still ha h1
        obtain ⟨hg, rfl, h2⟩ := roundW_still l _ s' g ha e
        refine ⟨hg, rfl, fun r' hr' => ?_⟩
        rcases List.mem_cons.1 hr' with rfl | hr'
        · exact ⟨x, hx, hs⟩
        · exact h2 r' hr'
theorem FirstTo.full {rs : RuleL} {n k : Nat} (hw : WellG rs n) {s : Sets} (h : FirstTo k rs n (some s)) : FirstInv rs n k s ∧ ClosedF rs k s := by
  obtain ⟨h1, t, h2, h3⟩ := RoundsTo.inv (FirstInv rs n k) (fun s s' g hs e => roundW_inv hw rs (s, false) (s', g) (fun _ h => h) hs e) h (firstInv_start rs n k) s rfl
  refine ⟨h1, ?_⟩
  obtain ⟨_, rfl, h4⟩ := roundW_still rs t s false h2.asc h3
  intro a r hr ha
  obtain ⟨x, hx, hs⟩ := h4 (a, r) hr
  have hl : a.toNat < s.length := by rw [h1.len]; have := (hw a r hr).2.1; omega
  refine ⟨x, s[a.toNat], hx, List.getElem?_eq_getElem hl, fun y hy => ?_⟩
  have := hs y hy
  rwa [List.getD_eq_getElem?_getD, List.getElem?_eq_getElem hl] at this

def SoundO (rs : RuleL) (k : Nat) (fol : Sets) : Prop := ∀ (a : Nat) (s : List Wd), fol[a]? = some s → ∀ x ∈ s, ∃ v, Fol rs a v ∧ x = v.take k
theorem SoundO.getD {rs : RuleL} {k : Nat} {fol : Sets} (h : SoundO rs k fol) {a : Nat} {x : Wd} (hx : x ∈ fol.getD a []) : ∃ v, Fol rs a v ∧ x = v.take k := by
  rw [List.getD_eq_getElem?_getD] at hx
  cases e : fol[a]? with
  | none => rw [e] at hx; cases hx
  | some s => rw [e] at hx; exact h _ _ e x hx
theorem behindW_sound {rs : RuleL} {k : Nat} {sets fol : Sets} (hs : SoundF rs k sets) (ho : SoundO rs k fol) {r : Int × List Int} {at_ : Int} {out : List Wd} (h : behindW sets fol k r at_ = some out) {z : Wd} (hz : z ∈ out) :
    ∃ u v, Der rs (r.2.drop (at_ + 1).toNat) u ∧ Fol rs r.1 v ∧ z = (u ++ v).take k := by
  unfold behindW at h
  split at h
  · cases h
  · rename_i hg
    cases h1 : ofW sets k (r.2.drop (at_ + 1).toNat) with
    | none => rw [h1] at h; cases h
    | some x =>
      rw [h1, Option.bind_some] at h
      obtain ⟨p, hp, q, hq, rfl⟩ := (mem_catW h).1 hz
      obtain ⟨u, hu, rfl⟩ := ofW_sound hs h1 hp
      obtain ⟨v, hv, rfl⟩ := ho.getD hq
      rw [Int.toNat_of_nonneg (by omega)] at hv
      exact ⟨u, v, hu, hv, by simp only [Int.toNat_natCast]; rw [take_cat]⟩
theorem behindW_full {rs : RuleL} {k : Nat} {sets fol : Sets} (hc : ClosedF rs k sets) {r : Int × List Int} {at_ : Int} {out : List Wd} (h : behindW sets fol k r at_ = some out) {u v : Wd} (hu : Der rs (r.2.drop (at_ + 1).toNat) u) (hv : v.take k ∈ fol.getD r.1.toNat []) :
    (u ++ v).take k ∈ out := by
  unfold behindW at h
  split at h
  · cases h
  · cases h1 : ofW sets k (r.2.drop (at_ + 1).toNat) with
    | none => rw [h1] at h; cases h
    | some x =>
      rw [h1, Option.bind_some] at h
      exact (mem_catW h).2 ⟨u.take k, ofW_full hc hu h1, v.take k, hv, by simp only [Int.toNat_natCast]; rw [take_cat]⟩
structure FolInv (rs : RuleL) (n k : Nat) (s : Sets) : Prop where
  len : s.length = n
  asc : AllAsc s
  sound : SoundO rs k s
  start : [] ∈ s.getD 0 []
theorem folInv_start {rs : RuleL} {n k : Nat} (hn : 0 < n) : FolInv rs n k ((List.replicate n []).set 0 [[]]) := by
  refine ⟨by simp, (AllAsc.replicate n).set 0 (by simp), fun a s h x hx => ?_, ?_⟩
  · rw [List.getElem?_set] at h
    split at h
    · rename_i ha
      split at h
      · injection h with h
        subst h ha
        rw [List.mem_singleton] at hx
        subst hx
        exact ⟨[], .start, by simp⟩
      · cases h
    · rw [List.getElem?_replicate] at h
      split at h
      · injection h with h; subst h; cases hx
      · cases h
  · rw [List.getD_eq_getElem?_getD, List.getElem?_set]
    simp [hn]
theorem drop_place {r : List Int} {at_ : Nat} (h : at_ < r.length) : r = r.take at_ ++ r.getD at_ 0 :: r.drop (at_ + 1) := by
  rw [List.getD_eq_getElem?_getD, List.getElem?_eq_getElem h]
  simp
theorem spreadW_inv {rs : RuleL} {n k : Nat} (hn : 0 < n) {sets : Sets} (hs : SoundF rs k sets) {r : Int × List Int} (hr : r ∈ rs) {at_ : Nat} (hat : at_ < r.2.length) {p : FolS} (h : FolInv rs n k p.fol) : FolInv rs n k (spreadW sets k r at_ p).fol := by
  unfold spreadW
  cases h1 : behindW sets p.fol k r at_ with
  | none => exact h
  | some x =>
    simp only
    split
    · exact h
    · rename_i hpos
      refine ⟨by simp only [List.length_set]; exact h.len, h.asc.set _ (unionW_asc _ _), fun a s hs1 y hy => ?_, ?_⟩
      · simp only [List.getElem?_set] at hs1
        split at hs1
        · rename_i ha
          split at hs1
          · injection hs1 with hs1
            subst hs1 ha
            rcases mem_unionW.1 hy with hy | hy
            · exact h.sound.getD hy
            · obtain ⟨u, v, hu, hv, rfl⟩ := behindW_sound hs h.sound h1 hy
              refine ⟨u ++ v, ?_, rfl⟩
              rw [Int.toNat_of_nonneg (by omega)]
              rw [show ((at_ : Int) + 1).toNat = at_ + 1 by omega] at hu
              exact .step (a := r.1) (r := r.2) hr (drop_place hat) (by omega) hu hv
          · cases hs1
        · exact h.sound _ _ hs1 y hy
      · simp only [List.getD_eq_getElem?_getD, List.getElem?_set]
        split
        · rename_i ha
          rw [if_pos (by rw [h.len]; omega)]
          simp only [Option.getD_some]
          refine mem_unionW.2 (.inl ?_)
          rw [ha]
          simpa [List.getD_eq_getElem?_getD] using h.start
        · simpa [List.getD_eq_getElem?_getD] using h.start
theorem spreadsW_inv {rs : RuleL} {n k : Nat} (hn : 0 < n) {sets : Sets} (hs : SoundF rs k sets) {r : Int × List Int} (hr : r ∈ rs) : ∀ (m at_ : Nat) (p : FolS), at_ + m ≤ r.2.length → FolInv rs n k p.fol → FolInv rs n k (spreadsW sets k r m at_ p).fol
  | 0, _, p, _, h => h
  | m + 1, at_, p, hm, h => spreadsW_inv hn hs hr m (at_ + 1) _ (by omega) (spreadW_inv hn hs hr (by omega) h)
theorem spreadAll_inv {rs : RuleL} {n k : Nat} (hn : 0 < n) {sets : Sets} (hs : SoundF rs k sets) : ∀ (l : RuleL) (p : FolS), (∀ r ∈ l, r ∈ rs) → FolInv rs n k p.fol → FolInv rs n k (spreadAll sets k l p).fol
  | [], p, _, h => h
  | r :: l, p, hl, h => spreadAll_inv hn hs l _ (fun r hr => hl r (by simp [hr])) (spreadsW_inv hn hs (hl r (by simp)) _ _ _ (by omega) h)
def Quiet (p : FolS) : Prop := p.grown = false ∧ p.limit = false
theorem spreadW_quiet {sets : Sets} {k : Int} {r : Int × List Int} {at_ : Nat} {p : FolS} (h : Quiet (spreadW sets k r at_ p)) : Quiet p := by
  unfold spreadW at h
  cases h1 : behindW sets p.fol k r at_ with
  | none => rw [h1] at h; cases h.2
  | some x =>
    rw [h1] at h
    simp only at h
    split at h
    · exact h
    · obtain ⟨h2, h3⟩ := h
      simp only [Bool.or_eq_false_iff] at h2 h3
      exact ⟨h2.1, h3.1⟩
theorem spreadsW_quiet {sets : Sets} {k : Int} {r : Int × List Int} : ∀ (m at_ : Nat) (p : FolS), Quiet (spreadsW sets k r m at_ p) → Quiet p
  | 0, _, _, h => h
  | m + 1, at_, _, h => spreadW_quiet (spreadsW_quiet m (at_ + 1) _ h)
theorem spreadAll_quiet {sets : Sets} {k : Int} : ∀ (l : RuleL) (p : FolS), Quiet (spreadAll sets k l p) → Quiet p
  | [], _, h => h
  | _ :: l, _, h => spreadsW_quiet _ _ _ (spreadAll_quiet l _ h)
def StillAt (sets fol : Sets) (k : Int) (r : Int × List Int) (at_ : Nat) : Prop := ∃ x, behindW sets fol k r at_ = some x ∧ (0 ≤ r.2.getD at_ 0 → ∀ y ∈ x, y ∈ fol.getD (r.2.getD at_ 0).toNat [])
theorem spreadW_still {sets : Sets} {k : Int} {r : Int × List Int} {at_ : Nat} {p : FolS} (ha : AllAsc p.fol) (h : Quiet (spreadW sets k r at_ p)) : spreadW sets k r at_ p = p ∧ StillAt sets p.fol k r at_ := by
  have hq := spreadW_quiet h
  unfold spreadW at h ⊢
  cases h1 : behindW sets p.fol k r at_ with
  | none => rw [h1] at h; cases h.2
  | some x =>
    rw [h1] at h
    simp only at h ⊢
    split at h
    · rename_i hneg
      exact ⟨if_pos hneg, x, h1, fun h0 => absurd hneg (by omega)⟩
    · rename_i hpos
      rw [if_neg hpos]
      obtain ⟨h2, h3⟩ := h
      simp only [Bool.or_eq_false_iff, decide_eq_false_iff_not] at h2 h3
      obtain ⟨g1, g2⟩ := (union_len (a := p.fol.getD (r.2.getD at_ 0).toNat []) (b := x) (ha.getD _)).2 (Nat.le_of_not_lt h2.2)
      refine ⟨?_, x, h1, fun _ => g2⟩
      obtain ⟨f, g, l⟩ := p
      obtain ⟨e1, e2⟩ := hq
      simp only at e1 e2 g1 h2 h3 ⊢
      subst e1 e2
      show FolS.mk (f.set _ (setOf _)) _ _ = _
      unfold unionW
      rw [g1, set_getD_self]
      unfold unionW at h2 h3
      rw [g1] at h3
      simp only [Bool.false_or, FolS.mk.injEq, true_and, decide_eq_false_iff_not, Nat.lt_irrefl, not_false_eq_true]
      exact h3.2
theorem spreadsW_still {sets : Sets} {k : Int} {r : Int × List Int} : ∀ (m at_ : Nat) (p : FolS), AllAsc p.fol → Quiet (spreadsW sets k r m at_ p) → spreadsW sets k r m at_ p = p ∧ ∀ i, at_ ≤ i → i < at_ + m → StillAt sets p.fol k r i
  | 0, _, _, _, h => ⟨rfl, fun i h1 h2 => by omega⟩
  | m + 1, at_, p, ha, h => by
    simp only [spreadsW] at h ⊢
    obtain ⟨e1, e2⟩ := spreadW_still ha (spreadsW_quiet m (at_ + 1) _ h)
    rw [e1] at h ⊢
    obtain ⟨e3, e4⟩ := spreadsW_still m (at_ + 1) p ha h
    refine ⟨e3, fun i h1 h2 => ?_⟩
    rcases Nat.eq_or_lt_of_le h1 with rfl | h1
    · exact e2
    · exact e4 i h1 (by omega)
theorem spreadAll_still {sets : Sets} {k : Int} : ∀ (l : RuleL) (p : FolS), AllAsc p.fol → Quiet (spreadAll sets k l p) → spreadAll sets k l p = p ∧ ∀ r ∈ l, ∀ i, i < r.2.length → StillAt sets p.fol k r i
  | [], _, _, h => ⟨rfl, fun r hr => by cases hr⟩
  | r :: l, p, ha, h => by
    simp only [spreadAll] at h ⊢
    obtain ⟨e1, e2⟩ := spreadsW_still _ _ _ ha (spreadAll_quiet l _ h)
    rw [e1] at h ⊢
    obtain ⟨e3, e4⟩ := spreadAll_still l p ha h
    refine ⟨e3, fun r' hr' i hi => ?_⟩
    rcases List.mem_cons.1 hr' with rfl | hr'
    · exact e2 i (by omega) (by omega)
    · exact e4 r' hr' i hi
theorem FollowTo.full {rs : RuleL} {n k : Nat} (hn : 0 < n) {sets : Sets} (hs : SoundF rs k sets) (hc : ClosedF rs k sets) {fol : Sets} (h : FollowTo sets k rs n (some fol)) :
    FolInv rs n k fol ∧ ∀ (b : Int) (v : Wd), 0 ≤ b → b < n → Fol rs b v → v.take k ∈ fol.getD b.toNat [] := by
  obtain ⟨h1, t, h2, h3⟩ := RoundsTo.inv (FolInv rs n k) (fun s s' g hi e => by
    unfold folRound at e
    simp only at e
    split at e
    · cases e
    · injection e with e
      injection e with e1 e2
      rw [← e1]
      exact spreadAll_inv hn hs rs ⟨s, false, false⟩ (fun _ h => h) hi) h (folInv_start hn) fol rfl
  refine ⟨h1, ?_⟩
  unfold folRound at h3
  simp only at h3
  split at h3
  · cases h3
  · rename_i hlim
    injection h3 with h3
    injection h3 with h3 h4
    obtain ⟨e1, e2⟩ := spreadAll_still rs ⟨t, false, false⟩ h2.asc ⟨h4, by simpa using hlim⟩
    rw [e1] at h3
    simp only at h3
    subst h3
    have key : ∀ b v, Fol rs b v → v.take k ∈ t.getD b.toNat [] := by
      intro b v hf
      induction hf with
      | start => simpa using h2.start
      | @step a r l1 b l2 u v hr e hb hd hf ih =>
        subst e
        obtain ⟨x, hx, hin⟩ := e2 (a, l1 ++ b :: l2) hr l1.length (by simp)
        have hat : (l1 ++ b :: l2).getD l1.length 0 = b := by simp [List.getD_eq_getElem?_getD]
        simp only [hat] at hin
        refine hin hb _ (behindW_full hc hx ?_ ih)
        simp only [show ((l1.length : Int) + 1).toNat = l1.length + 1 by omega]
        simpa using hd
    exact fun b v _ _ hf => key b v hf

theorem aheadW_get {sets fol : Sets} {k : Int} : ∀ (l : RuleL) (out : Sets), aheadW sets fol k l = some out → out.length = l.length ∧ ∀ (i : Nat) (r : Int × List Int), l[i]? = some r → ∃ x, out[i]? = some x ∧ behindW sets fol k r (-1) = some x
  | [], out, h => by injection h with h; subst h; exact ⟨rfl, fun i r h => by simp at h⟩
  | r :: l, out, h => by
    simp only [aheadW] at h
    cases h1 : behindW sets fol k r (-1) with
    | none => rw [h1] at h; cases h
    | some x =>
      rw [h1, Option.bind_some] at h
      cases h2 : aheadW sets fol k l with
      | none => rw [h2] at h; cases h
      | some o =>
        rw [h2] at h
        injection h with h
        subst h
        obtain ⟨e1, e2⟩ := aheadW_get l o h2
        refine ⟨by simp [e1], fun i r' hr' => ?_⟩
        cases i with
        | zero => simp only [List.getElem?_cons_zero, Option.some.injEq] at hr'; subst hr'; exact ⟨x, by simp, h1⟩
        | succ i => simpa using e2 i r' (by simpa using hr')
def FewW (w : Wd) : Prop := w.length ≤ 4 ∧ ∀ c ∈ w, c.toNat < 3
def FewS (s : Sets) : Prop := ∀ (a : Nat) (x : List Wd), s[a]? = some x → ∀ w ∈ x, FewW w
theorem FewS.getD {s : Sets} (h : FewS s) (a : Nat) : ∀ w ∈ s.getD a [], FewW w := by
  rw [List.getD_eq_getElem?_getD]
  cases e : s[a]? with
  | none => intro w hw; cases hw
  | some x => exact h a x e
theorem FewS.set {s : Sets} (h : FewS s) (a : Nat) {x : List Wd} (hx : ∀ w ∈ x, FewW w) : FewS (s.set a x) := by
  intro b y hy
  rw [List.getElem?_set] at hy
  split at hy
  · split at hy
    · injection hy with hy; subst hy; exact hx
    · cases hy
  · exact h b y hy
theorem FewS.replicate (n : Nat) : FewS (List.replicate n []) := by
  intro b y hy
  rw [List.getElem?_replicate] at hy
  split at hy
  · injection hy with hy; subst hy; intro w hw; cases hw
  · cases hy
end Go.Proofs.YtfpihflepeiagaaGreatDoor
namespace Go.Proofs.YtfpihflepeiagaaGreatDoor

def prodStep (P : List Bool) (r : Int × List Int) : List Bool := if r.2.all (fun s => decide (s < 0) || P.getD s.toNat false) then P.set r.1.toNat true else P
def roundsOf {σ : Type} (f : σ → Int × List Int → σ) (rs : RuleL) : Nat → σ → σ
  | 0, s => s
  | n + 1, s => roundsOf f rs n (rs.foldl f s)
def productive (rs : RuleL) (n : Nat) : List Bool := roundsOf prodStep rs (n + 1) (List.replicate n false)
def reachSym (R : List Bool) (left : Int) (s : Int) : List Bool := if R.getD left.toNat false && decide (0 ≤ s) then R.set s.toNat true else R
def reachStep (R : List Bool) (r : Int × List Int) : List Bool := r.2.foldl (fun R s => reachSym R r.1 s) R
def reached (rs : RuleL) (n : Nat) : List Bool := roundsOf reachStep rs (n + 1) ((List.replicate n false).set 0 true)
def usedT (rs : RuleL) (t : Nat) : Bool := rs.any fun r => r.2.any fun s => decide (s = -1 - (t : Int))
def wellE (n m : Nat) (rs : RuleL) : Int := if (productive rs n).all id then (if (reached rs n).all id && (List.range m).all (usedT rs) then 0 else 17) else 18
def Makes (rs : RuleL) (a : Int) : Prop := ∃ r u, (a, r) ∈ rs ∧ Der rs r u
theorem der_of_makes {rs : RuleL} : ∀ (l : List Int), (∀ s ∈ l, s < 0 ∨ Makes rs s) → (∀ a r, (a, r) ∈ rs → 0 ≤ a) → ∃ u, Der rs l u
  | [], _, _ => ⟨[], .nil⟩
  | s :: l, h, hw => by
    obtain ⟨v, hv⟩ := der_of_makes l (fun s hs => h s (by simp [hs])) hw
    rcases h s (by simp) with hs | ⟨r, u, hr, hu⟩
    · exact ⟨_, .term hs hv⟩
    · exact ⟨_, .nont (hw s r hr) hr hu hv⟩
def Stands (rs : RuleL) (a : Int) : Prop := ∃ v, Fol rs a v
end Go.Proofs.YtfpihflepeiagaaGreatDoor
namespace Go.Proofs.YtfpihflepeiagaaGreatDoor
open Go.RowKit

def Away (w w' : World) (B : Nat) (r : Option Nat) : Prop := ∀ p : Addr, p.block < B → some p.block ≠ r → w'.cell? p = w.cell? p
theorem Away.refl (w : World) (B : Nat) (r : Option Nat) : Away w w B r := fun _ _ _ => rfl
def OwnL {α : Type} (E : Elt α) (w : World) (base : Nat) (t : TypeId) (v : Value) (xs : List α) : Prop :=
  ∃ css : List (List Value), w.ownsRow base t E.size v xs.length css.flatten ∧ css.length = xs.length ∧ ∀ (i : Nat) (cs : List Value) (x : α), css[i]? = some cs → xs[i]? = some x → ∀ w', Away w w' w.heap.size v.ownBlock → E.rep w' w.heap.size cs x
section
variable {α : Type} {E : Elt α} {w w' w1 : World} {base : Nat} {t : TypeId} {v v1 : Value} {xs : List α}
theorem OwnL.nil (w : World) (base : Nat) (t : TypeId) : OwnL E w base t (.slice none 0 0) [] := ⟨[], World.ownsRow_nil _ _ _ _, rfl, fun i cs x h => by simp at h⟩
theorem OwnL.form (h : OwnL E w base t v xs) : ∃ A c, v = .slice A xs.length c ∧ xs.length ≤ c ∧ c ≤ maxLen := by
  obtain ⟨css, h1, _⟩ := h
  exact own_form h1
theorem OwnL.sl (h : OwnL E w base t v xs) : SlR E w w.heap.size v xs := by
  obtain ⟨css, h1, h2, h3⟩ := h
  obtain ⟨A, c, rfl, ha, hb⟩ := own_form h1
  exact ⟨A, c, css, rfl, ha, hb, h2, Rd.of_own h1, fun i cs x hc hx => h3 i cs x hc hx w (Away.refl _ _ _)⟩
theorem OwnL.later (h : OwnL E w base t v xs) (hb : Below w.heap.size w w1) : OwnL E w1 base t v xs := by
  obtain ⟨css, h1, h2, h3⟩ := h
  refine ⟨css, own_below h1 hb, h2, fun i cs x hc hx w' ha => E.more (h3 i cs x hc hx w' fun p hp hn => ?_) hb.size⟩
  rw [ha p (Nat.lt_of_lt_of_le hp hb.size) hn, hb.cell hp]
theorem OwnL.snoc {css : List (List Value)} {cs : List Value} {x : α} (h2 : css.length = xs.length) (h3 : ∀ (i : Nat) (cs : List Value) (x : α), css[i]? = some cs → xs[i]? = some x → ∀ w', Away w w' w.heap.size v.ownBlock → E.rep w' w.heap.size cs x)
    (hx : ∀ w', Away w w' w.heap.size v.ownBlock → E.rep w' w.heap.size cs x) (ho : w1.ownsRow base t E.size v1 (xs.length + 1) (css.flatten ++ cs)) (hg : w.grownBy w1 v.ownBlock) (hv : v1.ownBlock = v.ownBlock ∨ v1.ownBlock = some w.heap.size) :
    OwnL E w1 base t v1 (xs ++ [x]) := by
  have key : ∀ w', Away w1 w' w1.heap.size v1.ownBlock → Away w w' w.heap.size v.ownBlock := fun w' ha p hp hn => by
    rw [ha p (Nat.lt_of_lt_of_le hp hg.size) ?_]
    · have hb := hg.block p.block hp hn
      exact World.cell?_of_block (w := w) hb
    · rcases hv with e | e
      · rw [e]; exact hn
      · rw [e]
        intro e2
        injection e2 with e2
        omega
  refine ⟨css ++ [cs], ?_, by simp [h2], fun i cs' x' hc hx' w' ha => ?_⟩
  · rw [List.flatten_append, List.length_append]
    simpa using ho
  · by_cases hi : i < xs.length
    · rw [List.getElem?_append_left (by omega)] at hc hx'
      exact E.more (h3 i cs' x' hc hx' w' (key w' ha)) hg.size
    · have hil : i = xs.length := by
        have h4 := (List.getElem?_eq_some_iff.1 hx').1
        rw [List.length_append, List.length_singleton] at h4
        omega
      subst hil
      rw [← h2, List.getElem?_append_right (Nat.le_refl _), Nat.sub_self] at hc
      rw [List.getElem?_append_right (Nat.le_refl _), Nat.sub_self] at hx'
      injection hc with hc
      injection hx' with hx'
      subst hc hx'
      exact E.more (hx w' (key w' ha)) hg.size
end
theorem own_not2 {w : World} {base : Nat} {e e' : TypeId} {size n : Nat} {v : Value} {xs : List Value} {g : Nat} {cs : Array Value} {fr : Nat × Nat} (h : w.ownsRow base e size v n xs) (hg : w.heap[g]? = some (.cells cs e' fr)) (hne : e' ≠ e) : v.ownBlock ≠ some g := by
  rcases h.2 with ⟨rfl, _⟩ | ⟨g', cap, cur, rfl, _, hh, _⟩
  · simp [Value.ownBlock]
  · intro he
    have : g' = g := by simpa [Value.ownBlock] using he
    subst this
    rw [hg] at hh
    injection hh with hh
    injection hh with _ h2
    exact hne h2
theorem own_some2 {w : World} {base : Nat} {e : TypeId} {size : Nat} {v : Value} {n : Nat} {xs : List Value} (h : w.ownsRow base e size v n xs) (hn : 0 < n) : ∃ g cap, v = .slice (some ⟨g, 0, none⟩) n cap := by
  rcases h.2 with ⟨_, h0⟩ | ⟨g, cap, cur, hv, _⟩
  · omega
  · exact ⟨g, cap, hv⟩
end Go.Proofs.YtfpihflepeiagaaGreatDoor
namespace Go.Proofs.YtfpihflepeiagaaGreatDoor
open Go.RowKit

theorem bytesRow_take (s : ByteArray) (c : Nat) : ∀ (j : Nat) (u : Value), (bcells s.data.toList)[j]? = some u → (bytesRow s c)[j]? = some u := by
  intro j u hu
  have hj : j < s.data.size := by
    have := (List.getElem?_eq_some_iff.1 hu).1
    rw [bcells_length] at this
    simpa using this
  rw [bytesRow_at s c j hj]
  unfold bcells at hu
  rw [List.getElem?_map, List.getElem?_eq_getElem (by simpa using hj)] at hu
  simpa [bcell] using hu
theorem conv_own {P : Program} (w : World) (src dst e : TypeId) (s : ByteArray) (hs : P.underlying src = some .string) (hd : P.underlying dst = some (.slice e)) (he : P.underlying e = some (.int .u8)) :
    ∃ w' c, (convert src dst (.string s)).run P w = .ok (.slice (some ⟨w.heap.size, 0, none⟩) s.size c) w' ∧ Below w.heap.size w w' ∧ w'.heap.size = w.heap.size + 1 ∧ Rd w' (w.heap.size + 1) (some ⟨w.heap.size, 0, none⟩) (bcells s.data.toList) := by
  refine ⟨_, _, run_bytes_of_string w src dst e s hs hd he, ((Below.refl _ _).drew).alloc (Nat.le_refl _) _, by simp, ?_⟩
  have hcell := Rd.row (w := w.drew.alloc (.cells (bytesRow s (grownCap w s.size 0 e)) e ((bytesRow s (grownCap w s.size 0 e)).size, (bytesRow s (grownCap w s.size 0 e)).size + 1))) (B := w.heap.size + 1) (g := w.heap.size) (heap_alloc_new w.drew _) (Nat.lt_succ_self _)
  intro hne
  obtain ⟨b, off, e1, hb, hc⟩ := hcell (by
    intro e1
    cases hl : bcells s.data.toList with
    | nil => exact hne hl
    | cons u r =>
      have := bytesRow_take s (grownCap w s.size 0 e) 0 u (by rw [hl]; rfl)
      rw [← Array.getElem?_toList, e1] at this
      cases this)
  refine ⟨b, off, e1, hb, fun j u hu => hc j u ?_⟩
  rw [Array.getElem?_toList]
  exact bytesRow_take s _ j u hu
theorem Rd.fut {w w' : World} {B B' N : Nat} {A : Option Addr} {xs : List Value} (h : Rd w B A xs) (hb : Below N w w') (h1 : B ≤ N) (h2 : B ≤ B') : Rd w' B' A xs := (h.below (hb.mono h1)).more h2
end Go.Proofs.YtfpihflepeiagaaGreatDoor
namespace Go.Proofs.YtfpihflepeiagaaGreatDoor
open Go.RowKit

def eW : Elt Wd := eMap eStr fun l => ⟨l.toArray⟩
abbrev wv (x : Wd) : Value := .string ⟨x.toArray⟩
theorem eW_open {w : World} {B : Nat} {cs : List Value} {x : Wd} (h : eW.rep w B cs x) : cs = [wv x] ∧ x.length ≤ maxLen := by
  obtain ⟨h1, h2⟩ := h
  exact ⟨h1, by simpa [ByteArray.size] using h2⟩
theorem eW_mk {w : World} {B : Nat} {x : Wd} (h : x.length ≤ maxLen) : eW.rep w B [wv x] x := ⟨rfl, by simpa [ByteArray.size] using h⟩
def Fits (xs : List Wd) : Prop := ∀ x ∈ xs, x.length ≤ maxLen
def wcells (xs : List Wd) : List Value := xs.map wv
theorem flat_wv : ∀ (xs : List Wd), (xs.map fun x => [wv x]).flatten = wcells xs
  | [] => rfl
  | x :: l => by rw [List.map_cons, List.flatten_cons, flat_wv l]; rfl
theorem wcells_len (xs : List Wd) : (wcells xs).length = xs.length := by simp [wcells]
theorem wcells_one (xs : List Wd) : ∀ u ∈ wcells xs, u.oneCell' = true := by
  intro u hu
  obtain ⟨x, _, rfl⟩ := List.mem_map.1 hu
  rfl
section
variable {w w' : World} {B : Nat} {v : Value} {xs : List Wd}
theorem SlR.fits (h : SlR eW w B v xs) : Fits xs := by
  obtain ⟨A, c, css, e, h1, h2, h3, h4, h5⟩ := h
  intro x hx
  obtain ⟨i, hi, rfl⟩ := List.getElem_of_mem hx
  exact (eW_open (h5 i _ _ (List.getElem?_eq_getElem (by omega)) (List.getElem?_eq_getElem hi))).2
theorem slW_of {A : Option Addr} {c : Nat} (hf : Fits xs) (hr : Rd w B A (wcells xs)) (h1 : xs.length ≤ c) (h2 : c ≤ maxLen) : SlR eW w B (.slice A xs.length c) xs := by
  refine ⟨A, c, xs.map fun x => [wv x], rfl, h1, h2, by simp, ?_, fun i cs x hc hx => ?_⟩
  · rw [flat_wv]
    exact hr
  · rw [List.getElem?_map, hx] at hc
    injection hc with hc
    subst hc
    exact eW_mk (hf x (List.mem_of_getElem? hx))
theorem SlR.rdW {A : Option Addr} {n c : Nat} (h : SlR eW w B (.slice A n c) xs) : Rd w B A (wcells xs) := by
  obtain ⟨A, c, css, e, h1, h2, h3, h4, h5⟩ := h
  injection e with e1 e2 e3
  subst e1
  have : css.flatten = wcells xs := by
    have e : css = xs.map fun x => [wv x] := by
      apply List.ext_getElem?
      intro i
      rw [List.getElem?_map]
      by_cases hi : i < xs.length
      · rw [List.getElem?_eq_getElem (by omega), List.getElem?_eq_getElem hi, Option.map_some]
        rw [(eW_open (h5 i _ _ (List.getElem?_eq_getElem (by omega)) (List.getElem?_eq_getElem hi))).1]
      · rw [List.getElem?_eq_none (by omega), List.getElem?_eq_none (by omega)]; rfl
    rw [e, flat_wv]
  rw [← this]
  exact h4
theorem SlR.wd {A : Option Addr} {n c : Nat} (h : SlR eW w B (.slice A n c) xs) {k : Nat} (hk : k < xs.length) : ∃ b off, A = some ⟨b, off, none⟩ ∧ n ≤ c ∧ b < B ∧ w.cell? ⟨b, off + k, none⟩ = some (wv xs[k]) := by
  obtain ⟨b, off, cs, e, h1, h2, h3, h4⟩ := h.get hk (by decide)
  obtain ⟨rfl, _⟩ := eW_open h3
  have := h4 0 _ rfl
  simp only [show eW.size = 1 from rfl, Nat.mul_one, Nat.add_zero] at this
  exact ⟨b, off, e, h1, h2, this⟩
theorem slW_own {base : Nat} {t : TypeId} (hf : Fits xs) (h : w.ownsRow base t 1 v xs.length (wcells xs)) : SlR eW w w.heap.size v xs := by
  obtain ⟨A, c, rfl, h1, h2⟩ := own_form h
  exact slW_of hf (Rd.of_own h) h1 h2
end
theorem fits_app {a b : List Wd} (ha : Fits a) (hb : Fits b) : Fits (a ++ b) := fun x hx => (List.mem_append.1 hx).elim (ha x) (hb x)
theorem wv_app (x y : Wd) : (⟨x.toArray⟩ : ByteArray) ++ ⟨y.toArray⟩ = ⟨(x ++ y).toArray⟩ := by
  apply ByteArray.ext
  simp
theorem wv_size (x : Wd) : (⟨x.toArray⟩ : ByteArray).size = x.length := by simp [ByteArray.size]
theorem wv_take (x : Wd) (n : Nat) : (⟨x.toArray⟩ : ByteArray).extract 0 n = ⟨(x.take n).toArray⟩ := by
  apply ByteArray.ext
  simp
theorem wv_eq (x y : Wd) : ((⟨x.toArray⟩ : ByteArray) == ⟨y.toArray⟩) = decide (x = y) := by
  rw [bytes_beq]
  rw [decide_eq_decide]
  constructor
  · intro h; injection h with h; simpa using h.symm
  · rintro rfl; rfl
theorem cell0 {w : World} {S : Nat} {v : Value} {t : TypeId} (h : w.heap[S]? = some (.cells #[v] t (0, 0))) : w.cell? ⟨S, 0, none⟩ = some v := by rw [cell_of_row w S 0 _ _ _ h]; rfl
end Go.Proofs.YtfpihflepeiagaaGreatDoor
namespace Go.Proofs.YtfpihflepeiagaaGreatDoor
open Go.RowKit

theorem made_rep (z : Value) (n : Nat) : madeCells #[z] n = (List.replicate n z).toArray := by
  apply Array.ext
  · simp [madeCells]
  · intro i h1 h2
    simp [madeCells, Nat.mod_one]
theorem int_make (n : Nat) (hn : n ≤ 1048576) (w : World) : (Instr.makeSlice 39 (.int .i64 (n : Int)) (.int .i64 (n : Int))).run Tryz.prog w = .ok (.slice (some ⟨w.heap.size, 0, none⟩) n n) (w.alloc (.cells (List.replicate n (Value.int .i64 0)).toArray 3)) := by
  rw [← made_rep]
  exact run_make_row' 39 3 (.int .i64 0) 8 Tryz.underlying39 (by kernel_rfl) rfl .i64 .i64 n (by omega) (by omega) w
theorem bool_make (n : Nat) (hn : n ≤ 1048576) (w : World) : (Instr.makeSlice 60 (.int .i64 (n : Int)) (.int .i64 (n : Int))).run Tryz.prog w = .ok (.slice (some ⟨w.heap.size, 0, none⟩) n n) (w.alloc (.cells (List.replicate n (Value.bool false)).toArray 4)) := by
  rw [← made_rep]
  exact run_make_row' 60 4 (.bool false) 1 Tryz.underlying60 (by kernel_rfl) rfl .i64 .i64 n (by omega) (by omega) w
theorem strs_make (n : Nat) (hn : n ≤ 1048576) (w : World) : (Instr.makeSlice 81 (.int .i64 (n : Int)) (.int .i64 (n : Int))).run Tryz.prog w = .ok (.slice (some ⟨w.heap.size, 0, none⟩) n n) (w.alloc (.cells (List.replicate n (Value.slice none 0 0)).toArray 22)) := by
  rw [← made_rep]
  exact run_make_row' 81 22 (.slice none 0 0) 24 Tryz.underlying81 (by kernel_rfl) rfl .i64 .i64 n (by omega) (by omega) w
def halfRow (x : Int) (n m : Nat) : List Value := List.replicate m (Value.int .i64 x) ++ List.replicate (n - m) (Value.int .i64 0)
theorem halfRow_len {x : Int} {n m : Nat} (h : m ≤ n) : (halfRow x n m).length = n := by simp [halfRow]; omega
theorem halfRow_get {x : Int} {n m j : Nat} (h : j < m) : (halfRow x n m)[j]? = some (Value.int .i64 x) := by
  unfold halfRow
  rw [List.getElem?_append_left (by simpa using h)]
  simp [h]
theorem halfRow_splice {x : Int} {n m q : Nat} : (halfRow x n m).take m ++ List.replicate q (Value.int .i64 x) ++ (halfRow x n m).drop (m + q) = halfRow x n (m + q) := by
  unfold halfRow
  have e1 : (List.replicate m (Value.int .i64 x) ++ List.replicate (n - m) (Value.int .i64 0)).take m = List.replicate m (Value.int .i64 x) := List.take_left' (by simp)
  have e2 : (List.replicate m (Value.int .i64 x) ++ List.replicate (n - m) (Value.int .i64 0)).drop (m + q) = List.replicate (n - (m + q)) (Value.int .i64 0) := by
    rw [List.drop_append]
    simp
    omega
  rw [e1, e2, List.replicate_append_replicate]
theorem copy_half {w : World} {g m n q : Nat} {x : Int} (hg : w.heap[g]? = some (.cells (halfRow x n m).toArray 3 (0, 0))) (hmn : m ≤ n) (hq : q = min m (n - m)) (cd cs : Nat) :
    (Builtin.copy_ #[39, 39] 3 #[.slice (some ⟨g, m, none⟩) (n - m) cd, .slice (some ⟨g, 0, none⟩) m cs]).run Tryz.prog w = .ok (.int .i64 q) (w.setRow g (halfRow x n (m + q)).toArray) := by
  show _ = Result.ok (goInt (q : Int)) _
  have := run_copy_row (P := Tryz.prog) w 39 39 3 3 g m (n - m) cd ⟨g, 0, none⟩ m cs (halfRow x n m).toArray 3 (List.replicate q (Value.int .i64 x)) Tryz.underlying39 (by kernel_rfl) hg (by rw [List.length_replicate, hq]) (fun j v hv => by
    rw [List.getElem?_replicate] at hv
    split at hv
    · injection hv with hv
      subst hv
      rw [Addr.add_lit, Nat.zero_add, cell_of_row w g j _ _ _ hg, ← Array.getElem?_toList]
      exact halfRow_get (by omega)
    · cases hv) (by rw [List.length_replicate, List.size_toArray, halfRow_len hmn]; omega) (fun v hv => by obtain ⟨_, rfl⟩ := List.mem_replicate.1 hv; rfl)
  rw [List.length_replicate] at this
  rw [← halfRow_splice]
  exact this
def RepTo (w : World) (x : Int) (n : Nat) (e : Ending) (w' : World) : Prop := ∃ g, e = .returned (.slice (some ⟨g, 0, none⟩) n n) ∧ w'.heap[g]? = some (.cells (List.replicate n (Value.int .i64 x)).toArray 3 (0, 0)) ∧ w.heap.size ≤ g ∧ Below w.heap.size w w'
set_option maxRecDepth 100000 in
set_option maxHeartbeats 4000000 in
theorem repeat_any (b c : Nat) (x : Int) (n : Nat) (w : World) (hc : w.cell? ⟨b, 0, none⟩ = some (.int .i64 x)) (h1 : 1 ≤ n) (h2 : n ≤ 1048576) :
    Calls Tryz.prog 167 #[.slice (some ⟨b, 0, none⟩) 1 c, .int .i64 n] w (RepTo w x n) := by
  have hb := World.block_lt_of_cell? w _ hc
  simp only at hb
  have HMUL := Lib.hid (Tryz.bits_Mul 1 n (by omega) (by omega) w)
  have e1 : ((1 * n / 18446744073709551616 : Nat) : Int) = 0 := by omega
  have e2 : ((1 * n % 18446744073709551616 : Nat) : Int) = n := by omega
  rw [e1, e2] at HMUL
  have hmk := int_make n h2 w
  have hcp : (Builtin.copy_ #[39, 39] 3 #[.slice (some ⟨w.heap.size, 0, none⟩) n n, .slice (some ⟨b, 0, none⟩) 1 c]).run Tryz.prog (w.alloc (.cells (List.replicate n (Value.int .i64 0)).toArray 3)) = .ok (.int .i64 1) (w.alloc (.cells (halfRow x n 1).toArray 3)) := by
    have := run_copy_row (P := Tryz.prog) (w.alloc (.cells (List.replicate n (Value.int .i64 0)).toArray 3)) 39 39 3 3 w.heap.size 0 n n ⟨b, 0, none⟩ 1 c (List.replicate n (Value.int .i64 0)).toArray 3 [.int .i64 x] Tryz.underlying39 (by kernel_rfl) (Go.heap_alloc_new w _) (by rw [List.length_singleton]; exact (Nat.min_eq_left h1).symm) (fun j v hv => by
      match j, hv with
      | 0, hv =>
        injection hv with hv
        subst hv
        rw [Addr.add_lit, Nat.zero_add]
        exact ((Below.refl w.heap.size w).alloc (Nat.le_refl _) _).cell hb |>.trans hc
      | j + 1, hv => simp at hv) (by simp; omega) (fun v hv => by rw [List.mem_singleton] at hv; subst hv; rfl)
    rw [this, setRow_alloc]
    have := halfRow_splice (x := x) (n := n) (m := 0) (q := 1)
    simp only [halfRow, List.replicate_zero, List.nil_append, Nat.sub_zero, Nat.zero_add] at this
    simp only [halfRow, Nat.zero_add]
    rw [show ([Value.int .i64 x] : List Value).length = 1 from rfl, show ([Value.int .i64 x] : List Value) = List.replicate 1 (Value.int .i64 x) from rfl, this]
    rfl
  clear e1 e2
  obtain ⟨src, hsrc⟩ : ∃ src, src = List.replicate n (Value.int .i64 0) := ⟨_, rfl⟩
  rw [← hsrc] at hmk hcp
  clear hsrc
  obtain ⟨w2, hw2⟩ : ∃ w2, w2 = w.alloc (.cells (halfRow x n 1).toArray 3) := ⟨_, rfl⟩
  rw [← hw2] at hcp
  have HG2 := Lib.hid (show w2.heap[w.heap.size]? = some (.cells (halfRow x n 1).toArray 3 (0, 0)) by rw [hw2]; exact Go.heap_alloc_new w _)
  have HB2 := Lib.hid (show Below w.heap.size w w2 by rw [hw2]; exact (Below.refl w.heap.size w).alloc (Nat.le_refl _) _)
  clear hw2
  go_enter Tryz.func167, Tryz.ntmps167
  go_wp2_with fail
  refine HMUL.out.mono ?_
  rintro e w1 ⟨rfl, rfl⟩
  go_wp2_with fail
  go_loopw [8] (fun v8 wr => ∃ m : Nat, 1 ≤ m ∧ m ≤ n ∧ v8 = .int .i64 m ∧ Hid (wr.heap[w1.heap.size]? = some (.cells (halfRow x n m).toArray 3 (0, 0))) ∧ Hid (Below w1.heap.size w1 wr)) (fun v8 _ => n - (intOf v8).toNat)
  case atStart => exact ⟨1, by omega, h1, rfl, HG2.out, HB2.out⟩
  case round =>
    clear HG2 HB2
    obtain ⟨m, hm1, hm2, rfl, HG, HB⟩ := hrel
    by_cases hlt : m < n
    · have hcp2 := copy_half (w := wr.drew) HG.out hm2 rfl (n - m) n
      obtain ⟨q, hq⟩ : ∃ q, q = min m (n - m) := ⟨_, rfl⟩
      rw [← hq] at hcp2
      have HQ := Lib.hid hq
      have hmq : (m : Int) + (q : Int) ≤ 1048576 := by omega
      clear hq hcp
      go_wp2_with fail
      refine Text.wp_text [] (by kernel_rfl) (by kernel_rfl) (fun Q' hQ' => ?_)
      go_wp2
      refine ⟨by rfl, ?_⟩
      have HG3 := Lib.hid (setRow_heap wr.drew w1.heap.size _ (halfRow x n (m + q)).toArray _ (0, 0) HG.out)
      have HB3 := Lib.hid (below_setRow HB.out.drew (Nat.le_refl _) (halfRow x n (m + q)).toArray)
      go_wp2
      exact ⟨⟨m + q, by omega, by have := HQ.out; omega, by go_num, HG3.out, HB3.out⟩, by have := HQ.out; simp [intOf]; omega⟩
    · have hmn : m = n := by omega
      subst hmn
      go_wp2_with fail
      go_ret
      refine ⟨w1.heap.size, rfl, ?_, Nat.le_refl _, HB.out⟩
      have := HG.out
      unfold halfRow at this
      simpa using this
end Go.Proofs.YtfpihflepeiagaaGreatDoor
