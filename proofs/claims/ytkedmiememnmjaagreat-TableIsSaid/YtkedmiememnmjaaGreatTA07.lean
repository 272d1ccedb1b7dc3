/- Texts of this proof joined: Rf14b, Rf14c, WSet, FirstW. -/
import Derived.Test.YtkedmiememnmjaaGreatTA06
import Derived.Deep.LoopGhost
import Derived.Lib.SlicesCompact
namespace Go.Proofs.YtkedmiememnmjaaGreat
open Go.RowKit

set_option maxRecDepth 100000 in
set_option maxHeartbeats 4000000 in
theorem twice14_any (A : Option Addr) (n c : Nat) (rs : List (Int × List Int)) (w : World) (hv : SlR eRule w w.heap.size (.slice A n c) rs) :
    Calls Tryz.prog 40 #[.slice A n c] w fun e w' => e = .returned (.bool (decide (¬ rs.Nodup))) ∧ Below w.heap.size w w' := by
  have HV := Lib.hid hv
  have hnc := hv.n_le
  have HN := Lib.hid hv.n_eq
  clear hv
  go_enter Tryz.func40, Tryz.ntmps40
  go_wp2_with fail
  go_loopg [3] n (fun left v3 wr => ∃ i : Nat, i ≤ n ∧ n - i ≤ left ∧ v3 = .int .i64 i ∧ Hid ((rs.take i).Nodup) ∧ Hid (Below w.heap.size w wr))
  case atStart => exact ⟨0, by omega, by omega, rfl, by simp [Hid], Below.refl _ _⟩
  case round =>
    obtain ⟨i, hi, hleft, rfl, HND, HB⟩ := hrel
    obtain ⟨gas, hgas⟩ : ∃ gas, gas = gk := ⟨_, rfl⟩
    rw [← hgas] at hleft
    have HGK := Lib.hid hgas
    clear hgas
    generalize wr = wo at *
    by_cases hib : i < n
    · have hil : i < rs.length := by rw [← HN.out]; exact hib
      go_wp2_with fail
      go_loopg [4] i (fun lft2 v4 wt => ∃ j : Nat, j ≤ i ∧ i - j ≤ lft2 ∧ v4 = .int .i64 j ∧ Hid (∀ (l : Nat) (h : l < rs.length), l < j → rs[l] ≠ rs[i]) ∧ Hid (Below w.heap.size w wt))
      case atStart => exact ⟨0, by omega, by omega, rfl, fun l h hl => by omega, HB.out⟩
      case round =>
        clear HB
        obtain ⟨j, hj, hlft2, rfl, HNO, HB⟩ := hrel
        by_cases hji : j < i
        · have hjl : j < rs.length := by omega
          obtain ⟨b1, o1, cs1, rfl, -, hb1, hrep1, hcell1⟩ := (HV.out.below HB.out).get hil (by decide)
          obtain ⟨v1, rfl, hv1, hz1, hz2⟩ := eRule_open hrep1
          have x0 := hcell1 0 _ rfl
          have x1 := hcell1 1 _ rfl
          simp only [show eRule.size = 2 from rfl, Nat.add_zero, ← Nat.add_assoc] at x0 x1
          obtain ⟨b2, o2, cs2, he2, -, hb2, hrep2, hcell2⟩ := (HV.out.below HB.out).get hjl (by decide)
          injection he2 with he2
          injection he2 with e1 e2
          subst e1 e2
          obtain ⟨v2, rfl, hv2, hz3, hz4⟩ := eRule_open hrep2
          have y0 := hcell2 0 _ rfl
          have y1 := hcell2 1 _ rfl
          simp only [show eRule.size = 2 from rfl, Nat.add_zero, ← Nat.add_assoc] at y0 y1
          have HXE := Lib.hid (show rs[j] = rs[i] ↔ rs[j].1 = rs[i].1 ∧ rs[j].2 = rs[i].2 from Prod.ext_iff)
          obtain ⟨A3, c3, rfl, h31, h32⟩ := hv1.form
          obtain ⟨A4, c4, rfl, h41, h42⟩ := hv2.form
          have hbs := HB.out.size
          have HSAME := Lib.hid (fun w1 (hb : Below wr.heap.size wr w1) => same14_any _ _ _ _ w1 (hv1.fut hb hbs (Nat.le_trans hbs hb.size)) (hv2.fut hb hbs (Nat.le_trans hbs hb.size)))
          obtain ⟨r, hr⟩ : ∃ r, r = rs[i] := ⟨_, rfl⟩
          obtain ⟨s, hs⟩ : ∃ s, s = rs[j] := ⟨_, rfl⟩
          rw [← hr] at x0 x1 HXE HSAME
          rw [← hs] at y0 y1 HXE HSAME
          have HR := Lib.hid hr
          have HS := Lib.hid hs
          clear hv1 hv2 hcell1 hcell2 hrep1 hrep2 hr hs hz1 hz2 hz3 hz4 h31 h32 h41 h42
          obtain ⟨l1, r1⟩ := r
          obtain ⟨l2, r2⟩ := s
          simp only at x0 x1 y0 y1
          by_cases hll : l1 = l2
          · have hq : (l1 == l2) = true := by simp [hll]
            have HLL := Lib.hid hll
            clear hll
            go_wp2_with fail
            refine Text.wp_grow [22] [4, 9, 16, 21] [] (by kernel_rfl) (by kernel_rfl) ?_
            refine Text.wpS_seg 22 _ _ _ _ (by decide) (fun Q' hQ' => ?_)
            simp only [List.take_succ_cons, List.take_zero]
            go_wp2_with fail
            try simp only [Nat.zero_add, List.drop_succ_cons, List.drop_zero]
            refine Text.wpS_one (fun Q' hQ' => ?_)
            go_wp2_with fail
            refine (HSAME.out _ below_drew1).mono ?_
            rintro e w5 ⟨rfl, hb5⟩
            go_wp2_with fail
            refine ⟨hb5, ?_⟩
            refine Text.wpS_seg 1 _ _ _ _ (by decide) (fun Q' hQ' => ?_)
            simp only [List.take_succ_cons, List.take_zero]
            go_wp2_with fail
            refine ⟨by rfl, ?_, ?_⟩
            · exact ⟨fun _ => ⟨_, _, rfl, x0⟩, fun _ => ⟨_, _, rfl, y0⟩, fun _ => ⟨_, _, rfl, x1⟩, fun _ => ⟨_, _, rfl, y1⟩, trivial⟩
            have HB5 := Lib.hid (HB.out.trans ((below_drew1.trans hb5).mono hbs))
            clear hb5
            by_cases hrr : r1 = r2
            · have hd : decide (r1 = r2) = true := by simpa using hrr
              have HX := Lib.hid (show ¬ rs.Nodup by
                intro hnd
                rw [List.Nodup, List.pairwise_iff_getElem] at hnd
                refine hnd j i hjl hil hji ?_
                rw [← HR.out, ← HS.out, HLL.out, hrr])
              go_wp2_with fail
              go_ret
              exact ⟨rt1 (vbool (by rw [eq_comm, decide_eq_true_eq]; exact HX.out)), HB5.out⟩
            · have hd : decide (r1 = r2) = false := by simpa using hrr
              have HX := Lib.hid (show rs[j] ≠ rs[i] by
                rw [← HR.out, ← HS.out]
                intro e
                injection e with e1 e2
                exact hrr e2.symm)
              go_wp2_with fail
              go_roundg (gk - 1)
              case measure => omega
              case rel => exact ⟨j + 1, by omega, by omega, by go_num, fun l h hl => by by_cases e : l = j; (subst e; exact HX.out); exact HNO.out l h (by omega), HB5.out⟩
          · have hq : (l1 == l2) = false := by simp [hll]
            have HX := Lib.hid (show rs[j] ≠ rs[i] by
              rw [← HR.out, ← HS.out]
              intro e
              injection e with e1 e2
              exact hll e1.symm)
            clear hll
            go_wp2_with fail
            refine Text.wp_grow [22] [4, 9, 16, 21] [] (by kernel_rfl) (by kernel_rfl) ?_
            refine Text.wpS_seg 22 _ _ _ _ (by decide) (fun Q' hQ' => ?_)
            simp only [List.take_succ_cons, List.take_zero]
            go_wp2_with fail
            try simp only [Nat.zero_add, List.drop_succ_cons, List.drop_zero]
            refine Text.wpS_one (fun Q' hQ' => ?_)
            go_wp2_with fail
            refine ⟨Below.refl _ _, ?_⟩
            refine Text.wpS_seg 1 _ _ _ _ (by decide) (fun Q' hQ' => ?_)
            simp only [List.take_succ_cons, List.take_zero]
            go_wp2_with fail
            refine ⟨by rfl, ?_, ?_⟩
            · exact ⟨fun _ => ⟨_, _, rfl, x0⟩, fun _ => ⟨_, _, rfl, y0⟩, Text.no_want rfl, Text.no_want rfl, trivial⟩
            go_wp2_with fail
            go_roundg (gk - 1)
            case measure => omega
            case rel => exact ⟨j + 1, by omega, by omega, by go_num, fun l h hl => by by_cases e : l = j; (subst e; exact HX.out); exact HNO.out l h (by omega), HB.out.drew⟩
        · have HND2 := Lib.hid (show (rs.take (i + 1)).Nodup by
            refine (nodup_snoc rs i hil).2 ⟨HND.out, ?_⟩
            rw [List.any_eq_false]
            intro x hx
            obtain ⟨l, hl, rfl⟩ := List.getElem_of_mem hx
            rw [List.getElem_take]
            rw [List.length_take] at hl
            simpa using HNO.out l (by omega) (by omega))
          go_wp2_with fail
          go_roundg (gas - 1)
          case measure => have := HGK.out; omega
          case rel => exact ⟨i + 1, by omega, by omega, by go_num, HND2.out, HB.out⟩
    · have HX := Lib.hid (show rs.Nodup by
        have := HND.out
        rwa [List.take_of_length_le (by have := HN.out; omega)] at this)
      go_wp2_with fail
      go_ret
      exact ⟨rt1 (vbool (by rw [eq_comm, decide_eq_false_iff_not]; exact fun h => h HX.out)), HB.out⟩
end Go.Proofs.YtkedmiememnmjaaGreat
namespace Go.Proofs.YtkedmiememnmjaaGreat

theorem nodup_idx {α : Type} [DecidableEq α] (xs : List α) : xs.Nodup ↔ ∀ (j : Nat) (h : j < xs.length), idxOf (fun x => decide (x = xs[j])) xs = j := by
  constructor
  · intro hn j h
    refine idxOf_hit h (fun l hl hlj => ?_) (by simp)
    rw [List.Nodup, List.pairwise_iff_getElem] at hn
    simpa using hn l j hl h hlj
  · intro h
    rw [List.Nodup, List.pairwise_iff_getElem]
    intro i j hi hj hij he
    have h1 := h i hi
    have h2 := h j hj
    rw [he, h2] at h1
    omega
theorem ofTo_ne (rs : List (Int × List Int)) (left : Int) : (ofTo rs left rs.length).length ≠ 0 ↔ ∃ r ∈ rs, r.1 = left := by
  unfold ofTo
  rw [List.length_map]
  constructor
  · intro h
    obtain ⟨i, hi⟩ := List.exists_mem_of_length_pos (Nat.pos_of_ne_zero h)
    rw [List.mem_filter, List.mem_range, decide_eq_true_eq] at hi
    refine ⟨rs[i]'hi.1, List.getElem_mem hi.1, ?_⟩
    have := hi.2
    rwa [List.getD_eq_getElem?_getD, List.getElem?_eq_getElem hi.1] at this
  · rintro ⟨r, hr, he⟩ h0
    obtain ⟨i, hi, rfl⟩ := List.getElem_of_mem hr
    have := List.eq_nil_of_length_eq_zero h0
    rw [List.filter_eq_nil_iff] at this
    refine this i (List.mem_range.2 hi) ?_
    rw [decide_eq_true_eq, List.getD_eq_getElem?_getD, List.getElem?_eq_getElem hi]
    exact he
def NameAt (ns : List ByteArray) (rs : List (Int × List Int)) (j : Nat) : Prop := ∀ h : j < ns.length, isNameB ns[j].data.toList = true ∧ idxOf (fun x => decide (x = ns[j])) ns = j ∧ ∃ r ∈ rs, r.1 = (j : Int)
def TermAt (ts : List ByteArray) (j : Nat) : Prop := ∀ h : j < ts.length, isTermB ts[j].data.toList = true ∧ idxOf (fun x => decide (x = ts[j])) ts = j
theorem all_at {α : Type} (xs : List α) (p : α → Bool) : xs.all p = true ↔ ∀ (j : Nat) (h : j < xs.length), p xs[j] = true := by
  rw [List.all_eq_true]
  exact ⟨fun h j hj => h _ (List.getElem_mem hj), fun h x hx => by obtain ⟨j, hj, rfl⟩ := List.getElem_of_mem hx; exact h j hj⟩
theorem gramB_iff (ns ts : List ByteArray) (rs : List (Int × List Int)) : gramB (ns, ts, rs) = true ↔ ns.length ≠ 0 ∧ ns.length + ts.length ≤ 256 ∧ rs.length ≤ 4096 ∧ (∀ j, NameAt ns rs j) ∧ (∀ j, TermAt ts j) ∧ (∀ (j : Nat) (h : j < rs.length), fitsB ns.length ts.length rs[j] = true) ∧ rs.Nodup := by
  simp only [gramB, distinctB, Bool.and_eq_true, decide_eq_true_eq, all_at, List.getElem_range, List.length_range, ofTo_ne, nodup_idx ns, nodup_idx ts]
  constructor
  · rintro ⟨⟨⟨⟨⟨⟨⟨h1, h2⟩, h3⟩, h4, h5⟩, h6, h7⟩, h8⟩, h9⟩, h10⟩
    exact ⟨h1, h2, h3, fun j h => ⟨h4 j h, h5 j h, h9 j h⟩, fun j h => ⟨h6 j h, h7 j h⟩, h8, h10⟩
  · rintro ⟨h1, h2, h3, h4, h5, h6, h7⟩
    exact ⟨⟨⟨⟨⟨⟨⟨h1, h2⟩, h3⟩, fun j h => (h4 j h).1, fun j h => (h4 j h).2.1⟩, fun j h => (h5 j h).1, fun j h => (h5 j h).2⟩, h6⟩, fun j h => (h4 j h).2.2⟩, h7⟩
end Go.Proofs.YtkedmiememnmjaaGreat
namespace Go.Proofs.YtkedmiememnmjaaGreat

abbrev Wd := List UInt8
def setOf (l : List Wd) : List Wd := Lib.compact (l.mergeSort fun x y => decide (x ≤ y))
abbrev Asc (l : List Wd) : Prop := l.Pairwise (· < ·)

theorem compact_mem (zs : List Wd) (x : Wd) : x ∈ Lib.compact zs ↔ x ∈ zs := by
  unfold Lib.compact Lib.compactUpTo
  simp only [List.mem_map, List.mem_filter, List.mem_range]
  constructor
  · rintro ⟨j, ⟨hj, _⟩, rfl⟩
    have : j < zs.toArray.size := by simpa using hj
    rw [getElem!_pos zs.toArray j this]
    simp
  · intro hx
    obtain ⟨j, hj, rfl⟩ := List.getElem_of_mem hx
    clear hx
    induction j with
    | zero =>
      refine ⟨0, ⟨hj, by simp [Lib.keeps]⟩, ?_⟩
      have : 0 < zs.toArray.size := by simpa using hj
      rw [getElem!_pos zs.toArray 0 this]
      simp
    | succ j ih =>
      have h1 : j + 1 < zs.toArray.size := by simpa using hj
      have h0 : j < zs.toArray.size := by omega
      by_cases hk : zs.toArray[j + 1]! = zs.toArray[j]!
      · obtain ⟨i, hi, e⟩ := ih (by simpa using h0)
        refine ⟨i, hi, e.trans ?_⟩
        rw [getElem!_pos zs.toArray (j + 1) h1, getElem!_pos zs.toArray j h0] at hk
        simpa using hk.symm
      · refine ⟨j + 1, ⟨hj, Lib.keeps_pos (by simpa using hk)⟩, ?_⟩
        rw [getElem!_pos zs.toArray (j + 1) h1]
        simp
theorem compact_asc (zs : List Wd) (hs : zs.Pairwise (· ≤ ·)) : Asc (Lib.compact zs) := by
  unfold Lib.compact Lib.compactUpTo Asc
  rw [List.pairwise_map]
  have h1 : ((List.range zs.length).filter (Lib.keeps zs.toArray)).Pairwise (· < ·) := List.Pairwise.filter _ List.pairwise_lt_range
  refine h1.imp_of_mem ?_
  intro i j hi hj hij
  simp only [List.mem_filter, List.mem_range] at hi hj
  obtain ⟨hj1, hj2⟩ := hj
  have hne : zs.toArray[j]! ≠ zs.toArray[j - 1]! := by
    simp only [Lib.keeps, decide_eq_true_eq] at hj2
    rcases hj2 with h | h
    · omega
    · exact h
  have a1 : j < zs.toArray.size := by simpa using hj1
  rw [getElem!_pos zs.toArray j a1, getElem!_pos zs.toArray (j - 1) (by omega)] at hne
  rw [getElem!_pos zs.toArray j a1, getElem!_pos zs.toArray i (by omega)]
  simp only [List.getElem_toArray] at hne ⊢
  have hP := List.pairwise_iff_getElem.1 hs
  have h2 : zs[j - 1] ≤ zs[j] := hP (j - 1) j (by omega) hj1 (by omega)
  have h3 : zs[j - 1] < zs[j] := by
    rcases List.le_iff_lt_or_eq.1 h2 with h | h
    · exact h
    · exact absurd h.symm hne
  rcases Nat.lt_or_ge i (j - 1) with h | h
  · exact List.lt_of_le_of_lt (hP i (j - 1) (by omega) (by omega) h) h3
  · have : i = j - 1 := by omega
    subst this
    exact h3
theorem sort_le (l : List Wd) : (l.mergeSort fun x y => decide (x ≤ y)).Pairwise (· ≤ ·) := by
  have := List.pairwise_mergeSort (le := fun x y : Wd => decide (x ≤ y)) (fun a b c h1 h2 => by simp only [decide_eq_true_eq] at *; exact List.le_trans h1 h2) (fun a b => by simp only [Bool.or_eq_true, decide_eq_true_eq]; exact List.le_total a b) l
  exact this.imp fun h => by simpa using h
theorem mem_setOf {l : List Wd} {x : Wd} : x ∈ setOf l ↔ x ∈ l := by
  unfold setOf
  rw [compact_mem]
  exact (List.mergeSort_perm l _).mem_iff
theorem setOf_asc (l : List Wd) : Asc (setOf l) := compact_asc _ (sort_le l)
theorem asc_ext : ∀ {a b : List Wd}, Asc a → Asc b → (∀ x, x ∈ a ↔ x ∈ b) → a = b
  | [], [], _, _, _ => rfl
  | [], y :: b, _, _, h => absurd ((h y).2 (by simp)) (by simp)
  | x :: a, [], _, _, h => absurd ((h x).1 (by simp)) (by simp)
  | x :: a, y :: b, ha, hb, h => by
    have ha' := List.pairwise_cons.1 ha
    have hb' := List.pairwise_cons.1 hb
    have e : x = y := by
      have h1 := (h x).1 (by simp)
      have h2 := (h y).2 (by simp)
      rw [List.mem_cons] at h1 h2
      rcases h1 with h1 | h1
      · exact h1
      · rcases h2 with h2 | h2
        · exact h2.symm
        · exact absurd (ha'.1 y h2) (List.lt_asymm (hb'.1 x h1))
    subst e
    rw [asc_ext ha'.2 hb'.2 fun z => ?_]
    have hz := h z
    rw [List.mem_cons, List.mem_cons] at hz
    constructor
    · intro hm
      rcases hz.1 (.inr hm) with e | h'
      · subst e; exact absurd (ha'.1 _ hm) (List.lt_irrefl _)
      · exact h'
    · intro hm
      rcases hz.2 (.inr hm) with e | h'
      · subst e; exact absurd (hb'.1 _ hm) (List.lt_irrefl _)
      · exact h'
theorem Asc.nodup {l : List Wd} (h : Asc l) : l.Nodup := h.imp fun hlt e => by subst e; exact List.lt_irrefl _ hlt
theorem setOf_eq {l t : List Wd} (ht : Asc t) (h : ∀ x, x ∈ l ↔ x ∈ t) : setOf l = t := asc_ext (setOf_asc l) ht fun x => mem_setOf.trans (h x)
theorem setOf_congr {l t : List Wd} (h : ∀ x, x ∈ l ↔ x ∈ t) : setOf l = setOf t := setOf_eq (setOf_asc t) fun x => (h x).trans mem_setOf.symm
theorem setOf_le (l : List Wd) : (setOf l).length ≤ l.length := by
  have h := (setOf_asc l).nodup.length_le_of_subset (fun x hx => mem_setOf.1 hx : setOf l ⊆ l)
  exact h
theorem union_len {a b : List Wd} (ha : Asc a) : a.length ≤ (setOf (a ++ b)).length ∧ ((setOf (a ++ b)).length ≤ a.length → setOf (a ++ b) = a ∧ ∀ x ∈ b, x ∈ a) := by
  have hs : a ⊆ setOf (a ++ b) := fun x hx => mem_setOf.2 (by simp [hx])
  refine ⟨ha.nodup.length_le_of_subset hs, fun hle => ?_⟩
  have hall : ∀ x ∈ b, x ∈ a := by
    intro x hx
    by_cases hn : x ∈ a
    · exact hn
    · exfalso
      have hnd : (x :: a).Nodup := List.nodup_cons.2 ⟨hn, ha.nodup⟩
      have := hnd.length_le_of_subset (fun y hy => by
        rcases List.mem_cons.1 hy with rfl | h
        · exact mem_setOf.2 (by simp [hx])
        · exact hs h : (x :: a) ⊆ setOf (a ++ b))
      simp at this
      omega
  refine ⟨setOf_eq ha fun x => ?_, hall⟩
  rw [List.mem_append]
  exact ⟨fun h => h.elim id (hall x), .inl⟩
end Go.Proofs.YtkedmiememnmjaaGreat
namespace Go.Proofs.YtkedmiememnmjaaGreat

abbrev RuleL := List (Int × List Int)
abbrev Sets := List (List Wd)
def tb (s : Int) : UInt8 := UInt8.ofNat (-1 - s).toNat
def prodW (k : Int) (a b : List Wd) : List Wd := a.flatMap fun x => b.map fun y => (x ++ y).take k.toNat
def catW (k : Int) (a b : List Wd) : Option (List Wd) := if (setOf (prodW k a b)).length ≤ 4096 then some (setOf (prodW k a b)) else none
def oneW (sets : Sets) (s : Int) : Option (List Wd) := if s < 0 then (if -256 ≤ s then some [[tb s]] else none) else sets[s.toNat]?
def ofFrom (sets : Sets) (k : Int) : List Wd → List Int → Option (List Wd)
  | acc, [] => some acc
  | acc, s :: l => (oneW sets s).bind fun x => (catW k acc x).bind fun o => ofFrom sets k o l
def ofW (sets : Sets) (k : Int) (syms : List Int) : Option (List Wd) := ofFrom sets k [[]] syms
def unionW (a b : List Wd) : List Wd := setOf (a ++ b)
inductive RoundsTo {σ : Type} (f : σ → Option (σ × Bool)) : σ → Option σ → Prop
  | fail {s} : f s = none → RoundsTo f s none
  | done {s s'} : f s = some (s', false) → RoundsTo f s (some s')
  | more {s s' o} : f s = some (s', true) → RoundsTo f s' o → RoundsTo f s o
theorem RoundsTo.det {σ : Type} {f : σ → Option (σ × Bool)} {s : σ} {o : Option σ} (h : RoundsTo f s o) : ∀ {o'}, RoundsTo f s o' → o = o' := by
  induction h with
  | fail e => intro o' h'; cases h' with
    | fail _ => rfl
    | done e' => rw [e] at e'; cases e'
    | more e' _ => rw [e] at e'; cases e'
  | done e => intro o' h'; cases h' with
    | fail e' => rw [e] at e'; cases e'
    | done e' => rw [e] at e'; cases e'; rfl
    | more e' _ => rw [e] at e'; cases e'
  | more e _ ih => intro o' h'; cases h' with
    | fail e' => rw [e] at e'; cases e'
    | done e' => rw [e] at e'; cases e'
    | more e' h => rw [e] at e'; cases e'; exact ih h
theorem RoundsTo.inv {σ : Type} {f : σ → Option (σ × Bool)} (P : σ → Prop) (hp : ∀ s s' g, P s → f s = some (s', g) → P s') {s : σ} {o : Option σ} (h : RoundsTo f s o) : P s → ∀ s', o = some s' → P s' ∧ ∃ t, P t ∧ f t = some (s', false) := by
  induction h with
  | fail e => intro _ s' h; cases h
  | done e => intro h s' e2; cases e2; exact ⟨hp _ _ _ h e, _, h, e⟩
  | more e _ ih => intro h s' e2; exact ih (hp _ _ _ h e) s' e2

def growW (k : Int) (sets : Sets) (r : Int × List Int) : Option (Sets × Bool) :=
  (ofW sets k r.2).bind fun x =>
    if (unionW (sets.getD r.1.toNat []) x).length ≤ 4096 then some (sets.set r.1.toNat (unionW (sets.getD r.1.toNat []) x), decide ((sets.getD r.1.toNat []).length < (unionW (sets.getD r.1.toNat []) x).length)) else none
def roundW (k : Int) : RuleL → Sets × Bool → Option (Sets × Bool)
  | [], p => some p
  | r :: rs, p => (growW k p.1 r).bind fun q => roundW k rs (q.1, p.2 || q.2)
def firstRound (k : Int) (rs : RuleL) (s : Sets) : Option (Sets × Bool) := roundW k rs (s, false)
def FirstTo (k : Int) (rs : RuleL) (n : Nat) (o : Option Sets) : Prop := RoundsTo (firstRound k rs) (List.replicate n []) o

def behindW (sets fol : Sets) (k : Int) (r : Int × List Int) (at_ : Int) : Option (List Wd) :=
  if at_ < -1 ∨ (r.2.length : Int) ≤ at_ ∨ r.1 < 0 ∨ (fol.length : Int) ≤ r.1 then none
  else (ofW sets k (r.2.drop (at_ + 1).toNat)).bind fun x => catW k x (fol.getD r.1.toNat [])
structure FolS where
  fol : Sets
  grown : Bool
  limit : Bool
def spreadW (sets : Sets) (k : Int) (r : Int × List Int) (at_ : Nat) (p : FolS) : FolS :=
  match behindW sets p.fol k r at_ with
  | none => ⟨p.fol, p.grown, true⟩
  | some x => if r.2.getD at_ 0 < 0 then p else
      let a := (r.2.getD at_ 0).toNat
      ⟨p.fol.set a (unionW (p.fol.getD a []) x), p.grown || decide ((p.fol.getD a []).length < (unionW (p.fol.getD a []) x).length), p.limit || decide (4096 < (unionW (p.fol.getD a []) x).length)⟩
def spreadsW (sets : Sets) (k : Int) (r : Int × List Int) : Nat → Nat → FolS → FolS
  | 0, _, p => p
  | n + 1, at_, p => spreadsW sets k r n (at_ + 1) (spreadW sets k r at_ p)
def spreadAll (sets : Sets) (k : Int) : RuleL → FolS → FolS
  | [], p => p
  | r :: rs, p => spreadAll sets k rs (spreadsW sets k r r.2.length 0 p)
def folRound (sets : Sets) (k : Int) (rs : RuleL) (fol : Sets) : Option (Sets × Bool) :=
  let p := spreadAll sets k rs ⟨fol, false, false⟩
  if p.limit then none else some (p.fol, p.grown)
def FollowTo (sets : Sets) (k : Int) (rs : RuleL) (n : Nat) (o : Option Sets) : Prop := RoundsTo (folRound sets k rs) ((List.replicate n []).set 0 [[]]) o
def aheadW (sets fol : Sets) (k : Int) : RuleL → Option Sets
  | [] => some []
  | r :: rs => (behindW sets fol k r (-1)).bind fun x => (aheadW sets fol k rs).map (x :: ·)

inductive Der (rs : RuleL) : List Int → Wd → Prop
  | nil : Der rs [] []
  | term {s l w} (hs : s < 0) (h : Der rs l w) : Der rs (s :: l) (tb s :: w)
  | nont {a l r u v} (ha : 0 ≤ a) (hr : (a, r) ∈ rs) (h1 : Der rs r u) (h2 : Der rs l v) : Der rs (a :: l) (u ++ v)
inductive Fol (rs : RuleL) : Int → Wd → Prop
  | start : Fol rs 0 []
  | step {a r l1 b l2 u v} (hr : (a, r) ∈ rs) (e : r = l1 ++ b :: l2) (hb : 0 ≤ b) (h1 : Der rs l2 u) (h2 : Fol rs a v) : Fol rs b (u ++ v)

theorem take_cat (k : Nat) (u v : Wd) : (u.take k ++ v.take k).take k = (u ++ v).take k := by
  rw [List.take_append, List.take_append, List.take_take, List.take_take, List.length_take]
  congr 1
  · simp
  · rcases Nat.le_total k u.length with h | h
    · rw [Nat.min_eq_left h]; simp [Nat.sub_eq_zero_of_le h]
    · rw [Nat.min_eq_right h, Nat.min_eq_left (Nat.sub_le _ _)]
theorem take_cat_l (k : Nat) (u v : Wd) : (u.take k ++ v).take k = (u ++ v).take k := by
  rw [← take_cat k (u.take k) v, List.take_take, Nat.min_self, take_cat]
theorem take_cat_r (k : Nat) (u v : Wd) : (u ++ v.take k).take k = (u ++ v).take k := by
  rw [← take_cat k u (v.take k), List.take_take, Nat.min_self, take_cat]
theorem mem_prodW {k : Int} {a b : List Wd} {z : Wd} : z ∈ prodW k a b ↔ ∃ x ∈ a, ∃ y ∈ b, z = (x ++ y).take k.toNat := by
  unfold prodW
  simp only [List.mem_flatMap, List.mem_map]
  constructor
  · rintro ⟨x, hx, y, hy, rfl⟩; exact ⟨x, hx, y, hy, rfl⟩
  · rintro ⟨x, hx, y, hy, rfl⟩; exact ⟨x, hx, y, hy, rfl⟩
theorem mem_catW {k : Int} {a b o : List Wd} (h : catW k a b = some o) {z : Wd} : z ∈ o ↔ ∃ x ∈ a, ∃ y ∈ b, z = (x ++ y).take k.toNat := by
  unfold catW at h
  split at h
  · injection h with h; subst h; rw [mem_setOf, mem_prodW]
  · cases h
def SoundF (rs : RuleL) (k : Nat) (sets : Sets) : Prop := ∀ (a : Nat) (s : List Wd), sets[a]? = some s → ∀ x ∈ s, ∃ r u, ((a : Int), r) ∈ rs ∧ Der rs r u ∧ x = u.take k
theorem ofFrom_sound {rs : RuleL} {k : Nat} {sets : Sets} (hs : SoundF rs k sets) : ∀ (syms : List Int) (acc out : List Wd), (∀ x ∈ acc, x.take k = x) → ofFrom sets k acc syms = some out → ∀ z ∈ out, ∃ x ∈ acc, ∃ u, Der rs syms u ∧ z = (x ++ u).take k
  | [], acc, out, hk, h, z, hz => by
    injection h with h
    subst h
    exact ⟨z, hz, [], .nil, by rw [List.append_nil, hk z hz]⟩
  | s :: l, acc, out, hk, h, z, hz => by
    simp only [ofFrom] at h
    cases h1 : oneW sets s with
    | none => rw [h1] at h; cases h
    | some x1 =>
      rw [h1, Option.bind_some] at h
      cases h2 : catW (k : Int) acc x1 with
      | none => rw [h2] at h; cases h
      | some o =>
        rw [h2, Option.bind_some] at h
        obtain ⟨y, hy, u, hu, rfl⟩ := ofFrom_sound hs l o out (fun x hx => by obtain ⟨_, _, _, _, rfl⟩ := (mem_catW h2).1 hx; simp [List.take_take]) h z hz
        obtain ⟨p, hp, q, hq, rfl⟩ := (mem_catW h2).1 hy
        simp only [Int.toNat_natCast]
        rw [take_cat_l]
        unfold oneW at h1
        split at h1
        · rename_i hneg
          split at h1
          · injection h1 with h1
            subst h1
            rw [List.mem_singleton] at hq
            subst hq
            exact ⟨p, hp, tb s :: u, .term hneg hu, by simp⟩
          · cases h1
        · rename_i hpos
          obtain ⟨r, v, hr, hv, rfl⟩ := hs _ _ h1 q hq
          rw [Int.toNat_of_nonneg (by omega)] at hr
          refine ⟨p, hp, v ++ u, .nont (by omega) hr hv hu, ?_⟩
          rw [← take_cat_l k (p ++ v.take k), take_cat_r, take_cat_l, List.append_assoc]
theorem ofW_sound {rs : RuleL} {k : Nat} {sets : Sets} (hs : SoundF rs k sets) {syms : List Int} {out : List Wd} (h : ofW sets k syms = some out) {z : Wd} (hz : z ∈ out) : ∃ u, Der rs syms u ∧ z = u.take k := by
  obtain ⟨x, hx, u, hu, e⟩ := ofFrom_sound hs syms [[]] out (fun x hx => by rw [List.mem_singleton] at hx; subst hx; simp) h z hz
  rw [List.mem_singleton] at hx
  subst hx
  exact ⟨u, hu, by simpa using e⟩
def ClosedF (rs : RuleL) (k : Nat) (sets : Sets) : Prop := ∀ a r, (a, r) ∈ rs → 0 ≤ a → ∃ x s, ofW sets k r = some x ∧ sets[a.toNat]? = some s ∧ ∀ y ∈ x, y ∈ s
theorem ofFrom_full {rs : RuleL} {k : Nat} {sets : Sets} (hc : ClosedF rs k sets) {syms : List Int} {u : Wd} (h : Der rs syms u) : ∀ (acc out : List Wd), ofFrom sets k acc syms = some out → (∀ x ∈ acc, x.take k = x) → ∀ x ∈ acc, (x ++ u).take k ∈ out := by
  induction h with
  | nil =>
    intro acc out h hk x hx
    injection h with h
    subst h
    rw [List.append_nil, hk x hx]
    exact hx
  | @term s l w hs hd ih =>
    intro acc out h hk x hx
    simp only [ofFrom] at h
    cases h1 : oneW sets s with
    | none => rw [h1] at h; cases h
    | some x1 =>
      rw [h1, Option.bind_some] at h
      cases h2 : catW (k : Int) acc x1 with
      | none => rw [h2] at h; cases h
      | some o =>
        rw [h2, Option.bind_some] at h
        unfold oneW at h1
        rw [if_pos hs] at h1
        split at h1
        · injection h1 with h1
          subst h1
          have hm : (x ++ [tb s]).take k ∈ o := (mem_catW h2).2 ⟨x, hx, [tb s], by simp, by simp⟩
          have := ih o out h (fun x hx => by obtain ⟨_, _, _, _, rfl⟩ := (mem_catW h2).1 hx; simp [List.take_take]) _ hm
          rw [take_cat_l, List.append_assoc] at this
          exact this
        · cases h1
  | @nont a l r u v ha hr h1' h2' ih1 ih2 =>
    intro acc out h hk x hx
    simp only [ofFrom] at h
    cases h1 : oneW sets a with
    | none => rw [h1] at h; cases h
    | some x1 =>
      rw [h1, Option.bind_some] at h
      cases h2 : catW (k : Int) acc x1 with
      | none => rw [h2] at h; cases h
      | some o =>
        rw [h2, Option.bind_some] at h
        unfold oneW at h1
        rw [if_neg (by omega)] at h1
        obtain ⟨xr, s, e1, e2, e3⟩ := hc a r hr ha
        rw [e2] at h1
        injection h1 with h1
        subst h1
        have hu := ih1 [[]] xr e1 (fun x hx => by rw [List.mem_singleton] at hx; subst hx; simp) [] (by simp)
        rw [List.nil_append] at hu
        have hm : (x ++ u.take k).take k ∈ o := (mem_catW h2).2 ⟨x, hx, u.take k, e3 _ hu, by simp⟩
        have := ih2 o out h (fun x hx => by obtain ⟨_, _, _, _, rfl⟩ := (mem_catW h2).1 hx; simp [List.take_take]) _ hm
        rw [take_cat_r, take_cat_l, List.append_assoc] at this
        exact this
theorem ofW_full {rs : RuleL} {k : Nat} {sets : Sets} (hc : ClosedF rs k sets) {syms : List Int} {u : Wd} (h : Der rs syms u) {out : List Wd} (ho : ofW sets k syms = some out) : u.take k ∈ out := by
  have := ofFrom_full hc h [[]] out ho (fun x hx => by rw [List.mem_singleton] at hx; subst hx; simp) [] (by simp)
  simpa using this
end Go.Proofs.YtkedmiememnmjaaGreat
