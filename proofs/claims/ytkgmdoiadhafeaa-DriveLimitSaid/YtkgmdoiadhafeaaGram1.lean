/- Walks of slices.Equal at []int, gram.like, gram.twice. -/
import Derived.Test.YtkgmdoiadhafeaaSlRule
namespace Go.Proofs.Ytkgmdoiadhafeaa
open Go.RowKit

theorem below_drew1 {w : World} : Below w.heap.size w w.drew := (Below.refl _ _).drew

set_option maxHeartbeats 800000 in
theorem equal_int (a b : Value) (xs ys : List Int) (w : World) (ha : SlR eInt w w.heap.size a xs) (hb : SlR eInt w w.heap.size b ys) :
    Calls Try.prog 45 #[a, b] w fun e w' => e = .returned (.bool (decide (xs = ys))) ∧ Below w.heap.size w w' := by
  obtain ⟨A, c, rfl, hc1, hc2⟩ := ha.form
  obtain ⟨B, d, rfl, hd1, hd2⟩ := hb.form
  unfold maxLen at hc2 hd2
  by_cases hl : xs.length = ys.length
  · have hne : ((xs.length : Int) != (ys.length : Int)) = false := by simp; omega
    go_enter Try.func45, Try.ntmps45
    go_wp2
    go_loopw [13] (fun v8 wr => ∃ k : Nat, k ≤ xs.length ∧ v8 = .int .i64 k ∧ Hid (∀ (j : Nat) (h : j < xs.length) (h2 : j < ys.length), j < k → xs[j] = ys[j]) ∧ Below w.heap.size w wr) (fun v8 _ => xs.length - (intOf v8).toNat)
    case atStart => exact ⟨0, by omega, rfl, fun j h h2 hj => by omega, Below.refl _ _⟩
    case round =>
      obtain ⟨k, hk, rfl, hno, hbr⟩ := hrel
      by_cases hlt : k < xs.length
      · have hlt2 : k < ys.length := by omega
        obtain ⟨ab, ao, cs, rfl, _, hab, hrep, hcell⟩ := (ha.below hbr).get hlt (by decide)
        obtain ⟨rfl, hx1, hx2⟩ := hrep
        have hc0 := hcell 0 _ rfl
        obtain ⟨bb, bo, cs, rfl, _, hbb, hrep, hcell2⟩ := (hb.below hbr).get hlt2 (by decide)
        obtain ⟨rfl, hy1, hy2⟩ := hrep
        have hd0 := hcell2 0 _ rfl
        clear hcell hcell2
        simp only [show eInt.size = 1 from rfl, Nat.mul_one, Nat.add_zero] at hc0 hd0
        by_cases heq : xs[k] = ys[k]
        · have hq : (xs[k] != ys[k]) = false := by simp [heq]
          have HQ := Lib.hid heq
          clear heq
          go_wp2_with fail
          refine Text.wp_text [] (by kernel_rfl) (by kernel_rfl) (fun Q' hQ' => ?_)
          go_wp2
          refine ⟨by rfl, ?_⟩
          go_wp2
          go_roundw
          case rel => exact ⟨k + 1, by omega, by go_num, fun j h h2 hj => by by_cases e : j = k; (subst e; exact HQ.out); exact hno.out j h h2 (by omega), hbr.drew⟩
          case measure => simp [intOf]; omega
        · have hq : (xs[k] != ys[k]) = true := by simp [heq]
          have HQ := Lib.hid heq
          clear heq
          go_wp2_with fail
          refine Text.wp_text [] (by kernel_rfl) (by kernel_rfl) (fun Q' hQ' => ?_)
          go_wp2
          refine ⟨by rfl, ?_⟩
          go_wp2
          go_ret
          exact ⟨rt1 (vbool (by rw [eq_comm, decide_eq_false_iff_not]; intro h; subst h; exact HQ.out rfl)), hbr.drew⟩
      · have HEQ : Hid (xs = ys) := List.ext_getElem hl fun j h h2 => hno.out j h h2 (by omega)
        go_wp2
        go_ret
        exact ⟨rt1 (vbool (by rw [eq_comm, decide_eq_true_eq]; exact HEQ.out)), hbr⟩
  · have hne : ((xs.length : Int) != (ys.length : Int)) = true := by simp; omega
    go_enter Try.func45, Try.ntmps45
    go_wp2
    go_ret
    exact ⟨rt1 (vbool (by rw [eq_comm, decide_eq_false_iff_not]; intro h; subst h; exact hl rfl)), Below.refl _ _⟩

/-- a rule, opened -/
theorem eRule_open {w : World} {B : Nat} {cs : List Value} {r : Int × List Int} (h : eRule.rep w B cs r) : ∃ v, cs = [.int .i64 r.1, v] ∧ SlR eInt w B v r.2 ∧ -9223372036854775808 ≤ r.1 ∧ r.1 ≤ 9223372036854775807 := by
  obtain ⟨c1, c2, rfl, ⟨rfl, h1, h2⟩, v, rfl, hs⟩ := h
  exact ⟨v, rfl, hs, h1, h2⟩
theorem eRule_mk {w : World} {B : Nat} {v : Value} {r : Int × List Int} (hs : SlR eInt w B v r.2) (h1 : -9223372036854775808 ≤ r.1) (h2 : r.1 ≤ 9223372036854775807) : eRule.rep w B [.int .i64 r.1, v] r :=
  ⟨_, _, rfl, ⟨rfl, h1, h2⟩, v, rfl, hs⟩

set_option maxHeartbeats 800000 in
theorem like_any (v1 v2 : Value) (l1 l2 : Int) (r1 r2 : List Int) (w : World) (h1 : SlR eInt w w.heap.size v1 r1) (h2 : SlR eInt w w.heap.size v2 r2) :
    Calls Try.prog 41 #[.agg #[.int .i64 l1, v1], .agg #[.int .i64 l2, v2]] w fun e w' => e = .returned (.bool (decide ((l1, r1) = (l2, r2)))) ∧ Below w.heap.size w w' := by
  obtain ⟨A, c, rfl, hc1, hc2⟩ := h1.form
  obtain ⟨B, d, rfl, hd1, hd2⟩ := h2.form
  by_cases hl : l1 = l2
  · have hq : (l1 == l2) = true := by simp [hl]
    have HL := Lib.hid hl
    clear hl
    go_enter Try.func41, Try.ntmps41
    go_wp2_with fail
    refine (equal_int _ _ r1 r2 _ (h1.next ?g1 ?s1) (h2.next ?g1 ?s1)).mono ?_
    case g1 => go_grown
    case s1 => simp; omega
    rintro e w1 ⟨rfl, hb1⟩
    go_wp2
    go_ret
    refine ⟨rt1 (vbool (by rw [HL.out]; simp)), ?_⟩
    exact (Below.trans (by go_grown) (hb1.mono (by simp; omega)))
  · have hq : (l1 == l2) = false := by simp [hl]
    have HL := Lib.hid hl
    clear hl
    go_enter Try.func41, Try.ntmps41
    go_wp2_with fail
    go_ret
    refine ⟨rt1 (vbool (by rw [eq_comm, decide_eq_false_iff_not]; intro h; exact HL.out (congrArg Prod.fst h))), by go_grown⟩

set_option maxHeartbeats 800000 in
theorem twice_clo (g : Nat) (v1 v2 : Value) (l1 l2 : Int) (r1 r2 : List Int) (w : World) (h1 : SlR eInt w w.heap.size v1 r1) (h2 : SlR eInt w w.heap.size v2 r2)
    (hc0 : w.cell? ⟨g, 0, none⟩ = some (.int .i64 l2)) (hc1 : w.cell? ⟨g, 1, none⟩ = some v2) :
    Calls Try.prog 40 #[.agg #[.int .i64 l1, v1], .pointer (some ⟨g, 0, none⟩)] w fun e w' => e = .returned (.bool (decide ((l1, r1) = (l2, r2)))) ∧ Below w.heap.size w w' := by
  have hg := World.block_lt_of_cell? w _ hc0
  simp only at hg
  go_enter Try.func40, Try.ntmps40
  go_wp2_with fail
  refine (like_any v1 v2 l1 l2 r1 r2 _ (h1.next ?g1 ?s1) (h2.next ?g1 ?s1)).mono ?_
  case g1 => go_grown
  case s1 => simp
  rintro e w1 ⟨rfl, hb1⟩
  go_wp2
  go_ret
  exact ⟨rt1 (vbool (by simp)), (Below.trans (by go_grown) (hb1.mono (by simp)))⟩

theorem nodup_snoc {α : Type} [DecidableEq α] (rs : List α) (k : Nat) (h : k < rs.length) : (rs.take (k + 1)).Nodup ↔ (rs.take k).Nodup ∧ (rs.take k).any (fun x => decide (x = rs[k])) = false := by
  rw [List.take_succ_eq_append_getElem h, List.nodup_append]
  simp
set_option maxHeartbeats 1000000 in
theorem twice_any (v : Value) (rs : List (Int × List Int)) (w : World) (hv : SlR eRule w w.heap.size v rs) :
    Calls Try.prog 30 #[v] w fun e w' => e = .returned (.bool (decide (¬ rs.Nodup))) ∧ Below w.heap.size w w' := by
  obtain ⟨A, c, rfl, hc1, hc2⟩ := hv.form
  unfold maxLen at hc2
  go_enter Try.func30, Try.ntmps30
  go_wp2_with fail
  go_loopw [7] (fun v7 wr => ∃ k : Nat, k ≤ rs.length ∧ v7 = .int .i64 k ∧ Hid ((rs.take k).Nodup) ∧ Below w.heap.size w wr) (fun v7 _ => rs.length - (intOf v7).toNat)
  case atStart => exact ⟨0, by omega, rfl, by simp [Hid], Below.refl _ _⟩
  case round =>
    obtain ⟨k, hk, rfl, hno, hbr⟩ := hrel
    by_cases hlt : k < rs.length
    · obtain ⟨ab, ao, cs, rfl, _, hab, hrep, hcell⟩ := (hv.below hbr).get hlt (by decide)
      obtain ⟨u, rfl, hu, hz1, hz2⟩ := eRule_open hrep
      have hc0 := hcell 0 _ rfl
      have hc1' := hcell 1 _ rfl
      clear hcell
      simp only [show eRule.size = 2 from rfl, Nat.add_zero, ← Nat.add_assoc] at hc0 hc1'
      obtain ⟨A1, e1, rfl, he1, he2⟩ := hu.form
      have htk := Lib.hid (hv.take_ k (n' := k) (by rw [List.length_take]; omega))
      have hsn := Lib.hid (nodup_snoc rs k hlt)
      go_wp2_with fail
      have hbw : Below wr.heap.size wr (wr.alloc (Obj.cells #[Value.int IntKind.i64 rs[k].fst, Value.slice A1 rs[k].snd.length e1] 26)) := (Below.refl _ _).alloc (Nat.le_refl _) _
      have HC := Lib.hid (conf_rule 40 #[.pointer (some ⟨wr.heap.size, 0, none⟩)] (fun x => decide (x = rs[k])) _ (rs.take k) (wr.alloc (Obj.cells #[Value.int IntKind.i64 rs[k].fst, Value.slice A1 rs[k].snd.length e1] 26))
        (htk.out.next (hbr.alloc hbr.size _) (by simp; exact Nat.le_succ_of_le hbr.size)) (fun _ _ => by kernel_rfl) (by
          intro cs x w2 hx hb2 hrx
          obtain ⟨vx, rfl, hsx, _, _⟩ := eRule_open hrx
          have hsz := hb2.size
          simp only [World.size_alloc] at hsz hb2 hsx
          have hws := hbr.size
          refine (twice_clo wr.heap.size vx (Value.slice A1 rs[k].snd.length e1) x.1 rs[k].1 x.2 rs[k].2 w2 (hsx.more hsz) (hu.fut (hbw.trans (hb2.mono (Nat.le_succ _))) hws (by omega)) ?_ ?_)
          · rw [hb2.cell (p := ⟨wr.heap.size, 0, none⟩) (Nat.lt_succ_self _)]; simp
          · rw [hb2.cell (p := ⟨wr.heap.size, 1, none⟩) (Nat.lt_succ_self _)]; simp))
      rcases Bool.eq_false_or_eq_true ((rs.take k).any fun x => decide (x = rs[k])) with hany | hany
      · have HA := Lib.hid hany
        clear hany
        refine HC.out.mono ?_
        rintro e w1 ⟨rfl, hb1⟩
        rw [HA.out]
        go_wp2
        go_ret
        refine ⟨rt1 (vbool ?_), (hbr.alloc hbr.size _).trans (hb1.mono (by simp; exact Nat.le_succ_of_le hbr.size))⟩
        rw [eq_comm, decide_eq_true_eq]
        intro hnd
        have h3 := hsn.out.1 (hnd.sublist (List.take_sublist _ _))
        rw [HA.out] at h3
        cases h3.2
      · have HA := Lib.hid hany
        clear hany
        refine HC.out.mono ?_
        rintro e w1 ⟨rfl, hb1⟩
        rw [HA.out]
        go_wp2
        go_roundw
        case rel => exact ⟨k + 1, by omega, by go_num, hsn.out.2 ⟨hno.out, HA.out⟩, (hbr.alloc hbr.size _).trans (hb1.mono (by simp; exact Nat.le_succ_of_le hbr.size))⟩
        case measure => simp [intOf]; omega
    · go_wp2
      go_ret
      refine ⟨rt1 (vbool ?_), hbr⟩
      have := hno.out
      rw [List.take_of_length_le (by omega)] at this
      simp [this]
end Go.Proofs.Ytkgmdoiadhafeaa
