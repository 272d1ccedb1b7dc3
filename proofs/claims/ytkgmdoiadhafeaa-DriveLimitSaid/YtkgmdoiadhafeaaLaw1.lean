/- Law 28's own functions: ref14.Few, ref24.Few: that they answer, and what a 1 says. -/
import Derived.Test.YtkgmdoiadhafeaaDrive8
namespace Go.Proofs.Ytkgmdoiadhafeaa
open Go.RowKit

def Few14To (ns ts : List ByteArray) (w : World) (e : Ending) (w' : World) : Prop := ∃ z : Int, e = .returned (.int .i64 z) ∧ (z = 0 ∨ (z = 1 ∧ ns.length ≤ 12 ∧ ts.length ≤ 12)) ∧ Below w.heap.size w w'
def AnInt (w : World) (e : Ending) (w' : World) : Prop := ∃ z : Int, e = .returned (.int .i64 z) ∧ w = w'
def SameTo (xs ys : List Int) (w : World) (e : Ending) (w' : World) : Prop := ∃ r, e = .returned (.bool r) ∧ (xs = ys → r = true) ∧ Below w.heap.size w w'
def ABool (w : World) (e : Ending) (w' : World) : Prop := ∃ r, e = .returned (.bool r) ∧ Below w.heap.size w w'
set_option maxHeartbeats 2000000 in
theorem few14_any (v1 v2 v3 : Value) (ns ts : List ByteArray) (rs : List (Int × List Int)) (w : World) (h1 : SlR eStr w w.heap.size v1 ns) (h2 : SlR eStr w w.heap.size v2 ts) (h3 : SlR eRule w w.heap.size v3 rs) :
    Calls Try.prog 7 #[.agg #[v1, v2, v3]] w (Few14To ns ts w) := by
  obtain ⟨A1, c1, rfl, hc1, hc1'⟩ := h1.form
  obtain ⟨A2, c2, rfl, hc2, hc2'⟩ := h2.form
  obtain ⟨A3, c3, rfl, hc3, hc3'⟩ := h3.form
  unfold maxLen at hc1' hc2' hc3'
  by_cases hgood : ns.length ≤ 12 ∧ ts.length ≤ 12 ∧ rs.length ≤ 40
  case neg =>
    have hcase : 12 < ns.length ∨ (ns.length ≤ 12 ∧ 12 < ts.length) ∨ (ns.length ≤ 12 ∧ ts.length ≤ 12 ∧ 40 < rs.length) := by omega
    rcases hcase with h | ⟨h0, h⟩ | ⟨h0, h0', h⟩
    all_goals
      go_enter Try.func7, Try.ntmps7
      go_wp2_with fail
      all_goals first
        | (exfalso; omega)
        | (go_ret; exact ⟨0, rfl, .inl rfl, by go_grown⟩)
  obtain ⟨g1, g2, g3⟩ := hgood
  go_enter Try.func7, Try.ntmps7
  go_wp2_with fail
  all_goals first
    | (exfalso; omega)
    | skip
  have HW : Hid (Below w.heap.size w (w.alloc (Obj.cells #[Value.slice A1 ns.length c1, Value.slice A2 ts.length c2, Value.slice A3 rs.length c3] 29))) := (Below.refl _ _).alloc (Nat.le_refl _) _
  have HS : Hid ((w.alloc (Obj.cells #[Value.slice A1 ns.length c1, Value.slice A2 ts.length c2, Value.slice A3 rs.length c3] 29)).heap.size = w.heap.size + 1) := by show _ = _; simp
  have k0 : (w.alloc (Obj.cells #[Value.slice A1 ns.length c1, Value.slice A2 ts.length c2, Value.slice A3 rs.length c3] 29)).cell? ⟨w.heap.size, 0, none⟩ = some (Value.slice A1 ns.length c1) := by simp
  have k1 : (w.alloc (Obj.cells #[Value.slice A1 ns.length c1, Value.slice A2 ts.length c2, Value.slice A3 rs.length c3] 29)).cell? ⟨w.heap.size, 1, none⟩ = some (Value.slice A2 ts.length c2) := by simp
  have k2 : (w.alloc (Obj.cells #[Value.slice A1 ns.length c1, Value.slice A2 ts.length c2, Value.slice A3 rs.length c3] 29)).cell? ⟨w.heap.size, 2, none⟩ = some (Value.slice A3 rs.length c3) := by simp
  generalize w.alloc (Obj.cells #[Value.slice A1 ns.length c1, Value.slice A2 ts.length c2, Value.slice A3 rs.length c3] 29) = W at HW HS k0 k1 k2 ⊢
  have h1W := h1.below HW.out
  have h2W := h2.below HW.out
  have h3W := h3.below HW.out
  clear h1 h2 h3
  go_loop [3] (fun v => ∃ k : Nat, k ≤ rs.length ∧ v = .int .i64 k) (fun v => rs.length - (intOf v).toNat)
  case atStart => exact ⟨0, by omega, rfl⟩
  case round =>
    obtain ⟨k, hk, rfl⟩ := hrel
    by_cases hlt : k < rs.length
    · obtain ⟨ab, ao, cs, rfl, _, hab, hrep, hcell⟩ := h3W.get hlt (by decide)
      obtain ⟨u, rfl, hu, hz1, hz2⟩ := eRule_open hrep
      obtain ⟨A4, e4, rfl, hq1, hq2⟩ := hu.form
      unfold maxLen at hq2
      have hc1' := hcell 1 _ rfl
      clear hcell
      simp only [show eRule.size = 2 from rfl, ← Nat.add_assoc] at hc1'
      go_wp2_with fail
      · go_ret
        exact ⟨0, rfl, .inl rfl, HW.out⟩
      · go_round
        case rel => exact ⟨k + 1, by omega, by go_num⟩
        case measure => simp [intOf]; omega
    go_wp2_with fail
    go_loop [4] (fun v => ∃ j : Nat, j ≤ ns.length ∧ v = .int .i64 j) (fun v => ns.length - (intOf v).toNat)
    case atStart => exact ⟨0, by omega, rfl⟩
    case round =>
      obtain ⟨j, hj, rfl⟩ := hrel
      by_cases hlj : j < ns.length
      · obtain ⟨ab, ao, cs, rfl, _, hab, hrep, hcell⟩ := h1W.get hlj (by decide)
        obtain ⟨rfl, hx1⟩ := hrep
        unfold maxLen at hx1
        have hc0 := hcell 0 _ rfl
        clear hcell
        simp only [show eStr.size = 1 from rfl, Nat.mul_one, Nat.add_zero] at hc0
        go_wp2_with fail
        · go_ret
          exact ⟨0, rfl, .inl rfl, HW.out⟩
        · go_round
          case rel => exact ⟨j + 1, by omega, by go_num⟩
          case measure => simp [intOf]; omega
      go_wp2_with fail
      go_loop [5] (fun v => ∃ i : Nat, i ≤ ts.length ∧ v = .int .i64 i) (fun v => ts.length - (intOf v).toNat)
      case atStart => exact ⟨0, by omega, rfl⟩
      case round =>
        obtain ⟨i, hi, rfl⟩ := hrel
        by_cases hli : i < ts.length
        · obtain ⟨ab, ao, cs, rfl, _, hab, hrep, hcell⟩ := h2W.get hli (by decide)
          obtain ⟨rfl, hx1⟩ := hrep
          unfold maxLen at hx1
          have hc0 := hcell 0 _ rfl
          clear hcell
          simp only [show eStr.size = 1 from rfl, Nat.mul_one, Nat.add_zero] at hc0
          go_wp2_with fail
          · go_ret
            exact ⟨0, rfl, .inl rfl, HW.out⟩
          · go_round
            case rel => exact ⟨i + 1, by omega, by go_num⟩
            case measure => simp [intOf]; omega
        go_wp2_with fail
        go_ret
        exact ⟨1, rfl, .inr ⟨rfl, g1, g2⟩, HW.out⟩

set_option maxHeartbeats 2000000 in
theorem few24_any (v : Value) (m : Mach) (w : World) (hv : SlR eState w w.heap.size v m) :
    Calls Try.prog 14 #[v] w (AnInt w) := by
  obtain ⟨A, c, rfl, hc, hc'⟩ := hv.form
  unfold maxLen at hc'
  by_cases hgood : m.length ≤ 12
  case neg =>
    go_enter Try.func14, Try.ntmps14
    go_wp2_with fail
    go_ret
    exact ⟨0, rfl, rfl⟩
  go_enter Try.func14, Try.ntmps14
  go_wp2_with fail
  go_loop [3] (fun v => ∃ k : Nat, k ≤ m.length ∧ v = .int .i64 k) (fun v => m.length - (intOf v).toNat)
  case atStart => exact ⟨0, by omega, rfl⟩
  case round =>
    obtain ⟨k, hk, rfl⟩ := hrel
    by_cases hlt : k < m.length
    · obtain ⟨ab, ao, cs, rfl, _, hab, hrep, hcell⟩ := hv.get hlt (by decide)
      obtain ⟨u, rfl, hu, hz1, hz2⟩ := eState_open hrep
      obtain ⟨A4, e4, rfl, hq1, hq2⟩ := hu.form
      unfold maxLen at hq2
      have hc1' := hcell 1 _ rfl
      clear hcell
      simp only [show eState.size = 2 from rfl, ← Nat.add_assoc] at hc1'
      go_wp2_with fail
      · go_ret
        exact ⟨0, rfl, rfl⟩
      · go_round
        case rel => exact ⟨k + 1, by omega, by go_num⟩
        case measure => simp [intOf]; omega
    go_wp2_with fail
    go_ret
    exact ⟨1, rfl, rfl⟩
set_option maxHeartbeats 800000 in
theorem same_any (a b : Value) (xs ys : List Int) (w : World) (ha : SlR eInt w w.heap.size a xs) (hb : SlR eInt w w.heap.size b ys) :
    Calls Try.prog 12 #[a, b] w (SameTo xs ys w) := by
  obtain ⟨A, c, rfl, hc1, hc2⟩ := ha.form
  obtain ⟨B, d, rfl, hd1, hd2⟩ := hb.form
  unfold maxLen at hc2 hd2
  by_cases hl : xs.length = ys.length
  case neg =>
    have hne : ((xs.length : Int) != (ys.length : Int)) = true := by simp; omega
    go_enter Try.func12, Try.ntmps12
    go_wp2
    go_ret
    exact ⟨false, rfl, fun h => absurd (congrArg List.length h) hl, Below.refl _ _⟩
  have hne : ((xs.length : Int) != (ys.length : Int)) = false := by simp; omega
  go_enter Try.func12, Try.ntmps12
  go_wp2_with fail
  go_loopw [5] (fun v wr => ∃ k : Nat, k ≤ xs.length ∧ v = .int .i64 k ∧ Below w.heap.size w wr) (fun v _ => xs.length - (intOf v).toNat)
  case atStart => exact ⟨0, by omega, rfl, Below.refl _ _⟩
  case round =>
    obtain ⟨k, hk, rfl, hbr⟩ := hrel
    by_cases hlt : k < xs.length
    · have hlt2 : k < ys.length := by omega
      obtain ⟨ab, ao, cs, rfl, _, hab, hrep, hcell⟩ := (ha.below hbr).get hlt (by decide)
      obtain ⟨rfl, hx1, hx2⟩ := hrep
      have hc0 := hcell 0 _ rfl
      obtain ⟨bb, bo, cs, rfl, _, hbb, hrep, hcell2⟩ := (hb.below hbr).get hlt2 (by decide)
      obtain ⟨rfl, hy1, hy2⟩ := hrep
      have hd0 := hcell2 0 _ rfl
      clear hcell hcell2
      simp only [show eInt.size = 1 from rfl, Nat.mul_one, Nat.add_zero] at hc0 hd0
      by_cases heq : xs[k] = ys[k]
      · have hq : (xs[k] != ys[k]) = false := by simp [heq]
        clear heq
        go_wp2_with fail
        refine Text.wp_text [] (by kernel_rfl) (by kernel_rfl) (fun Q' hQ' => ?_)
        go_wp2
        refine ⟨by rfl, ?_⟩
        go_wp2
        go_roundw
        case rel => exact ⟨k + 1, by omega, by go_num, hbr.drew⟩
        case measure => simp [intOf]; omega
      · have hq : (xs[k] != ys[k]) = true := by simp [heq]
        have HQ := Lib.hid heq
        clear heq
        go_wp2_with fail
        refine Text.wp_text [] (by kernel_rfl) (by kernel_rfl) (fun Q' hQ' => ?_)
        go_wp2
        refine ⟨by rfl, ?_⟩
        go_wp2
        go_ret
        exact ⟨false, rfl, fun h => by subst h; exact absurd rfl HQ.out, hbr.drew⟩
    · go_wp2
      go_ret
      exact ⟨true, rfl, fun _ => rfl, hbr⟩

set_option maxHeartbeats 4000000 in
theorem valid24_any (v : Value) (m : Mach) (n : Int) (w : World) (hv : SlR eState w w.heap.size v m) :
    Calls Try.prog 15 #[v, .int .i64 n] w (ABool w) := by
  obtain ⟨A, c, rfl, hc, hc'⟩ := hv.form
  unfold maxLen at hc'
  by_cases h0 : m.length = 0
  · have hz : ((m.length : Int) == 0) = true := by simp only [h0]; rfl
    clear h0
    go_enter Try.func15, Try.ntmps15
    go_wp2_with fail
    go_ret
    exact ⟨false, rfl, Below.refl _ _⟩
  have hz : ((m.length : Int) == 0) = false := by rw [beq_eq_false_iff_ne]; omega
  go_enter Try.func15, Try.ntmps15
  go_wp2_with fail
  go_loopw [5] (fun v wr => ∃ k : Nat, k ≤ m.length ∧ v = .int .i64 k ∧ Below w.heap.size w wr) (fun v _ => m.length - (intOf v).toNat)
  case atStart => exact ⟨0, by omega, rfl, Below.refl _ _⟩
  case round =>
    obtain ⟨k, hk, rfl, hbr⟩ := hrel
    by_cases hlt : k < m.length
    case neg =>
      go_wp2_with fail
      go_ret
      exact ⟨true, rfl, hbr⟩
    obtain ⟨ab, ao, cs, rfl, _, hab, hrep, hcell⟩ := hv.get hlt (by decide)
    obtain ⟨u, rfl, hu, hz1, hz2⟩ := eState_open hrep
    obtain ⟨A4, e4, rfl, hq1, hq2⟩ := hu.form
    unfold maxLen at hq2
    have c0 := hcell 0 _ rfl
    have c1 := hcell 1 _ rfl
    clear hcell
    simp only [show eState.size = 2 from rfl, Nat.add_zero, ← Nat.add_assoc] at c0 c1
    have d0 := (hbr.cell (p := ⟨ab, ao + k * 2, none⟩) hab).trans c0
    generalize m[k].1 = out at c0 d0 hz1 hz2
    obtain ⟨es, hes⟩ : ∃ es, es = m[k].2 := ⟨_, rfl⟩
    rw [← hes] at hu c1 hq1
    clear hes hrep
    by_cases ho : out < -1
    · go_wp2_with fail
      go_ret
      exact ⟨false, rfl, hbr⟩
    have hd : decide (out < -1) = false := decide_eq_false ho
    clear c0
    go_wp2_with fail
    go_loopw [6] (fun v wt => ∃ j : Nat, j ≤ es.length ∧ v = .int .i64 j ∧ Below w.heap.size w wt) (fun v _ => es.length - (intOf v).toNat)
    case atStart => exact ⟨0, by omega, rfl, hbr⟩
    case round =>
      clear hbr d0
      obtain ⟨j, hj, rfl, hbr⟩ := hrel
      have hsz := hbr.size
      have d1 := (hbr.cell (p := ⟨ab, ao + k * 2 + 1, none⟩) hab).trans c1
      have hab' : ab < wr.heap.size := by omega
      by_cases hlj : j < es.length
      case neg =>
        go_wp2_with fail
        go_roundw
        case rel => exact ⟨k + 1, by omega, by go_num, hbr⟩
        case measure => simp [intOf]; omega
      obtain ⟨eb, eo, cs, rfl, _, heb, hrep2, hcell⟩ := (hu.below hbr).get hlj (by decide)
      obtain ⟨rfl, q1, q2, q3, q4⟩ := eEdge_open hrep2
      have f0 := hcell 0 _ rfl
      have f1 := hcell 1 _ rfl
      clear hcell hrep2
      have heb' : eb < wr.heap.size := by omega
      simp only [show eEdge.size = 2 from rfl, Nat.add_zero, ← Nat.add_assoc] at f0 f1
      generalize es[j].1 = s1 at f0 q1 q2
      generalize es[j].2 = s2 at f1 q3 q4
      have b1 : ∀ p : Prop, [Decidable p] → ¬ p → decide p = false := fun p _ h => decide_eq_false h
      have b2 : ∀ p : Prop, [Decidable p] → p → decide p = true := fun p _ h => decide_eq_true h
      rcases Int.lt_or_le s1 0 with g1 | g1
      · have r1 := b2 _ g1
        clear b1 b2 g1
        go_wp2_with fail
        refine Text.wp_text [] (by kernel_rfl) (by kernel_rfl) (fun Q' hQ' => ?_)
        go_wp2_with fail
        refine ⟨by rfl, ?_⟩
        go_wp2_with fail
        go_ret
        exact ⟨false, rfl, (hbr.alloc hsz _).drew⟩
      have r1 := b1 (s1 < 0) (by omega)
      rcases Int.lt_or_le s1 n with g2 | g2
      case inr =>
        have r2 := b2 _ g2
        clear b1 b2 g1 g2
        go_wp2_with fail
        refine Text.wp_text [] (by kernel_rfl) (by kernel_rfl) (fun Q' hQ' => ?_)
        go_wp2_with fail
        refine ⟨by rfl, ?_⟩
        go_wp2_with fail
        go_ret
        exact ⟨false, rfl, (hbr.alloc hsz _).drew⟩
      have r2 := b1 (n ≤ s1) (by omega)
      rcases Int.lt_or_le s2 0 with g3 | g3
      · have r3 := b2 _ g3
        clear b1 b2 g1 g2 g3
        go_wp2_with fail
        refine Text.wp_text [] (by kernel_rfl) (by kernel_rfl) (fun Q' hQ' => ?_)
        go_wp2_with fail
        refine ⟨by rfl, ?_⟩
        go_wp2_with fail
        go_ret
        exact ⟨false, rfl, (hbr.alloc hsz _).drew⟩
      have r3 := b1 (s2 < 0) (by omega)
      rcases Int.lt_or_le s2 m.length with g4 | g4
      case inr =>
        have r4 := b2 _ g4
        clear b1 b2 g1 g2 g3 g4
        go_wp2_with fail
        refine Text.wp_text [] (by kernel_rfl) (by kernel_rfl) (fun Q' hQ' => ?_)
        go_wp2_with fail
        refine ⟨by rfl, ?_⟩
        go_wp2_with fail
        go_ret
        exact ⟨false, rfl, (hbr.alloc hsz _).drew⟩
      have r4 := b1 ((m.length : Int) ≤ s2) (by omega)
      rcases Nat.eq_zero_or_pos j with g5 | g5
      · subst g5
        clear b1 b2 g1 g2 g3 g4
        simp only [Nat.zero_mul, Nat.add_zero] at f0 f1
        go_wp2_with fail
        refine Text.wp_text [] (by kernel_rfl) (by kernel_rfl) (fun Q' hQ' => ?_)
        go_wp2_with fail
        refine ⟨by rfl, ?_⟩
        go_wp2_with fail
        go_roundw
        case rel => exact ⟨0 + 1, by omega, by go_num, (hbr.alloc hsz _).drew⟩
        case measure => simp [intOf]; omega
      obtain ⟨i, rfl⟩ : ∃ i, j = i + 1 := ⟨j - 1, by omega⟩
      obtain ⟨eb2, eo2, cs, e9, _, heb2, hrep3, hcell⟩ := (hu.below hbr).get (k := i) (by omega) (by decide)
      injection e9 with e9
      injection e9 with e10 e11
      subst e10 e11
      obtain ⟨rfl, q5, q6, q7, q8⟩ := eEdge_open hrep3
      have f5 := hcell 0 _ rfl
      clear hcell hrep3
      simp only [show eEdge.size = 2 from rfl, Nat.add_zero] at f5
      generalize es[i].1 = s0 at f5 q5 q6
      have r5 := b2 (0 < ((i : Int) + 1)) (by omega)
      by_cases g6 : s1 ≤ s0
      · have r6 := b2 _ g6
        clear b1 b2 g1 g2 g3 g4 g5 g6
        go_wp2_with fail
        refine Text.wp_text [] (by kernel_rfl) (by kernel_rfl) (fun Q' hQ' => ?_)
        go_wp2_with fail
        refine ⟨by rfl, ?_⟩
        go_wp2_with fail
        go_ret
        exact ⟨false, rfl, (hbr.alloc hsz _).drew⟩
      · have r6 := b1 _ g6
        clear b1 b2 g1 g2 g3 g4 g5 g6
        go_wp2_with fail
        refine Text.wp_text [] (by kernel_rfl) (by kernel_rfl) (fun Q' hQ' => ?_)
        go_wp2_with fail
        refine ⟨by rfl, ?_⟩
        go_wp2_with fail
        go_roundw
        case rel => exact ⟨i + 1 + 1, by omega, by go_num, (hbr.alloc hsz _).drew⟩
        case measure => simp [intOf]; omega
end Go.Proofs.Ytkgmdoiadhafeaa
