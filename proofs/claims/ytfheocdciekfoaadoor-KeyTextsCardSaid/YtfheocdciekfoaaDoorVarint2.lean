/- Contracts of the reference's pow and Front (02), for any bytes, every world. -/
import Derived.Test.YtfheocdciekfoaaDoorVarint
namespace Go.Proofs.YtfheocdciekfoaaDoor
open Go.RowKit

theorem pow_any (i : Nat) (w : World) (hi : i ≤ 9) :
    Calls Tryd.prog 106 #[.int .i64 i] w fun e w' => e = .returned (.int .u64 (128 ^ i : Nat)) ∧ w = w' := by
  go_enter Tryd.func106, Tryd.ntmps106
  go_wp2_with fail
  go_loop [3, 4] (fun v3 v4 => ∃ j p : Nat, j ≤ i ∧ v4 = .int .i64 j ∧ v3 = .int .u64 p ∧ Hid (p = 128 ^ j)) (fun _ v4 => i - (intOf v4).toNat)
  case atStart => exact ⟨0, 1, by omega, rfl, rfl, rfl⟩
  case round =>
    obtain ⟨j, p, hj, rfl, rfl, hp⟩ := hrel
    by_cases hlt : j < i
    · have hp2 : p * 128 ≤ 9223372036854775808 := by
        rw [hp.out, ← Nat.pow_succ]
        have : (128 : Nat) ^ (j + 1) ≤ 128 ^ 9 := Nat.pow_le_pow_right (by omega) (by omega)
        have e9 : (128 : Nat) ^ 9 = 9223372036854775808 := by decide
        show 128 ^ (j + 1) ≤ _
        omega
      go_wp2
      go_round
      case rel =>
        refine ⟨j + 1, p * 128, by omega, by go_num, by first | rfl | go_num, ?_⟩
        show _ = _
        rw [hp.out, Nat.pow_succ]
      case measure => simp [intOf]; omega
    · have hji : j = i := by omega
      subst hji
      go_wp2
      go_ret
      exact ⟨rt1 (vint (by rw [hp.out]; simp)), rfl⟩
theorem wrap_var (V x k : Nat) (h : V + x % 128 * 128 ^ k < 18446744073709551616) : IntKind.u64.wrap ((V : Int) + IntKind.u64.wrap ((x : Int) % 128 * 128 ^ k)) = ((V + x % 128 * 128 ^ k : Nat) : Int) := by
  have e : ((x : Int) % 128 * 128 ^ k) = ((x % 128 * 128 ^ k : Nat) : Int) := by simp
  rw [e, IntKind.wrap_u64, IntKind.wrap_u64, Int.emod_eq_of_lt (b := 18446744073709551616) (by omega) (by omega), Int.emod_eq_of_lt (by omega) (by omega)]
  omega
/-- a number's front, as the reference tells it -/
def frontVal (r : Option (Nat × Nat)) : Value := match r with | some (v, k) => .tuple #[.int .u64 (v : Nat), .int .i64 (k : Nat)] | none => .tuple #[.int .u64 0, .int .i64 0]
set_option maxRecDepth 100000 in
set_option maxHeartbeats 1000000 in
theorem refFront2_any (l : List UInt8) (A : Option Addr) (c B : Nat) (w : World) (hr : Rd w B A (bcells l)) (hl : l.length ≤ 1099511627776) :
    Calls Tryd.prog 89 #[.slice A l.length c] w fun e w' => e = .returned (frontVal (vFrom l 0 0)) ∧ w = w' := by
  have HR := Lib.hid hr
  clear hr
  go_enter Tryd.func89, Tryd.ntmps89
  go_wp2_with fail
  go_loop [4, 5] (fun v4 v5 => ∃ k V : Nat, k ≤ 10 ∧ k ≤ l.length ∧ v5 = .int .i64 k ∧ v4 = .int .u64 V ∧ Hid (V < 128 ^ k) ∧ Hid (vFrom (l.drop k) k V = vFrom l 0 0)) (fun _ v5 => 10 - (intOf v5).toNat)
  case atStart => exact ⟨0, 0, by omega, by omega, rfl, rfl, by show _ < _; simp, rfl⟩
  case round =>
    obtain ⟨k, V, hk, hkl, rfl, rfl, hV, HF⟩ := hrel
    by_cases hend : k = 10 ∨ k = l.length
    · have HN := Lib.hid (show vFrom l 0 0 = none by
        rw [← HF.out]
        rcases hend with h | h
        · subst h; rw [vFrom_ten]
        · rw [List.drop_eq_nil_of_le (by omega)]; rfl)
      rcases Nat.lt_or_ge k l.length with h1 | h1
      · have h2 : ¬ k < 10 := by omega
        go_wp2
        go_ret2
        exact ⟨by rw [HN.out]; rfl, rfl⟩
      · have h2 : ¬ k < l.length := by omega
        go_wp2
        go_ret2
        exact ⟨by rw [HN.out]; rfl, rfl⟩
    · have hk9 : k ≤ 9 := by omega
      have hlt : k < l.length := by omega
      clear hend hk
      obtain ⟨ab, ao, rfl, hab, hcell⟩ := HR.out.byte hlt
      have HS := Lib.hid (vFrom_step l k k V hlt)
      obtain ⟨x, hx⟩ : ∃ x, x = l[k].toNat := ⟨_, rfl⟩
      rw [← hx] at HS hcell
      have hx8 : x < 256 := by rw [hx]; exact l[k].toNat_lt
      clear hx
      by_cases hbad : (k = 9 ∧ 1 < x) ∨ (0 < k ∧ x = 0)
      · have HN := Lib.hid (show vFrom l 0 0 = none by rw [← HF.out, HS.out, if_neg (by omega), if_pos hbad])
        have HB := Lib.hid hbad
        clear hbad
        rcases Bool.eq_false_or_eq_true (((k : Nat) : Int) == 9) with b9 | b9 <;> rcases Bool.eq_false_or_eq_true (decide ((1 : Int) < (x : Nat))) with c1 | c1 <;>
          rcases Bool.eq_false_or_eq_true (decide (0 < k)) with b0 | b0 <;> rcases Bool.eq_false_or_eq_true (((x : Nat) : Int) == 0) with c0 | c0
        all_goals try (exfalso; have hb := HB.out; clear HS HF HN HR hV hcell; simp only [beq_iff_eq, beq_eq_false_iff_ne, decide_eq_true_eq, decide_eq_false_iff_not, ne_eq] at b9 c1 b0 c0; omega)
        all_goals
          go_wp2
          go_ret2
          exact ⟨by rw [HN.out]; rfl, rfl⟩
      · obtain ⟨_, hv1, hv2⟩ := or_var V x k hV.out hx8 hk9 hbad
        have HB := Lib.hid hbad
        have HX := Lib.hid (wrap_var V x k hv2)
        have HV1 := Lib.hid hv1
        clear hbad hv1 hv2
        rcases Bool.eq_false_or_eq_true (decide ((x : Int) < 128)) with c2 | c2 <;> rcases Bool.eq_false_or_eq_true (((k : Nat) : Int) == 9) with b9 | b9 <;> rcases Bool.eq_false_or_eq_true (decide ((1 : Int) < (x : Nat))) with c1 | c1 <;>
          rcases Bool.eq_false_or_eq_true (decide (0 < k)) with b0 | b0 <;> rcases Bool.eq_false_or_eq_true (((x : Nat) : Int) == 0) with c0 | c0
        all_goals try (exfalso; have hb := HB.out; clear HS HF HR hV hcell HX HV1; simp only [beq_iff_eq, beq_eq_false_iff_ne, decide_eq_true_eq, decide_eq_false_iff_not, ne_eq] at b9 c1 b0 c0 c2; omega)
        all_goals
          go_wp2_with fail
          refine (pow_any k w hk9).mono ?_
          rintro e w1 ⟨rfl, rfl⟩
          go_wp2
          first
          | (go_ret2
             refine ⟨?_, rfl⟩
             have h1 : x < 128 := by have := of_decide_eq_true c2; omega
             have hN : vFrom l 0 0 = some (V + x % 128 * 128 ^ k, k + 1) := by rw [← HF.out, HS.out, if_neg (by omega), if_neg HB.out, if_pos h1, Nat.mod_eq_of_lt h1]
             rw [hN]
             exact rt2 (vint HX.out) (by go_num))
          | (go_round
             case rel =>
               have h1 : ¬ x < 128 := by have := of_decide_eq_false c2; omega
               have hk : k ≠ 9 := by have := beq_eq_false_iff_ne.1 b9; omega
               refine ⟨k + 1, V + x % 128 * 128 ^ k, by omega, by omega, by go_num, vint HX.out, HV1.out, ?_⟩
               show _ = _
               rw [← HF.out, HS.out, if_neg (by omega), if_neg HB.out, if_neg h1]
             case measure => simp [intOf]; omega)
end Go.Proofs.YtfheocdciekfoaaDoor
