/- Contract of hex.value, for every byte and every world. -/
import Derived.Test.YtfheocdciekfoaaDoorHexDig
namespace Go.Proofs.YtfheocdciekfoaaDoor
open Go.RowKit

def digValB (c : Int) : Bool := decide (48 ≤ c ∧ c ≤ 57) || decide (97 ≤ c ∧ c ≤ 102)
def digValN (c : Int) : Int := if 48 ≤ c ∧ c ≤ 57 then c - 48 else if 97 ≤ c ∧ c ≤ 102 then c - 87 else 0

theorem digVal_hit (k : Nat) (hk : k < 16) : digValB (digAt k) = true ∧ digValN (digAt k) = k := by
  unfold digValB digValN digAt
  split
  · exact ⟨by simp; omega, by rw [if_pos (by omega)]; omega⟩
  · exact ⟨by simp; omega, by rw [if_neg (by omega), if_pos (by omega)]; omega⟩
theorem digVal_miss (c : Int) (h : ∀ k : Nat, k < 16 → digAt k ≠ c) : digValB c = false ∧ digValN c = 0 := by
  have h1 : ¬ (48 ≤ c ∧ c ≤ 57) := fun hc => h (c - 48).toNat (by omega) (by unfold digAt; split <;> omega)
  have h2 : ¬ (97 ≤ c ∧ c ≤ 102) := fun hc => h (c - 87).toNat (by omega) (by unfold digAt; split <;> omega)
  unfold digValB digValN
  rw [if_neg h1, if_neg h2]
  simp [h1, h2]

set_option maxHeartbeats 400000 in
theorem hex_value (c : Int) (w : World) :
    Calls Tryd.prog 91 #[.int .u8 c] w fun e w' => e = .returned (.tuple #[.int .u8 (digValN c), .bool (digValB c)]) ∧ Below w.heap.size w w' := by
  go_enter Tryd.func91, Tryd.ntmps91
  go_wp2_with (go_call hex_digits _ as e w1 ⟨rfl, hb⟩)
  go_loop [7] (fun i => ∃ k : Nat, k ≤ 16 ∧ i = .int .i64 k ∧ Hid (∀ j : Nat, j < k → digAt j ≠ c)) (fun i => 16 - (intOf i).toNat)
  case atStart => exact ⟨0, by omega, rfl, fun j hj => by omega⟩
  case round =>
    obtain ⟨k, hk, rfl, hm⟩ := hrel
    by_cases hlt : k < 16
    · have hix := fun w => dig_index k hlt w
      by_cases heq : digAt k = c
      · have hv := Lib.hid (digVal_hit k hlt)
        subst heq
        go_wp2
        go_ret2
        exact ⟨rt2 (vint (by rw [hv.out.2])) (vbool hv.out.1.symm), hb⟩
      · have hne : (digAt k == c) = false := by simpa using heq
        go_wp2
        go_round
        case rel => exact ⟨k + 1, by omega, by go_num, fun j hj => by by_cases e : j = k; (subst e; exact heq); exact hm.out j (by omega)⟩
        case measure => simp [intOf]; omega
    · go_wp2
      go_ret2
      have hv := digVal_miss c (fun j hj => hm.out j (by omega))
      exact ⟨rt2 (vint hv.2.symm) (vbool hv.1.symm), hb⟩

end Go.Proofs.YtfheocdciekfoaaDoor
