/- Plain: reading a decimal numeral gives its number. No program is named here. -/
import Derived.Lib.AtoiTie
import Derived.Lib.ItoaNum
import Derived.Lib.ItoaMem
import Derived.Lib.ItoaLen
namespace Go.Proofs.YtfheocdciekfoaaDoor

theorem decFrom_cons (acc : Nat) (b : UInt8) (r : List UInt8) : Lib.decFrom acc (b :: r) = (Lib.digitVal b).bind fun d => Lib.decFrom (acc * 10 + d) r := by
  rw [Lib.decFrom]
  cases Lib.digitVal b <;> rfl
theorem decFrom_append (x y : List UInt8) : ∀ (acc : Nat), Lib.decFrom acc (x ++ y) = (Lib.decFrom acc x).bind fun m => Lib.decFrom m y := by
  induction x with
  | nil => intro acc; rfl
  | cons a x ih =>
    intro acc
    rw [List.cons_append, decFrom_cons, decFrom_cons]
    cases Lib.digitVal a with
    | none => rfl
    | some d => exact ih _
theorem digitVal_ofNat (d : Nat) (h : d < 10) : Lib.digitVal (UInt8.ofNat (48 + d)) = some d := by
  have h1 : (UInt8.ofNat (48 + d)).toNat = 48 + d := by
    rw [UInt8.toNat_ofNat']
    omega
  unfold Lib.digitVal
  rw [h1, if_pos (by omega)]
  congr 1
  omega
theorem decFrom_digits (u : Nat) : Lib.decFrom 0 (Lib.decDigits u) = some u := by
  induction u using Nat.strongRecOn with
  | _ u ih =>
    rw [Lib.decDigits]
    split
    · rename_i h
      rw [decFrom_cons, digitVal_ofNat u h, Option.bind_some, Lib.decFrom, Nat.zero_mul, Nat.zero_add]
    · rename_i h
      rw [decFrom_append, ih (u / 10) (by omega), Option.bind_some, decFrom_cons, digitVal_ofNat (u % 10) (by omega), Option.bind_some, Lib.decFrom]
      congr 1
      omega
theorem decDigits_ne (u : Nat) : Lib.decDigits u ≠ [] := fun h => by
  have h1 := Lib.decDigits_length u
  have h2 := Lib.nDigits_pos u
  rw [h] at h1
  simp at h1
  omega
theorem decDigits_dig (u : Nat) : ∀ b ∈ Lib.decDigits u, 48 ≤ b.toNat ∧ b.toNat ≤ 57 := fun b hb => by
  obtain ⟨k, hk⟩ := List.mem_iff_getElem?.1 hb
  obtain ⟨d, hd⟩ := Lib.digit_of_decFrom _ 0 u (decFrom_digits u) k b hk
  unfold Lib.digitVal at hd
  split at hd
  · assumption
  · cases hd
theorem atoi_digits (u : Nat) : Lib.atoi (Lib.decDigits u) = some (u : Int) := by
  have hd := decFrom_digits u
  have hb := decDigits_dig u
  cases hl : Lib.decDigits u with
  | nil => exact absurd hl (decDigits_ne u)
  | cons a r =>
    rw [hl] at hd hb
    have h1 := hb a (List.mem_cons_self ..)
    unfold Lib.atoi
    have n1 : (a == 45) = false := by
      rw [beq_eq_false_iff_ne]
      rintro rfl
      exact absurd h1.1 (by decide)
    have n2 : (a == 43) = false := by
      rw [beq_eq_false_iff_ne]
      rintro rfl
      exact absurd h1.1 (by decide)
    simp only [n1, n2, Bool.false_eq_true, if_false]
    unfold Lib.decNat
    simp only [List.isEmpty_cons, Bool.false_eq_true, if_false, hd, Option.map_some]
theorem nDigits_le10 (u : Nat) (h : u ≤ 1000000000) : Lib.nDigits u ≤ 10 := by
  rcases Nat.lt_or_ge 10 (Lib.nDigits u) with h1 | h1
  · exfalso
    have : ∀ k v, v < 10 ^ (k + 1) → Lib.nDigits v ≤ k + 1 := by
      intro k
      induction k with
      | zero => intro v hv; rw [Lib.nDigits_small (by simpa using hv)]; exact Nat.le_refl _
      | succ k ih =>
        intro v hv
        by_cases h10 : v < 10
        · rw [Lib.nDigits_small h10]; omega
        · rw [Lib.nDigits_big h10]
          have := ih (v / 10) (by rw [Nat.pow_succ] at hv; omega)
          omega
    have := this 9 u (by have : (10 : Nat) ^ (9 + 1) = 10000000000 := by decide
                         omega)
    omega
  · exact h1
theorem atoiAll_digits (u : Nat) (h : u ≤ 1000000000) : Lib.atoiAll (Lib.decDigits u) = .ok (u : Int) := by
  rw [Lib.atoiAll_short _ (by rw [Lib.decDigits_length]; have := nDigits_le10 u h; omega), atoi_digits]
  rfl
/-- the number that strconv.Atoi hands back, whatever the error -/
def atoiV (l : List UInt8) : Int := match Lib.atoiAll l with
  | .ok v => v
  | .range => Lib.atoiSat l
  | _ => 0
theorem atoiV_itoa (n : Int) (h0 : 0 ≤ n) (h1 : n ≤ 1000000000) : atoiV (Lib.itoa n) = n := by
  obtain ⟨u, rfl⟩ : ∃ u : Nat, n = u := ⟨n.toNat, by omega⟩
  rw [Lib.itoa_nonneg]
  unfold atoiV
  rw [atoiAll_digits u (by omega)]
end Go.Proofs.YtfheocdciekfoaaDoor
