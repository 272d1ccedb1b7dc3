/- Plain: hexadecimal digits of bytes and back. -/
import Derived.Test.YtfheocdciekfoaaDoorHexParse
namespace Go.Proofs.YtfheocdciekfoaaDoor
open Go.RowKit

def hexDig (k : Nat) : UInt8 := (digAt k).toNat.toUInt8
theorem dig_back (k : Nat) (h : k < 16) : dB (hexDig k) = true ∧ dN (hexDig k) = k := by
  have h2 : ∀ j : Fin 16, dB (hexDig j.val) = true ∧ dN (hexDig j.val) = j.val := by decide +kernel
  exact h2 ⟨k, h⟩
theorem unhex_hexOf : ∀ (l : List UInt8), unhex (hexOf l) = some l
  | [] => rfl
  | b :: l => by
    have hb := b.toNat_lt
    have h1 := dig_back (b.toNat / 16) (by omega)
    have h2 := dig_back (b.toNat % 16) (by omega)
    show unhex (hexDig (b.toNat / 16) :: hexDig (b.toNat % 16) :: hexOf l) = _
    rw [unhex, h1.1, h2.1, h1.2, h2.2, unhex_hexOf l]
    have : 16 * (b.toNat / 16) + b.toNat % 16 = b.toNat := by omega
    rw [this]
    simp
theorem hex_back (a b : UInt8) (ha : dB a = true) (hb : dB b = true) : hex2 (UInt8.ofNat (16 * dN a + dN b)) = [a, b] := by
  have h1 : ∀ a : Fin 256, dB (UInt8.ofNat a.val) = true → dN (UInt8.ofNat a.val) < 16 ∧ (digAt (dN (UInt8.ofNat a.val))).toNat.toUInt8 = UInt8.ofNat a.val := by decide +kernel
  have e : ∀ a : UInt8, UInt8.ofNat a.toNat = a := fun a => by simp
  have ga := h1 ⟨a.toNat, a.toNat_lt⟩
  have gb := h1 ⟨b.toNat, b.toNat_lt⟩
  simp only [e] at ga gb
  obtain ⟨a1, a2⟩ := ga ha
  obtain ⟨b1, b2⟩ := gb hb
  unfold hex2
  rw [UInt8.toNat_ofNat', Nat.mod_eq_of_lt (by omega), show (16 * dN a + dN b) / 16 = dN a by omega, show (16 * dN a + dN b) % 16 = dN b by omega, a2, b2]
theorem unhex_text : ∀ (l t : List UInt8), unhex l = some t → hexOf t = l ∧ 2 * t.length = l.length
  | [], t, h => by simp [unhex] at h; subst h; exact ⟨rfl, rfl⟩
  | [_], t, h => by simp [unhex] at h
  | a :: b :: r, t, h => by
    rw [unhex] at h
    split at h
    · rename_i hd
      rw [Bool.and_eq_true] at hd
      rw [Option.map_eq_some_iff] at h
      obtain ⟨t', ht, rfl⟩ := h
      obtain ⟨h1, h2⟩ := unhex_text r t' ht
      refine ⟨?_, by simp; omega⟩
      rw [show hexOf (UInt8.ofNat (16 * dN a + dN b) :: t') = hex2 (UInt8.ofNat (16 * dN a + dN b)) ++ hexOf t' by simp [hexOf], hex_back a b hd.1 hd.2, h1]
      rfl
    · cases h

end Go.Proofs.YtfheocdciekfoaaDoor
