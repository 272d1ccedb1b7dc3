/- The plain law: key.Parse and the reference read the same keys. -/
import Derived.Test.YtfheocdciekfoaaDoorKeyParse
namespace Go.Proofs.YtfheocdciekfoaaDoor
open Go.RowKit

/-- the key of a text, as the reference reads it -/
def parse17 (l : List UInt8) : Option (List UInt8 × Int) :=
  if l.length = 66 ∧ l.getD 64 0 = 45 ∧ 49 ≤ (l.getD 65 0).toNat ∧ (l.getD 65 0).toNat ≤ 52 then (unhex (l.take 64)).map fun b => (b, ((l.getD 65 0).toNat : Int) - 48) else none
theorem unhex_digs : ∀ (l t : List UInt8), unhex l = some t → l.length = 2 * t.length ∧ ∀ b ∈ l, dB b = true
  | [], t, h => by
    simp only [unhex, Option.some.injEq] at h
    subst h
    simp
  | [_], t, h => by simp [unhex] at h
  | a :: b :: r, t, h => by
    rw [unhex] at h
    split at h
    · rename_i hd
      rw [Option.map_eq_some_iff] at h
      obtain ⟨t', h1, rfl⟩ := h
      obtain ⟨h2, h3⟩ := unhex_digs r t' h1
      rw [Bool.and_eq_true] at hd
      refine ⟨by simp; omega, fun x hx => ?_⟩
      rcases List.mem_cons.1 hx with rfl | hx
      · exact hd.1
      · rcases List.mem_cons.1 hx with rfl | hx
        · exact hd.2
        · exact h3 x hx
    · cases h
theorem dB_dash : dB 45 = false := by decide
theorem keyOf_eq (l : List UInt8) : keyOf l = parse17 l := by
  have hd : ∀ (i : Nat) (t : List UInt8), unhex (l.take i) = some t → ∀ k, k < i → l[k]? ≠ some 45 := by
    intro i t h k hk he
    have hm : (45 : UInt8) ∈ l.take i := by
      rw [List.mem_iff_getElem?]
      exact ⟨k, by rw [List.getElem?_take, if_pos hk]; exact he⟩
    have := (unhex_digs _ _ h).2 45 hm
    rw [dB_dash] at this
    cases this
  have hge := Lib.indexByte_ge l 45
  by_cases hm : Lib.indexByte l 45 = -1
  · have hc : cutL l 45 = (l, [], false) := by unfold cutL; rw [if_pos hm]
    have h1 : keyOf l = none := by
      unfold keyOf
      rw [hc]
      cases unhex l <;> simp
    rw [h1]
    unfold parse17
    rw [if_neg]
    rintro ⟨h2, h3, _⟩
    refine Lib.indexByte_none hm 64 ?_
    rw [List.getElem?_eq_getElem (by omega)]
    rw [List.getD_eq_getElem?_getD, List.getElem?_eq_getElem (by omega)] at h3
    simpa using h3
  · obtain ⟨i, hi⟩ : ∃ i : Nat, Lib.indexByte l 45 = i := ⟨(Lib.indexByte l 45).toNat, by omega⟩
    obtain ⟨hat, hbefore⟩ := Lib.indexByte_some hi
    have hil : i < l.length := (List.getElem?_eq_some_iff.1 hat).1
    have hc : cutL l 45 = (l.take i, l.drop (i + 1), true) := by unfold cutL; rw [if_neg hm, hi]; rfl
    unfold keyOf
    rw [hc]
    simp only [true_and]
    by_cases h64 : i = 64
    · subst h64
      unfold parse17
      have h45 : l.getD 64 0 = 45 := by rw [List.getD_eq_getElem?_getD, hat]; rfl
      have hdl : (l.drop 65).getD 0 0 = l.getD 65 0 := by simp [List.getD_eq_getElem?_getD]
      rw [hdl, List.length_drop]
      cases hu : unhex (l.take 64) with
      | none => simp
      | some b =>
        have h32 := (unhex_digs _ _ hu).1
        rw [List.length_take] at h32
        have hb : b.length = 32 := by omega
        simp only [hb, h45, Option.map_some, true_and]
        have hk : ∀ n : Nat, (kOk ((n : Int) - 48) = true ↔ 49 ≤ n ∧ n ≤ 52) := fun n => by unfold kOk; simp; omega
        by_cases h66 : l.length = 66
        · have : l.length - 65 = 1 := by omega
          simp only [h66, true_and, hk]
        · have : ¬ (l.length - 65 = 1) := by omega
          simp only [h66, this, false_and, if_false]
    · have h1 : parse17 l = none := by
        unfold parse17
        split
        · rename_i hh
          obtain ⟨h2, h3, _⟩ := hh
          cases hu : unhex (l.take 64) with
          | none => rfl
          | some b =>
            exfalso
            have h4 : l[64]? = some 45 := by
              rw [List.getElem?_eq_getElem (by omega)]
              rw [List.getD_eq_getElem?_getD, List.getElem?_eq_getElem (by omega)] at h3
              simpa using h3
            rcases Nat.lt_or_ge i 64 with h5 | h5
            · exact hd 64 b hu i h5 hat
            · exact hbefore 64 (by omega) h4
        · rfl
      rw [h1]
      cases hu : unhex (l.take i) with
      | none => rfl
      | some b =>
        have h32 := (unhex_digs _ _ hu).1
        rw [List.length_take] at h32
        simp only
        rw [if_neg]
        rintro ⟨h5, _⟩
        omega
end Go.Proofs.YtfheocdciekfoaaDoor
