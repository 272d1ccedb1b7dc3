/- Arrays of bytes, and a hash with a number (a key), as arguments opened. No program is named here. -/
import Derived.Test.YtfheocdciekfoaaDoorRep
import Derived.Test.YtfheocdciekfoaaDoorAgg
import Derived.OpenShut
namespace Go.Proofs.YtfheocdciekfoaaDoor
open Go.ChangeShapes Go.WideShapes Go.ChangeAt Go.RowKit

section
variable {H : Type} {enc : TypeId × Value → H} {P : Program}
theorem opens_bytes {n : Nat} {t e : TypeId} (ht : P.underlying t = some (.array n e)) (he : P.underlying e = some (.int .u8)) (h1 : P.cellsOf e = 1) (hn : P.cellsOf t = n) : Opens enc P (eBytes n) t := by
  intro W fuel cs x h
  obtain ⟨xs, m, _, _, hc, hl, hel⟩ := DataW.trod_array ht h
  rw [hn] at hc
  rw [h1] at hel
  have hex : ∀ i, i < n → ∃ (u : Value) (b : UInt8), cs[i]? = some u ∧ u = bcell b := by
    intro i hi
    have h2 := hel i hi
    rw [List.getElem?_eq_getElem (by omega), Nat.mul_one] at h2
    obtain ⟨b, hb⟩ := opens_byte he W m _ _ h2
    have hb' : (cs.drop i).take 1 = [bcell b] := hb
    refine ⟨bcell b, b, ?_, rfl⟩
    have h3 : ((cs.drop i).take 1)[0]? = some (bcell b) := by rw [hb']; rfl
    rw [List.getElem?_take, if_pos (by omega), List.getElem?_drop] at h3
    simpa using h3
  obtain ⟨us, bs, l1, l2, hall⟩ := choose_list n (fun i (u : Value) (b : UInt8) => cs[i]? = some u ∧ u = bcell b) hex
  refine ⟨bs, ?_, l2⟩
  apply List.ext_getElem?
  intro i
  rcases Nat.lt_or_ge i n with hi | hi
  · obtain ⟨q1, q2⟩ := hall i _ _ (List.getElem?_eq_getElem (by omega)) (List.getElem?_eq_getElem (by omega))
    rw [q1, q2]
    unfold bcells
    rw [List.getElem?_map, List.getElem?_eq_getElem (by omega)]
    rfl
  · rw [List.getElem?_eq_none (by omega), List.getElem?_eq_none (by rw [bcells_length]; omega)]
/-- a hash of 32 bytes and a number -/
def eKey : Elt (List UInt8 × Int) := eProd (eBytes 32) eInt
theorem eKey_rep {w : World} {B : Nat} {cs : List Value} {x : List UInt8 × Int} (h : eKey.rep w B cs x) : cs = hkCells x.1 x.2 ∧ x.1.length = 32 ∧ -9223372036854775808 ≤ x.2 ∧ x.2 ≤ 9223372036854775807 := by
  obtain ⟨c1, c2, rfl, ⟨rfl, h2⟩, rfl, h3, h4⟩ := h
  exact ⟨rfl, h2, h3, h4⟩
theorem eKey_of {w : World} {B : Nat} {x : List UInt8 × Int} (h1 : x.1.length = 32) (h2 : -9223372036854775808 ≤ x.2) (h3 : x.2 ≤ 9223372036854775807) : eKey.rep w B (hkCells x.1 x.2) x :=
  ⟨_, _, rfl, ⟨rfl, h1⟩, rfl, h2, h3⟩
end
end Go.Proofs.YtfheocdciekfoaaDoor
