/- Contracts of hex.digits and hex.value, for every world. -/
import Derived.Test.YtfheocdciekfoaaDoorChecked
import Derived.Test.YtfheocdciekfoaaDoorWords
namespace Go.Proofs.YtfheocdciekfoaaDoor
open Go.RowKit

def digArr : Array Value := #[.int .u8 48, .int .u8 49, .int .u8 50, .int .u8 51, .int .u8 52, .int .u8 53, .int .u8 54, .int .u8 55, .int .u8 56, .int .u8 57, .int .u8 97, .int .u8 98, .int .u8 99, .int .u8 100, .int .u8 101, .int .u8 102]

set_option maxHeartbeats 400000 in
theorem hex_digits (w : World) :
    Calls Tryd.prog 92 #[] w fun e w' => e = .returned (.agg digArr) ∧ Below w.heap.size w w' := by
  go_enter Tryd.func92, Tryd.ntmps92
  go_wp2
  refine bodyPost_ret (v := .agg digArr) (by simp [results, Tryd.results92, go_sem, digArr]) rfl ⟨rfl, ?_⟩
  go_grown

/-- digit number k -/
def digAt (k : Nat) : Int := if k < 10 then 48 + k else 87 + k
/-- what a digit is worth -/
def digVal (c : Int) : Option Int := if 48 ≤ c ∧ c ≤ 57 then some (c - 48) else if 97 ≤ c ∧ c ≤ 102 then some (c - 87) else none

theorem dig_get (k : Nat) (hk : k < 16) : digArr[k]? = some (Value.int .u8 (digAt k)) := by
  have hall : ∀ j : Fin 16, digArr[j.val]? = some (Value.int .u8 (digAt j.val)) := by
    intro j
    match j with
    | ⟨0, _⟩ | ⟨1, _⟩ | ⟨2, _⟩ | ⟨3, _⟩ | ⟨4, _⟩ | ⟨5, _⟩ | ⟨6, _⟩ | ⟨7, _⟩ | ⟨8, _⟩ | ⟨9, _⟩ | ⟨10, _⟩ | ⟨11, _⟩ | ⟨12, _⟩ | ⟨13, _⟩ | ⟨14, _⟩ | ⟨15, _⟩ => rfl
    | ⟨n + 16, h⟩ => omega
  exact hall ⟨k, hk⟩
theorem dig_index (k : Nat) (hk : k < 16) (w : World) : (Instr.index 138 (.agg digArr) (.int .i64 (k : Int))).run Tryd.prog w = .ok (.int .u8 (digAt k)) w := by
  have h := dig_get k hk
  simp [Instr.index, asIntOf, run_underlying Tryd.underlying138, go_sem, hk, h]

end Go.Proofs.YtfheocdciekfoaaDoor
