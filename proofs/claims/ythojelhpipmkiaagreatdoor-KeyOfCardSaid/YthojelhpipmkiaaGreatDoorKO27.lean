/- Texts of this proof joined: GramOpen, Laid17k. -/
import Derived.Test.YthojelhpipmkiaaGreatDoorRows
import Derived.Test.YthojelhpipmkiaaGreatDoorKO01
import Derived.Test.YthojelhpipmkiaaGreatDoorKO06
import Derived.Carry
import Derived.Test.YthojelhpipmkiaaGreatDoorCards
import Derived.Test.YthojelhpipmkiaaGreatDoorTie
import Derived.Test.YthojelhpipmkiaaGreatDoorKO25
import Derived.WalkKit
import Derived.ProofKit
import Derived.OpenShut
import Derived.Deep.DeepHandedRow
import Derived.Lib.LaidTab
import Derived.Stop.LaidErr
namespace Go.Proofs.YthojelhpipmkiaaGreatDoor
open Go.ChangeMaps (open_string)
open Go.ChangeShapes Go.WideShapes Go.ChangeAt Go.RowKit

section
variable {H : Type} {enc : TypeId × Value → H}
theorem opens_strs : Opens enc Tryz.prog (eSl eStr) 22 := opens_sl (opens_str Tryz.underlying9) Tryz.underlying22 (by kernel_rfl) (by decide)
theorem opens_ints : Opens enc Tryz.prog (eSl eInt) 34 := opens_sl (opens_int Tryz.underlying3) Tryz.underlying34 (by kernel_rfl) (by decide)
theorem opens_rule : Opens enc Tryz.prog eRule 36 := opens_two Tryz.underlying36 (opens_int Tryz.underlying3) opens_ints (by kernel_rfl) (by kernel_rfl) rfl rfl (by kernel_rfl)
theorem opens_rules : Opens enc Tryz.prog (eSl eRule) 23 := opens_sl opens_rule Tryz.underlying23 (by kernel_rfl) (by decide)
def eGram : Elt Gram := eProd (eSl eStr) (eProd (eSl eStr) (eSl eRule))
theorem opens_gram : Opens enc Tryz.prog eGram 25 := opens_three Tryz.underlying25 opens_strs opens_strs opens_rules (by kernel_rfl) (by kernel_rfl) (by kernel_rfl) rfl rfl rfl (by kernel_rfl)
end
end Go.Proofs.YthojelhpipmkiaaGreatDoor
namespace Go.Proofs.YthojelhpipmkiaaGreatDoor
open Go.ChangeShapes Go.WideShapes Go.ChangeAt Go.RowKit

theorem own : ownKnob Tryz.prog.godebug = none := by kernel_rfl
theorem laidOut : laidOutB Tryz.prog = true := by kernel_rfl
theorem gTab : Tryz.prog.globalNamed "internal/strconv.uint64pow10" = some 3 := by kernel_rfl
theorem gTabType : (Tryz.prog.globals[3]?).map (·.type) = some 179 := by kernel_rfl
theorem cellsTab : Tryz.prog.cellsOf 179 = 20 := by kernel_rfl
theorem cellsU64 : Tryz.prog.cellsOf 118 = 1 := by kernel_rfl
theorem gES : Tryz.prog.globalNamed "strconv.ErrSyntax" = some 0 := by kernel_rfl
theorem gESType : (Tryz.prog.globals[0]?).map (·.type) = some 54 := by kernel_rfl
theorem gER : Tryz.prog.globalNamed "strconv.ErrRange" = some 1 := by kernel_rfl
theorem gERType : (Tryz.prog.globals[1]?).map (·.type) = some 54 := by kernel_rfl
theorem cellsES : Tryz.prog.cellsOf 177 = 1 := by kernel_rfl
theorem cellsStr : Tryz.prog.cellsOf 9 = 1 := by kernel_rfl
theorem starES : "*" ++ "errors.errorString" = "*errors.errorString" := by decide
theorem rowES (u : TypeId) (h : Tryz.prog.typeName? 3 u = some "*errors.errorString") : u = 175 :=
 typeName_ptr_named (nm := "errors.errorString") (by rw [starES]; kernel_rfl) (by kernel_rfl) (by decide) u (by rw [starES]; exact h)
abbrev list17 : List (String × DataW Unit) := Rows.keyOfRow.laid
theorem tabs_of {W : World} (h : laidMetH Tryz.prog list17 W) : Tabs W := by
 have h0 : laidMet Tryz.prog list17 W := h
 refine ⟨Lib.tabIs_of_head gTab gTabType Tryz.underlying179 Tryz.underlying118 cellsU64 cellsTab h0.tail.tail, ?_, ?_⟩
 ·obtain ⟨a0, s0, hv0, -, -, -⟩ := laid_sentinel h0.tail.tail.tail.tail gES gESType Tryz.underlying54 rowES Tryz.underlying175 Tryz.underlying177 rfl rfl Tryz.underlying9 cellsES cellsStr
  exact ⟨_, _, hv0⟩
 ·obtain ⟨a0, s0, hv0, -, -, -⟩ := laid_sentinel h0.tail.tail.tail gER gERType Tryz.underlying54 rowES Tryz.underlying175 Tryz.underlying177 rfl rfl Tryz.underlying9 cellsES cellsStr
  exact ⟨_, _, hv0⟩
noncomputable def low : Nat := (World.holding Tryz.prog default ⟨#[], #[], []⟩).heap.size
def tab32 : Array Value := (#[0, 1, 28, 2, 29, 14, 24, 3, 30, 22, 20, 15, 25, 17, 4, 8, 31, 27, 13, 23, 21, 19, 16, 7, 26, 12, 18, 6, 11, 5, 10, 9] : Array Int).map fun z => .int .u8 z
def tab64 : Array Value := (#[0, 1, 56, 2, 57, 49, 28, 3, 61, 58, 42, 50, 38, 29, 17, 4, 62, 47, 59, 36, 45, 43, 51, 22, 53, 39, 33, 30, 24, 18, 12, 5, 63, 55, 48, 27, 60, 41, 37, 16, 46, 35, 44, 21, 52, 32, 23, 11, 54, 26, 40, 15, 34, 20, 31, 10, 25, 14, 19, 9, 13, 8, 7, 6] : Array Int).map fun z => .int .u8 z
def tabPow : Array Value := (#[1, 10, 100, 1000, 10000, 100000, 1000000, 10000000, 100000000, 1000000000, 10000000000, 100000000000, 1000000000000, 10000000000000, 100000000000000, 1000000000000000, 10000000000000000, 100000000000000000, 1000000000000000000, 10000000000000000000] : Array Int).map fun z => .int .u64 z
abbrev synS : ByteArray := ⟨#[105, 110, 118, 97, 108, 105, 100, 32, 115, 121, 110, 116, 97, 120]⟩
abbrev rngS : ByteArray := ⟨#[118, 97, 108, 117, 101, 32, 111, 117, 116, 32, 111, 102, 32, 114, 97, 110, 103, 101]⟩
def putIn (cs : Array Value) : Obj → Obj
 |.cells _ t frozen => .cells cs t frozen
 |o => o
noncomputable def laidWorld (os : Os) : World :=
 let w0 := World.holding Tryz.prog os ⟨#[.cells #[.string synS] 177, .cells #[.string rngS] 177], #[], []⟩
 { w0 with heap := ((((w0.heap.modify 4 (putIn tab32)).modify 5 (putIn tab64)).modify 3 (putIn tabPow)).modify
   0 (putIn #[.iface 175 (.pointer (some ⟨low, 0, none⟩))])).modify 1 (putIn #[.iface 175 (.pointer (some ⟨low + 1, 0, none⟩))]) }
theorem laid17_met (os : Os) (args : Array Value) : laidMet Tryz.prog list17 ((laidWorld os).forCall (fun _ _ => 0) ⟨#[], args, []⟩).memory :=
 laidMet_of_run' 8 (by kernel_rfl) (by kernel_rfl)
end Go.Proofs.YthojelhpipmkiaaGreatDoor
