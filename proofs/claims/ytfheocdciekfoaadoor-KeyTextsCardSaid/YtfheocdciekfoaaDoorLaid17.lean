/- What the rows of law 17 list of the library's variables: what it gives, and a world in which it lies so. -/
import Derived.Test.YtfheocdciekfoaaDoorCards
import Derived.Test.YtfheocdciekfoaaDoorTie
import Derived.Test.YtfheocdciekfoaaDoorTabs
import Derived.Test.YtfheocdciekfoaaDoorClose
import Derived.WalkKit
import Derived.ProofKit
import Derived.OpenShut
import Derived.Deep.DeepHandedRow
import Derived.Lib.LaidTab
import Derived.Stop.LaidErr
namespace Go.Proofs.YtfheocdciekfoaaDoor
open Go.ChangeShapes Go.WideShapes Go.ChangeAt Go.RowKit

theorem own : ownKnob Tryd.prog.godebug = none := by kernel_rfl
theorem laidOut : laidOutB Tryd.prog = true := by kernel_rfl
theorem gTab : Tryd.prog.globalNamed "internal/strconv.uint64pow10" = some 3 := by kernel_rfl
theorem gTabType : (Tryd.prog.globals[3]?).map (·.type) = some 177 := by kernel_rfl
theorem cellsTab : Tryd.prog.cellsOf 177 = 20 := by kernel_rfl
theorem cellsU64 : Tryd.prog.cellsOf 113 = 1 := by kernel_rfl
theorem gES : Tryd.prog.globalNamed "strconv.ErrSyntax" = some 1 := by kernel_rfl
theorem gESType : (Tryd.prog.globals[1]?).map (·.type) = some 106 := by kernel_rfl
theorem gER : Tryd.prog.globalNamed "strconv.ErrRange" = some 2 := by kernel_rfl
theorem gERType : (Tryd.prog.globals[2]?).map (·.type) = some 106 := by kernel_rfl
theorem cellsES : Tryd.prog.cellsOf 184 = 1 := by kernel_rfl
theorem cellsStr : Tryd.prog.cellsOf 9 = 1 := by kernel_rfl
theorem starES : "*" ++ "errors.errorString" = "*errors.errorString" := by decide
theorem rowES (u : TypeId) (h : Tryd.prog.typeName? 3 u = some "*errors.errorString") : u = 182 :=
  typeName_ptr_named (nm := "errors.errorString") (by rw [starES]; kernel_rfl) (by kernel_rfl) (by decide) u (by rw [starES]; exact h)
/-- what the rows list -/
abbrev list17 : List (String × DataW Unit) := Rows.keyParsesRow.laid
theorem tabs_of {W : World} (h : laidMetH Tryd.prog list17 W) : Tabs W := by
  have h0 : laidMet Tryd.prog list17 W := h
  refine ⟨Lib.tabIs_of_head gTab gTabType Tryd.underlying177 Tryd.underlying113 cellsU64 cellsTab h0.tail.tail, ?_, ?_⟩
  · obtain ⟨a0, s0, hv0, -, -, -⟩ := laid_sentinel h0.tail.tail.tail.tail gES gESType Tryd.underlying106 rowES Tryd.underlying182 Tryd.underlying184 rfl rfl Tryd.underlying9 cellsES cellsStr
    exact ⟨_, _, hv0⟩
  · obtain ⟨a0, s0, hv0, -, -, -⟩ := laid_sentinel h0.tail.tail.tail gER gERType Tryd.underlying106 rowES Tryd.underlying182 Tryd.underlying184 rfl rfl Tryd.underlying9 cellsES cellsStr
    exact ⟨_, _, hv0⟩
/-- so many blocks has the settled world -/
noncomputable def low : Nat := (World.holding Tryd.prog default ⟨#[], #[], []⟩).heap.size
def tab32 : Array Value := (#[0, 1, 28, 2, 29, 14, 24, 3, 30, 22, 20, 15, 25, 17, 4, 8, 31, 27, 13, 23, 21, 19, 16, 7, 26, 12, 18, 6, 11, 5, 10, 9] : Array Int).map fun z => .int .u8 z
def tab64 : Array Value := (#[0, 1, 56, 2, 57, 49, 28, 3, 61, 58, 42, 50, 38, 29, 17, 4, 62, 47, 59, 36, 45, 43, 51, 22, 53, 39, 33, 30, 24, 18, 12, 5, 63, 55, 48, 27, 60, 41, 37, 16, 46, 35, 44, 21, 52, 32, 23, 11, 54, 26, 40, 15, 34, 20, 31, 10, 25, 14, 19, 9, 13, 8, 7, 6] : Array Int).map fun z => .int .u8 z
def tabPow : Array Value := (#[1, 10, 100, 1000, 10000, 100000, 1000000, 10000000, 100000000, 1000000000, 10000000000, 100000000000, 1000000000000, 10000000000000, 100000000000000, 1000000000000000, 10000000000000000, 100000000000000000, 1000000000000000000, 10000000000000000000] : Array Int).map fun z => .int .u64 z
abbrev synS : ByteArray := ⟨#[105, 110, 118, 97, 108, 105, 100, 32, 115, 121, 110, 116, 97, 120]⟩
abbrev rngS : ByteArray := ⟨#[118, 97, 108, 117, 101, 32, 111, 117, 116, 32, 111, 102, 32, 114, 97, 110, 103, 101]⟩
def putIn (cs : Array Value) : Obj → Obj
  | .cells _ t frozen => .cells cs t frozen
  | o => o
/-- a world in which the listed variables lie as the program's text lays them -/
noncomputable def laidWorld (os : Os) : World :=
  let w0 := World.holding Tryd.prog os ⟨#[.cells #[.string synS] 184, .cells #[.string rngS] 184], #[], []⟩
  { w0 with heap := ((((w0.heap.modify 4 (putIn tab32)).modify 5 (putIn tab64)).modify 3 (putIn tabPow)).modify
      1 (putIn #[.iface 182 (.pointer (some ⟨low, 0, none⟩))])).modify 2 (putIn #[.iface 182 (.pointer (some ⟨low + 1, 0, none⟩))]) }
theorem laid17_met (os : Os) (args : Array Value) : laidMet Tryd.prog list17 ((laidWorld os).forCall (fun _ _ => 0) ⟨#[], args, []⟩).memory :=
  laidMet_of_run' 8 (by kernel_rfl) (by kernel_rfl)
end Go.Proofs.YtfheocdciekfoaaDoor
