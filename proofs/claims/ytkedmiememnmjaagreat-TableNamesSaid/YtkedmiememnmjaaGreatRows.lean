/-
  No cell of these rows narrows 'for every input' (looked for: loops, veiled, ifaces, maps, wideKeys, modest, calm, conditions, laid).
  DERIVED. THE GIVEN ROWS OF THIS SEAT. 3 by the template 'for every input the law returns true; each argument reads behind the call as it read before'; 0 by the template 'total and deterministic' (their statements: YtkedmiememnmjaaGreatTotals.lean).
  GIVEN WITH THE SEED: the statements are not yours to turn. If you find one false, say at which input.
  Laid BY PROGRAM, IN A SANDBOX (cutbox-rows.mjs): the forced cells as the released guide's own fill.sh prints them over the translation 15c6677af1c0dc0e… (all of the seat's roots in one cut). By AI agents, Wed Nov 11 2026. No macro, syntax, notation, axiom, sorry.
-/
import Derived.Test.YtkedmiememnmjaaGreatChecked
import GoSem.Claim
import GoSem.ClaimJoined
import GoSem.ClaimMapViews
import Derived.JoinedTies
import Derived.KernelRfl
namespace Go.Proofs.YtkedmiememnmjaaGreat
/- THE CELL 'sum', in the pinned program and in every row, IS THE sha256 OF THE DUMP (.gsa) THAT YtkedmiememnmjaaGreatProg.lean LOADS. Nothing in Lean hashes anything: it is a label: what it is worth is what the hold of that sum in a sandbox is worth. -/
noncomputable def Tryz.pinned : Pinned := { name := "ytkedmiememnmjaagreat", sum := "15c6677af1c0dc0e7fde84d7605af2c63f453216f4462144b66552edd19c24a6", checked := Tryz.checked }
namespace Rows
def none {H : Type} : Left H := { results := [], args := [] }

/-- 'repertorylaw23.TableNames': WHATEVER THE INPUT: true; the input reads as it did. -/
def tableNamesSpec : ChangeSpec := { name := "tableNames", fn := fun _ => fun
  | [d1, d2] => { results := [.lit (.bool true)], args := [d1, d2] }
  | _ => none }
def tableNamesRow : OpenClaim := { program := "ytkedmiememnmjaagreat", sum := "15c6677af1c0dc0e7fde84d7605af2c63f453216f4462144b66552edd19c24a6", func := "repertory/repertorylaw23.TableNames", spec := "tableNames", inPlace := ["internal/bytealg.abigen_runtime_cmpstring"], unfollowed := true, recurses := true, apart := false }
def TableNamesSaid : Prop := tableNamesRow.holds Tryz.pinned (OpenSpec.ofChange tableNamesSpec)

/-- ITS FALSE NEIGHBOUR: 'it returns false'. Refute it at one input. -/
def tableNamesWrong : ChangeSpec := { name := "tableNames", fn := fun _ => fun
  | [d1, d2] => { results := [.lit (.bool false)], args := [d1, d2] }
  | _ => none }
def TableNamesWrongFalsely : Prop := tableNamesRow.holds Tryz.pinned (OpenSpec.ofChange tableNamesWrong)

/-- 'repertorylaw23.TableClashes': WHATEVER THE INPUT: true; the input reads as it did. -/
def tableClashesSpec : ChangeSpec := { name := "tableClashes", fn := fun _ => fun
  | [d1, d2] => { results := [.lit (.bool true)], args := [d1, d2] }
  | _ => none }
def tableClashesRow : OpenClaim := { program := "ytkedmiememnmjaagreat", sum := "15c6677af1c0dc0e7fde84d7605af2c63f453216f4462144b66552edd19c24a6", func := "repertory/repertorylaw23.TableClashes", spec := "tableClashes", inPlace := ["internal/bytealg.abigen_runtime_cmpstring"], unfollowed := true, recurses := true, apart := false }
def TableClashesSaid : Prop := tableClashesRow.holds Tryz.pinned (OpenSpec.ofChange tableClashesSpec)

/-- ITS FALSE NEIGHBOUR: 'it returns false'. Refute it at one input. -/
def tableClashesWrong : ChangeSpec := { name := "tableClashes", fn := fun _ => fun
  | [d1, d2] => { results := [.lit (.bool false)], args := [d1, d2] }
  | _ => none }
def TableClashesWrongFalsely : Prop := tableClashesRow.holds Tryz.pinned (OpenSpec.ofChange tableClashesWrong)

/-- 'repertorylaw23.TableIs': WHATEVER THE INPUT: true; the input reads as it did. -/
def tableIsSpec : ChangeSpec := { name := "tableIs", fn := fun _ => fun
  | [d1, d2, d3, d4, d5] => { results := [.lit (.bool true)], args := [d1, d2, d3, d4, d5] }
  | _ => none }
def tableIsRow : OpenClaim := { program := "ytkedmiememnmjaagreat", sum := "15c6677af1c0dc0e7fde84d7605af2c63f453216f4462144b66552edd19c24a6", func := "repertory/repertorylaw23.TableIs", spec := "tableIs", inPlace := ["internal/bytealg.abigen_runtime_cmpstring"], unfollowed := true, recurses := true, apart := false }
def TableIsSaid : Prop := tableIsRow.holds Tryz.pinned (OpenSpec.ofChange tableIsSpec)

/-- ITS FALSE NEIGHBOUR: 'it returns false'. Refute it at one input. -/
def tableIsWrong : ChangeSpec := { name := "tableIs", fn := fun _ => fun
  | [d1, d2, d3, d4, d5] => { results := [.lit (.bool false)], args := [d1, d2, d3, d4, d5] }
  | _ => none }
def TableIsWrongFalsely : Prop := tableIsRow.holds Tryz.pinned (OpenSpec.ofChange tableIsWrong)

/- THE SECOND FORM. 'bulk': how many values and letters a reading holds, each counted each time it is reached (what is shared counts as often as it is met; a slice's spare places count too). A statement '..UptoSaid' is the law's where the arguments, and the package variables that the reading takes, are together of bulk at most 1048576: NARROWER than '..Said'. Prove '..Said' where nothing that the law and all that it calls make is longer than what came in: it says more and counts as full. Else prove '..UptoSaid'. A law counts once. -/
mutual
def uptoBulk {H : Type} : DataW H → Nat
  | .lit (.string bytes) => bytes.length + 1
  | .lit _ => 1
  | .nil => 1
  | .ptr d => uptoBulk d + 1
  | .slice elems spare => uptoBulkAll elems + uptoBulkAll spare + 1
  | .agg parts => uptoBulkAll parts + 1
  | .iface _ d => uptoBulk d + 1
  | .map entries => uptoBulkEntries entries + 1
  | .held _ => 1
def uptoBulkAll {H : Type} : List (DataW H) → Nat
  | [] => 0
  | d :: r => uptoBulk d + uptoBulkAll r
def uptoBulkEntries {H : Type} : List (Lit × DataW H) → Nat
  | [] => 0
  | x :: r => uptoBulkEntry x + uptoBulkEntries r
def uptoBulkEntry {H : Type} : Lit × DataW H → Nat
  | (.string bytes, d) => bytes.length + uptoBulk d + 1
  | (_, d) => uptoBulk d + 1
 end
def uptoSmall : (H : Type) → List (DataW H) → Bool := fun _ ds => decide (uptoBulkAll ds ≤ 1048576)
def OpenSpec.upto (s : _root_.Go.ChangeSpec) : _root_.Go.OpenSpec := { _root_.Go.OpenSpec.ofChange s with cond := some uptoSmall }

/-- 'repertorylaw23.TableNames', WHERE WHAT IT READS IS OF BULK AT MOST 1048576: true; the input reads as it did. -/
def tableNamesUptoRow : OpenClaim := { program := "ytkedmiememnmjaagreat", sum := "15c6677af1c0dc0e7fde84d7605af2c63f453216f4462144b66552edd19c24a6", func := "repertory/repertorylaw23.TableNames", spec := "tableNames", inPlace := ["internal/bytealg.abigen_runtime_cmpstring"], unfollowed := true, recurses := true, apart := false, narrowed := true }
def TableNamesUptoSaid : Prop := tableNamesUptoRow.holds Tryz.pinned (OpenSpec.upto tableNamesSpec)

/-- 'repertorylaw23.TableClashes', WHERE WHAT IT READS IS OF BULK AT MOST 1048576: true; the input reads as it did. -/
def tableClashesUptoRow : OpenClaim := { program := "ytkedmiememnmjaagreat", sum := "15c6677af1c0dc0e7fde84d7605af2c63f453216f4462144b66552edd19c24a6", func := "repertory/repertorylaw23.TableClashes", spec := "tableClashes", inPlace := ["internal/bytealg.abigen_runtime_cmpstring"], unfollowed := true, recurses := true, apart := false, narrowed := true }
def TableClashesUptoSaid : Prop := tableClashesUptoRow.holds Tryz.pinned (OpenSpec.upto tableClashesSpec)

/-- 'repertorylaw23.TableIs', WHERE WHAT IT READS IS OF BULK AT MOST 1048576: true; the input reads as it did. -/
def tableIsUptoRow : OpenClaim := { program := "ytkedmiememnmjaagreat", sum := "15c6677af1c0dc0e7fde84d7605af2c63f453216f4462144b66552edd19c24a6", func := "repertory/repertorylaw23.TableIs", spec := "tableIs", inPlace := ["internal/bytealg.abigen_runtime_cmpstring"], unfollowed := true, recurses := true, apart := false, narrowed := true }
def TableIsUptoSaid : Prop := tableIsUptoRow.holds Tryz.pinned (OpenSpec.upto tableIsSpec)

end Rows
end Go.Proofs.YtkedmiememnmjaaGreat
