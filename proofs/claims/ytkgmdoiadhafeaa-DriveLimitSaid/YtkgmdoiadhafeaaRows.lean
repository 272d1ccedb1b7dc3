/-
  No cell of these rows narrows 'for every input' (looked for: loops, veiled, ifaces, maps, wideKeys, modest, calm, conditions, laid).
  DERIVED. THE GIVEN ROWS OF THIS SEAT. 2 by the template 'for every input the law returns true; each argument reads behind the call as it read before'; 0 by the template 'total and deterministic' (their statements: YtkgmdoiadhafeaaTotals.lean).
  GIVEN WITH THE SEED: the statements are not yours to turn. If you find one false, say at which input.
  Laid BY PROGRAM, IN A SANDBOX (cutbox-rows.mjs): the forced cells as the released guide's own fill.sh prints them over the translation bb9096c336487b8a… (all of the seat's roots in one cut). By AI agents, Wed Nov 11 2026. No macro, syntax, notation, axiom, sorry.
-/
import Derived.Test.YtkgmdoiadhafeaaChecked
import GoSem.Claim
import GoSem.ClaimJoined
import GoSem.ClaimMapViews
import Derived.JoinedTies
import Derived.KernelRfl
namespace Go.Proofs.Ytkgmdoiadhafeaa
/- THE CELL 'sum', in the pinned program and in every row, IS THE sha256 OF THE DUMP (.gsa) THAT YtkgmdoiadhafeaaProg.lean LOADS. Nothing in Lean hashes anything: it is a label: what it is worth is what the hold of that sum in a sandbox is worth. -/
noncomputable def Try.pinned : Pinned := { name := "ytkgmdoiadhafeaa", sum := "bb9096c336487b8a4de6a0416278ba2445ec2303cc25e360b7958a6985194330", checked := Try.checked }
namespace Rows
def none {H : Type} : Left H := { results := [], args := [] }

/-- 'repertorylaw28.DriveLimit': WHATEVER THE INPUT: true; the input reads as it did. -/
def driveLimitSpec : ChangeSpec := { name := "driveLimit", fn := fun _ => fun
  | [d1, d2] => { results := [.lit (.bool true)], args := [d1, d2] }
  | _ => none }
def driveLimitRow : OpenClaim := { program := "ytkgmdoiadhafeaa", sum := "bb9096c336487b8a4de6a0416278ba2445ec2303cc25e360b7958a6985194330", func := "repertory/repertorylaw28.DriveLimit", spec := "driveLimit", unfollowed := true, recurses := true, apart := false }
def DriveLimitSaid : Prop := driveLimitRow.holds Try.pinned (OpenSpec.ofChange driveLimitSpec)

/-- ITS FALSE NEIGHBOUR: 'it returns false'. Refute it at one input. -/
def driveLimitWrong : ChangeSpec := { name := "driveLimit", fn := fun _ => fun
  | [d1, d2] => { results := [.lit (.bool false)], args := [d1, d2] }
  | _ => none }
def DriveLimitWrongFalsely : Prop := driveLimitRow.holds Try.pinned (OpenSpec.ofChange driveLimitWrong)

/-- 'repertorylaw28.DriveParses': WHATEVER THE INPUT: true; the input reads as it did. -/
def driveParsesSpec : ChangeSpec := { name := "driveParses", fn := fun _ => fun
  | [d1, d2, d3, d4] => { results := [.lit (.bool true)], args := [d1, d2, d3, d4] }
  | _ => none }
def driveParsesRow : OpenClaim := { program := "ytkgmdoiadhafeaa", sum := "bb9096c336487b8a4de6a0416278ba2445ec2303cc25e360b7958a6985194330", func := "repertory/repertorylaw28.DriveParses", spec := "driveParses", unfollowed := true, recurses := true, apart := false }
def DriveParsesSaid : Prop := driveParsesRow.holds Try.pinned (OpenSpec.ofChange driveParsesSpec)

/-- ITS FALSE NEIGHBOUR: 'it returns false'. Refute it at one input. -/
def driveParsesWrong : ChangeSpec := { name := "driveParses", fn := fun _ => fun
  | [d1, d2, d3, d4] => { results := [.lit (.bool false)], args := [d1, d2, d3, d4] }
  | _ => none }
def DriveParsesWrongFalsely : Prop := driveParsesRow.holds Try.pinned (OpenSpec.ofChange driveParsesWrong)

/- THE SECOND FORM. 'bulk': how many values and letters a reading holds, each counted each time it is reached (what is shared counts as often as it is met; a slice's spare places count too). A statement '..UptoSaid' is the law's where the arguments, and the package variables that the reading takes, are together of bulk at most 1048576: NARROWER than '..Said'. Prove '..Said' where nothing that the law and all that it calls make is longer than what came in: it says more and counts as full. Else prove '..UptoSaid'. A law counts once. -/
mutual
def uptoBulk {H : Type} : DataW H → Nat
  | .lit (.string bytes) => bytes.length + 1
  | .lit _ => 1
  | .nil => 1
  | .ptr d => uptoBulk d + 1
  | .slice elems spare => uptoBulkAll elems + uptoBulkAll spare + 1
  | .agg parts => uptoBulkAll parts + 1
  | .iface _ d => uptoBulk d + 1
  | .map entries => uptoBulkEntries entries + 1
  | .held _ => 1
def uptoBulkAll {H : Type} : List (DataW H) → Nat
  | [] => 0
  | d :: r => uptoBulk d + uptoBulkAll r
def uptoBulkEntries {H : Type} : List (Lit × DataW H) → Nat
  | [] => 0
  | x :: r => uptoBulkEntry x + uptoBulkEntries r
def uptoBulkEntry {H : Type} : Lit × DataW H → Nat
  | (.string bytes, d) => bytes.length + uptoBulk d + 1
  | (_, d) => uptoBulk d + 1
 end
def uptoSmall : (H : Type) → List (DataW H) → Bool := fun _ ds => decide (uptoBulkAll ds ≤ 1048576)
def OpenSpec.upto (s : _root_.Go.ChangeSpec) : _root_.Go.OpenSpec := { _root_.Go.OpenSpec.ofChange s with cond := some uptoSmall }

/-- 'repertorylaw28.DriveLimit', WHERE WHAT IT READS IS OF BULK AT MOST 1048576: true; the input reads as it did. -/
def driveLimitUptoRow : OpenClaim := { program := "ytkgmdoiadhafeaa", sum := "bb9096c336487b8a4de6a0416278ba2445ec2303cc25e360b7958a6985194330", func := "repertory/repertorylaw28.DriveLimit", spec := "driveLimit", unfollowed := true, recurses := true, apart := false, narrowed := true }
def DriveLimitUptoSaid : Prop := driveLimitUptoRow.holds Try.pinned (OpenSpec.upto driveLimitSpec)

/-- 'repertorylaw28.DriveParses', WHERE WHAT IT READS IS OF BULK AT MOST 1048576: true; the input reads as it did. -/
def driveParsesUptoRow : OpenClaim := { program := "ytkgmdoiadhafeaa", sum := "bb9096c336487b8a4de6a0416278ba2445ec2303cc25e360b7958a6985194330", func := "repertory/repertorylaw28.DriveParses", spec := "driveParses", unfollowed := true, recurses := true, apart := false, narrowed := true }
def DriveParsesUptoSaid : Prop := driveParsesUptoRow.holds Try.pinned (OpenSpec.upto driveParsesSpec)

end Rows
end Go.Proofs.Ytkgmdoiadhafeaa
