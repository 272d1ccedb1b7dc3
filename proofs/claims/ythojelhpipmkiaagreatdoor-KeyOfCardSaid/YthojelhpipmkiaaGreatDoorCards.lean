/-
  DERIVED. GIVEN WITH THE SEED: THE CARDS: each row of YthojelhpipmkiaaGreatDoorRows.lean that lists a variable, with what it lists TIED to the program's text (the seventh form; the later family's looks); each row that meets fmt, with fmt's text TOLD by the authors' own Lean function (tested against real Go, not proved from fmt's source: count such statements apart). THE CARD IS WHAT COUNTS. Prove the row's statement (the work); the ties are given (YthojelhpipmkiaaGreatDoorTie.lean); close each card by the builder's one call (the guide's Derived/Test/ToyasCard.lean, 'card_holds'). Laid BY PROGRAM, IN A SANDBOX (cutbox-door.mjs). By AI agents, Wed Nov 11 2026. No macro, syntax, notation, axiom, sorry.
-/
import Derived.Test.YthojelhpipmkiaaGreatDoorRows
import GoSem.ClaimSeven
namespace Go.Proofs.YthojelhpipmkiaaGreatDoor
namespace Rows

/-- THE TIED CARD OF 'repertorylaw17.KeyOf'. -/
def keyOfCard : Claim7 := { stood := { row := keyOfRow, standIns := [], harness := (true, "6324e39d8d1036d22d11e65ad130e39193c99f3d9050515529d83b42be922006"), looks := true }, kinds := [], alts := [], laidByText := true, laidKinds := [.data, .data, .data, .sentinel, .sentinel], laidTests := true, laidLooks := .later }
def KeyOfCardSaid : Prop := Claim7.holds Tryz.pinned (.plain (OpenSpec.ofChange keyOfSpec)) keyOfCard

/-- THE SECOND FORM's CARD OF 'repertorylaw17.KeyOf'. -/
def keyOfUptoCard : Claim7 := { stood := { row := keyOfUptoRow, standIns := [], harness := (true, "6324e39d8d1036d22d11e65ad130e39193c99f3d9050515529d83b42be922006"), looks := true }, kinds := [], alts := [], laidByText := true, laidKinds := [.data, .data, .data, .sentinel, .sentinel], laidTests := true, laidLooks := .later }
def KeyOfUptoCardSaid : Prop := Claim7.holds Tryz.pinned (.plain (OpenSpec.upto keyOfSpec)) keyOfUptoCard
end Rows
end Go.Proofs.YthojelhpipmkiaaGreatDoor
