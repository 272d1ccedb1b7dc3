/-
  DERIVED. GIVEN WITH THE SEED: THE CARDS: each row of YtfpihflepeiagaaGreatDoorRows.lean that lists a variable, with what it lists TIED to the program's text (the seventh form; the later family's looks); each row that meets fmt, with fmt's text TOLD by the authors' own Lean function (tested against real Go, not proved from fmt's source: count such statements apart). THE CARD IS WHAT COUNTS. Prove the row's statement (the work); the ties are given (YtfpihflepeiagaaGreatDoorTie.lean); close each card by the builder's one call (the guide's Derived/Test/ToyasCard.lean, 'card_holds'). Laid BY PROGRAM, IN A SANDBOX (cutbox-door.mjs). By AI agents, Wed Nov 11 2026. No macro, syntax, notation, axiom, sorry.
-/
import Derived.Test.YtfpihflepeiagaaGreatDoorRows
import GoSem.ClaimSeven
namespace Go.Proofs.YtfpihflepeiagaaGreatDoor
namespace Rows

/-- THE TIED CARD OF 'repertorylaw26.LadfaNames'. -/
def ladfaNamesCard : Claim7 := { stood := { row := ladfaNamesRow, standIns := [], harness := (true, "c8cba7b2a077a881a057c9535cbf1ecdcf7b7924ff35325a3a9202ca5afe8aec"), looks := false }, kinds := [], alts := [], laidByText := true, laidKinds := [.data, .data, .data], laidTests := true, laidLooks := .later }
def LadfaNamesCardSaid : Prop := Claim7.holds Tryz.pinned (.plain (OpenSpec.ofChange ladfaNamesSpec)) ladfaNamesCard

/-- THE TIED CARD OF 'repertorylaw26.LadfaOf'. -/
def ladfaOfCard : Claim7 := { stood := { row := ladfaOfRow, standIns := [], harness := (true, "c8cba7b2a077a881a057c9535cbf1ecdcf7b7924ff35325a3a9202ca5afe8aec"), looks := false }, kinds := [], alts := [], laidByText := true, laidKinds := [.data, .data, .data], laidTests := true, laidLooks := .later }
def LadfaOfCardSaid : Prop := Claim7.holds Tryz.pinned (.plain (OpenSpec.ofChange ladfaOfSpec)) ladfaOfCard

/-- THE TIED CARD OF 'repertorylaw26.LadfaLeast'. -/
def ladfaLeastCard : Claim7 := { stood := { row := ladfaLeastRow, standIns := [], harness := (true, "c8cba7b2a077a881a057c9535cbf1ecdcf7b7924ff35325a3a9202ca5afe8aec"), looks := false }, kinds := [], alts := [], laidByText := true, laidKinds := [.data, .data, .data], laidTests := true, laidLooks := .later }
def LadfaLeastCardSaid : Prop := Claim7.holds Tryz.pinned (.plain (OpenSpec.ofChange ladfaLeastSpec)) ladfaLeastCard

/-- THE SECOND FORM's CARD OF 'repertorylaw26.LadfaNames'. -/
def ladfaNamesUptoCard : Claim7 := { stood := { row := ladfaNamesUptoRow, standIns := [], harness := (true, "c8cba7b2a077a881a057c9535cbf1ecdcf7b7924ff35325a3a9202ca5afe8aec"), looks := false }, kinds := [], alts := [], laidByText := true, laidKinds := [.data, .data, .data], laidTests := true, laidLooks := .later }
def LadfaNamesUptoCardSaid : Prop := Claim7.holds Tryz.pinned (.plain (OpenSpec.upto ladfaNamesSpec)) ladfaNamesUptoCard

/-- THE SECOND FORM's CARD OF 'repertorylaw26.LadfaOf'. -/
def ladfaOfUptoCard : Claim7 := { stood := { row := ladfaOfUptoRow, standIns := [], harness := (true, "c8cba7b2a077a881a057c9535cbf1ecdcf7b7924ff35325a3a9202ca5afe8aec"), looks := false }, kinds := [], alts := [], laidByText := true, laidKinds := [.data, .data, .data], laidTests := true, laidLooks := .later }
def LadfaOfUptoCardSaid : Prop := Claim7.holds Tryz.pinned (.plain (OpenSpec.upto ladfaOfSpec)) ladfaOfUptoCard

/-- THE SECOND FORM's CARD OF 'repertorylaw26.LadfaLeast'. -/
def ladfaLeastUptoCard : Claim7 := { stood := { row := ladfaLeastUptoRow, standIns := [], harness := (true, "c8cba7b2a077a881a057c9535cbf1ecdcf7b7924ff35325a3a9202ca5afe8aec"), looks := false }, kinds := [], alts := [], laidByText := true, laidKinds := [.data, .data, .data], laidTests := true, laidLooks := .later }
def LadfaLeastUptoCardSaid : Prop := Claim7.holds Tryz.pinned (.plain (OpenSpec.upto ladfaLeastSpec)) ladfaLeastUptoCard
end Rows
end Go.Proofs.YtfpihflepeiagaaGreatDoor
