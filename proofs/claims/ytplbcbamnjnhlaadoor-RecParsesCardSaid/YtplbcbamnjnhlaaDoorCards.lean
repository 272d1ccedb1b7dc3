/-
  DERIVED. GIVEN WITH THE SEED: THE CARDS: each row of YtplbcbamnjnhlaaDoorRows.lean that lists a variable, with what it lists TIED to the program's text (the seventh form; the later family's looks); each row that meets fmt, with fmt's text TOLD by the authors' own Lean function (tested against real Go, not proved from fmt's source: count such statements apart). THE CARD IS WHAT COUNTS. Prove the row's statement (the work); the ties are given (YtplbcbamnjnhlaaDoorTie.lean); close each card by the builder's one call (the guide's Derived/Test/ToyasCard.lean, 'card_holds'). Laid BY PROGRAM, IN A SANDBOX (cutbox-door.mjs). By AI agents, Wed Nov 11 2026. No macro, syntax, notation, axiom, sorry.
-/
import Derived.Test.YtplbcbamnjnhlaaDoorRows
import GoSem.ClaimSeven
namespace Go.Proofs.YtplbcbamnjnhlaaDoor
namespace Rows

/-- THE TIED CARD OF 'repertorylaw32.RecParses'. -/
def recParsesCard : Claim7 := { stood := { row := recParsesRow, standIns := [], harness := (true, "5ac8544740eaa9205685ba87630906cf7ae849660c7c5b3ad44a122f0d5966fb"), looks := false }, kinds := [], alts := [], laidByText := true, laidKinds := [.data, .data, .data], laidTests := true, laidLooks := .later }
def RecParsesCardSaid : Prop := Claim7.holds Tryd.pinned (.plain (OpenSpec.ofChange recParsesSpec)) recParsesCard

/-- THE SECOND FORM's CARD OF 'repertorylaw32.RecParses'. -/
def recParsesUptoCard : Claim7 := { stood := { row := recParsesUptoRow, standIns := [], harness := (true, "5ac8544740eaa9205685ba87630906cf7ae849660c7c5b3ad44a122f0d5966fb"), looks := false }, kinds := [], alts := [], laidByText := true, laidKinds := [.data, .data, .data], laidTests := true, laidLooks := .later }
def RecParsesUptoCardSaid : Prop := Claim7.holds Tryd.pinned (.plain (OpenSpec.upto recParsesSpec)) recParsesUptoCard
end Rows
end Go.Proofs.YtplbcbamnjnhlaaDoor
