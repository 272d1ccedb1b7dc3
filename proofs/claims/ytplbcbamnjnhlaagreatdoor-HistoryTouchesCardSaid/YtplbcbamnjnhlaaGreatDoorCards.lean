/-
  DERIVED. GIVEN WITH THE SEED: THE CARDS: each row of YtplbcbamnjnhlaaGreatDoorRows.lean that lists a variable, with what it lists TIED to the program's text (the seventh form; the later family's looks); each row that meets fmt, with fmt's text TOLD by the authors' own Lean function (tested against real Go, not proved from fmt's source: count such statements apart). THE CARD IS WHAT COUNTS. Prove the row's statement (the work); the ties are given (YtplbcbamnjnhlaaGreatDoorTie.lean); close each card by the builder's one call (the guide's Derived/Test/ToyasCard.lean, 'card_holds'). Laid BY PROGRAM, IN A SANDBOX (cutbox-door.mjs). By AI agents, Wed Nov 11 2026. No macro, syntax, notation, axiom, sorry.
-/
import Derived.Test.YtplbcbamnjnhlaaGreatDoorRows
import GoSem.ClaimSeven
namespace Go.Proofs.YtplbcbamnjnhlaaGreatDoor
namespace Rows

/-- THE TIED CARD OF 'repertorylaw33.BookBack'. -/
def bookBackCard : Claim7 := { stood := { row := bookBackRow, standIns := [], harness := (true, "84212f297a75e587faff4e6353a7edacb7f70fd16eac05f1dd039f94f4f101df"), looks := false }, kinds := [], alts := [], laidByText := true, laidKinds := [.data, .data, .data], laidTests := true, laidLooks := .later }
def BookBackCardSaid : Prop := Claim7.holds Tryz.pinned (.plain (OpenSpec.ofChange bookBackSpec)) bookBackCard

/-- THE TIED CARD OF 'repertorylaw49.HistoryOf'. -/
def historyOfCard : Claim7 := { stood := { row := historyOfRow, standIns := [], harness := (true, "84212f297a75e587faff4e6353a7edacb7f70fd16eac05f1dd039f94f4f101df"), looks := false }, kinds := [], alts := [], laidByText := true, laidKinds := [.data, .data, .data], laidTests := true, laidLooks := .later }
def HistoryOfCardSaid : Prop := Claim7.holds Tryz.pinned (.plain (OpenSpec.ofChange historyOfSpec)) historyOfCard

/-- THE TIED CARD OF 'repertorylaw49.HistoryTouches'. -/
def historyTouchesCard : Claim7 := { stood := { row := historyTouchesRow, standIns := [], harness := (true, "84212f297a75e587faff4e6353a7edacb7f70fd16eac05f1dd039f94f4f101df"), looks := false }, kinds := [], alts := [], laidByText := true, laidKinds := [.data, .data, .data], laidTests := true, laidLooks := .later }
def HistoryTouchesCardSaid : Prop := Claim7.holds Tryz.pinned (.plain (OpenSpec.ofChange historyTouchesSpec)) historyTouchesCard

/-- THE SECOND FORM's CARD OF 'repertorylaw33.BookBack'. -/
def bookBackUptoCard : Claim7 := { stood := { row := bookBackUptoRow, standIns := [], harness := (true, "84212f297a75e587faff4e6353a7edacb7f70fd16eac05f1dd039f94f4f101df"), looks := false }, kinds := [], alts := [], laidByText := true, laidKinds := [.data, .data, .data], laidTests := true, laidLooks := .later }
def BookBackUptoCardSaid : Prop := Claim7.holds Tryz.pinned (.plain (OpenSpec.upto bookBackSpec)) bookBackUptoCard

/-- THE SECOND FORM's CARD OF 'repertorylaw49.HistoryOf'. -/
def historyOfUptoCard : Claim7 := { stood := { row := historyOfUptoRow, standIns := [], harness := (true, "84212f297a75e587faff4e6353a7edacb7f70fd16eac05f1dd039f94f4f101df"), looks := false }, kinds := [], alts := [], laidByText := true, laidKinds := [.data, .data, .data], laidTests := true, laidLooks := .later }
def HistoryOfUptoCardSaid : Prop := Claim7.holds Tryz.pinned (.plain (OpenSpec.upto historyOfSpec)) historyOfUptoCard

/-- THE SECOND FORM's CARD OF 'repertorylaw49.HistoryTouches'. -/
def historyTouchesUptoCard : Claim7 := { stood := { row := historyTouchesUptoRow, standIns := [], harness := (true, "84212f297a75e587faff4e6353a7edacb7f70fd16eac05f1dd039f94f4f101df"), looks := false }, kinds := [], alts := [], laidByText := true, laidKinds := [.data, .data, .data], laidTests := true, laidLooks := .later }
def HistoryTouchesUptoCardSaid : Prop := Claim7.holds Tryz.pinned (.plain (OpenSpec.upto historyTouchesSpec)) historyTouchesUptoCard
end Rows
end Go.Proofs.YtplbcbamnjnhlaaGreatDoor
