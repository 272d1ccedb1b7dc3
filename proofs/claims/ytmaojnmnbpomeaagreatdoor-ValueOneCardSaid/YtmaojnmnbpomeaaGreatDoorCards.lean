/-
  DERIVED. GIVEN WITH THE SEED: THE CARDS: each row of YtmaojnmnbpomeaaGreatDoorRows.lean that lists a variable, with what it lists TIED to the program's text (the seventh form; the later family's looks); each row that meets fmt, with fmt's text TOLD by the authors' own Lean function (tested against real Go, not proved from fmt's source: count such statements apart). THE CARD IS WHAT COUNTS. Prove the row's statement (the work); the ties are given (YtmaojnmnbpomeaaGreatDoorTie.lean); close each card by the builder's one call (the guide's Derived/Test/ToyasCard.lean, 'card_holds'). Laid BY PROGRAM, IN A SANDBOX (cutbox-door.mjs). By AI agents, Wed Nov 11 2026. No macro, syntax, notation, axiom, sorry.
-/
import Derived.Test.YtmaojnmnbpomeaaGreatDoorRows
import GoSem.ClaimSeven
namespace Go.Proofs.YtmaojnmnbpomeaaGreatDoor
namespace Rows

/-- THE TIED CARD OF 'repertorylaw29.ValueOf'. -/
def valueOfCard : Claim7 := { stood := { row := valueOfRow, standIns := [], harness := (true, "e072efceee576dbec2cf167d7bc78251c5f76801bca184337b697e39a00aad2c"), looks := false }, kinds := [], alts := [], laidByText := true, laidKinds := [.data, .data, .data], laidTests := true, laidLooks := .later }
def ValueOfCardSaid : Prop := Claim7.holds Tryz.pinned (.plain (OpenSpec.ofChange valueOfSpec)) valueOfCard

/-- THE TIED CARD OF 'repertorylaw29.ValueMakes'. -/
def valueMakesCard : Claim7 := { stood := { row := valueMakesRow, standIns := [], harness := (true, "e072efceee576dbec2cf167d7bc78251c5f76801bca184337b697e39a00aad2c"), looks := false }, kinds := [], alts := [], laidByText := true, laidKinds := [.data, .data, .data], laidTests := true, laidLooks := .later }
def ValueMakesCardSaid : Prop := Claim7.holds Tryz.pinned (.plain (OpenSpec.ofChange valueMakesSpec)) valueMakesCard

/-- THE TIED CARD OF 'repertorylaw29.ValueOne'. -/
def valueOneCard : Claim7 := { stood := { row := valueOneRow, standIns := [], harness := (true, "e072efceee576dbec2cf167d7bc78251c5f76801bca184337b697e39a00aad2c"), looks := false }, kinds := [], alts := [], laidByText := true, laidKinds := [.data, .data, .data], laidTests := true, laidLooks := .later }
def ValueOneCardSaid : Prop := Claim7.holds Tryz.pinned (.plain (OpenSpec.ofChange valueOneSpec)) valueOneCard

/-- THE TIED CARD OF 'repertorylaw29.ValueRight'. -/
def valueRightCard : Claim7 := { stood := { row := valueRightRow, standIns := [], harness := (true, "e072efceee576dbec2cf167d7bc78251c5f76801bca184337b697e39a00aad2c"), looks := false }, kinds := [], alts := [], laidByText := true, laidKinds := [.data, .data, .data], laidTests := true, laidLooks := .later }
def ValueRightCardSaid : Prop := Claim7.holds Tryz.pinned (.plain (OpenSpec.ofChange valueRightSpec)) valueRightCard

/-- THE SECOND FORM's CARD OF 'repertorylaw29.ValueOf'. -/
def valueOfUptoCard : Claim7 := { stood := { row := valueOfUptoRow, standIns := [], harness := (true, "e072efceee576dbec2cf167d7bc78251c5f76801bca184337b697e39a00aad2c"), looks := false }, kinds := [], alts := [], laidByText := true, laidKinds := [.data, .data, .data], laidTests := true, laidLooks := .later }
def ValueOfUptoCardSaid : Prop := Claim7.holds Tryz.pinned (.plain (OpenSpec.upto valueOfSpec)) valueOfUptoCard

/-- THE SECOND FORM's CARD OF 'repertorylaw29.ValueMakes'. -/
def valueMakesUptoCard : Claim7 := { stood := { row := valueMakesUptoRow, standIns := [], harness := (true, "e072efceee576dbec2cf167d7bc78251c5f76801bca184337b697e39a00aad2c"), looks := false }, kinds := [], alts := [], laidByText := true, laidKinds := [.data, .data, .data], laidTests := true, laidLooks := .later }
def ValueMakesUptoCardSaid : Prop := Claim7.holds Tryz.pinned (.plain (OpenSpec.upto valueMakesSpec)) valueMakesUptoCard

/-- THE SECOND FORM's CARD OF 'repertorylaw29.ValueOne'. -/
def valueOneUptoCard : Claim7 := { stood := { row := valueOneUptoRow, standIns := [], harness := (true, "e072efceee576dbec2cf167d7bc78251c5f76801bca184337b697e39a00aad2c"), looks := false }, kinds := [], alts := [], laidByText := true, laidKinds := [.data, .data, .data], laidTests := true, laidLooks := .later }
def ValueOneUptoCardSaid : Prop := Claim7.holds Tryz.pinned (.plain (OpenSpec.upto valueOneSpec)) valueOneUptoCard

/-- THE SECOND FORM's CARD OF 'repertorylaw29.ValueRight'. -/
def valueRightUptoCard : Claim7 := { stood := { row := valueRightUptoRow, standIns := [], harness := (true, "e072efceee576dbec2cf167d7bc78251c5f76801bca184337b697e39a00aad2c"), looks := false }, kinds := [], alts := [], laidByText := true, laidKinds := [.data, .data, .data], laidTests := true, laidLooks := .later }
def ValueRightUptoCardSaid : Prop := Claim7.holds Tryz.pinned (.plain (OpenSpec.upto valueRightSpec)) valueRightUptoCard
end Rows
end Go.Proofs.YtmaojnmnbpomeaaGreatDoor
