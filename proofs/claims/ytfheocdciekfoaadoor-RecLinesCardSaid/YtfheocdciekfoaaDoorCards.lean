/-
  DERIVED. GIVEN WITH THE SEED: THE CARDS: each row of YtfheocdciekfoaaDoorRows.lean that lists a variable, with what it lists TIED to the program's text (the seventh form; the later family's looks); each row that meets fmt, with fmt's text TOLD by the authors' own Lean function (tested against real Go, not proved from fmt's source: count such statements apart). THE CARD IS WHAT COUNTS. Prove the row's statement (the work); the ties are given (YtfheocdciekfoaaDoorTie.lean); close each card by the builder's one call (the guide's Derived/Test/ToyasCard.lean, 'card_holds'). Laid BY PROGRAM, IN A SANDBOX (cutbox-door.mjs). By AI agents, Wed Nov 11 2026. No macro, syntax, notation, axiom, sorry.
-/
import Derived.Test.YtfheocdciekfoaaDoorRows
import GoSem.ClaimSeven
namespace Go.Proofs.YtfheocdciekfoaaDoor
namespace Rows

/-- THE TIED CARD OF 'repertorylaw32.RecLines'. -/
def recLinesCard : Claim7 := { stood := { row := recLinesRow, standIns := [], harness := (true, "99dfb2decfa37d18d4f41d8740b798458afb4bf53fd590b7d9cdeee3f35beb11"), looks := true }, kinds := [], alts := [], laidByText := true, laidKinds := [.data, .data, .data], laidTests := true, laidLooks := .later }
def RecLinesCardSaid : Prop := Claim7.holds Tryd.pinned (.plain (OpenSpec.ofChange recLinesSpec)) recLinesCard

/-- THE TIED CARD OF 'repertorylaw32.RecParses'. -/
def recParsesCard : Claim7 := { stood := { row := recParsesRow, standIns := [], harness := (true, "99dfb2decfa37d18d4f41d8740b798458afb4bf53fd590b7d9cdeee3f35beb11"), looks := true }, kinds := [], alts := [], laidByText := true, laidKinds := [.data, .data, .data], laidTests := true, laidLooks := .later }
def RecParsesCardSaid : Prop := Claim7.holds Tryd.pinned (.plain (OpenSpec.ofChange recParsesSpec)) recParsesCard

/-- THE TIED CARD OF 'repertorylaw32.RecLost'. -/
def recLostCard : Claim7 := { stood := { row := recLostRow, standIns := [], harness := (true, "99dfb2decfa37d18d4f41d8740b798458afb4bf53fd590b7d9cdeee3f35beb11"), looks := true }, kinds := [], alts := [], laidByText := true, laidKinds := [.data, .data, .data], laidTests := true, laidLooks := .later }
def RecLostCardSaid : Prop := Claim7.holds Tryd.pinned (.plain (OpenSpec.ofChange recLostSpec)) recLostCard

/-- THE TIED CARD OF 'repertorylaw32.RecBurst'. -/
def recBurstCard : Claim7 := { stood := { row := recBurstRow, standIns := [], harness := (true, "99dfb2decfa37d18d4f41d8740b798458afb4bf53fd590b7d9cdeee3f35beb11"), looks := true }, kinds := [], alts := [], laidByText := true, laidKinds := [.data, .data, .data], laidTests := true, laidLooks := .later }
def RecBurstCardSaid : Prop := Claim7.holds Tryd.pinned (.plain (OpenSpec.ofChange recBurstSpec)) recBurstCard

/-- THE TIED CARD OF 'repertorylaw17.KeyParses'. -/
def keyParsesCard : Claim7 := { stood := { row := keyParsesRow, standIns := [], harness := (true, "99dfb2decfa37d18d4f41d8740b798458afb4bf53fd590b7d9cdeee3f35beb11"), looks := true }, kinds := [], alts := [], laidByText := true, laidKinds := [.data, .data, .data, .sentinel, .sentinel], laidTests := true, laidLooks := .later }
def KeyParsesCardSaid : Prop := Claim7.holds Tryd.pinned (.plain (OpenSpec.ofChange keyParsesSpec)) keyParsesCard

/-- THE TIED CARD OF 'repertorylaw17.KeyNames'. -/
def keyNamesCard : Claim7 := { stood := { row := keyNamesRow, standIns := [], harness := (true, "99dfb2decfa37d18d4f41d8740b798458afb4bf53fd590b7d9cdeee3f35beb11"), looks := true }, kinds := [], alts := [], laidByText := true, laidKinds := [.data, .data, .data, .sentinel, .sentinel], laidTests := true, laidLooks := .later }
def KeyNamesCardSaid : Prop := Claim7.holds Tryd.pinned (.plain (OpenSpec.ofChange keyNamesSpec)) keyNamesCard

/-- THE TIED CARD OF 'repertorylaw17.KeyReads'. -/
def keyReadsCard : Claim7 := { stood := { row := keyReadsRow, standIns := [], harness := (true, "99dfb2decfa37d18d4f41d8740b798458afb4bf53fd590b7d9cdeee3f35beb11"), looks := true }, kinds := [], alts := [], laidByText := true, laidKinds := [.data, .data, .data, .sentinel, .sentinel], laidTests := true, laidLooks := .later }
def KeyReadsCardSaid : Prop := Claim7.holds Tryd.pinned (.plain (OpenSpec.ofChange keyReadsSpec)) keyReadsCard

/-- THE TIED CARD OF 'repertorylaw17.KeyTexts'. -/
def keyTextsCard : Claim7 := { stood := { row := keyTextsRow, standIns := [], harness := (true, "99dfb2decfa37d18d4f41d8740b798458afb4bf53fd590b7d9cdeee3f35beb11"), looks := true }, kinds := [], alts := [], laidByText := true, laidKinds := [.data, .data, .data, .sentinel, .sentinel], laidTests := true, laidLooks := .later }
def KeyTextsCardSaid : Prop := Claim7.holds Tryd.pinned (.plain (OpenSpec.ofChange keyTextsSpec)) keyTextsCard

/-- THE SECOND FORM's CARD OF 'repertorylaw32.RecLines'. -/
def recLinesUptoCard : Claim7 := { stood := { row := recLinesUptoRow, standIns := [], harness := (true, "99dfb2decfa37d18d4f41d8740b798458afb4bf53fd590b7d9cdeee3f35beb11"), looks := true }, kinds := [], alts := [], laidByText := true, laidKinds := [.data, .data, .data], laidTests := true, laidLooks := .later }
def RecLinesUptoCardSaid : Prop := Claim7.holds Tryd.pinned (.plain (OpenSpec.upto recLinesSpec)) recLinesUptoCard

/-- THE SECOND FORM's CARD OF 'repertorylaw32.RecParses'. -/
def recParsesUptoCard : Claim7 := { stood := { row := recParsesUptoRow, standIns := [], harness := (true, "99dfb2decfa37d18d4f41d8740b798458afb4bf53fd590b7d9cdeee3f35beb11"), looks := true }, kinds := [], alts := [], laidByText := true, laidKinds := [.data, .data, .data], laidTests := true, laidLooks := .later }
def RecParsesUptoCardSaid : Prop := Claim7.holds Tryd.pinned (.plain (OpenSpec.upto recParsesSpec)) recParsesUptoCard

/-- THE SECOND FORM's CARD OF 'repertorylaw32.RecLost'. -/
def recLostUptoCard : Claim7 := { stood := { row := recLostUptoRow, standIns := [], harness := (true, "99dfb2decfa37d18d4f41d8740b798458afb4bf53fd590b7d9cdeee3f35beb11"), looks := true }, kinds := [], alts := [], laidByText := true, laidKinds := [.data, .data, .data], laidTests := true, laidLooks := .later }
def RecLostUptoCardSaid : Prop := Claim7.holds Tryd.pinned (.plain (OpenSpec.upto recLostSpec)) recLostUptoCard

/-- THE SECOND FORM's CARD OF 'repertorylaw32.RecBurst'. -/
def recBurstUptoCard : Claim7 := { stood := { row := recBurstUptoRow, standIns := [], harness := (true, "99dfb2decfa37d18d4f41d8740b798458afb4bf53fd590b7d9cdeee3f35beb11"), looks := true }, kinds := [], alts := [], laidByText := true, laidKinds := [.data, .data, .data], laidTests := true, laidLooks := .later }
def RecBurstUptoCardSaid : Prop := Claim7.holds Tryd.pinned (.plain (OpenSpec.upto recBurstSpec)) recBurstUptoCard

/-- THE SECOND FORM's CARD OF 'repertorylaw17.KeyParses'. -/
def keyParsesUptoCard : Claim7 := { stood := { row := keyParsesUptoRow, standIns := [], harness := (true, "99dfb2decfa37d18d4f41d8740b798458afb4bf53fd590b7d9cdeee3f35beb11"), looks := true }, kinds := [], alts := [], laidByText := true, laidKinds := [.data, .data, .data, .sentinel, .sentinel], laidTests := true, laidLooks := .later }
def KeyParsesUptoCardSaid : Prop := Claim7.holds Tryd.pinned (.plain (OpenSpec.upto keyParsesSpec)) keyParsesUptoCard

/-- THE SECOND FORM's CARD OF 'repertorylaw17.KeyNames'. -/
def keyNamesUptoCard : Claim7 := { stood := { row := keyNamesUptoRow, standIns := [], harness := (true, "99dfb2decfa37d18d4f41d8740b798458afb4bf53fd590b7d9cdeee3f35beb11"), looks := true }, kinds := [], alts := [], laidByText := true, laidKinds := [.data, .data, .data, .sentinel, .sentinel], laidTests := true, laidLooks := .later }
def KeyNamesUptoCardSaid : Prop := Claim7.holds Tryd.pinned (.plain (OpenSpec.upto keyNamesSpec)) keyNamesUptoCard

/-- THE SECOND FORM's CARD OF 'repertorylaw17.KeyReads'. -/
def keyReadsUptoCard : Claim7 := { stood := { row := keyReadsUptoRow, standIns := [], harness := (true, "99dfb2decfa37d18d4f41d8740b798458afb4bf53fd590b7d9cdeee3f35beb11"), looks := true }, kinds := [], alts := [], laidByText := true, laidKinds := [.data, .data, .data, .sentinel, .sentinel], laidTests := true, laidLooks := .later }
def KeyReadsUptoCardSaid : Prop := Claim7.holds Tryd.pinned (.plain (OpenSpec.upto keyReadsSpec)) keyReadsUptoCard

/-- THE SECOND FORM's CARD OF 'repertorylaw17.KeyTexts'. -/
def keyTextsUptoCard : Claim7 := { stood := { row := keyTextsUptoRow, standIns := [], harness := (true, "99dfb2decfa37d18d4f41d8740b798458afb4bf53fd590b7d9cdeee3f35beb11"), looks := true }, kinds := [], alts := [], laidByText := true, laidKinds := [.data, .data, .data, .sentinel, .sentinel], laidTests := true, laidLooks := .later }
def KeyTextsUptoCardSaid : Prop := Claim7.holds Tryd.pinned (.plain (OpenSpec.upto keyTextsSpec)) keyTextsUptoCard
end Rows
end Go.Proofs.YtfheocdciekfoaaDoor
