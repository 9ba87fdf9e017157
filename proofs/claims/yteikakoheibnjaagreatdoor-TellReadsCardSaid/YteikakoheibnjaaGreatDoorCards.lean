/-
  DERIVED. GIVEN WITH THE SEED: THE CARDS: each row of YteikakoheibnjaaGreatDoorRows.lean that lists a variable, with what it lists TIED to the program's text (the seventh form; the later family's looks); each row that meets fmt, with fmt's text TOLD by the authors' own Lean function (tested against real Go, not proved from fmt's source: count such statements apart). THE CARD IS WHAT COUNTS. Prove the row's statement (the work); the ties are given (YteikakoheibnjaaGreatDoorTie.lean); close each card by the builder's one call (the guide's Derived/Test/ToyasCard.lean, 'card_holds'). Laid BY PROGRAM, IN A SANDBOX (cutbox-door.mjs). By AI agents, Wed Nov 11 2026. No macro, syntax, notation, axiom, sorry.
-/
import Derived.Test.YteikakoheibnjaaGreatDoorRows
import GoSem.ClaimSeven
namespace Go.Proofs.YteikakoheibnjaaGreatDoor
namespace Rows

/-- THE TIED CARD OF 'sibyllaw29.TellTexts'. -/
def tellTextsCard : Claim7 := { stood := { row := tellTextsRow, standIns := [], harness := (true, "734267da72148c0b2523911a8098c56a0fdbf2a78e707707945d1c2207ba7e2f"), looks := false }, kinds := [], alts := [], laidByText := true, laidKinds := [.data, .data, .data, .data, .pinned], laidTests := true, laidLooks := .later }
def TellTextsCardSaid : Prop := Claim7.holds Tryz.pinned (.plain (OpenSpec.ofChange tellTextsSpec)) tellTextsCard

/-- THE TIED CARD OF 'sibyllaw29.TellBack'. -/
def tellBackCard : Claim7 := { stood := { row := tellBackRow, standIns := [], harness := (true, "734267da72148c0b2523911a8098c56a0fdbf2a78e707707945d1c2207ba7e2f"), looks := false }, kinds := [], alts := [], laidByText := true, laidKinds := [.data, .data, .data, .data, .pinned], laidTests := true, laidLooks := .later }
def TellBackCardSaid : Prop := Claim7.holds Tryz.pinned (.plain (OpenSpec.ofChange tellBackSpec)) tellBackCard

/-- THE TIED CARD OF 'sibyllaw29.TellReads'. -/
def tellReadsCard : Claim7 := { stood := { row := tellReadsRow, standIns := [], harness := (true, "734267da72148c0b2523911a8098c56a0fdbf2a78e707707945d1c2207ba7e2f"), looks := false }, kinds := [], alts := [], laidByText := true, laidKinds := [.data, .data, .data, .data, .pinned], laidTests := true, laidLooks := .later }
def TellReadsCardSaid : Prop := Claim7.holds Tryz.pinned (.plain (OpenSpec.ofChange tellReadsSpec)) tellReadsCard

/-- THE TIED CARD OF 'sibyllaw29.TellTurned'. -/
def tellTurnedCard : Claim7 := { stood := { row := tellTurnedRow, standIns := [], harness := (true, "734267da72148c0b2523911a8098c56a0fdbf2a78e707707945d1c2207ba7e2f"), looks := false }, kinds := [], alts := [], laidByText := true, laidKinds := [.data, .data, .data, .data, .pinned], laidTests := true, laidLooks := .later }
def TellTurnedCardSaid : Prop := Claim7.holds Tryz.pinned (.plain (OpenSpec.ofChange tellTurnedSpec)) tellTurnedCard

/-- THE SECOND FORM's CARD OF 'sibyllaw29.TellTexts'. -/
def tellTextsUptoCard : Claim7 := { stood := { row := tellTextsUptoRow, standIns := [], harness := (true, "734267da72148c0b2523911a8098c56a0fdbf2a78e707707945d1c2207ba7e2f"), looks := false }, kinds := [], alts := [], laidByText := true, laidKinds := [.data, .data, .data, .data, .pinned], laidTests := true, laidLooks := .later }
def TellTextsUptoCardSaid : Prop := Claim7.holds Tryz.pinned (.plain (OpenSpec.upto tellTextsSpec)) tellTextsUptoCard

/-- THE SECOND FORM's CARD OF 'sibyllaw29.TellBack'. -/
def tellBackUptoCard : Claim7 := { stood := { row := tellBackUptoRow, standIns := [], harness := (true, "734267da72148c0b2523911a8098c56a0fdbf2a78e707707945d1c2207ba7e2f"), looks := false }, kinds := [], alts := [], laidByText := true, laidKinds := [.data, .data, .data, .data, .pinned], laidTests := true, laidLooks := .later }
def TellBackUptoCardSaid : Prop := Claim7.holds Tryz.pinned (.plain (OpenSpec.upto tellBackSpec)) tellBackUptoCard

/-- THE SECOND FORM's CARD OF 'sibyllaw29.TellReads'. -/
def tellReadsUptoCard : Claim7 := { stood := { row := tellReadsUptoRow, standIns := [], harness := (true, "734267da72148c0b2523911a8098c56a0fdbf2a78e707707945d1c2207ba7e2f"), looks := false }, kinds := [], alts := [], laidByText := true, laidKinds := [.data, .data, .data, .data, .pinned], laidTests := true, laidLooks := .later }
def TellReadsUptoCardSaid : Prop := Claim7.holds Tryz.pinned (.plain (OpenSpec.upto tellReadsSpec)) tellReadsUptoCard

/-- THE SECOND FORM's CARD OF 'sibyllaw29.TellTurned'. -/
def tellTurnedUptoCard : Claim7 := { stood := { row := tellTurnedUptoRow, standIns := [], harness := (true, "734267da72148c0b2523911a8098c56a0fdbf2a78e707707945d1c2207ba7e2f"), looks := false }, kinds := [], alts := [], laidByText := true, laidKinds := [.data, .data, .data, .data, .pinned], laidTests := true, laidLooks := .later }
def TellTurnedUptoCardSaid : Prop := Claim7.holds Tryz.pinned (.plain (OpenSpec.upto tellTurnedSpec)) tellTurnedUptoCard
end Rows
end Go.Proofs.YteikakoheibnjaaGreatDoor
