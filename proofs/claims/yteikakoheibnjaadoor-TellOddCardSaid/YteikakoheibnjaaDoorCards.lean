/-
  DERIVED. GIVEN WITH THE SEED: THE CARDS: each row of YteikakoheibnjaaDoorRows.lean that lists a variable, with what it lists TIED to the program's text (the seventh form; the later family's looks); each row that meets fmt, with fmt's text TOLD by the authors' own Lean function (tested against real Go, not proved from fmt's source: count such statements apart). THE CARD IS WHAT COUNTS. Prove the row's statement (the work); the ties are given (YteikakoheibnjaaDoorTie.lean); close each card by the builder's one call (the guide's Derived/Test/ToyasCard.lean, 'card_holds'). Laid BY PROGRAM, IN A SANDBOX (cutbox-door.mjs). By AI agents, Wed Nov 11 2026. No macro, syntax, notation, axiom, sorry.
-/
import Derived.Test.YteikakoheibnjaaDoorRows
import GoSem.ClaimSeven
namespace Go.Proofs.YteikakoheibnjaaDoor
namespace Rows

/-- THE TIED CARD OF 'sibyllaw5.ShowFormulas'. -/
def showFormulasCard : Claim7 := { stood := { row := showFormulasRow, standIns := [], harness := (true, "143f5fcc5bf9221cd311cb76dd31958e86026891d924b341e24f100db6b2f648"), looks := false }, kinds := [], alts := [], laidByText := true, laidKinds := [.data, .data, .data, .data, .pinned], laidTests := true, laidLooks := .later }
def ShowFormulasCardSaid : Prop := Claim7.holds Tryd.pinned (.plain (OpenSpec.ofChange showFormulasSpec)) showFormulasCard

/-- THE TIED CARD OF 'sibyllaw5.ShowProgs'. -/
def showProgsCard : Claim7 := { stood := { row := showProgsRow, standIns := [], harness := (true, "143f5fcc5bf9221cd311cb76dd31958e86026891d924b341e24f100db6b2f648"), looks := false }, kinds := [], alts := [], laidByText := true, laidKinds := [.data, .data, .data, .data, .pinned], laidTests := true, laidLooks := .later }
def ShowProgsCardSaid : Prop := Claim7.holds Tryd.pinned (.plain (OpenSpec.ofChange showProgsSpec)) showProgsCard

/-- THE TIED CARD OF 'sibyllaw5.ShowBack'. -/
def showBackCard : Claim7 := { stood := { row := showBackRow, standIns := [], harness := (true, "143f5fcc5bf9221cd311cb76dd31958e86026891d924b341e24f100db6b2f648"), looks := false }, kinds := [], alts := [], laidByText := true, laidKinds := [.data, .data, .data, .data, .pinned], laidTests := true, laidLooks := .later }
def ShowBackCardSaid : Prop := Claim7.holds Tryd.pinned (.plain (OpenSpec.ofChange showBackSpec)) showBackCard

/-- THE TIED CARD OF 'sibyllaw5.ShowText'. -/
def showTextCard : Claim7 := { stood := { row := showTextRow, standIns := [], harness := (true, "143f5fcc5bf9221cd311cb76dd31958e86026891d924b341e24f100db6b2f648"), looks := false }, kinds := [], alts := [], laidByText := true, laidKinds := [.data, .data, .data, .data, .pinned], laidTests := true, laidLooks := .later }
def ShowTextCardSaid : Prop := Claim7.holds Tryd.pinned (.plain (OpenSpec.ofChange showTextSpec)) showTextCard

/-- THE TIED CARD OF 'sibyllaw29.TellOdd'. -/
def tellOddCard : Claim7 := { stood := { row := tellOddRow, standIns := [], harness := (true, "143f5fcc5bf9221cd311cb76dd31958e86026891d924b341e24f100db6b2f648"), looks := false }, kinds := [], alts := [], laidByText := true, laidKinds := [.data, .data, .data, .data, .pinned], laidTests := true, laidLooks := .later }
def TellOddCardSaid : Prop := Claim7.holds Tryd.pinned (.plain (OpenSpec.ofChange tellOddSpec)) tellOddCard

/-- THE SECOND FORM's CARD OF 'sibyllaw5.ShowFormulas'. -/
def showFormulasUptoCard : Claim7 := { stood := { row := showFormulasUptoRow, standIns := [], harness := (true, "143f5fcc5bf9221cd311cb76dd31958e86026891d924b341e24f100db6b2f648"), looks := false }, kinds := [], alts := [], laidByText := true, laidKinds := [.data, .data, .data, .data, .pinned], laidTests := true, laidLooks := .later }
def ShowFormulasUptoCardSaid : Prop := Claim7.holds Tryd.pinned (.plain (OpenSpec.upto showFormulasSpec)) showFormulasUptoCard

/-- THE SECOND FORM's CARD OF 'sibyllaw5.ShowProgs'. -/
def showProgsUptoCard : Claim7 := { stood := { row := showProgsUptoRow, standIns := [], harness := (true, "143f5fcc5bf9221cd311cb76dd31958e86026891d924b341e24f100db6b2f648"), looks := false }, kinds := [], alts := [], laidByText := true, laidKinds := [.data, .data, .data, .data, .pinned], laidTests := true, laidLooks := .later }
def ShowProgsUptoCardSaid : Prop := Claim7.holds Tryd.pinned (.plain (OpenSpec.upto showProgsSpec)) showProgsUptoCard

/-- THE SECOND FORM's CARD OF 'sibyllaw5.ShowBack'. -/
def showBackUptoCard : Claim7 := { stood := { row := showBackUptoRow, standIns := [], harness := (true, "143f5fcc5bf9221cd311cb76dd31958e86026891d924b341e24f100db6b2f648"), looks := false }, kinds := [], alts := [], laidByText := true, laidKinds := [.data, .data, .data, .data, .pinned], laidTests := true, laidLooks := .later }
def ShowBackUptoCardSaid : Prop := Claim7.holds Tryd.pinned (.plain (OpenSpec.upto showBackSpec)) showBackUptoCard

/-- THE SECOND FORM's CARD OF 'sibyllaw5.ShowText'. -/
def showTextUptoCard : Claim7 := { stood := { row := showTextUptoRow, standIns := [], harness := (true, "143f5fcc5bf9221cd311cb76dd31958e86026891d924b341e24f100db6b2f648"), looks := false }, kinds := [], alts := [], laidByText := true, laidKinds := [.data, .data, .data, .data, .pinned], laidTests := true, laidLooks := .later }
def ShowTextUptoCardSaid : Prop := Claim7.holds Tryd.pinned (.plain (OpenSpec.upto showTextSpec)) showTextUptoCard

/-- THE SECOND FORM's CARD OF 'sibyllaw29.TellOdd'. -/
def tellOddUptoCard : Claim7 := { stood := { row := tellOddUptoRow, standIns := [], harness := (true, "143f5fcc5bf9221cd311cb76dd31958e86026891d924b341e24f100db6b2f648"), looks := false }, kinds := [], alts := [], laidByText := true, laidKinds := [.data, .data, .data, .data, .pinned], laidTests := true, laidLooks := .later }
def TellOddUptoCardSaid : Prop := Claim7.holds Tryd.pinned (.plain (OpenSpec.upto tellOddSpec)) tellOddUptoCard
end Rows
end Go.Proofs.YteikakoheibnjaaDoor
