/-
  DERIVED. GIVEN WITH THE SEED: THE CARDS: each row of YtcgjacaemblnmaaDoorRows.lean that lists a variable, with what it lists TIED to the program's text (the seventh form; the later family's looks); each row that meets fmt, with fmt's text TOLD by the authors' own Lean function (tested against real Go, not proved from fmt's source: count such statements apart). THE CARD IS WHAT COUNTS. Prove the row's statement (the work); the ties are given (YtcgjacaemblnmaaDoorTie.lean); close each card by the builder's one call (the guide's Derived/Test/ToyasCard.lean, 'card_holds'). Laid BY PROGRAM, IN A SANDBOX (cutbox-door.mjs). By AI agents, Wed Nov 11 2026. No macro, syntax, notation, axiom, sorry.
-/
import Derived.Test.YtcgjacaemblnmaaDoorRows
import GoSem.ClaimSeven
namespace Go.Proofs.YtcgjacaemblnmaaDoor
namespace Rows

/-- THE TIED CARD OF 'sibyllaw12.EvalBounds'. -/
def evalBoundsCard : Claim7 := { stood := { row := evalBoundsRow, standIns := [], harness := (true, "f2da4257dbc2d73bef644aaf83727bbcebc487294f24787484453d655cd3ccb1"), looks := false }, kinds := [], alts := [], laidByText := true, laidKinds := [.data, .data], laidTests := true, laidLooks := .later }
def EvalBoundsCardSaid : Prop := Claim7.holds Tryd.pinned (.plain (OpenSpec.ofChange evalBoundsSpec)) evalBoundsCard

/-- THE TIED CARD OF 'sibyllaw12.EvalSets'. -/
def evalSetsCard : Claim7 := { stood := { row := evalSetsRow, standIns := [], harness := (true, "f2da4257dbc2d73bef644aaf83727bbcebc487294f24787484453d655cd3ccb1"), looks := false }, kinds := [], alts := [], laidByText := true, laidKinds := [.data, .data], laidTests := true, laidLooks := .later }
def EvalSetsCardSaid : Prop := Claim7.holds Tryd.pinned (.plain (OpenSpec.ofChange evalSetsSpec)) evalSetsCard

/-- THE TIED CARD OF 'sibyllaw12.EvalOne'. -/
def evalOneCard : Claim7 := { stood := { row := evalOneRow, standIns := [], harness := (true, "f2da4257dbc2d73bef644aaf83727bbcebc487294f24787484453d655cd3ccb1"), looks := false }, kinds := [], alts := [], laidByText := true, laidKinds := [.data, .data], laidTests := true, laidLooks := .later }
def EvalOneCardSaid : Prop := Claim7.holds Tryd.pinned (.plain (OpenSpec.ofChange evalOneSpec)) evalOneCard

/-- THE TIED CARD OF 'sibyllaw12.EvalEx'. -/
def evalExCard : Claim7 := { stood := { row := evalExRow, standIns := [], harness := (true, "f2da4257dbc2d73bef644aaf83727bbcebc487294f24787484453d655cd3ccb1"), looks := false }, kinds := [], alts := [], laidByText := true, laidKinds := [.data, .data], laidTests := true, laidLooks := .later }
def EvalExCardSaid : Prop := Claim7.holds Tryd.pinned (.plain (OpenSpec.ofChange evalExSpec)) evalExCard

/-- THE TIED CARD OF 'sibyllaw12.EvalHolds'. -/
def evalHoldsCard : Claim7 := { stood := { row := evalHoldsRow, standIns := [], harness := (true, "f2da4257dbc2d73bef644aaf83727bbcebc487294f24787484453d655cd3ccb1"), looks := false }, kinds := [], alts := [], laidByText := true, laidKinds := [.data, .data], laidTests := true, laidLooks := .later }
def EvalHoldsCardSaid : Prop := Claim7.holds Tryd.pinned (.plain (OpenSpec.ofChange evalHoldsSpec)) evalHoldsCard

/-- THE TIED CARD OF 'sibyllaw9.CoreShow'. -/
def coreShowCard : Claim7 := { stood := { row := coreShowRow, standIns := [], harness := (true, "f2da4257dbc2d73bef644aaf83727bbcebc487294f24787484453d655cd3ccb1"), looks := false }, kinds := [], alts := [], laidByText := true, laidKinds := [.data, .data, .data], laidTests := true, laidLooks := .later }
def CoreShowCardSaid : Prop := Claim7.holds Tryd.pinned (.plain (OpenSpec.ofChange coreShowSpec)) coreShowCard

/-- THE TIED CARD OF 'sibyllaw9.CoreEx'. -/
def coreExCard : Claim7 := { stood := { row := coreExRow, standIns := [], harness := (true, "f2da4257dbc2d73bef644aaf83727bbcebc487294f24787484453d655cd3ccb1"), looks := false }, kinds := [], alts := [], laidByText := true, laidKinds := [.data, .data, .data], laidTests := true, laidLooks := .later }
def CoreExCardSaid : Prop := Claim7.holds Tryd.pinned (.plain (OpenSpec.ofChange coreExSpec)) coreExCard

/-- THE TIED CARD OF 'sibyllaw9.CoreSame'. -/
def coreSameCard : Claim7 := { stood := { row := coreSameRow, standIns := [], harness := (true, "f2da4257dbc2d73bef644aaf83727bbcebc487294f24787484453d655cd3ccb1"), looks := false }, kinds := [], alts := [], laidByText := true, laidKinds := [.data, .data, .data], laidTests := true, laidLooks := .later }
def CoreSameCardSaid : Prop := Claim7.holds Tryd.pinned (.plain (OpenSpec.ofChange coreSameSpec)) coreSameCard

/-- THE SECOND FORM's CARD OF 'sibyllaw12.EvalBounds'. -/
def evalBoundsUptoCard : Claim7 := { stood := { row := evalBoundsUptoRow, standIns := [], harness := (true, "f2da4257dbc2d73bef644aaf83727bbcebc487294f24787484453d655cd3ccb1"), looks := false }, kinds := [], alts := [], laidByText := true, laidKinds := [.data, .data], laidTests := true, laidLooks := .later }
def EvalBoundsUptoCardSaid : Prop := Claim7.holds Tryd.pinned (.plain (OpenSpec.upto evalBoundsSpec)) evalBoundsUptoCard

/-- THE SECOND FORM's CARD OF 'sibyllaw12.EvalSets'. -/
def evalSetsUptoCard : Claim7 := { stood := { row := evalSetsUptoRow, standIns := [], harness := (true, "f2da4257dbc2d73bef644aaf83727bbcebc487294f24787484453d655cd3ccb1"), looks := false }, kinds := [], alts := [], laidByText := true, laidKinds := [.data, .data], laidTests := true, laidLooks := .later }
def EvalSetsUptoCardSaid : Prop := Claim7.holds Tryd.pinned (.plain (OpenSpec.upto evalSetsSpec)) evalSetsUptoCard

/-- THE SECOND FORM's CARD OF 'sibyllaw12.EvalOne'. -/
def evalOneUptoCard : Claim7 := { stood := { row := evalOneUptoRow, standIns := [], harness := (true, "f2da4257dbc2d73bef644aaf83727bbcebc487294f24787484453d655cd3ccb1"), looks := false }, kinds := [], alts := [], laidByText := true, laidKinds := [.data, .data], laidTests := true, laidLooks := .later }
def EvalOneUptoCardSaid : Prop := Claim7.holds Tryd.pinned (.plain (OpenSpec.upto evalOneSpec)) evalOneUptoCard

/-- THE SECOND FORM's CARD OF 'sibyllaw12.EvalEx'. -/
def evalExUptoCard : Claim7 := { stood := { row := evalExUptoRow, standIns := [], harness := (true, "f2da4257dbc2d73bef644aaf83727bbcebc487294f24787484453d655cd3ccb1"), looks := false }, kinds := [], alts := [], laidByText := true, laidKinds := [.data, .data], laidTests := true, laidLooks := .later }
def EvalExUptoCardSaid : Prop := Claim7.holds Tryd.pinned (.plain (OpenSpec.upto evalExSpec)) evalExUptoCard

/-- THE SECOND FORM's CARD OF 'sibyllaw12.EvalHolds'. -/
def evalHoldsUptoCard : Claim7 := { stood := { row := evalHoldsUptoRow, standIns := [], harness := (true, "f2da4257dbc2d73bef644aaf83727bbcebc487294f24787484453d655cd3ccb1"), looks := false }, kinds := [], alts := [], laidByText := true, laidKinds := [.data, .data], laidTests := true, laidLooks := .later }
def EvalHoldsUptoCardSaid : Prop := Claim7.holds Tryd.pinned (.plain (OpenSpec.upto evalHoldsSpec)) evalHoldsUptoCard

/-- THE SECOND FORM's CARD OF 'sibyllaw9.CoreShow'. -/
def coreShowUptoCard : Claim7 := { stood := { row := coreShowUptoRow, standIns := [], harness := (true, "f2da4257dbc2d73bef644aaf83727bbcebc487294f24787484453d655cd3ccb1"), looks := false }, kinds := [], alts := [], laidByText := true, laidKinds := [.data, .data, .data], laidTests := true, laidLooks := .later }
def CoreShowUptoCardSaid : Prop := Claim7.holds Tryd.pinned (.plain (OpenSpec.upto coreShowSpec)) coreShowUptoCard

/-- THE SECOND FORM's CARD OF 'sibyllaw9.CoreEx'. -/
def coreExUptoCard : Claim7 := { stood := { row := coreExUptoRow, standIns := [], harness := (true, "f2da4257dbc2d73bef644aaf83727bbcebc487294f24787484453d655cd3ccb1"), looks := false }, kinds := [], alts := [], laidByText := true, laidKinds := [.data, .data, .data], laidTests := true, laidLooks := .later }
def CoreExUptoCardSaid : Prop := Claim7.holds Tryd.pinned (.plain (OpenSpec.upto coreExSpec)) coreExUptoCard

/-- THE SECOND FORM's CARD OF 'sibyllaw9.CoreSame'. -/
def coreSameUptoCard : Claim7 := { stood := { row := coreSameUptoRow, standIns := [], harness := (true, "f2da4257dbc2d73bef644aaf83727bbcebc487294f24787484453d655cd3ccb1"), looks := false }, kinds := [], alts := [], laidByText := true, laidKinds := [.data, .data, .data], laidTests := true, laidLooks := .later }
def CoreSameUptoCardSaid : Prop := Claim7.holds Tryd.pinned (.plain (OpenSpec.upto coreSameSpec)) coreSameUptoCard
end Rows
end Go.Proofs.YtcgjacaemblnmaaDoor
