/-
  DERIVED. GIVEN WITH THE SEED: THE CARDS: each row of YtgbkmlnecooeaaaDoorRows.lean that lists a variable, with what it lists TIED to the program's text (the seventh form; the later family's looks); each row that meets fmt, with fmt's text TOLD by the authors' own Lean function (tested against real Go, not proved from fmt's source: count such statements apart). THE CARD IS WHAT COUNTS. Prove the row's statement (the work); the ties are given (YtgbkmlnecooeaaaDoorTie.lean); close each card by the builder's one call (the guide's Derived/Test/ToyasCard.lean, 'card_holds'). Laid BY PROGRAM, IN A SANDBOX (cutbox-door.mjs). By AI agents, Wed Nov 11 2026. No macro, syntax, notation, axiom, sorry.
-/
import Derived.Test.YtgbkmlnecooeaaaDoorRows
import GoSem.ClaimSeven
namespace Go.Proofs.YtgbkmlnecooeaaaDoor
namespace Rows

/-- THE TIED CARD OF 'sibyllaw14.BitsBoth'. -/
def bitsBothCard : Claim7 := { stood := { row := bitsBothRow, standIns := [], harness := (true, "b4d0e74141d2efca69a05dafbfac3ee90eb65b3d9d437de38d18bf06f350f093"), looks := false }, kinds := [], alts := [], laidByText := true, laidKinds := [.data], laidTests := true, laidLooks := .later }
def BitsBothCardSaid : Prop := Claim7.holds Tryd.pinned (.plain (OpenSpec.ofChange bitsBothSpec)) bitsBothCard

/-- THE TIED CARD OF 'sibyllaw14.BitsAdds'. -/
def bitsAddsCard : Claim7 := { stood := { row := bitsAddsRow, standIns := [], harness := (true, "b4d0e74141d2efca69a05dafbfac3ee90eb65b3d9d437de38d18bf06f350f093"), looks := false }, kinds := [], alts := [], laidByText := true, laidKinds := [.data], laidTests := true, laidLooks := .later }
def BitsAddsCardSaid : Prop := Claim7.holds Tryd.pinned (.plain (OpenSpec.ofChange bitsAddsSpec)) bitsAddsCard

/-- THE TIED CARD OF 'sibyllaw14.BitsSame'. -/
def bitsSameCard : Claim7 := { stood := { row := bitsSameRow, standIns := [], harness := (true, "b4d0e74141d2efca69a05dafbfac3ee90eb65b3d9d437de38d18bf06f350f093"), looks := false }, kinds := [], alts := [], laidByText := true, laidKinds := [.data], laidTests := true, laidLooks := .later }
def BitsSameCardSaid : Prop := Claim7.holds Tryd.pinned (.plain (OpenSpec.ofChange bitsSameSpec)) bitsSameCard

/-- THE TIED CARD OF 'sibyllaw14.BitsOfNothing'. -/
def bitsOfNothingCard : Claim7 := { stood := { row := bitsOfNothingRow, standIns := [], harness := (true, "b4d0e74141d2efca69a05dafbfac3ee90eb65b3d9d437de38d18bf06f350f093"), looks := false }, kinds := [], alts := [], laidByText := true, laidKinds := [.data], laidTests := true, laidLooks := .later }
def BitsOfNothingCardSaid : Prop := Claim7.holds Tryd.pinned (.plain (OpenSpec.ofChange bitsOfNothingSpec)) bitsOfNothingCard

/-- THE SECOND FORM's CARD OF 'sibyllaw14.BitsBoth'. -/
def bitsBothUptoCard : Claim7 := { stood := { row := bitsBothUptoRow, standIns := [], harness := (true, "b4d0e74141d2efca69a05dafbfac3ee90eb65b3d9d437de38d18bf06f350f093"), looks := false }, kinds := [], alts := [], laidByText := true, laidKinds := [.data], laidTests := true, laidLooks := .later }
def BitsBothUptoCardSaid : Prop := Claim7.holds Tryd.pinned (.plain (OpenSpec.upto bitsBothSpec)) bitsBothUptoCard

/-- THE SECOND FORM's CARD OF 'sibyllaw14.BitsAdds'. -/
def bitsAddsUptoCard : Claim7 := { stood := { row := bitsAddsUptoRow, standIns := [], harness := (true, "b4d0e74141d2efca69a05dafbfac3ee90eb65b3d9d437de38d18bf06f350f093"), looks := false }, kinds := [], alts := [], laidByText := true, laidKinds := [.data], laidTests := true, laidLooks := .later }
def BitsAddsUptoCardSaid : Prop := Claim7.holds Tryd.pinned (.plain (OpenSpec.upto bitsAddsSpec)) bitsAddsUptoCard

/-- THE SECOND FORM's CARD OF 'sibyllaw14.BitsSame'. -/
def bitsSameUptoCard : Claim7 := { stood := { row := bitsSameUptoRow, standIns := [], harness := (true, "b4d0e74141d2efca69a05dafbfac3ee90eb65b3d9d437de38d18bf06f350f093"), looks := false }, kinds := [], alts := [], laidByText := true, laidKinds := [.data], laidTests := true, laidLooks := .later }
def BitsSameUptoCardSaid : Prop := Claim7.holds Tryd.pinned (.plain (OpenSpec.upto bitsSameSpec)) bitsSameUptoCard

/-- THE SECOND FORM's CARD OF 'sibyllaw14.BitsOfNothing'. -/
def bitsOfNothingUptoCard : Claim7 := { stood := { row := bitsOfNothingUptoRow, standIns := [], harness := (true, "b4d0e74141d2efca69a05dafbfac3ee90eb65b3d9d437de38d18bf06f350f093"), looks := false }, kinds := [], alts := [], laidByText := true, laidKinds := [.data], laidTests := true, laidLooks := .later }
def BitsOfNothingUptoCardSaid : Prop := Claim7.holds Tryd.pinned (.plain (OpenSpec.upto bitsOfNothingSpec)) bitsOfNothingUptoCard
end Rows
end Go.Proofs.YtgbkmlnecooeaaaDoor
