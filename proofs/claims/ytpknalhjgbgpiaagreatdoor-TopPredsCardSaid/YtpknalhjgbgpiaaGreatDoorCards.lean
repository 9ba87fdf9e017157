/-
  DERIVED. GIVEN WITH THE SEED: THE CARDS: each row of YtpknalhjgbgpiaaGreatDoorRows.lean that lists a variable, with what it lists TIED to the program's text (the seventh form; the later family's looks); each row that meets fmt, with fmt's text TOLD by the authors' own Lean function (tested against real Go, not proved from fmt's source: count such statements apart). THE CARD IS WHAT COUNTS. Prove the row's statement (the work); the ties are given (YtpknalhjgbgpiaaGreatDoorTie.lean); close each card by the builder's one call (the guide's Derived/Test/ToyasCard.lean, 'card_holds'). Laid BY PROGRAM, IN A SANDBOX (cutbox-door.mjs). By AI agents, Wed Nov 11 2026. No macro, syntax, notation, axiom, sorry.
-/
import Derived.Test.YtpknalhjgbgpiaaGreatDoorRows
import GoSem.ClaimSeven
namespace Go.Proofs.YtpknalhjgbgpiaaGreatDoor
namespace Rows

/-- THE TIED CARD OF 'sibyltop.TopPreds'. -/
def topPredsCard : Claim7 := { stood := { row := topPredsRow, standIns := [], harness := (true, "20e91fbb3a89ee23442eb66588fc608d2cb8bc0559fd7b29bebaa1cd760abdfd"), looks := true }, kinds := [], alts := [], laidByText := true, laidKinds := [.data, .data, .data], laidTests := true, laidLooks := .later }
def TopPredsCardSaid : Prop := Claim7.holds Tryz.pinned (.plain (OpenSpec.ofChange topPredsSpec)) topPredsCard

/-- THE SECOND FORM's CARD OF 'sibyltop.TopPreds'. -/
def topPredsUptoCard : Claim7 := { stood := { row := topPredsUptoRow, standIns := [], harness := (true, "20e91fbb3a89ee23442eb66588fc608d2cb8bc0559fd7b29bebaa1cd760abdfd"), looks := true }, kinds := [], alts := [], laidByText := true, laidKinds := [.data, .data, .data], laidTests := true, laidLooks := .later }
def TopPredsUptoCardSaid : Prop := Claim7.holds Tryz.pinned (.plain (OpenSpec.upto topPredsSpec)) topPredsUptoCard
end Rows
end Go.Proofs.YtpknalhjgbgpiaaGreatDoor
