/- The walk over show.joined (printed by mkshow.py). -/
import Derived.Test.YteikakoheibnjaaDoorSSign
namespace Go.Proofs.YteikakoheibnjaaDoor
open Go Go.RowKit

set_option maxHeartbeats 2000000 in
theorem joined_any (a o b : List UInt8) (ho : setOp o = true ∨ binOp o = true ∨ relOp o = true) (hl : (joined a o b).length ≤ 90000000) (w : World) :
    Calls Tryd.prog 27 #[.string ⟨a.toArray⟩, .string ⟨o.toArray⟩, .string ⟨b.toArray⟩] w fun e w' => e = .returned (.string ⟨(joined a o b).toArray⟩) ∧ Below w.heap.size w w' := by
  have HS := Lib.hid (fun W => ssign_any o ho W)
  have HF := Lib.hid (show a ++ [32] ++ signOf o ++ [32] ++ b = joined a o b from rfl)
  rw [← HF.out] at hl
  simp only [List.length_append, List.length_cons, List.length_nil] at hl
  clear ho
  generalize joined a o b = V at *
  generalize signOf o = G at *
  obtain ⟨T1, hadd1, hT1⟩ := add_ex ⟨a.toArray⟩ ⟨#[32]⟩ (X := a) (Y := [32]) rfl rfl (by simp only [List.length_cons, List.length_nil]; omega)
  obtain ⟨T2, hadd2, hT2⟩ := add_ex T1 ⟨G.toArray⟩ (Y := G) hT1 rfl (by simp only [List.length_append, List.length_cons, List.length_nil]; omega)
  obtain ⟨T3, hadd3, hT3⟩ := add_ex T2 ⟨#[32]⟩ (Y := [32]) hT2 rfl (by simp only [List.length_append, List.length_cons, List.length_nil]; omega)
  obtain ⟨T4, hadd4, hT4⟩ := add_ex T3 ⟨b.toArray⟩ (Y := b) hT3 rfl (by simp only [List.length_append, List.length_cons, List.length_nil]; omega)
  have HE := Lib.hid (show T4 = ⟨V.toArray⟩ from bytes_of (hT4.trans (by rw [← HF.out]; try simp only [List.append_assoc])))
  clear hT1 hT2 hT3 hT4
  clear hl
  go_enter Tryd.func27, Tryd.ntmps27
  go_wp2_with (
    go_at_call 62
    refine (HS.out _).mono ?_
    rintro e w2 ⟨rfl, hb⟩
    have HB := Lib.hid hb
    clear hb)
  all_goals
    go_ret
    exact ⟨congrArg (fun x : ByteArray => Ending.returned (.string x)) HE.out, HB.out⟩
end Go.Proofs.YteikakoheibnjaaDoor
