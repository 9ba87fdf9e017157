/- The walk over law9.known. -/
import Derived.Test.YtcgjacaemblnmaaDoorShow
namespace Go.Proofs.YtcgjacaemblnmaaDoor
open Go Go.RowKit

theorem CoreAt.leaf9 (w : World) (B : Nat) (o : List UInt8) (a b c n : Int) (ho : o.length ≤ 140737488355328) : CoreAt w B (.node o a b c n []) none 0 := by
  unfold CoreAt KidsAt
  exact ⟨ho, Nat.le_refl _, by omega, trivial⟩
theorem known9_any (w : World) : Calls Tryd.prog 21 #[] w fun e w' => e = .returned (.bool true) ∧ Below w.heap.size w w' := by
  have H1 := Lib.hid (fun W => show_any (.node [112, 108, 117, 115] 0 1 0 2 []) none 0 6 W (CoreAt.leaf9 _ _ _ _ _ _ _ (by decide)) (by decide) (by decide) (by decide) (by decide))
  have H2 := Lib.hid (fun W => Is_any (.node [116, 114, 117, 101] 0 0 0 0 []) none 0 0 W (CoreAt.leaf9 _ _ _ _ _ _ _ (by decide)))
  have H3 := Lib.hid (fun W => Is_any (.node [115, 105, 110, 103] 0 0 0 0 []) none 0 0 W (CoreAt.leaf9 _ _ _ _ _ _ _ (by decide)))
  rw [show showT (.node [112, 108, 117, 115] 0 1 0 2 []) = [40, 112, 108, 117, 115, 32, 120, 48, 32, 120, 49, 32, 50, 41] by decide] at H1
  rw [show isTop (.node [116, 114, 117, 101] 0 0 0 0 []) 0 = true by decide] at H2
  rw [show isTop (.node [115, 105, 110, 103] 0 0 0 0 []) 0 = false by decide] at H3
  simp only [coreW, Core.op, Core.va, Core.vb, Core.vc, Core.vn, Core.kids] at H1 H2 H3
  go_enter Tryd.func21, Tryd.ntmps21
  go_wp2_with (first
    | (go_at_call 19
       refine (H1.out _).mono ?_
       rintro e w2 ⟨rfl, hb2⟩)
    | (go_at_call_of 22 (Value.string ⟨#[116, 114, 117, 101]⟩)
       refine (H2.out _).mono ?_
       rintro e w3 ⟨rfl, hb3⟩)
    | (go_at_call_of 22 (Value.string ⟨#[115, 105, 110, 103]⟩)
       refine (H3.out _).mono ?_
       rintro e w4 ⟨rfl, hb4⟩))
  go_ret
  exact ⟨rfl, (hb2.trans (hb3.mono hb2.size)).trans (hb4.mono (Nat.le_trans hb2.size hb3.size))⟩
end Go.Proofs.YtcgjacaemblnmaaDoor
