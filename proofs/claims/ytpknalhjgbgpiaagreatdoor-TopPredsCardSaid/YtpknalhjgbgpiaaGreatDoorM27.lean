/- Parts of the proof: TopE. -/
import Derived.Test.YtpknalhjgbgpiaaGreatDoorM26
namespace Go.Proofs.YtpknalhjgbgpiaaGreatDoor
open Go Go.RowKit
set_option maxRecDepth 100000 in
set_option maxHeartbeats 4000000 in
theorem top_early {way F : Int} {w : World} (h : way < 0 ∨ 3 ≤ way ∨ F < 0 ∨ 1073741824 < F) :
    Calls Tryz.prog 3 #[.int .i64 way, .int .i64 F] w fun e w' => e = .returned (.bool true) ∧ Below w.heap.size w w' := by
  have HB := Lib.hid ((Below.refl w.heap.size w).alloc (Nat.le_refl _) (.cells #[.string (⟨#[112, 114, 101, 100, 32, 112, 40, 118, 97, 114, 49, 32, 97, 44, 32, 118, 97, 114, 50, 32, 65, 41, 32, 61, 32, 97, 32, 105, 110, 32, 65, 59, 32, 118, 97, 114, 50, 32, 88, 59, 32, 101, 120, 49, 32, 120, 58, 32, 112, 40, 120, 44, 32, 88, 41, 32, 38, 32, 126, 112, 40, 120, 32, 43, 32, 49, 44, 32, 88, 41, 59]⟩ : ByteArray), .string (⟨#[118, 97, 114, 50, 32, 88, 59, 32, 101, 120, 49, 32, 120, 58, 32, 120, 32, 105, 110, 32, 88, 32, 38, 32, 126, 120, 32, 43, 32, 49, 32, 105, 110, 32, 88, 59]⟩ : ByteArray), .string (⟨#[112, 114, 101, 100, 32, 113, 40, 118, 97, 114, 48, 32, 97, 41, 32, 61, 32, 97, 59, 32, 112, 114, 101, 100, 32, 112, 40, 118, 97, 114, 48, 32, 97, 41, 32, 61, 32, 113, 40, 97, 41, 32, 124, 32, 126, 113, 40, 97, 41, 59, 32, 97, 108, 108, 48, 32, 98, 58, 32, 112, 40, 98, 41, 59]⟩ : ByteArray), .string (⟨#[97, 108, 108, 48, 32, 98, 58, 32, 98, 32, 124, 32, 126, 98, 59]⟩ : ByteArray), .string (⟨#[112, 114, 101, 100, 32, 112, 40, 118, 97, 114, 49, 32, 97, 41, 32, 61, 32, 101, 120, 49, 32, 120, 58, 32, 120, 32, 60, 32, 97, 59, 32, 118, 97, 114, 49, 32, 120, 59, 32, 112, 40, 120, 41, 59]⟩ : ByteArray), .string (⟨#[118, 97, 114, 49, 32, 120, 59, 32, 101, 120, 49, 32, 121, 58, 32, 121, 32, 60, 32, 120, 59]⟩ : ByteArray)] 9))
  by_cases h0 : way < 0
  · have g0 : decide (way < 0) = true := decide_eq_true h0
    clear h
    go_enter Tryz.func3, Tryz.ntmps3
    go_wp2_with fail
    go_ret
    exact ⟨rfl, HB.out⟩
  have g0 : decide (way < 0) = false := decide_eq_false h0
  by_cases h1 : 3 ≤ way
  · have g1 : decide (3 ≤ way) = true := decide_eq_true h1
    clear h
    go_enter Tryz.func3, Tryz.ntmps3
    go_wp2_with fail
    go_ret
    exact ⟨rfl, HB.out⟩
  have g1 : decide (3 ≤ way) = false := decide_eq_false h1
  by_cases h2 : F < 0
  · have g2 : decide (F < 0) = true := decide_eq_true h2
    clear h
    go_enter Tryz.func3, Tryz.ntmps3
    go_wp2_with fail
    go_ret
    exact ⟨rfl, HB.out⟩
  have g2 : decide (F < 0) = false := decide_eq_false h2
  have h3 : 1073741824 < F := by omega
  · have g3 : decide (1073741824 < F) = true := decide_eq_true h3
    clear h
    go_enter Tryz.func3, Tryz.ntmps3
    go_wp2_with fail
    go_ret
    exact ⟨rfl, HB.out⟩
end Go.Proofs.YtpknalhjgbgpiaaGreatDoor
