/- Parts of the proof: TopK. -/
import Derived.Test.YtpknalhjgbgpiaaGreatDoorM26
namespace Go.Proofs.YtpknalhjgbgpiaaGreatDoor
open Go Go.RowKit
/-- A decision with fuel 1000, no model, no counter-model. -/
abbrev KnC (s : ByteArray) (t : Int) : Prop := ∀ W : World, 4 ≤ W.heap.size → Calls Tryz.prog 4 #[.string s, .int .i64 1000] W fun e w' => ∃ A c A2 c2, e = .returned (.agg #[.int .i64 t, .int .i64 0, .int .i64 0, .slice A 0 c, .slice A2 0 c2]) ∧ Below W.heap.size W w'
theorem kn_c {bs : ByteArray} {l : List Nat} (hb : bytesOf bs = l) {T : Nat} (hT : T ≤ 1000) {tag : Int} (hd : runG boxA 1000 4 [.s l, .o (.sym 0)] s00 (isRes T tag [] []) = true) : KnC bs tag := by
  intro W hW
  refine (decide_any (F := 1000) (by omega) (by omega) hb smallR_nil smallR_nil hd hW).mono fun e w' he => ?_
  obtain ⟨A, c, A2, c2, rfl, hbel, _, _⟩ := he
  have eo : outR 1000 T tag [] [] = (tag, [], []) := if_neg (by omega)
  rw [eo]
  exact ⟨A, c, A2, c2, rfl, hbel⟩
theorem fldR (a b c d e : Value) (W : World) : (Instr.field 26 (.agg #[a, b, c, d, e]) 0).run Tryz.prog W = .ok a W := by kernel_rfl
set_option maxRecDepth 100000 in
set_option maxHeartbeats 4000000 in
theorem known_walk (h1 : KnC (⟨#[97, 108, 108, 49, 32, 120, 58, 32, 101, 120, 49, 32, 121, 58, 32, 120, 32, 60, 32, 121, 59]⟩ : ByteArray) 1) (h2 : KnC (⟨#[101, 120, 49, 32, 120, 58, 32, 97, 108, 108, 49, 32, 121, 58, 32, 121, 32, 60, 61, 32, 120, 59]⟩ : ByteArray) 3) {w : World} (hw : 4 ≤ w.heap.size) :
    Calls Tryz.prog 6 #[] w fun e w' => e = .returned (.bool true) ∧ Below w.heap.size w w' := by
  have HA := Lib.hid h1
  have HB := Lib.hid h2
  clear h1 h2
  unfold KnC at HA HB
  have hf0 := fldR
  go_enter Tryz.func6, Tryz.ntmps6
  go_wp2_with (first
    | (
      go_at_call_of 4 (Value.string (⟨#[97, 108, 108, 49, 32, 120, 58, 32, 101, 120, 49, 32, 121, 58, 32, 120, 32, 60, 32, 121, 59]⟩ : ByteArray))
      refine (HA.out _ hw).mono ?_
      rintro e w1 ⟨A1, c1, A2, c2, rfl, hb1⟩
      have hw1 : 4 ≤ w1.heap.size := Nat.le_trans hw hb1.size)
    | (
      go_at_call_of 4 (Value.string (⟨#[101, 120, 49, 32, 120, 58, 32, 97, 108, 108, 49, 32, 121, 58, 32, 121, 32, 60, 61, 32, 120, 59]⟩ : ByteArray))
      refine (HB.out _ hw1).mono ?_
      rintro e w2 ⟨A3, c3, A4, c4, rfl, hb2⟩
      have hbz := hb1.trans (hb2.mono hb1.size)))
  go_ret
  exact ⟨rfl, hbz⟩
end Go.Proofs.YtpknalhjgbgpiaaGreatDoor
