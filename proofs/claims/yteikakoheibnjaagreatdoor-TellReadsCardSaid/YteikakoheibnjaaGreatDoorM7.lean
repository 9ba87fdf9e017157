/- Parts of the proof: LClass. -/
import Derived.Test.YteikakoheibnjaaGreatDoorM2
namespace Go.Proofs.YteikakoheibnjaaGreatDoor
open Go Go.RowKit

def letB (r : Nat) : Bool := decide ((97 ≤ r ∧ r ≤ 122) ∨ (65 ≤ r ∧ r ≤ 90) ∨ r = 95 ∨ (945 ≤ r ∧ r ≤ 969))

theorem isLet0 (r : Nat) (h1 : 0 ≤ r) (h2 : r ≤ 64) (w : World) : Calls Tryz.prog 126 #[.int .i32 r] w fun e w' => e = .returned (.bool false) ∧ w' = w := by
  have g0 : decide ((97 : Int) ≤ (r : Int)) = false := decide_eq_false (by omega)
  have g1 : decide ((r : Int) ≤ 122) = true := decide_eq_true (by omega)
  have g2 : decide ((65 : Int) ≤ (r : Int)) = false := decide_eq_false (by omega)
  have g3 : decide ((r : Int) ≤ 90) = true := decide_eq_true (by omega)
  have g4 : ((r : Int) == 95) = false := by simp; omega
  have g5 : decide ((945 : Int) ≤ (r : Int)) = false := decide_eq_false (by omega)
  have g6 : decide ((r : Int) ≤ 969) = true := decide_eq_true (by omega)
  clear h1 h2
  go_enter Tryz.func126, Tryz.ntmps126
  go_wp2_with fail
  go_ret
  exact ⟨rfl, rfl⟩
theorem isLet1 (r : Nat) (h1 : 65 ≤ r) (h2 : r ≤ 90) (w : World) : Calls Tryz.prog 126 #[.int .i32 r] w fun e w' => e = .returned (.bool true) ∧ w' = w := by
  have g0 : decide ((97 : Int) ≤ (r : Int)) = false := decide_eq_false (by omega)
  have g1 : decide ((r : Int) ≤ 122) = true := decide_eq_true (by omega)
  have g2 : decide ((65 : Int) ≤ (r : Int)) = true := decide_eq_true (by omega)
  have g3 : decide ((r : Int) ≤ 90) = true := decide_eq_true (by omega)
  have g4 : ((r : Int) == 95) = false := by simp; omega
  have g5 : decide ((945 : Int) ≤ (r : Int)) = false := decide_eq_false (by omega)
  have g6 : decide ((r : Int) ≤ 969) = true := decide_eq_true (by omega)
  clear h1 h2
  go_enter Tryz.func126, Tryz.ntmps126
  go_wp2_with fail
  go_ret
  exact ⟨rfl, rfl⟩
theorem isLet2 (r : Nat) (h1 : 91 ≤ r) (h2 : r ≤ 94) (w : World) : Calls Tryz.prog 126 #[.int .i32 r] w fun e w' => e = .returned (.bool false) ∧ w' = w := by
  have g0 : decide ((97 : Int) ≤ (r : Int)) = false := decide_eq_false (by omega)
  have g1 : decide ((r : Int) ≤ 122) = true := decide_eq_true (by omega)
  have g2 : decide ((65 : Int) ≤ (r : Int)) = true := decide_eq_true (by omega)
  have g3 : decide ((r : Int) ≤ 90) = false := decide_eq_false (by omega)
  have g4 : ((r : Int) == 95) = false := by simp; omega
  have g5 : decide ((945 : Int) ≤ (r : Int)) = false := decide_eq_false (by omega)
  have g6 : decide ((r : Int) ≤ 969) = true := decide_eq_true (by omega)
  clear h1 h2
  go_enter Tryz.func126, Tryz.ntmps126
  go_wp2_with fail
  go_ret
  exact ⟨rfl, rfl⟩
theorem isLet3 (r : Nat) (h1 : 95 ≤ r) (h2 : r ≤ 95) (w : World) : Calls Tryz.prog 126 #[.int .i32 r] w fun e w' => e = .returned (.bool true) ∧ w' = w := by
  have g0 : decide ((97 : Int) ≤ (r : Int)) = false := decide_eq_false (by omega)
  have g1 : decide ((r : Int) ≤ 122) = true := decide_eq_true (by omega)
  have g2 : decide ((65 : Int) ≤ (r : Int)) = true := decide_eq_true (by omega)
  have g3 : decide ((r : Int) ≤ 90) = false := decide_eq_false (by omega)
  have g4 : ((r : Int) == 95) = true := by simp; omega
  have g5 : decide ((945 : Int) ≤ (r : Int)) = false := decide_eq_false (by omega)
  have g6 : decide ((r : Int) ≤ 969) = true := decide_eq_true (by omega)
  clear h1 h2
  go_enter Tryz.func126, Tryz.ntmps126
  go_wp2_with fail
  go_ret
  exact ⟨rfl, rfl⟩
theorem isLet4 (r : Nat) (h1 : 96 ≤ r) (h2 : r ≤ 96) (w : World) : Calls Tryz.prog 126 #[.int .i32 r] w fun e w' => e = .returned (.bool false) ∧ w' = w := by
  have g0 : decide ((97 : Int) ≤ (r : Int)) = false := decide_eq_false (by omega)
  have g1 : decide ((r : Int) ≤ 122) = true := decide_eq_true (by omega)
  have g2 : decide ((65 : Int) ≤ (r : Int)) = true := decide_eq_true (by omega)
  have g3 : decide ((r : Int) ≤ 90) = false := decide_eq_false (by omega)
  have g4 : ((r : Int) == 95) = false := by simp; omega
  have g5 : decide ((945 : Int) ≤ (r : Int)) = false := decide_eq_false (by omega)
  have g6 : decide ((r : Int) ≤ 969) = true := decide_eq_true (by omega)
  clear h1 h2
  go_enter Tryz.func126, Tryz.ntmps126
  go_wp2_with fail
  go_ret
  exact ⟨rfl, rfl⟩
theorem isLet5 (r : Nat) (h1 : 97 ≤ r) (h2 : r ≤ 122) (w : World) : Calls Tryz.prog 126 #[.int .i32 r] w fun e w' => e = .returned (.bool true) ∧ w' = w := by
  have g0 : decide ((97 : Int) ≤ (r : Int)) = true := decide_eq_true (by omega)
  have g1 : decide ((r : Int) ≤ 122) = true := decide_eq_true (by omega)
  have g2 : decide ((65 : Int) ≤ (r : Int)) = true := decide_eq_true (by omega)
  have g3 : decide ((r : Int) ≤ 90) = false := decide_eq_false (by omega)
  have g4 : ((r : Int) == 95) = false := by simp; omega
  have g5 : decide ((945 : Int) ≤ (r : Int)) = false := decide_eq_false (by omega)
  have g6 : decide ((r : Int) ≤ 969) = true := decide_eq_true (by omega)
  clear h1 h2
  go_enter Tryz.func126, Tryz.ntmps126
  go_wp2_with fail
  go_ret
  exact ⟨rfl, rfl⟩
theorem isLet6 (r : Nat) (h1 : 123 ≤ r) (h2 : r ≤ 944) (w : World) : Calls Tryz.prog 126 #[.int .i32 r] w fun e w' => e = .returned (.bool false) ∧ w' = w := by
  have g0 : decide ((97 : Int) ≤ (r : Int)) = true := decide_eq_true (by omega)
  have g1 : decide ((r : Int) ≤ 122) = false := decide_eq_false (by omega)
  have g2 : decide ((65 : Int) ≤ (r : Int)) = true := decide_eq_true (by omega)
  have g3 : decide ((r : Int) ≤ 90) = false := decide_eq_false (by omega)
  have g4 : ((r : Int) == 95) = false := by simp; omega
  have g5 : decide ((945 : Int) ≤ (r : Int)) = false := decide_eq_false (by omega)
  have g6 : decide ((r : Int) ≤ 969) = true := decide_eq_true (by omega)
  clear h1 h2
  go_enter Tryz.func126, Tryz.ntmps126
  go_wp2_with fail
  go_ret
  exact ⟨rfl, rfl⟩
theorem isLet7 (r : Nat) (h1 : 945 ≤ r) (h2 : r ≤ 969) (w : World) : Calls Tryz.prog 126 #[.int .i32 r] w fun e w' => e = .returned (.bool true) ∧ w' = w := by
  have g0 : decide ((97 : Int) ≤ (r : Int)) = true := decide_eq_true (by omega)
  have g1 : decide ((r : Int) ≤ 122) = false := decide_eq_false (by omega)
  have g2 : decide ((65 : Int) ≤ (r : Int)) = true := decide_eq_true (by omega)
  have g3 : decide ((r : Int) ≤ 90) = false := decide_eq_false (by omega)
  have g4 : ((r : Int) == 95) = false := by simp; omega
  have g5 : decide ((945 : Int) ≤ (r : Int)) = true := decide_eq_true (by omega)
  have g6 : decide ((r : Int) ≤ 969) = true := decide_eq_true (by omega)
  clear h1 h2
  go_enter Tryz.func126, Tryz.ntmps126
  go_wp2_with fail
  go_ret
  exact ⟨rfl, rfl⟩
theorem isLet8 (r : Nat) (h1 : 970 ≤ r) (w : World) : Calls Tryz.prog 126 #[.int .i32 r] w fun e w' => e = .returned (.bool false) ∧ w' = w := by
  have g0 : decide ((97 : Int) ≤ (r : Int)) = true := decide_eq_true (by omega)
  have g1 : decide ((r : Int) ≤ 122) = false := decide_eq_false (by omega)
  have g2 : decide ((65 : Int) ≤ (r : Int)) = true := decide_eq_true (by omega)
  have g3 : decide ((r : Int) ≤ 90) = false := decide_eq_false (by omega)
  have g4 : ((r : Int) == 95) = false := by simp; omega
  have g5 : decide ((945 : Int) ≤ (r : Int)) = true := decide_eq_true (by omega)
  have g6 : decide ((r : Int) ≤ 969) = false := decide_eq_false (by omega)
  clear h1
  go_enter Tryz.func126, Tryz.ntmps126
  go_wp2_with fail
  go_ret
  exact ⟨rfl, rfl⟩
theorem isLetter_any (r : Nat) (w : World) : Calls Tryz.prog 126 #[.int .i32 r] w fun e w' => e = .returned (.bool (letB r)) ∧ w' = w := by
  have ht : ∀ (h : (97 ≤ r ∧ r ≤ 122) ∨ (65 ≤ r ∧ r ≤ 90) ∨ r = 95 ∨ (945 ≤ r ∧ r ≤ 969)), letB r = true := fun h => decide_eq_true h
  have hf : ∀ (h : ¬ ((97 ≤ r ∧ r ≤ 122) ∨ (65 ≤ r ∧ r ≤ 90) ∨ r = 95 ∨ (945 ≤ r ∧ r ≤ 969))), letB r = false := fun h => decide_eq_false h
  rcases Nat.lt_or_ge r 65 with h | h
  · rw [hf (by omega)]
    exact isLet0 r (by omega) (by omega) w
  rcases Nat.lt_or_ge r 91 with h | h
  · rw [ht (by omega)]
    exact isLet1 r (by omega) (by omega) w
  rcases Nat.lt_or_ge r 95 with h | h
  · rw [hf (by omega)]
    exact isLet2 r (by omega) (by omega) w
  rcases Nat.lt_or_ge r 96 with h | h
  · rw [ht (by omega)]
    exact isLet3 r (by omega) (by omega) w
  rcases Nat.lt_or_ge r 97 with h | h
  · rw [hf (by omega)]
    exact isLet4 r (by omega) (by omega) w
  rcases Nat.lt_or_ge r 123 with h | h
  · rw [ht (by omega)]
    exact isLet5 r (by omega) (by omega) w
  rcases Nat.lt_or_ge r 945 with h | h
  · rw [hf (by omega)]
    exact isLet6 r (by omega) (by omega) w
  rcases Nat.lt_or_ge r 970 with h | h
  · rw [ht (by omega)]
    exact isLet7 r (by omega) (by omega) w
  rw [hf (by omega)]
  exact isLet8 r (by omega) w
theorem lcls_32 (w : World) : Calls Tryz.prog 118 #[.int .i32 (32 : Int)] w fun e w' => e = .returned (.int .i64 (cls 32 : Nat)) ∧ w' = w := by
  have HL := Lib.hid (fun W => isLetter_any 32 W)
  rw [show letB 32 = false by decide] at HL
  have HV := Lib.hid (show 3 = cls 32 by decide)
  go_enter Tryz.func118, Tryz.ntmps118
  go_wp2_with (
    go_at_call 126
    refine (HL.out _).mono ?_
    rintro e w2 ⟨rfl, rfl⟩)
  all_goals
    go_ret
    exact ⟨congrArg (fun x : Nat => Ending.returned (.int .i64 (x : Int))) HV.out, rfl⟩
theorem lcls_9 (w : World) : Calls Tryz.prog 118 #[.int .i32 (9 : Int)] w fun e w' => e = .returned (.int .i64 (cls 9 : Nat)) ∧ w' = w := by
  have HL := Lib.hid (fun W => isLetter_any 9 W)
  rw [show letB 9 = false by decide] at HL
  have HV := Lib.hid (show 3 = cls 9 by decide)
  go_enter Tryz.func118, Tryz.ntmps118
  go_wp2_with (
    go_at_call 126
    refine (HL.out _).mono ?_
    rintro e w2 ⟨rfl, rfl⟩)
  all_goals
    go_ret
    exact ⟨congrArg (fun x : Nat => Ending.returned (.int .i64 (x : Int))) HV.out, rfl⟩
theorem lcls_10 (w : World) : Calls Tryz.prog 118 #[.int .i32 (10 : Int)] w fun e w' => e = .returned (.int .i64 (cls 10 : Nat)) ∧ w' = w := by
  have HL := Lib.hid (fun W => isLetter_any 10 W)
  rw [show letB 10 = false by decide] at HL
  have HV := Lib.hid (show 3 = cls 10 by decide)
  go_enter Tryz.func118, Tryz.ntmps118
  go_wp2_with (
    go_at_call 126
    refine (HL.out _).mono ?_
    rintro e w2 ⟨rfl, rfl⟩)
  all_goals
    go_ret
    exact ⟨congrArg (fun x : Nat => Ending.returned (.int .i64 (x : Int))) HV.out, rfl⟩
theorem lcls_13 (w : World) : Calls Tryz.prog 118 #[.int .i32 (13 : Int)] w fun e w' => e = .returned (.int .i64 (cls 13 : Nat)) ∧ w' = w := by
  have HL := Lib.hid (fun W => isLetter_any 13 W)
  rw [show letB 13 = false by decide] at HL
  have HV := Lib.hid (show 3 = cls 13 by decide)
  go_enter Tryz.func118, Tryz.ntmps118
  go_wp2_with (
    go_at_call 126
    refine (HL.out _).mono ?_
    rintro e w2 ⟨rfl, rfl⟩)
  all_goals
    go_ret
    exact ⟨congrArg (fun x : Nat => Ending.returned (.int .i64 (x : Int))) HV.out, rfl⟩
theorem lcls_61 (w : World) : Calls Tryz.prog 118 #[.int .i32 (61 : Int)] w fun e w' => e = .returned (.int .i64 (cls 61 : Nat)) ∧ w' = w := by
  have HL := Lib.hid (fun W => isLetter_any 61 W)
  rw [show letB 61 = false by decide] at HL
  have HV := Lib.hid (show 4 = cls 61 by decide)
  go_enter Tryz.func118, Tryz.ntmps118
  go_wp2_with (
    go_at_call 126
    refine (HL.out _).mono ?_
    rintro e w2 ⟨rfl, rfl⟩)
  all_goals
    go_ret
    exact ⟨congrArg (fun x : Nat => Ending.returned (.int .i64 (x : Int))) HV.out, rfl⟩
theorem lcls_126 (w : World) : Calls Tryz.prog 118 #[.int .i32 (126 : Int)] w fun e w' => e = .returned (.int .i64 (cls 126 : Nat)) ∧ w' = w := by
  have HL := Lib.hid (fun W => isLetter_any 126 W)
  rw [show letB 126 = false by decide] at HL
  have HV := Lib.hid (show 4 = cls 126 by decide)
  go_enter Tryz.func118, Tryz.ntmps118
  go_wp2_with (
    go_at_call 126
    refine (HL.out _).mono ?_
    rintro e w2 ⟨rfl, rfl⟩)
  all_goals
    go_ret
    exact ⟨congrArg (fun x : Nat => Ending.returned (.int .i64 (x : Int))) HV.out, rfl⟩
theorem lcls_60 (w : World) : Calls Tryz.prog 118 #[.int .i32 (60 : Int)] w fun e w' => e = .returned (.int .i64 (cls 60 : Nat)) ∧ w' = w := by
  have HL := Lib.hid (fun W => isLetter_any 60 W)
  rw [show letB 60 = false by decide] at HL
  have HV := Lib.hid (show 4 = cls 60 by decide)
  go_enter Tryz.func118, Tryz.ntmps118
  go_wp2_with (
    go_at_call 126
    refine (HL.out _).mono ?_
    rintro e w2 ⟨rfl, rfl⟩)
  all_goals
    go_ret
    exact ⟨congrArg (fun x : Nat => Ending.returned (.int .i64 (x : Int))) HV.out, rfl⟩
theorem lcls_62 (w : World) : Calls Tryz.prog 118 #[.int .i32 (62 : Int)] w fun e w' => e = .returned (.int .i64 (cls 62 : Nat)) ∧ w' = w := by
  have HL := Lib.hid (fun W => isLetter_any 62 W)
  rw [show letB 62 = false by decide] at HL
  have HV := Lib.hid (show 4 = cls 62 by decide)
  go_enter Tryz.func118, Tryz.ntmps118
  go_wp2_with (
    go_at_call 126
    refine (HL.out _).mono ?_
    rintro e w2 ⟨rfl, rfl⟩)
  all_goals
    go_ret
    exact ⟨congrArg (fun x : Nat => Ending.returned (.int .i64 (x : Int))) HV.out, rfl⟩
theorem lcls_38 (w : World) : Calls Tryz.prog 118 #[.int .i32 (38 : Int)] w fun e w' => e = .returned (.int .i64 (cls 38 : Nat)) ∧ w' = w := by
  have HL := Lib.hid (fun W => isLetter_any 38 W)
  rw [show letB 38 = false by decide] at HL
  have HV := Lib.hid (show 4 = cls 38 by decide)
  go_enter Tryz.func118, Tryz.ntmps118
  go_wp2_with (
    go_at_call 126
    refine (HL.out _).mono ?_
    rintro e w2 ⟨rfl, rfl⟩)
  all_goals
    go_ret
    exact ⟨congrArg (fun x : Nat => Ending.returned (.int .i64 (x : Int))) HV.out, rfl⟩
theorem lcls_124 (w : World) : Calls Tryz.prog 118 #[.int .i32 (124 : Int)] w fun e w' => e = .returned (.int .i64 (cls 124 : Nat)) ∧ w' = w := by
  have HL := Lib.hid (fun W => isLetter_any 124 W)
  rw [show letB 124 = false by decide] at HL
  have HV := Lib.hid (show 4 = cls 124 by decide)
  go_enter Tryz.func118, Tryz.ntmps118
  go_wp2_with (
    go_at_call 126
    refine (HL.out _).mono ?_
    rintro e w2 ⟨rfl, rfl⟩)
  all_goals
    go_ret
    exact ⟨congrArg (fun x : Nat => Ending.returned (.int .i64 (x : Int))) HV.out, rfl⟩
theorem lcls_40 (w : World) : Calls Tryz.prog 118 #[.int .i32 (40 : Int)] w fun e w' => e = .returned (.int .i64 (cls 40 : Nat)) ∧ w' = w := by
  have HL := Lib.hid (fun W => isLetter_any 40 W)
  rw [show letB 40 = false by decide] at HL
  have HV := Lib.hid (show 4 = cls 40 by decide)
  go_enter Tryz.func118, Tryz.ntmps118
  go_wp2_with (
    go_at_call 126
    refine (HL.out _).mono ?_
    rintro e w2 ⟨rfl, rfl⟩)
  all_goals
    go_ret
    exact ⟨congrArg (fun x : Nat => Ending.returned (.int .i64 (x : Int))) HV.out, rfl⟩
theorem lcls_41 (w : World) : Calls Tryz.prog 118 #[.int .i32 (41 : Int)] w fun e w' => e = .returned (.int .i64 (cls 41 : Nat)) ∧ w' = w := by
  have HL := Lib.hid (fun W => isLetter_any 41 W)
  rw [show letB 41 = false by decide] at HL
  have HV := Lib.hid (show 4 = cls 41 by decide)
  go_enter Tryz.func118, Tryz.ntmps118
  go_wp2_with (
    go_at_call 126
    refine (HL.out _).mono ?_
    rintro e w2 ⟨rfl, rfl⟩)
  all_goals
    go_ret
    exact ⟨congrArg (fun x : Nat => Ending.returned (.int .i64 (x : Int))) HV.out, rfl⟩
theorem lcls_123 (w : World) : Calls Tryz.prog 118 #[.int .i32 (123 : Int)] w fun e w' => e = .returned (.int .i64 (cls 123 : Nat)) ∧ w' = w := by
  have HL := Lib.hid (fun W => isLetter_any 123 W)
  rw [show letB 123 = false by decide] at HL
  have HV := Lib.hid (show 4 = cls 123 by decide)
  go_enter Tryz.func118, Tryz.ntmps118
  go_wp2_with (
    go_at_call 126
    refine (HL.out _).mono ?_
    rintro e w2 ⟨rfl, rfl⟩)
  all_goals
    go_ret
    exact ⟨congrArg (fun x : Nat => Ending.returned (.int .i64 (x : Int))) HV.out, rfl⟩
theorem lcls_125 (w : World) : Calls Tryz.prog 118 #[.int .i32 (125 : Int)] w fun e w' => e = .returned (.int .i64 (cls 125 : Nat)) ∧ w' = w := by
  have HL := Lib.hid (fun W => isLetter_any 125 W)
  rw [show letB 125 = false by decide] at HL
  have HV := Lib.hid (show 4 = cls 125 by decide)
  go_enter Tryz.func118, Tryz.ntmps118
  go_wp2_with (
    go_at_call 126
    refine (HL.out _).mono ?_
    rintro e w2 ⟨rfl, rfl⟩)
  all_goals
    go_ret
    exact ⟨congrArg (fun x : Nat => Ending.returned (.int .i64 (x : Int))) HV.out, rfl⟩
theorem lcls_44 (w : World) : Calls Tryz.prog 118 #[.int .i32 (44 : Int)] w fun e w' => e = .returned (.int .i64 (cls 44 : Nat)) ∧ w' = w := by
  have HL := Lib.hid (fun W => isLetter_any 44 W)
  rw [show letB 44 = false by decide] at HL
  have HV := Lib.hid (show 4 = cls 44 by decide)
  go_enter Tryz.func118, Tryz.ntmps118
  go_wp2_with (
    go_at_call 126
    refine (HL.out _).mono ?_
    rintro e w2 ⟨rfl, rfl⟩)
  all_goals
    go_ret
    exact ⟨congrArg (fun x : Nat => Ending.returned (.int .i64 (x : Int))) HV.out, rfl⟩
theorem lcls_59 (w : World) : Calls Tryz.prog 118 #[.int .i32 (59 : Int)] w fun e w' => e = .returned (.int .i64 (cls 59 : Nat)) ∧ w' = w := by
  have HL := Lib.hid (fun W => isLetter_any 59 W)
  rw [show letB 59 = false by decide] at HL
  have HV := Lib.hid (show 4 = cls 59 by decide)
  go_enter Tryz.func118, Tryz.ntmps118
  go_wp2_with (
    go_at_call 126
    refine (HL.out _).mono ?_
    rintro e w2 ⟨rfl, rfl⟩)
  all_goals
    go_ret
    exact ⟨congrArg (fun x : Nat => Ending.returned (.int .i64 (x : Int))) HV.out, rfl⟩
theorem lcls_58 (w : World) : Calls Tryz.prog 118 #[.int .i32 (58 : Int)] w fun e w' => e = .returned (.int .i64 (cls 58 : Nat)) ∧ w' = w := by
  have HL := Lib.hid (fun W => isLetter_any 58 W)
  rw [show letB 58 = false by decide] at HL
  have HV := Lib.hid (show 4 = cls 58 by decide)
  go_enter Tryz.func118, Tryz.ntmps118
  go_wp2_with (
    go_at_call 126
    refine (HL.out _).mono ?_
    rintro e w2 ⟨rfl, rfl⟩)
  all_goals
    go_ret
    exact ⟨congrArg (fun x : Nat => Ending.returned (.int .i64 (x : Int))) HV.out, rfl⟩
theorem lcls_43 (w : World) : Calls Tryz.prog 118 #[.int .i32 (43 : Int)] w fun e w' => e = .returned (.int .i64 (cls 43 : Nat)) ∧ w' = w := by
  have HL := Lib.hid (fun W => isLetter_any 43 W)
  rw [show letB 43 = false by decide] at HL
  have HV := Lib.hid (show 4 = cls 43 by decide)
  go_enter Tryz.func118, Tryz.ntmps118
  go_wp2_with (
    go_at_call 126
    refine (HL.out _).mono ?_
    rintro e w2 ⟨rfl, rfl⟩)
  all_goals
    go_ret
    exact ⟨congrArg (fun x : Nat => Ending.returned (.int .i64 (x : Int))) HV.out, rfl⟩
theorem lcls_92 (w : World) : Calls Tryz.prog 118 #[.int .i32 (92 : Int)] w fun e w' => e = .returned (.int .i64 (cls 92 : Nat)) ∧ w' = w := by
  have HL := Lib.hid (fun W => isLetter_any 92 W)
  rw [show letB 92 = false by decide] at HL
  have HV := Lib.hid (show 4 = cls 92 by decide)
  go_enter Tryz.func118, Tryz.ntmps118
  go_wp2_with (
    go_at_call 126
    refine (HL.out _).mono ?_
    rintro e w2 ⟨rfl, rfl⟩)
  all_goals
    go_ret
    exact ⟨congrArg (fun x : Nat => Ending.returned (.int .i64 (x : Int))) HV.out, rfl⟩
theorem lcls_35 (w : World) : Calls Tryz.prog 118 #[.int .i32 (35 : Int)] w fun e w' => e = .returned (.int .i64 (cls 35 : Nat)) ∧ w' = w := by
  have HL := Lib.hid (fun W => isLetter_any 35 W)
  rw [show letB 35 = false by decide] at HL
  have HV := Lib.hid (show 4 = cls 35 by decide)
  go_enter Tryz.func118, Tryz.ntmps118
  go_wp2_with (
    go_at_call 126
    refine (HL.out _).mono ?_
    rintro e w2 ⟨rfl, rfl⟩)
  all_goals
    go_ret
    exact ⟨congrArg (fun x : Nat => Ending.returned (.int .i64 (x : Int))) HV.out, rfl⟩
theorem lcls_39 (w : World) : Calls Tryz.prog 118 #[.int .i32 (39 : Int)] w fun e w' => e = .returned (.int .i64 (cls 39 : Nat)) ∧ w' = w := by
  have HL := Lib.hid (fun W => isLetter_any 39 W)
  rw [show letB 39 = false by decide] at HL
  have HV := Lib.hid (show 4 = cls 39 by decide)
  go_enter Tryz.func118, Tryz.ntmps118
  go_wp2_with (
    go_at_call 126
    refine (HL.out _).mono ?_
    rintro e w2 ⟨rfl, rfl⟩)
  all_goals
    go_ret
    exact ⟨congrArg (fun x : Nat => Ending.returned (.int .i64 (x : Int))) HV.out, rfl⟩
theorem lcls_letter (r : Nat) (h : letB r = true) (w : World) : Calls Tryz.prog 118 #[.int .i32 r] w fun e w' => e = .returned (.int .i64 (cls r : Nat)) ∧ w' = w := by
  have HL := Lib.hid (fun W => isLetter_any r W)
  rw [h] at HL
  have HV := Lib.hid (show 1 = cls r by unfold cls; rw [if_pos (of_decide_eq_true h)])
  clear h
  go_enter Tryz.func118, Tryz.ntmps118
  go_wp2_with (
    go_at_call 126
    refine (HL.out _).mono ?_
    rintro e w2 ⟨rfl, rfl⟩)
  all_goals
    go_ret
    exact ⟨congrArg (fun x : Nat => Ending.returned (.int .i64 (x : Int))) HV.out, rfl⟩
theorem lcls_digit (r : Nat) (h : letB r = false) (h1 : 48 ≤ r) (h2 : r ≤ 57) (w : World) : Calls Tryz.prog 118 #[.int .i32 r] w fun e w' => e = .returned (.int .i64 (cls r : Nat)) ∧ w' = w := by
  have HL := Lib.hid (fun W => isLetter_any r W)
  rw [h] at HL
  have HV := Lib.hid (show 2 = cls r by unfold cls; rw [if_neg (of_decide_eq_false h), if_pos ⟨h1, h2⟩])
  have g1 : decide ((48 : Int) ≤ (r : Int)) = true := decide_eq_true (by omega)
  have g2 : decide ((r : Int) ≤ 57) = true := decide_eq_true (by omega)
  clear h h1 h2
  go_enter Tryz.func118, Tryz.ntmps118
  go_wp2_with (
    go_at_call 126
    refine (HL.out _).mono ?_
    rintro e w2 ⟨rfl, rfl⟩)
  all_goals
    go_ret
    exact ⟨congrArg (fun x : Nat => Ending.returned (.int .i64 (x : Int))) HV.out, rfl⟩
theorem lcls_other_low (r : Nat) (h : letB r = false) (h1 : r < 48) (hs : r ∉ [32, 9, 10, 13, 61, 126, 60, 62, 38, 124, 40, 41, 123, 125, 44, 59, 58, 43, 92, 35, 39]) (w : World) : Calls Tryz.prog 118 #[.int .i32 r] w fun e w' => e = .returned (.int .i64 (cls r : Nat)) ∧ w' = w := by
  have HL := Lib.hid (fun W => isLetter_any r W)
  rw [h] at HL
  simp only [List.mem_cons, List.not_mem_nil, or_false, not_or] at hs
  have HV := Lib.hid (show 0 = cls r by
    unfold cls signs
    rw [if_neg (of_decide_eq_false h), if_neg (by omega), if_neg (by omega), if_neg (by simp only [List.mem_cons, List.not_mem_nil, or_false, not_or]; omega)])
  have g1 : decide ((48 : Int) ≤ (r : Int)) = false := decide_eq_false (by omega)
  have k32 : ((r : Int) == 32) = false := by simp; omega
  have k9 : ((r : Int) == 9) = false := by simp; omega
  have k10 : ((r : Int) == 10) = false := by simp; omega
  have k13 : ((r : Int) == 13) = false := by simp; omega
  have k61 : ((r : Int) == 61) = false := by simp; omega
  have k126 : ((r : Int) == 126) = false := by simp; omega
  have k60 : ((r : Int) == 60) = false := by simp; omega
  have k62 : ((r : Int) == 62) = false := by simp; omega
  have k38 : ((r : Int) == 38) = false := by simp; omega
  have k124 : ((r : Int) == 124) = false := by simp; omega
  have k40 : ((r : Int) == 40) = false := by simp; omega
  have k41 : ((r : Int) == 41) = false := by simp; omega
  have k123 : ((r : Int) == 123) = false := by simp; omega
  have k125 : ((r : Int) == 125) = false := by simp; omega
  have k44 : ((r : Int) == 44) = false := by simp; omega
  have k59 : ((r : Int) == 59) = false := by simp; omega
  have k58 : ((r : Int) == 58) = false := by simp; omega
  have k43 : ((r : Int) == 43) = false := by simp; omega
  have k92 : ((r : Int) == 92) = false := by simp; omega
  have k35 : ((r : Int) == 35) = false := by simp; omega
  have k39 : ((r : Int) == 39) = false := by simp; omega
  clear h h1 hs
  go_enter Tryz.func118, Tryz.ntmps118
  go_wp2_with (
    go_at_call 126
    refine (HL.out _).mono ?_
    rintro e w2 ⟨rfl, rfl⟩)
  all_goals
    go_ret
    exact ⟨congrArg (fun x : Nat => Ending.returned (.int .i64 (x : Int))) HV.out, rfl⟩
theorem lcls_other_high (r : Nat) (h : letB r = false) (h1 : 57 < r) (hs : r ∉ [32, 9, 10, 13, 61, 126, 60, 62, 38, 124, 40, 41, 123, 125, 44, 59, 58, 43, 92, 35, 39]) (w : World) : Calls Tryz.prog 118 #[.int .i32 r] w fun e w' => e = .returned (.int .i64 (cls r : Nat)) ∧ w' = w := by
  have HL := Lib.hid (fun W => isLetter_any r W)
  rw [h] at HL
  simp only [List.mem_cons, List.not_mem_nil, or_false, not_or] at hs
  have HV := Lib.hid (show 0 = cls r by
    unfold cls signs
    rw [if_neg (of_decide_eq_false h), if_neg (by omega), if_neg (by omega), if_neg (by simp only [List.mem_cons, List.not_mem_nil, or_false, not_or]; omega)])
  have g1 : decide ((48 : Int) ≤ (r : Int)) = true := decide_eq_true (by omega)
  have g2 : decide ((r : Int) ≤ 57) = false := decide_eq_false (by omega)
  have k32 : ((r : Int) == 32) = false := by simp; omega
  have k9 : ((r : Int) == 9) = false := by simp; omega
  have k10 : ((r : Int) == 10) = false := by simp; omega
  have k13 : ((r : Int) == 13) = false := by simp; omega
  have k61 : ((r : Int) == 61) = false := by simp; omega
  have k126 : ((r : Int) == 126) = false := by simp; omega
  have k60 : ((r : Int) == 60) = false := by simp; omega
  have k62 : ((r : Int) == 62) = false := by simp; omega
  have k38 : ((r : Int) == 38) = false := by simp; omega
  have k124 : ((r : Int) == 124) = false := by simp; omega
  have k40 : ((r : Int) == 40) = false := by simp; omega
  have k41 : ((r : Int) == 41) = false := by simp; omega
  have k123 : ((r : Int) == 123) = false := by simp; omega
  have k125 : ((r : Int) == 125) = false := by simp; omega
  have k44 : ((r : Int) == 44) = false := by simp; omega
  have k59 : ((r : Int) == 59) = false := by simp; omega
  have k58 : ((r : Int) == 58) = false := by simp; omega
  have k43 : ((r : Int) == 43) = false := by simp; omega
  have k92 : ((r : Int) == 92) = false := by simp; omega
  have k35 : ((r : Int) == 35) = false := by simp; omega
  have k39 : ((r : Int) == 39) = false := by simp; omega
  clear h h1 hs
  go_enter Tryz.func118, Tryz.ntmps118
  go_wp2_with (
    go_at_call 126
    refine (HL.out _).mono ?_
    rintro e w2 ⟨rfl, rfl⟩)
  all_goals
    go_ret
    exact ⟨congrArg (fun x : Nat => Ending.returned (.int .i64 (x : Int))) HV.out, rfl⟩
theorem lcls_any (r : Nat) (w : World) : Calls Tryz.prog 118 #[.int .i32 r] w fun e w' => e = .returned (.int .i64 (cls r : Nat)) ∧ w' = w := by
  cases h : letB r with
  | true => exact lcls_letter r h w
  | false =>
    by_cases hs : r ∈ [32, 9, 10, 13, 61, 126, 60, 62, 38, 124, 40, 41, 123, 125, 44, 59, 58, 43, 92, 35, 39]
    · simp only [List.mem_cons, List.not_mem_nil, or_false] at hs
      rcases hs with rfl | rfl | rfl | rfl | rfl | rfl | rfl | rfl | rfl | rfl | rfl | rfl | rfl | rfl | rfl | rfl | rfl | rfl | rfl | rfl | rfl
      · exact lcls_32 w
      · exact lcls_9 w
      · exact lcls_10 w
      · exact lcls_13 w
      · exact lcls_61 w
      · exact lcls_126 w
      · exact lcls_60 w
      · exact lcls_62 w
      · exact lcls_38 w
      · exact lcls_124 w
      · exact lcls_40 w
      · exact lcls_41 w
      · exact lcls_123 w
      · exact lcls_125 w
      · exact lcls_44 w
      · exact lcls_59 w
      · exact lcls_58 w
      · exact lcls_43 w
      · exact lcls_92 w
      · exact lcls_35 w
      · exact lcls_39 w
    · rcases Nat.lt_or_ge r 48 with h1 | h1
      · exact lcls_other_low r h h1 hs w
      · rcases Nat.lt_or_ge 57 r with h2 | h2
        · exact lcls_other_high r h h2 hs w
        · exact lcls_digit r h h1 h2 w
end Go.Proofs.YteikakoheibnjaaGreatDoor
