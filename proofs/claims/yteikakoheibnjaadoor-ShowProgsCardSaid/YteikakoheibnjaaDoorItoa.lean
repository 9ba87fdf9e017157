/- strconv.Itoa at 0 .. 99. -/
import Derived.Test.YteikakoheibnjaaDoorAt
namespace Go.Proofs.YteikakoheibnjaaDoor
open Go Go.RowKit

theorem dig_all : ∀ i : Fin 10, (({ data := #[48, 49, 50, 51, 52, 53, 54, 55, 56, 57, 97, 98, 99, 100, 101, 102, 103, 104, 105, 106, 107, 108, 109, 110, 111, 112, 113, 114, 115, 116, 117, 118, 119, 120, 121, 122] } : ByteArray).extract i.val (i.val + 1)).data = (dig i.val).toArray := by decide +kernel
set_option maxRecDepth 100000 in
theorem two_all : ∀ i : Fin 100, 10 ≤ i.val → (({ data := #[48, 48, 48, 49, 48, 50, 48, 51, 48, 52, 48, 53, 48, 54, 48, 55, 48, 56, 48, 57, 49, 48, 49, 49, 49, 50, 49, 51, 49, 52, 49, 53, 49, 54, 49, 55, 49, 56, 49, 57, 50, 48, 50, 49, 50, 50, 50, 51, 50, 52, 50, 53, 50, 54, 50, 55, 50, 56, 50, 57, 51, 48, 51, 49, 51, 50, 51, 51, 51, 52, 51, 53, 51, 54, 51, 55, 51, 56, 51, 57, 52, 48, 52, 49, 52, 50, 52, 51, 52, 52, 52, 53, 52, 54, 52, 55, 52, 56, 52, 57, 53, 48, 53, 49, 53, 50, 53, 51, 53, 52, 53, 53, 53, 54, 53, 55, 53, 56, 53, 57, 54, 48, 54, 49, 54, 50, 54, 51, 54, 52, 54, 53, 54, 54, 54, 55, 54, 56, 54, 57, 55, 48, 55, 49, 55, 50, 55, 51, 55, 52, 55, 53, 55, 54, 55, 55, 55, 56, 55, 57, 56, 48, 56, 49, 56, 50, 56, 51, 56, 52, 56, 53, 56, 54, 56, 55, 56, 56, 56, 57, 57, 48, 57, 49, 57, 50, 57, 51, 57, 52, 57, 53, 57, 54, 57, 55, 57, 56, 57, 57] } : ByteArray).extract (i.val * 2) (i.val * 2 + 2)).data = (dig i.val).toArray := by decide +kernel
set_option maxRecDepth 100000 in
theorem smallN_any (i : Nat) (hi : i < 100) (w : World) : Calls Tryd.prog 111 #[.int .i64 i] w fun e w' => e = .returned (.string ⟨(dig i).toArray⟩) ∧ w = w' := by
  by_cases h : i < 10
  · have g : decide ((i : Int) < 10) = true := decide_eq_true (by omega)
    have HI := Lib.hid (dig_all ⟨i, h⟩)
    go_enter Tryd.func111, Tryd.ntmps111
    go_wp2_with fail
    go_ret
    exact ⟨congrArg (fun x : Array UInt8 => Ending.returned (.string ⟨x⟩)) HI.out, rfl⟩
  · have g : decide ((i : Int) < 10) = false := decide_eq_false (by omega)
    have HI := Lib.hid (two_all ⟨i, hi⟩ (by show 10 ≤ i; omega))
    go_enter Tryd.func111, Tryd.ntmps111
    go_wp2_with fail
    go_ret
    exact ⟨congrArg (fun x : Array UInt8 => Ending.returned (.string ⟨x⟩)) HI.out, rfl⟩
theorem format_any (i : Nat) (hi : i < 100) (w : World) : Calls Tryd.prog 87 #[.int .i64 i, .int .i64 10] w fun e w' => e = .returned (.string ⟨(dig i).toArray⟩) ∧ w = w' := by
  have g0 : decide (0 ≤ (i : Int)) = true := decide_eq_true (by omega)
  have g1 : decide ((i : Int) < 100) = true := decide_eq_true (by omega)
  have HS := Lib.hid (fun W => smallN_any i hi W)
  go_enter Tryd.func87, Tryd.ntmps87
  go_wp2_with (
    go_at_call 111
    refine (HS.out _).mono ?_
    rintro e w2 ⟨rfl, rfl⟩)
  go_ret
  exact ⟨rfl, rfl⟩
theorem itoaI_any (i : Nat) (hi : i < 100) (w : World) : Calls Tryd.prog 63 #[.int .i64 i] w fun e w' => e = .returned (.string ⟨(dig i).toArray⟩) ∧ w = w' := by
  have HS := Lib.hid (fun W => format_any i hi W)
  go_enter Tryd.func63, Tryd.ntmps63
  go_wp2_with (
    go_at_call 87
    refine (HS.out _).mono ?_
    rintro e w2 ⟨rfl, rfl⟩)
  go_ret
  exact ⟨rfl, rfl⟩
/-- A number from 0 to 99 in digits. -/
theorem itoa_any (i : Nat) (hi : i < 100) (w : World) : Calls Tryd.prog 28 #[.int .i64 i] w fun e w' => e = .returned (.string ⟨(dig i).toArray⟩) ∧ w = w' := by
  have HS := Lib.hid (fun W => itoaI_any i hi W)
  go_enter Tryd.func28, Tryd.ntmps28
  go_wp2_with (
    go_at_call 63
    refine (HS.out _).mono ?_
    rintro e w2 ⟨rfl, rfl⟩)
  go_ret
  exact ⟨rfl, rfl⟩
end Go.Proofs.YteikakoheibnjaaDoor
