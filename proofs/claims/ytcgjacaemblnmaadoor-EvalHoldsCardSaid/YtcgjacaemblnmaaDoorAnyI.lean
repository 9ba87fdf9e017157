/- The walks over eval.Holds's closure, slices.IndexFunc and ContainsFunc on ints. -/
import Derived.Test.YtcgjacaemblnmaaDoorAtom
namespace Go.Proofs.YtcgjacaemblnmaaDoor
open Go Go.RowKit

/-- No set within the bound. -/
def oddB (x : Int) : Bool := decide (x < 0) || decide (65536 ≤ x)
theorem odd_any (x : Int) (w : World) : Calls Tryd.prog 26 #[.int .i64 x] w fun e w' => e = .returned (.bool (oddB x)) ∧ w = w' := by
  have HO := Lib.hid (show oddB x = (decide (x < 0) || decide (65536 ≤ x)) from rfl)
  generalize oddB x = R at *
  by_cases h0 : x < 0
  · have g : decide (x < 0) = true := decide_eq_true h0
    have HR := Lib.hid (show true = R by rw [HO.out, g]; rfl)
    go_enter Tryd.func26, Tryd.ntmps26
    go_wp2_with fail
    go_ret
    exact ⟨congrArg (fun x : Bool => Ending.returned (.bool x)) HR.out, rfl⟩
  · have g : decide (x < 0) = false := decide_eq_false h0
    by_cases h1 : 65536 ≤ x
    · have g1 : decide (65536 ≤ x) = true := decide_eq_true h1
      have HR := Lib.hid (show true = R by rw [HO.out, g, g1]; rfl)
      go_enter Tryd.func26, Tryd.ntmps26
      go_wp2_with fail
      go_ret
      exact ⟨congrArg (fun x : Bool => Ending.returned (.bool x)) HR.out, rfl⟩
    · have g1 : decide (65536 ≤ x) = false := decide_eq_false h1
      have HR := Lib.hid (show false = R by rw [HO.out, g, g1]; rfl)
      go_enter Tryd.func26, Tryd.ntmps26
      go_wp2_with fail
      go_ret
      exact ⟨congrArg (fun x : Bool => Ending.returned (.bool x)) HR.out, rfl⟩

theorem anyI_take (P : Int → Bool) (ks : List Int) (k : Nat) (h : k < ks.length) : (ks.take (k + 1)).any P = ((ks.take k).any P || P ks[k]) := by
  induction ks generalizing k with
  | nil => simp at h
  | cons x r ih =>
    cases k with
    | zero => simp
    | succ k =>
      simp only [List.take_succ_cons, List.any_cons, List.getElem_cons_succ]
      rw [ih k (by simpa using h), Bool.or_assoc]
theorem anyI_mem {P : Int → Bool} {ks : List Int} {k : Nat} (h : k < ks.length) (hp : P ks[k] = true) : ks.any P = true := by
  rw [List.any_eq_true]
  exact ⟨_, List.getElem_mem h, hp⟩

set_option maxHeartbeats 1000000 in
theorem index42 (xs : List Int) (A : Option Addr) (cap B : Nat) (w : World) (h : IntsAt w B A xs) (hl : xs.length ≤ 140737488355328) :
    Calls Tryd.prog 42 #[.slice A xs.length cap, .func (.func 26) #[] #[]] w fun e w' => ∃ i : Int, e = .returned (.int .i64 i) ∧ decide (0 ≤ i) = xs.any oddB ∧ w = w' := by
  have HC := Lib.hid h
  have HO := Lib.hid odd_any
  clear h
  go_enter Tryd.func42, Tryd.ntmps42
  go_wp2_with fail
  go_loopg [8] xs.length (fun r i wr => ∃ k : Nat, k ≤ xs.length ∧ r = xs.length - k ∧ i = .int .i64 (k : Int) ∧ (xs.take k).any oddB = false ∧ wr = w)
  case atStart => exact ⟨0, Nat.zero_le _, rfl, rfl, by simp, rfl⟩
  case round =>
    obtain ⟨k, hk, hr, rfl, hp, rfl⟩ := hrel
    have HRr := Lib.hid hr
    have HP := Lib.hid hp
    clear hr hp
    by_cases hlt : k < xs.length
    · obtain ⟨bb, off, rfl, hlo, hcell⟩ := HC.out (by omega)
      have c0 := hcell k hlt
      have HS := Lib.hid (anyI_take oddB xs k hlt)
      have HM := Lib.hid (fun hp => anyI_mem (P := oddB) hlt hp)
      have HI := Lib.hid (HO.out xs[k])
      generalize hx : xs[k] = x at *
      clear hx hcell HO
      have g1 : decide ((k : Int) < (xs.length : Int)) = true := decide_eq_true (by omega)
      cases hpv : oddB x with
      | true =>
        rw [hpv] at HI
        go_wp2_with (go_at_call 26; refine (HI.out _).mono ?_; rintro e w2 ⟨rfl, rfl⟩)
        go_ret
        refine ⟨_, rfl, ?_, rfl⟩
        rw [HM.out hpv, decide_eq_true (by omega : (0 : Int) ≤ (k : Int))]
      | false =>
        rw [hpv] at HI
        go_wp2_with (go_at_call 26; refine (HI.out _).mono ?_; rintro e w2 ⟨rfl, rfl⟩)
        go_roundg (xs.length - (k + 1))
        case measure => have := HRr.out; omega
        case rel => exact ⟨k + 1, by omega, rfl, by go_num, by rw [HS.out, HP.out, hpv]; rfl, rfl⟩
    · have g1 : decide ((k : Int) < (xs.length : Int)) = false := decide_eq_false (by omega)
      go_wp2_with fail
      go_ret
      have hkk : k = xs.length := by omega
      refine ⟨_, rfl, ?_, rfl⟩
      have := HP.out
      rw [hkk, List.take_length] at this
      rw [this]
      rfl
theorem contains27 (xs : List Int) (A : Option Addr) (cap B : Nat) (w : World) (h : IntsAt w B A xs) (hl : xs.length ≤ 140737488355328) :
    Calls Tryd.prog 27 #[.slice A xs.length cap, .func (.func 26) #[] #[]] w fun e w' => e = .returned (.bool (xs.any oddB)) ∧ w = w' := by
  have HI := Lib.hid (index42 xs A cap B w h hl)
  clear h
  generalize xs.any oddB = r at *
  go_enter Tryd.func27, Tryd.ntmps27
  go_wp2_with (
    go_at_call 42
    refine HI.out.mono ?_
    rintro e w2 ⟨i, rfl, hi, rfl⟩)
  go_ret
  exact ⟨rfl, rfl⟩
end Go.Proofs.YtcgjacaemblnmaaDoor
