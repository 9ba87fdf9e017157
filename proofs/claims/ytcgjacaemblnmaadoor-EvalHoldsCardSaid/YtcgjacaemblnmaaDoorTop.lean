/- The walk over eval.Holds. -/
import Derived.Test.YtcgjacaemblnmaaDoorHolds
namespace Go.Proofs.YtcgjacaemblnmaaDoor
open Go Go.RowKit

/-- What eval.Holds says. -/
def holdsB (t : Core) (xs : List Int) (bound : Int) : Bool :=
  if bound < 0 ∨ 8 < bound ∨ xs.any oddB = true ∨ isTop t xs.length = false then false else evalG atomE bound.toNat t (xs.map Int.toNat)
theorem natL_toNat {xs : List Int} (h : xs.any oddB = false) : natL (xs.map Int.toNat) = xs ∧ ∀ x ∈ xs.map Int.toNat, x < 65536 := by
  rw [List.any_eq_false] at h
  have h' : ∀ x ∈ xs, 0 ≤ x ∧ x < 65536 := fun x hx => by
    have := h x hx
    simp [oddB] at this
    omega
  constructor
  · unfold natL
    rw [List.map_map]
    conv => rhs; rw [← List.map_id xs]
    refine List.map_congr_left fun x hx => ?_
    have := h' x hx
    simp
    omega
  · intro x hx
    obtain ⟨y, hy, rfl⟩ := List.mem_map.1 hx
    have := h' y hy
    omega

set_option maxHeartbeats 1000000 in
theorem Holds_any (t : Core) (A : Option Addr) (cap : Nat) (xs : List Int) (S : Option Addr) (scap : Nat) (bound : Int) (w : World) (h : CoreAt w w.heap.size t A cap) (hS : IntsAt w w.heap.size S xs) (hl : xs.length ≤ 140737488355328) (hT : Tab w) :
    Calls Tryd.prog 13 #[coreW t.op t.va t.vb t.vc t.vn t.kids.length A cap, .slice S xs.length scap, .int .i64 bound] w fun e w' => e = .returned (.bool (holdsB t xs bound)) ∧ Below w.heap.size w w' := by
  have HC := Lib.hid h
  have HS := Lib.hid hS
  have HT := Lib.hid hT
  have HI := Lib.hid (fun W hW => Is_any t A cap xs.length W hW)
  have HH := Lib.hid (fun (hb : bound.toNat ≤ 8) (hodd : xs.any oddB = false) (his : isB t xs.length = true) (h6 : xs.length ≤ 6) (W : World) (hC : CoreAt W W.heap.size t A cap) (hS : IntsAt W W.heap.size S xs) (hT : Tab W) => by
    have e := natL_toNat hodd
    have := holds_any bound.toNat hb t A cap (xs.map Int.toNat) S scap W hC (by rw [List.length_map]; exact his) (by rw [List.length_map]; exact h6) e.2 (by rw [e.1]; exact hS) hT
    rw [List.length_map] at this
    exact this)
  have HV := Lib.hid (show holdsB t xs bound = (if bound < 0 ∨ 8 < bound ∨ xs.any oddB = true ∨ isTop t xs.length = false then false else evalG atomE bound.toNat t (xs.map Int.toNat)) from rfl)
  have hti : isTop t xs.length = true → isB t xs.length = true ∧ xs.length ≤ 6 := by
    intro h
    unfold isTop at h
    simp at h
    exact ⟨h.2, by omega⟩
  have HTI := Lib.hid hti
  have HCN := Lib.hid (fun W (hW : IntsAt W W.heap.size S xs) => contains27 xs S scap W.heap.size W hW hl)
  clear h hS hT hti
  cases t with
  | node o a b c m ks =>
    simp only [coreW, Core.op, Core.va, Core.vb, Core.vc, Core.vn, Core.kids] at HI HH ⊢
    generalize holdsB (.node o a b c m ks) xs bound = R at *
    have HB1 := Lib.hid ((Below.refl w.heap.size w).alloc (Nat.le_refl _) (.cells #[.string ⟨o.toArray⟩, .int .i64 a, .int .i64 b, .int .i64 c, .int .i64 m, .slice A ks.length cap] 24))
    have h2 : 2 < w.heap.size := World.block_lt_of_cell? _ _ (HT.out 0 (by decide))
    by_cases h0 : bound < 0
    · have g0 : decide (bound < 0) = true := decide_eq_true h0
      have HR := Lib.hid (show false = R by rw [HV.out, if_pos (Or.inl h0)])
      go_enter Tryd.func13, Tryd.ntmps13
      go_wp2_with fail
      go_ret
      exact ⟨congrArg (fun x : Bool => Ending.returned (.bool x)) HR.out, HB1.out⟩
    · have g0 : decide (bound < 0) = false := decide_eq_false h0
      by_cases h8 : 8 < bound
      · have g8 : decide (8 < bound) = true := decide_eq_true h8
        have HR := Lib.hid (show false = R by rw [HV.out, if_pos (Or.inr (Or.inl h8))])
        go_enter Tryd.func13, Tryd.ntmps13
        go_wp2_with fail
        go_ret
        exact ⟨congrArg (fun x : Bool => Ending.returned (.bool x)) HR.out, HB1.out⟩
      · have g8 : decide (8 < bound) = false := decide_eq_false h8
        cases hodd : xs.any oddB with
        | true =>
          rw [hodd] at HCN
          have HR := Lib.hid (show false = R by rw [HV.out, if_pos (Or.inr (Or.inr (Or.inl hodd)))])
          go_enter Tryd.func13, Tryd.ntmps13
          go_wp2_with (
            go_at_call 27
            refine (HCN.out _ (HS.out.later HB1.out (by simp))).mono ?_
            rintro e w2 ⟨rfl, rfl⟩)
          go_ret
          exact ⟨congrArg (fun x : Bool => Ending.returned (.bool x)) HR.out, HB1.out⟩
        | false =>
          rw [hodd] at HCN
          cases hit : isTop (.node o a b c m ks) xs.length with
          | false =>
            rw [hit] at HI
            have HR := Lib.hid (show false = R by rw [HV.out, if_pos (Or.inr (Or.inr (Or.inr hit)))])
            go_enter Tryd.func13, Tryd.ntmps13
            go_wp2_with (first
              | (
                go_at_call 27
                refine (HCN.out _ (HS.out.later HB1.out (by simp))).mono ?_
                rintro e w2 ⟨rfl, rfl⟩)
              | (
                go_at_call 22
                refine (HI.out _ (HC.out.later HB1.out (by simp))).mono ?_
                rintro e w3 ⟨rfl, hb3⟩))
            go_ret
            exact ⟨congrArg (fun x : Bool => Ending.returned (.bool x)) HR.out, HB1.out.trans (hb3.mono (by simp))⟩
          | true =>
            rw [hit] at HI
            obtain ⟨his, h6⟩ := HTI.out hit
            have hHH := HH.out (by omega) hodd his h6
            have heR : evalG atomE bound.toNat (.node o a b c m ks) (xs.map Int.toNat) = R := by
              rw [HV.out, if_neg]
              rintro (h | h | h | h)
              · exact h0 h
              · exact h8 h
              · rw [hodd] at h; cases h
              · rw [hit] at h; cases h
            rw [heR, Int.toNat_of_nonneg (by omega : 0 ≤ bound)] at hHH
            have HHH := Lib.hid hHH
            clear hHH HH
            go_enter Tryd.func13, Tryd.ntmps13
            go_wp2_with (first
              | (
                go_at_call 27
                refine (HCN.out _ (HS.out.later HB1.out (by simp))).mono ?_
                rintro e w2 ⟨rfl, rfl⟩)
              | (
                go_at_call 22
                refine (HI.out _ (HC.out.later HB1.out (by simp))).mono ?_
                rintro e w3 ⟨rfl, hb3⟩
                obtain ⟨q0, q1, q2, q3, q4, q5⟩ := box_kept hb3
                have HB3 := Lib.hid (HB1.out.trans (hb3.mono (by simp)))
                clear hb3)
              | (
                go_at_call 28
                refine (HHH.out _ (HC.out.later HB3.out HB3.out.size) (HS.out.later HB3.out HB3.out.size) (HT.out.below HB3.out h2)).mono ?_
                rintro e w4 ⟨rfl, hb4⟩))
            go_ret
            exact ⟨rfl, HB3.out.trans (hb4.mono HB3.out.size)⟩
end Go.Proofs.YtcgjacaemblnmaaDoor
