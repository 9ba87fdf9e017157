/- Parts of the proof: EvX1. -/
import Derived.Test.YtpknalhjgbgpiaaGreatDoorM23
noncomputable section
namespace Go.Proofs.YtpknalhjgbgpiaaGreatDoor
open Go Go.RowKit
/-- A call begins: nothing of the world is known. -/
def m00 : Mp := fun q => if numOf q < 4 then some (numOf q, 0) else none
theorem sel_n4 : (∀ d (x : O), sel1 d (n4 x) = x) ∧ (∀ d (x : H1), sel2 d (n4 x) = x) ∧ (∀ d (x : H2), sel3 d (n4 x) = x) ∧ (∀ d (x : H3), sel4 d (n4 x) = x) ∧ (∀ d (x : H4), sel5 d (n4 x) = x) ∧ (∀ d (x : H5), sel6 d (n4 x) = x) ∧ (∀ d (x : H6), sel7 d (n4 x) = x) ∧ ∀ d (x : H7), sel8 d (n4 x) = x := by
  refine ⟨?_, ?_, ?_, ?_, ?_, ?_, ?_, ?_⟩ <;> intro d x <;> cases d <;> rfl
theorem getO_heap0 (q : Q) : getO q heap0 = .none := by
  obtain ⟨h1, h2, h3, h4, h5, h6, h7, h8⟩ := sel_n4
  unfold getO heap0
  rw [h8, h7, h6, h5, h4, h3, h2, h1]
theorem next00 : numOf s00.next = 256 := by kernel_rfl
theorem num4 (g : Nat) (hg : g < 4) : numOf (numQ g) = g := by
  have e0 : numOf (numQ 0) = 0 := by kernel_rfl
  have e1 : numOf (numQ 1) = 1 := by kernel_rfl
  have e2 : numOf (numQ 2) = 2 := by kernel_rfl
  have e3 : numOf (numQ 3) = 3 := by kernel_rfl
  rcases g with _ | _ | _ | _ | g
  · exact e0
  · exact e1
  · exact e2
  · exact e3
  · omega
theorem St.start_ {F : Int} {w : World} {m : Mp} {s : S} (hs : ∀ q, getO q s.h = .none) (hm : ∀ q β z, m q = some (β, z) → β < w.heap.size) (hf : ∀ q, numOf s.next ≤ numOf q → m q = none) (hlo : (s.lo : Int) ≤ F) (hhi : s.hi = 0) (hg : ∀ g, g < 4 → ∃ z, m (numQ g) = some (g, z)) : St F ⟨w, fun _ => False, m, s⟩ m s w where
  live q _β _z _ h := absurd (hs q) h
  inj q _q' _β _z _z' _ _ h := absurd (hs q) h
  lt := hm
  fresh q h := ⟨hs q, hf q h⟩
  mono := Mp.le_refl _
  next := Nat.le_refl _
  old _q _ h := ⟨h, rfl⟩
  fr := Fr.refl _ _
  own q _β _z _ h := absurd (hs q) h
  lo := hlo
  hi := .inl hhi
  glob := hg
theorem m00_some {q : Q} {β z : Nat} (h : m00 q = some (β, z)) : β < 4 := by
  unfold m00 at h
  split at h
  · cases h
    assumption
  · cases h
theorem m00_none {q : Q} (h : 256 ≤ numOf q) : m00 q = none := if_neg (by omega)
theorem m00_glob (g : Nat) (hg : g < 4) : m00 (numQ g) = some (g, 0) := by
  unfold m00
  rw [num4 g hg, if_pos hg]
theorem St.start {F : Int} (hF : 0 ≤ F) {w : World} (hw : 4 ≤ w.heap.size) : St F ⟨w, fun _ => False, m00, s00⟩ m00 s00 w :=
  St.start_ getO_heap0 (fun _ _ _ h => Nat.lt_of_lt_of_le (m00_some h) hw) (fun q h => by rw [next00] at h; exact m00_none h) hF rfl fun g hg => ⟨0, m00_glob g hg⟩
end Go.Proofs.YtpknalhjgbgpiaaGreatDoor
