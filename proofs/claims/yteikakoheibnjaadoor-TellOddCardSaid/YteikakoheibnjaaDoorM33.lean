/- Parts of the proof: TTextA. -/
import Derived.Test.YteikakoheibnjaaDoorM30
namespace Go.Proofs.YteikakoheibnjaaDoor
open Go Go.RowKit

set_option maxHeartbeats 4000000 in
theorem ttextN {w : World} {r : ResP} {L : ResL} (h : ResAt w w.heap.size r L) (hB : isB r = false) :
    Calls Tryd.prog 56 #[resT r L] w fun q w' => q = .returned (.string ⟨#[]⟩) ∧ Below w.heap.size w w' := by
  have HB1 := Lib.hid ((Below.refl _ _).alloc (Nat.le_refl _) (boxR r.tag r.err r.at_ r.model.length r.counter.length L) : Below w.heap.size w (w.alloc (boxR r.tag r.err r.at_ r.model.length r.counter.length L)))
  have HIS := Lib.hid (fun W (hb : Below w.heap.size w W) => (show Calls Tryd.prog 82 #[resW r.tag r.err r.at_ r.model.length r.counter.length L] W (fun q w' => q = .returned (.bool false) ∧ Below W.heap.size W w') by
    have := tis_any (h.later hb hb.size)
    rw [hB] at this
    exact this))
  clear h hB
  show Calls Tryd.prog 56 #[resW r.tag r.err r.at_ r.model.length r.counter.length L] w _
  generalize r.tag = t at *
  generalize r.err = er at *
  generalize r.at_ = ap at *
  generalize r.model.length = lm at *
  generalize r.counter.length = lc at *
  go_enter Tryd.func56, Tryd.ntmps56
  go_wp2_with (
    go_at_call 82
    refine (HIS.out _ HB1.out).mono ?_
    rintro q w2 ⟨rfl, hb2⟩
    have HB2 := Lib.hid (HB1.out.trans (hb2.mono (by simp)))
    clear hb2)
  go_ret
  exact ⟨rfl, HB2.out⟩
theorem isB_tag {r : ResP} (h : isB r = true) : r.tag = 1 ∨ r.tag = 2 ∨ r.tag = 3 ∨ r.tag = 4 ∨ r.tag = 5 := by
  unfold isB tagB at h
  simp only [Bool.and_eq_true, decide_eq_true_eq] at h
  omega
theorem ttext_any {w : World} {r : ResP} {L : ResL} (h : ResAt w w.heap.size r L) (hT : TTab w) :
    Calls Tryd.prog 56 #[resT r L] w fun q w' => q = .returned (.string ⟨(textP r).toArray⟩) ∧ Below w.heap.size w w' := by
  cases hB : isB r with
  | false =>
    have := ttextN h hB
    unfold textP
    rw [hB]
    exact this
  | true =>
    unfold textP
    rw [hB, if_pos rfl]
    have ht := isB_tag hB
    obtain ⟨t, e, a, M, C⟩ := r
    dsimp only at ht
    rcases ht with rfl | rfl | rfl | rfl | rfl
    · exact ttext1 h hT hB
    · exact ttext2 h hT hB
    · exact ttext3 h hT hB
    · exact ttext4 h hT hB
    · exact ttext5 h hT hB
end Go.Proofs.YteikakoheibnjaaDoor
