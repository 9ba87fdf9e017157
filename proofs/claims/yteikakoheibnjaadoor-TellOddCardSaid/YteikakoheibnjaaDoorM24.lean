/- Parts of the proof: TIs. -/
import Derived.Test.YteikakoheibnjaaDoorM23
namespace Go.Proofs.YteikakoheibnjaaDoor
open Go Go.RowKit

theorem isEmpty_dec {α : Type} (l : List α) : l.isEmpty = !decide (0 < l.length) := by cases l <;> simp
/-- What a result may be, of its numbers and lengths. -/
def restN (t e a : Int) (lm lc : Nat) : Bool := (hasMB t || !decide (0 < lm)) && (hasCB t || !decide (0 < lc)) && (if t = 4 then decide (1 ≤ e ∧ e ≤ 8) && decide (0 ≤ a ∧ a ≤ 2000) else decide (e = 0) && decide (a = 0))
theorem isB_eq (r : ResP) : isB r = (decide (1 ≤ r.tag) && decide (r.tag ≤ 5) && (valsB r.model && valsB r.counter) && restN r.tag r.err r.at_ r.model.length r.counter.length) := by
  unfold isB tagB restB restN hasMB hasCB
  rw [isEmpty_dec, isEmpty_dec]
set_option maxHeartbeats 8000000 in
theorem tis_any {w : World} {r : ResP} {L : ResL} (h : ResAt w w.heap.size r L) :
    Calls Tryd.prog 82 #[resT r L] w fun e w' => e = .returned (.bool (isB r)) ∧ Below w.heap.size w w' := by
  have HV := Lib.hid (isB_eq r)
  have HB1 : Below w.heap.size w (w.alloc (boxR r.tag r.err r.at_ r.model.length r.counter.length L)) := (Below.refl _ _).alloc (Nat.le_refl _) _
  have HM := Lib.hid (fun W (hb : Below (w.alloc (boxR r.tag r.err r.at_ r.model.length r.counter.length L)).heap.size (w.alloc (boxR r.tag r.err r.at_ r.model.length r.counter.length L)) W) => areVals_any (h.model.later (HB1.trans (hb.mono (by simp))) (HB1.trans (hb.mono (by simp))).size))
  have HC := Lib.hid (fun W (hb : Below (w.alloc (boxR r.tag r.err r.at_ r.model.length r.counter.length L)).heap.size (w.alloc (boxR r.tag r.err r.at_ r.model.length r.counter.length L)) W) => areVals_any (h.counter.later (HB1.trans (hb.mono (by simp))) (HB1.trans (hb.mono (by simp))).size))
  have HW := Lib.hid (fun W (hb : Below (w.alloc (boxR r.tag r.err r.at_ r.model.length r.counter.length L)).heap.size (w.alloc (boxR r.tag r.err r.at_ r.model.length r.counter.length L)) W) => HB1.trans (hb.mono (by simp)))
  have HHM := Lib.hid (fun W => hasModel_any r.tag W)
  have HHC := Lib.hid (fun W => hasCounter_any r.tag W)
  have hz1 := h.model.small
  have hz2 := h.counter.small
  have HRN : Hid (restN r.tag r.err r.at_ r.model.length r.counter.length = ((hasMB r.tag || !decide (0 < r.model.length)) && (hasCB r.tag || !decide (0 < r.counter.length)) && (if r.tag = 4 then decide (1 ≤ r.err ∧ r.err ≤ 8) && decide (0 ≤ r.at_ ∧ r.at_ ≤ 2000) else decide (r.err = 0) && decide (r.at_ = 0)))) := Lib.hid rfl
  clear h HB1
  show Calls Tryd.prog 82 #[resW r.tag r.err r.at_ r.model.length r.counter.length L] w _
  generalize restN r.tag r.err r.at_ r.model.length r.counter.length = RN at *
  generalize isB r = V at *
  generalize valsB r.model = vm at *
  generalize valsB r.counter = vc at *
  generalize r.model.length = lm at *
  generalize r.counter.length = lc at *
  generalize hasMB r.tag = hm at *
  generalize hasCB r.tag = hc at *
  generalize r.tag = t at *
  generalize r.err = er at *
  generalize r.at_ = at0 at *
  clear r
  by_cases h1 : t < 1
  · have t1 : decide (t < 1) = true := decide_eq_true h1
    have HF := Lib.hid (show false = V by rw [HV.out, decide_eq_false (show ¬ 1 ≤ t by omega)]; rfl)
    clear HV HRN HM HC HHM HHC
    go_enter Tryd.func82, Tryd.ntmps82
    go_wp2_with fail
    go_ret
    exact ⟨congrArg (fun x : Bool => Ending.returned (.bool x)) HF.out, HW.out _ (Below.refl _ _)⟩
  have t1 : decide (t < 1) = false := decide_eq_false h1
  by_cases h5 : 5 < t
  · have t5 : decide (5 < t) = true := decide_eq_true h5
    have HF := Lib.hid (show false = V by rw [HV.out, decide_eq_false (show ¬ t ≤ 5 by omega)]; simp)
    clear HV HRN HM HC HHM HHC
    go_enter Tryd.func82, Tryd.ntmps82
    go_wp2_with fail
    go_ret
    exact ⟨congrArg (fun x : Bool => Ending.returned (.bool x)) HF.out, HW.out _ (Below.refl _ _)⟩
  have t5 : decide (5 < t) = false := decide_eq_false h5
  rw [decide_eq_true (show 1 ≤ t by omega), decide_eq_true (show t ≤ 5 by omega)] at HV
  cases vm with
  | false =>
    have HF := Lib.hid (show false = V by rw [HV.out]; rfl)
    clear HV HRN HC HHM HHC
    go_enter Tryd.func82, Tryd.ntmps82
    go_wp2_with (
      go_at_call 109
      refine (HM.out _ (Below.refl _ _)).mono ?_
      rintro e w2 ⟨rfl, hb2⟩
      have b20 := vbox_at hb2 0 _ rfl
      have b21 := vbox_at hb2 1 _ rfl
      have b22 := vbox_at hb2 2 _ rfl
      have b23 := vbox_at hb2 3 _ rfl
      have b24 := vbox_at hb2 4 _ rfl
      have HB2 := Lib.hid hb2
      clear hb2)
    go_ret
    exact ⟨congrArg (fun x : Bool => Ending.returned (.bool x)) HF.out, HW.out _ HB2.out⟩
  | true =>
  cases vc with
  | false =>
    have HF := Lib.hid (show false = V by rw [HV.out]; rfl)
    clear HV HRN HHM HHC
    go_enter Tryd.func82, Tryd.ntmps82
    go_wp2_with (first
      | (
        have hhb := HB2
        clear hhb
        go_at_call 109
        refine (HC.out _ HB2.out).mono ?_
        rintro e w3 ⟨rfl, hb3⟩
        have hb3 := HB2.out.trans (hb3.mono HB2.out.size)
        have b30 := vbox_at hb3 0 _ rfl
        have b31 := vbox_at hb3 1 _ rfl
        have b32 := vbox_at hb3 2 _ rfl
        have b33 := vbox_at hb3 3 _ rfl
        have b34 := vbox_at hb3 4 _ rfl
        have HB3 := Lib.hid hb3
        clear hb3 b20 b21 b22 b23 b24)
      | (
        go_at_call 109
        refine (HM.out _ (Below.refl _ _)).mono ?_
        rintro e w2 ⟨rfl, hb2⟩
        have b20 := vbox_at hb2 0 _ rfl
        have b21 := vbox_at hb2 1 _ rfl
        have b22 := vbox_at hb2 2 _ rfl
        have b23 := vbox_at hb2 3 _ rfl
        have b24 := vbox_at hb2 4 _ rfl
        have HB2 := Lib.hid hb2
        clear hb2))
    go_ret
    exact ⟨congrArg (fun x : Bool => Ending.returned (.bool x)) HF.out, HW.out _ HB3.out⟩
  | true =>
  have HV2 := Lib.hid (show V = RN by rw [HV.out]; rfl)
  clear HV
  have HQM : Hid ((hm = true ∨ lm = 0) ∨ (hm = false ∧ 0 < lm)) := Lib.hid (by cases hm <;> simp <;> omega)
  have HQC : Hid ((hc = true ∨ lc = 0) ∨ (hc = false ∧ 0 < lc)) := Lib.hid (by cases hc <;> simp <;> omega)
  clear HQM HQC
  by_cases hM : hm = false ∧ 0 < lm
  · obtain ⟨rfl, hlm⟩ := hM
    have m1 : decide ((0 : Int) < (lm : Int)) = true := decide_eq_true (by omega)
    have m2 : decide (0 < lm) = true := decide_eq_true hlm
    have HF := Lib.hid (show false = V by rw [HV2.out, HRN.out, m2]; rfl)
    clear HV2 HRN HHC
    go_enter Tryd.func82, Tryd.ntmps82
    go_wp2_with (first
      | (
        go_at_call 83
        refine (HHM.out _).mono ?_
        rintro e w4 ⟨rfl, rfl⟩)
      | (
        have hhb := HB2
        clear hhb
        go_at_call 109
        refine (HC.out _ HB2.out).mono ?_
        rintro e w3 ⟨rfl, hb3⟩
        have hb3 := HB2.out.trans (hb3.mono HB2.out.size)
        have b30 := vbox_at hb3 0 _ rfl
        have b31 := vbox_at hb3 1 _ rfl
        have b32 := vbox_at hb3 2 _ rfl
        have b33 := vbox_at hb3 3 _ rfl
        have b34 := vbox_at hb3 4 _ rfl
        have HB3 := Lib.hid hb3
        clear hb3 b20 b21 b22 b23 b24)
      | (
        go_at_call 109
        refine (HM.out _ (Below.refl _ _)).mono ?_
        rintro e w2 ⟨rfl, hb2⟩
        have b20 := vbox_at hb2 0 _ rfl
        have b21 := vbox_at hb2 1 _ rfl
        have b22 := vbox_at hb2 2 _ rfl
        have b23 := vbox_at hb2 3 _ rfl
        have b24 := vbox_at hb2 4 _ rfl
        have HB2 := Lib.hid hb2
        clear hb2))
    go_ret
    exact ⟨congrArg (fun x : Bool => Ending.returned (.bool x)) HF.out, HW.out _ HB3.out⟩
  by_cases hC : hc = false ∧ 0 < lc
  · obtain ⟨rfl, hlc⟩ := hC
    have c1 : decide ((0 : Int) < (lc : Int)) = true := decide_eq_true (by omega)
    have c2 : decide (0 < lc) = true := decide_eq_true hlc
    have HF := Lib.hid (show false = V by rw [HV2.out, HRN.out, c2]; simp)
    clear HV2 HRN
    cases hm with
    | true =>
      go_enter Tryd.func82, Tryd.ntmps82
      go_wp2_with (first
        | (
          go_at_call 85
          refine (HHC.out _).mono ?_
          rintro e w5 ⟨rfl, rfl⟩)
        | (
          go_at_call 83
          refine (HHM.out _).mono ?_
          rintro e w4 ⟨rfl, rfl⟩)
        | (
          have hhb := HB2
          clear hhb
          go_at_call 109
          refine (HC.out _ HB2.out).mono ?_
          rintro e w3 ⟨rfl, hb3⟩
          have hb3 := HB2.out.trans (hb3.mono HB2.out.size)
          have b30 := vbox_at hb3 0 _ rfl
          have b31 := vbox_at hb3 1 _ rfl
          have b32 := vbox_at hb3 2 _ rfl
          have b33 := vbox_at hb3 3 _ rfl
          have b34 := vbox_at hb3 4 _ rfl
          have HB3 := Lib.hid hb3
          clear hb3 b20 b21 b22 b23 b24)
        | (
          go_at_call 109
          refine (HM.out _ (Below.refl _ _)).mono ?_
          rintro e w2 ⟨rfl, hb2⟩
          have b20 := vbox_at hb2 0 _ rfl
          have b21 := vbox_at hb2 1 _ rfl
          have b22 := vbox_at hb2 2 _ rfl
          have b23 := vbox_at hb2 3 _ rfl
          have b24 := vbox_at hb2 4 _ rfl
          have HB2 := Lib.hid hb2
          clear hb2))
      go_ret
      exact ⟨congrArg (fun x : Bool => Ending.returned (.bool x)) HF.out, HW.out _ HB3.out⟩
    | false =>
      have hlm : lm = 0 := by
        rcases Nat.eq_zero_or_pos lm with h | h
        · exact h
        · exact absurd ⟨rfl, h⟩ hM
      have m1 : decide ((0 : Int) < (lm : Int)) = false := decide_eq_false (by omega)
      have m2 : decide (0 < lm) = false := decide_eq_false (by omega)
      clear hlm hM
      go_enter Tryd.func82, Tryd.ntmps82
      go_wp2_with (first
        | (
          go_at_call 85
          refine (HHC.out _).mono ?_
          rintro e w5 ⟨rfl, rfl⟩)
        | (
          go_at_call 83
          refine (HHM.out _).mono ?_
          rintro e w4 ⟨rfl, rfl⟩)
        | (
          have hhb := HB2
          clear hhb
          go_at_call 109
          refine (HC.out _ HB2.out).mono ?_
          rintro e w3 ⟨rfl, hb3⟩
          have hb3 := HB2.out.trans (hb3.mono HB2.out.size)
          have b30 := vbox_at hb3 0 _ rfl
          have b31 := vbox_at hb3 1 _ rfl
          have b32 := vbox_at hb3 2 _ rfl
          have b33 := vbox_at hb3 3 _ rfl
          have b34 := vbox_at hb3 4 _ rfl
          have HB3 := Lib.hid hb3
          clear hb3 b20 b21 b22 b23 b24)
        | (
          go_at_call 109
          refine (HM.out _ (Below.refl _ _)).mono ?_
          rintro e w2 ⟨rfl, hb2⟩
          have b20 := vbox_at hb2 0 _ rfl
          have b21 := vbox_at hb2 1 _ rfl
          have b22 := vbox_at hb2 2 _ rfl
          have b23 := vbox_at hb2 3 _ rfl
          have b24 := vbox_at hb2 4 _ rfl
          have HB2 := Lib.hid hb2
          clear hb2))
      go_ret
      exact ⟨congrArg (fun x : Bool => Ending.returned (.bool x)) HF.out, HW.out _ HB3.out⟩
  have HRN2 := Lib.hid (show RN = (if t = 4 then decide (1 ≤ er ∧ er ≤ 8) && decide (0 ≤ at0 ∧ at0 ≤ 2000) else decide (er = 0) && decide (at0 = 0)) by
    rw [HRN.out]
    have x1 : (hm || !decide (0 < lm)) = true := by cases hm <;> simp at hM ⊢ <;> omega
    have x2 : (hc || !decide (0 < lc)) = true := by cases hc <;> simp at hC ⊢ <;> omega
    rw [x1, x2]
    rfl)
  clear HRN
  have m1 : hm = false → decide ((0 : Int) < (lm : Int)) = false := fun h => decide_eq_false (by subst h; simp at hM; omega)
  have m2 : hm = false → decide (0 < lm) = false := fun h => decide_eq_false (by subst h; simp at hM; omega)
  have c1 : hc = false → decide ((0 : Int) < (lc : Int)) = false := fun h => decide_eq_false (by subst h; simp at hC; omega)
  have c2 : hc = false → decide (0 < lc) = false := fun h => decide_eq_false (by subst h; simp at hC; omega)
  have M1 := Lib.hid m1
  have M2 := Lib.hid m2
  have C1 := Lib.hid c1
  have C2 := Lib.hid c2
  clear m1 m2 c1 c2 hM hC
  have HRN := HRN2
  clear HRN2
  cases hm
  all_goals
    cases hc
  all_goals
    (try have m1 := M1.out rfl)
    (try have m2 := M2.out rfl)
    (try have c1 := C1.out rfl)
    (try have c2 := C2.out rfl)
    clear M1 M2 C1 C2
    go_enter Tryd.func82, Tryd.ntmps82
    go_upto_region 5 with (first
      | (
        go_at_call 85
        refine (HHC.out _).mono ?_
        rintro e w5 ⟨rfl, rfl⟩)
      | (
        go_at_call 83
        refine (HHM.out _).mono ?_
        rintro e w4 ⟨rfl, rfl⟩)
      | (
        have hhb := HB2
        clear hhb
        go_at_call 109
        refine (HC.out _ HB2.out).mono ?_
        rintro e w3 ⟨rfl, hb3⟩
        have hb3 := HB2.out.trans (hb3.mono HB2.out.size)
        have b30 := vbox_at hb3 0 _ rfl
        have b31 := vbox_at hb3 1 _ rfl
        have b32 := vbox_at hb3 2 _ rfl
        have b33 := vbox_at hb3 3 _ rfl
        have b34 := vbox_at hb3 4 _ rfl
        have HB3 := Lib.hid hb3
        clear hb3 b20 b21 b22 b23 b24)
      | (
        go_at_call 109
        refine (HM.out _ (Below.refl _ _)).mono ?_
        rintro e w2 ⟨rfl, hb2⟩
        have b20 := vbox_at hb2 0 _ rfl
        have b21 := vbox_at hb2 1 _ rfl
        have b22 := vbox_at hb2 2 _ rfl
        have b23 := vbox_at hb2 3 _ rfl
        have b24 := vbox_at hb2 4 _ rfl
        have HB2 := Lib.hid hb2
        clear hb2))
  all_goals
    by_cases h4 : t = 4
    · subst h4
      by_cases e1 : 1 ≤ er
      · have s1 : decide (1 ≤ er) = true := decide_eq_true e1
        by_cases e8 : er ≤ 8
        · have s8 : decide (er ≤ 8) = true := decide_eq_true e8
          by_cases a0 : 0 ≤ at0
          · have r0 : decide (0 ≤ at0) = true := decide_eq_true a0
            by_cases a2 : at0 ≤ 2000
            · have r2 : decide (at0 ≤ 2000) = true := decide_eq_true a2
              have HF := Lib.hid (show true = V by rw [HV2.out, HRN.out, if_pos rfl, decide_eq_true (And.intro e1 e8), decide_eq_true (And.intro a0 a2)]; rfl)
              clear HV2 HRN
              go_wp2_with fail
              go_ret
              exact ⟨congrArg (fun x : Bool => Ending.returned (.bool x)) HF.out, HW.out _ HB3.out⟩
            · have r2 : decide (at0 ≤ 2000) = false := decide_eq_false a2
              have HF := Lib.hid (show false = V by rw [HV2.out, HRN.out, if_pos rfl, decide_eq_false (show ¬ (0 ≤ at0 ∧ at0 ≤ 2000) by omega)]; simp)
              clear HV2 HRN
              go_wp2_with fail
              go_ret
              exact ⟨congrArg (fun x : Bool => Ending.returned (.bool x)) HF.out, HW.out _ HB3.out⟩
          · have r0 : decide (0 ≤ at0) = false := decide_eq_false a0
            have HF := Lib.hid (show false = V by rw [HV2.out, HRN.out, if_pos rfl, decide_eq_false (show ¬ (0 ≤ at0 ∧ at0 ≤ 2000) by omega)]; simp)
            clear HV2 HRN
            go_wp2_with fail
            go_ret
            exact ⟨congrArg (fun x : Bool => Ending.returned (.bool x)) HF.out, HW.out _ HB3.out⟩
        · have s8 : decide (er ≤ 8) = false := decide_eq_false e8
          have HF := Lib.hid (show false = V by rw [HV2.out, HRN.out, if_pos rfl, decide_eq_false (show ¬ (1 ≤ er ∧ er ≤ 8) by omega)]; simp)
          clear HV2 HRN
          go_wp2_with fail
          go_ret
          exact ⟨congrArg (fun x : Bool => Ending.returned (.bool x)) HF.out, HW.out _ HB3.out⟩
      · have s1 : decide (1 ≤ er) = false := decide_eq_false e1
        have HF := Lib.hid (show false = V by rw [HV2.out, HRN.out, if_pos rfl, decide_eq_false (show ¬ (1 ≤ er ∧ er ≤ 8) by omega)]; simp)
        clear HV2 HRN
        go_wp2_with fail
        go_ret
        exact ⟨congrArg (fun x : Bool => Ending.returned (.bool x)) HF.out, HW.out _ HB3.out⟩
    · have g4 : (t == 4) = false := by simp; omega
      by_cases e1 : er = 0
      · subst e1
        by_cases a1 : at0 = 0
        · subst a1
          have HF := Lib.hid (show true = V by rw [HV2.out, HRN.out, if_neg h4]; rfl)
          clear HV2 HRN
          go_wp2_with fail
          go_ret
          exact ⟨congrArg (fun x : Bool => Ending.returned (.bool x)) HF.out, HW.out _ HB3.out⟩
        · have r0 : (at0 == 0) = false := by simp; omega
          have HF := Lib.hid (show false = V by rw [HV2.out, HRN.out, if_neg h4, decide_eq_false a1]; simp)
          clear HV2 HRN
          go_wp2_with fail
          go_ret
          exact ⟨congrArg (fun x : Bool => Ending.returned (.bool x)) HF.out, HW.out _ HB3.out⟩
      · have s0 : (er == 0) = false := by simp; omega
        have HF := Lib.hid (show false = V by rw [HV2.out, HRN.out, if_neg h4, decide_eq_false e1]; simp)
        clear HV2 HRN
        go_wp2_with fail
        go_ret
        exact ⟨congrArg (fun x : Bool => Ending.returned (.bool x)) HF.out, HW.out _ HB3.out⟩
end Go.Proofs.YteikakoheibnjaaDoor
