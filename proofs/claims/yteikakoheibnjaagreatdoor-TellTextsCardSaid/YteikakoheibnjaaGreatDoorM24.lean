/- Parts of the proof: RIs. -/
import Derived.Test.YteikakoheibnjaaGreatDoorM23
namespace Go.Proofs.YteikakoheibnjaaGreatDoor
open Go Go.RowKit

theorem vall_take (P : ValP → Bool) (ks : List ValP) (k : Nat) (h : k < ks.length) : (ks.take (k + 1)).all P = ((ks.take k).all P && P ks[k]) := by
  rw [List.take_succ_eq_append_getElem h, List.all_append]
  simp
theorem vall_false {P : ValP → Bool} {ks : List ValP} {k : Nat} (h : k < ks.length) (hp : P ks[k] = false) : ks.all P = false := by
  rw [List.all_eq_false]
  exact ⟨_, List.getElem_mem h, by rw [hp]; decide⟩
set_option maxHeartbeats 2000000 in
theorem rvals_any {w : World} {A : Option Addr} {c : Nat} {vs : List ValP} (h : ValsAt w w.heap.size A c vs) (hT : Tab8 w) :
    Calls Tryz.prog 18 #[.slice A vs.length c] w fun e w' => e = .returned (.bool (valsB vs)) ∧ Below w.heap.size w w' := by
  have HC := Lib.hid h
  have HTT := Lib.hid hT
  have hl1 := h.cap_
  have hl2 := h.small
  have HV := Lib.hid (show valsB vs = (decide (vs.length ≤ 6) && vs.all valB) from rfl)
  generalize valsB vs = V at *
  clear h hT
  go_enter Tryz.func18, Tryz.ntmps18
  go_wp2_with fail
  go_loopg [3] vs.length (fun r i wr => ∃ k : Nat, k ≤ vs.length ∧ k ≤ 7 ∧ r = vs.length - k ∧ i = .int .i64 (k : Int) ∧ Hid ((vs.take k).all valB = true) ∧ Below w.heap.size w wr)
  case atStart => exact ⟨0, Nat.zero_le _, by omega, rfl, rfl, Lib.hid rfl, Below.refl _ _⟩
  case round =>
    obtain ⟨k, hk, hk7, hr, rfl, HP, hb⟩ := hrel
    have HRr := Lib.hid hr
    have HB := Lib.hid hb
    have hs1 := hb.size
    have HL := Lib.hid (HC.out.later hb hb.size)
    have HTW := Lib.hid (Go.Proofs.Utf8Tabs_below HTT.out hb)
    clear hr hb
    by_cases hlt : k < vs.length
    · have g1 : decide ((k : Int) < (vs.length : Int)) = true := decide_eq_true (by omega)
      by_cases h7 : k < 7
      · have g7 : decide ((k : Int) < 7) = true := decide_eq_true (by omega)
        obtain ⟨b, off, A1, c1, rfl, hlo, d0, d1, d2, hset⟩ := HL.out.at_ k hlt
        have HS := Lib.hid (vall_take valB vs k hlt)
        have HM := Lib.hid (fun hp => vall_false (P := valB) hlt hp)
        have HI := Lib.hid (rval_any hset (HC.out.name _ (List.getElem_mem hlt)) HTW.out)
        have hp0 : (0 : Int) ≤ (k : Int) := by omega
        have hp1 : (k : Int) < (vs.length : Int) := by omega
        clear hset
        generalize vs[k] = v at *
        generalize v.name = nm at *
        generalize v.order = o at *
        generalize v.set.length = l at *
        cases hpv : valB v with
        | false =>
          rw [hpv] at HI
          have HF := Lib.hid (show false = V by rw [HV.out, HM.out hpv, Bool.and_false])
          clear HV HM HS
          go_wp2_with (
            go_at_call 33
            refine HI.out.mono ?_
            rintro e w2 ⟨rfl, hb2⟩
            have HB2 := Lib.hid (HB.out.trans (hb2.mono hs1))
            clear hb2)
          go_ret
          exact ⟨congrArg (fun x : Bool => Ending.returned (.bool x)) HF.out, HB2.out⟩
        | true =>
          rw [hpv] at HI
          go_wp2_with (
            go_at_call 33
            refine HI.out.mono ?_
            rintro e w2 ⟨rfl, hb2⟩
            have HB2 := Lib.hid (HB.out.trans (hb2.mono hs1))
            clear hb2)
          go_roundg (vs.length - (k + 1))
          case measure => have := HRr.out; omega
          case rel => exact ⟨k + 1, by omega, by omega, rfl, by go_num, Lib.hid (by rw [HS.out, HP.out, hpv]; rfl), HB2.out⟩
      · have g7 : decide ((k : Int) < 7) = false := decide_eq_false (by omega)
        have g6 : decide ((vs.length : Int) ≤ 6) = false := decide_eq_false (by omega)
        have HF := Lib.hid (show false = V by rw [HV.out, decide_eq_false (show ¬ vs.length ≤ 6 by omega)]; rfl)
        clear HV
        go_wp2_with fail
        go_ret
        exact ⟨congrArg (fun x : Bool => Ending.returned (.bool x)) HF.out, HB.out⟩
    · have g1 : decide ((k : Int) < (vs.length : Int)) = false := decide_eq_false (by omega)
      have hkk : k = vs.length := by omega
      have HF := Lib.hid (show decide ((vs.length : Int) ≤ 6) = V by
        have := HP.out
        rw [hkk, List.take_length] at this
        rw [HV.out, this, Bool.and_true, decide_eq_decide]
        omega)
      clear HV hkk
      go_wp2_with fail
      go_ret
      exact ⟨congrArg (fun x : Bool => Ending.returned (.bool x)) HF.out, HB.out⟩
theorem rest4 (e a : Int) (lm lc : Nat) : restN 4 e a lm lc = (decide (1 ≤ e ∧ e ≤ 8) && decide (0 ≤ a ∧ a ≤ 2000) && decide (lm + lc = 0)) := by
  unfold restN hasMB hasCB
  rw [if_pos rfl, decide_eq_false (show ¬ ((4 : Int) = 1 ∨ (4 : Int) = 2) by decide), decide_eq_false (show ¬ ((4 : Int) = 3 ∨ (4 : Int) = 2) by decide), Bool.false_or, Bool.false_or, Bool.and_comm]
  congr 1
  rw [Bool.eq_iff_iff]
  simp
theorem rest5 (lm lc : Nat) : restN 5 0 0 lm lc = decide (lm + lc = 0) := by
  rw [Bool.eq_iff_iff]
  simp [restN, hasMB, hasCB]
theorem rest1 (lm lc : Nat) : restN 1 0 0 lm lc = decide (lc = 0) := by
  rw [Bool.eq_iff_iff]
  simp [restN, hasMB, hasCB]
theorem rest3 (lm lc : Nat) : restN 3 0 0 lm lc = decide (lm = 0) := by
  rw [Bool.eq_iff_iff]
  simp [restN, hasMB, hasCB]
theorem rest2 (lm lc : Nat) : restN 2 0 0 lm lc = true := by
  simp [restN, hasMB, hasCB]
theorem rest_no {t e a : Int} (h4 : ¬ t = 4) (h : ¬ (e = 0 ∧ a = 0)) (lm lc : Nat) : restN t e a lm lc = false := by
  unfold restN
  rw [if_neg h4]
  by_cases he : e = 0
  · rw [decide_eq_false (show ¬ a = 0 from fun ha => h ⟨he, ha⟩)]
    simp
  · rw [decide_eq_false he]
    simp
set_option maxHeartbeats 8000000 in
theorem ris_any {w : World} {r : ResP} {L : ResL} (h : ResAt w w.heap.size r L) (hT : Tab8 w) :
    Calls Tryz.prog 9 #[resT r L] w fun e w' => e = .returned (.bool (isB r)) ∧ Below w.heap.size w w' := by
  have HV := Lib.hid (isB_eq r)
  have HB1 : Below w.heap.size w (w.alloc (boxR r.tag r.err r.at_ r.model.length r.counter.length L)) := (Below.refl _ _).alloc (Nat.le_refl _) _
  have HW := Lib.hid (fun W (hb : Below (w.alloc (boxR r.tag r.err r.at_ r.model.length r.counter.length L)).heap.size (w.alloc (boxR r.tag r.err r.at_ r.model.length r.counter.length L)) W) => HB1.trans (hb.mono (by simp)))
  have HM := Lib.hid (fun W (hb : Below (w.alloc (boxR r.tag r.err r.at_ r.model.length r.counter.length L)).heap.size (w.alloc (boxR r.tag r.err r.at_ r.model.length r.counter.length L)) W) => rvals_any (h.model.later (HW.out W hb) (HW.out W hb).size) (Go.Proofs.Utf8Tabs_below hT (HW.out W hb)))
  have HC := Lib.hid (fun W (hb : Below (w.alloc (boxR r.tag r.err r.at_ r.model.length r.counter.length L)).heap.size (w.alloc (boxR r.tag r.err r.at_ r.model.length r.counter.length L)) W) => rvals_any (h.counter.later (HW.out W hb) (HW.out W hb).size) (Go.Proofs.Utf8Tabs_below hT (HW.out W hb)))
  have hz1 := h.model.small
  have hz2 := h.counter.small
  clear h HB1 hT
  show Calls Tryz.prog 9 #[resW r.tag r.err r.at_ r.model.length r.counter.length L] w _
  generalize isB r = V at *
  generalize valsB r.model = vm at *
  generalize valsB r.counter = vc at *
  generalize r.model.length = lm at *
  generalize r.counter.length = lc at *
  generalize r.tag = t at *
  generalize r.err = er at *
  generalize r.at_ = at0 at *
  clear r
  by_cases h1 : t < 1
  · have t1 : decide (t < 1) = true := decide_eq_true h1
    have HF := Lib.hid (show false = V by rw [HV.out, decide_eq_false (show ¬ 1 ≤ t by omega)]; rfl)
    clear HV HM HC
    go_enter Tryz.func9, Tryz.ntmps9
    go_wp2_with fail
    go_ret
    exact ⟨congrArg (fun x : Bool => Ending.returned (.bool x)) HF.out, HW.out _ (Below.refl _ _)⟩
  have t1 : decide (t < 1) = false := decide_eq_false h1
  by_cases h5 : 5 < t
  · have t5 : decide (5 < t) = true := decide_eq_true h5
    have HF := Lib.hid (show false = V by rw [HV.out, decide_eq_false (show ¬ t ≤ 5 by omega)]; simp)
    clear HV HM HC
    go_enter Tryz.func9, Tryz.ntmps9
    go_wp2_with fail
    go_ret
    exact ⟨congrArg (fun x : Bool => Ending.returned (.bool x)) HF.out, HW.out _ (Below.refl _ _)⟩
  have t5 : decide (5 < t) = false := decide_eq_false h5
  rw [decide_eq_true (show 1 ≤ t by omega), decide_eq_true (show t ≤ 5 by omega)] at HV
  cases vm with
  | false =>
    have HF := Lib.hid (show false = V by rw [HV.out]; rfl)
    clear HV HC
    go_enter Tryz.func9, Tryz.ntmps9
    go_wp2_with (
      go_at_call 18
      refine (HM.out _ (Below.refl _ _)).mono ?_
      rintro e w2 ⟨rfl, hb2⟩
      have b20 := vbox_at hb2 0 _ rfl
      have b21 := vbox_at hb2 1 _ rfl
      have b22 := vbox_at hb2 2 _ rfl
      have b23 := vbox_at hb2 3 _ rfl
      have b24 := vbox_at hb2 4 _ rfl
      have HB2 := Lib.hid hb2
      clear hb2)
    go_ret
    exact ⟨congrArg (fun x : Bool => Ending.returned (.bool x)) HF.out, HW.out _ HB2.out⟩
  | true =>
  cases vc with
  | false =>
    have HF := Lib.hid (show false = V by rw [HV.out]; rfl)
    clear HV
    go_enter Tryz.func9, Tryz.ntmps9
    go_wp2_with (first
      | (
        have hhb := HB2
        clear hhb
        go_at_call 18
        refine (HC.out _ HB2.out).mono ?_
        rintro e w3 ⟨rfl, hb3⟩
        have hb3 := HB2.out.trans (hb3.mono HB2.out.size)
        have b30 := vbox_at hb3 0 _ rfl
        have b31 := vbox_at hb3 1 _ rfl
        have b32 := vbox_at hb3 2 _ rfl
        have b33 := vbox_at hb3 3 _ rfl
        have b34 := vbox_at hb3 4 _ rfl
        have HB3 := Lib.hid hb3
        clear hb3 b20 b21 b22 b23 b24)
      | (
        go_at_call 18
        refine (HM.out _ (Below.refl _ _)).mono ?_
        rintro e w2 ⟨rfl, hb2⟩
        have b20 := vbox_at hb2 0 _ rfl
        have b21 := vbox_at hb2 1 _ rfl
        have b22 := vbox_at hb2 2 _ rfl
        have b23 := vbox_at hb2 3 _ rfl
        have b24 := vbox_at hb2 4 _ rfl
        have HB2 := Lib.hid hb2
        clear hb2))
    go_ret
    exact ⟨congrArg (fun x : Bool => Ending.returned (.bool x)) HF.out, HW.out _ HB3.out⟩
  | true =>
  have HV2 := Lib.hid (show V = restN t er at0 lm lc by rw [HV.out]; rfl)
  clear HV
  have q1 : IntKind.i64.wrap ((lm : Int) + (lc : Int)) = (lm : Int) + (lc : Int) := IntWalk.i64_in _ ⟨by omega, by omega⟩
  by_cases h4 : t = 4
  · subst h4
    have HV3 := Lib.hid (HV2.out.trans (rest4 er at0 lm lc))
    clear HV2
    by_cases e1 : 1 ≤ er
    · have s1 : decide (1 ≤ er) = true := decide_eq_true e1
      by_cases e8 : er ≤ 8
      · have s8 : decide (er ≤ 8) = true := decide_eq_true e8
        by_cases a0 : 0 ≤ at0
        · have r0 : decide (0 ≤ at0) = true := decide_eq_true a0
          by_cases a2 : at0 ≤ 2000
          · have r2 : decide (at0 ≤ 2000) = true := decide_eq_true a2
            have HF := Lib.hid (show (((lm : Int) + (lc : Int)) == 0) = V by rw [HV3.out, decide_eq_true (And.intro e1 e8), decide_eq_true (And.intro a0 a2), Bool.true_and, Bool.true_and, Bool.eq_iff_iff, beq_iff_eq, decide_eq_true_eq]; omega)
            clear HV3
            go_enter Tryz.func9, Tryz.ntmps9
            go_wp2_with (first
              | (
                have hhb := HB2
                clear hhb
                go_at_call 18
                refine (HC.out _ HB2.out).mono ?_
                rintro e w3 ⟨rfl, hb3⟩
                have hb3 := HB2.out.trans (hb3.mono HB2.out.size)
                have b30 := vbox_at hb3 0 _ rfl
                have b31 := vbox_at hb3 1 _ rfl
                have b32 := vbox_at hb3 2 _ rfl
                have b33 := vbox_at hb3 3 _ rfl
                have b34 := vbox_at hb3 4 _ rfl
                have HB3 := Lib.hid hb3
                clear hb3 b20 b21 b22 b23 b24)
              | (
                go_at_call 18
                refine (HM.out _ (Below.refl _ _)).mono ?_
                rintro e w2 ⟨rfl, hb2⟩
                have b20 := vbox_at hb2 0 _ rfl
                have b21 := vbox_at hb2 1 _ rfl
                have b22 := vbox_at hb2 2 _ rfl
                have b23 := vbox_at hb2 3 _ rfl
                have b24 := vbox_at hb2 4 _ rfl
                have HB2 := Lib.hid hb2
                clear hb2))
            go_ret
            exact ⟨congrArg (fun x : Bool => Ending.returned (.bool x)) HF.out, HW.out _ HB3.out⟩
          · have r2 : decide (at0 ≤ 2000) = false := decide_eq_false a2
            have HF := Lib.hid (show false = V by rw [HV3.out, decide_eq_false (show ¬ (0 ≤ at0 ∧ at0 ≤ 2000) by omega)]; simp)
            clear HV3
            go_enter Tryz.func9, Tryz.ntmps9
            go_wp2_with (first
              | (
                have hhb := HB2
                clear hhb
                go_at_call 18
                refine (HC.out _ HB2.out).mono ?_
                rintro e w3 ⟨rfl, hb3⟩
                have hb3 := HB2.out.trans (hb3.mono HB2.out.size)
                have b30 := vbox_at hb3 0 _ rfl
                have b31 := vbox_at hb3 1 _ rfl
                have b32 := vbox_at hb3 2 _ rfl
                have b33 := vbox_at hb3 3 _ rfl
                have b34 := vbox_at hb3 4 _ rfl
                have HB3 := Lib.hid hb3
                clear hb3 b20 b21 b22 b23 b24)
              | (
                go_at_call 18
                refine (HM.out _ (Below.refl _ _)).mono ?_
                rintro e w2 ⟨rfl, hb2⟩
                have b20 := vbox_at hb2 0 _ rfl
                have b21 := vbox_at hb2 1 _ rfl
                have b22 := vbox_at hb2 2 _ rfl
                have b23 := vbox_at hb2 3 _ rfl
                have b24 := vbox_at hb2 4 _ rfl
                have HB2 := Lib.hid hb2
                clear hb2))
            go_ret
            exact ⟨congrArg (fun x : Bool => Ending.returned (.bool x)) HF.out, HW.out _ HB3.out⟩
        · have r0 : decide (0 ≤ at0) = false := decide_eq_false a0
          have HF := Lib.hid (show false = V by rw [HV3.out, decide_eq_false (show ¬ (0 ≤ at0 ∧ at0 ≤ 2000) by omega)]; simp)
          clear HV3
          go_enter Tryz.func9, Tryz.ntmps9
          go_wp2_with (first
            | (
              have hhb := HB2
              clear hhb
              go_at_call 18
              refine (HC.out _ HB2.out).mono ?_
              rintro e w3 ⟨rfl, hb3⟩
              have hb3 := HB2.out.trans (hb3.mono HB2.out.size)
              have b30 := vbox_at hb3 0 _ rfl
              have b31 := vbox_at hb3 1 _ rfl
              have b32 := vbox_at hb3 2 _ rfl
              have b33 := vbox_at hb3 3 _ rfl
              have b34 := vbox_at hb3 4 _ rfl
              have HB3 := Lib.hid hb3
              clear hb3 b20 b21 b22 b23 b24)
            | (
              go_at_call 18
              refine (HM.out _ (Below.refl _ _)).mono ?_
              rintro e w2 ⟨rfl, hb2⟩
              have b20 := vbox_at hb2 0 _ rfl
              have b21 := vbox_at hb2 1 _ rfl
              have b22 := vbox_at hb2 2 _ rfl
              have b23 := vbox_at hb2 3 _ rfl
              have b24 := vbox_at hb2 4 _ rfl
              have HB2 := Lib.hid hb2
              clear hb2))
          go_ret
          exact ⟨congrArg (fun x : Bool => Ending.returned (.bool x)) HF.out, HW.out _ HB3.out⟩
      · have s8 : decide (er ≤ 8) = false := decide_eq_false e8
        have HF := Lib.hid (show false = V by rw [HV3.out, decide_eq_false (show ¬ (1 ≤ er ∧ er ≤ 8) by omega)]; simp)
        clear HV3
        go_enter Tryz.func9, Tryz.ntmps9
        go_wp2_with (first
          | (
            have hhb := HB2
            clear hhb
            go_at_call 18
            refine (HC.out _ HB2.out).mono ?_
            rintro e w3 ⟨rfl, hb3⟩
            have hb3 := HB2.out.trans (hb3.mono HB2.out.size)
            have b30 := vbox_at hb3 0 _ rfl
            have b31 := vbox_at hb3 1 _ rfl
            have b32 := vbox_at hb3 2 _ rfl
            have b33 := vbox_at hb3 3 _ rfl
            have b34 := vbox_at hb3 4 _ rfl
            have HB3 := Lib.hid hb3
            clear hb3 b20 b21 b22 b23 b24)
          | (
            go_at_call 18
            refine (HM.out _ (Below.refl _ _)).mono ?_
            rintro e w2 ⟨rfl, hb2⟩
            have b20 := vbox_at hb2 0 _ rfl
            have b21 := vbox_at hb2 1 _ rfl
            have b22 := vbox_at hb2 2 _ rfl
            have b23 := vbox_at hb2 3 _ rfl
            have b24 := vbox_at hb2 4 _ rfl
            have HB2 := Lib.hid hb2
            clear hb2))
        go_ret
        exact ⟨congrArg (fun x : Bool => Ending.returned (.bool x)) HF.out, HW.out _ HB3.out⟩
    · have s1 : decide (1 ≤ er) = false := decide_eq_false e1
      have HF := Lib.hid (show false = V by rw [HV3.out, decide_eq_false (show ¬ (1 ≤ er ∧ er ≤ 8) by omega)]; simp)
      clear HV3
      go_enter Tryz.func9, Tryz.ntmps9
      go_wp2_with (first
        | (
          have hhb := HB2
          clear hhb
          go_at_call 18
          refine (HC.out _ HB2.out).mono ?_
          rintro e w3 ⟨rfl, hb3⟩
          have hb3 := HB2.out.trans (hb3.mono HB2.out.size)
          have b30 := vbox_at hb3 0 _ rfl
          have b31 := vbox_at hb3 1 _ rfl
          have b32 := vbox_at hb3 2 _ rfl
          have b33 := vbox_at hb3 3 _ rfl
          have b34 := vbox_at hb3 4 _ rfl
          have HB3 := Lib.hid hb3
          clear hb3 b20 b21 b22 b23 b24)
        | (
          go_at_call 18
          refine (HM.out _ (Below.refl _ _)).mono ?_
          rintro e w2 ⟨rfl, hb2⟩
          have b20 := vbox_at hb2 0 _ rfl
          have b21 := vbox_at hb2 1 _ rfl
          have b22 := vbox_at hb2 2 _ rfl
          have b23 := vbox_at hb2 3 _ rfl
          have b24 := vbox_at hb2 4 _ rfl
          have HB2 := Lib.hid hb2
          clear hb2))
      go_ret
      exact ⟨congrArg (fun x : Bool => Ending.returned (.bool x)) HF.out, HW.out _ HB3.out⟩
  have g4 : (t == 4) = false := by simp; omega
  by_cases e0 : er = 0
  · subst e0
    by_cases a0 : at0 = 0
    · subst a0
      have ht : t = 1 ∨ t = 2 ∨ t = 3 ∨ t = 5 := by omega
      clear t1 t5 g4 h1 h5 h4
      rcases ht with rfl | rfl | rfl | rfl
      · skip
        have HF := Lib.hid (show ((lc : Int) == 0) = V by rw [HV2.out, rest1, Bool.eq_iff_iff, beq_iff_eq, decide_eq_true_eq]; omega)
        clear HV2
        go_enter Tryz.func9, Tryz.ntmps9
        go_wp2_with (first
          | (
            have hhb := HB2
            clear hhb
            go_at_call 18
            refine (HC.out _ HB2.out).mono ?_
            rintro e w3 ⟨rfl, hb3⟩
            have hb3 := HB2.out.trans (hb3.mono HB2.out.size)
            have b30 := vbox_at hb3 0 _ rfl
            have b31 := vbox_at hb3 1 _ rfl
            have b32 := vbox_at hb3 2 _ rfl
            have b33 := vbox_at hb3 3 _ rfl
            have b34 := vbox_at hb3 4 _ rfl
            have HB3 := Lib.hid hb3
            clear hb3 b20 b21 b22 b23 b24)
          | (
            go_at_call 18
            refine (HM.out _ (Below.refl _ _)).mono ?_
            rintro e w2 ⟨rfl, hb2⟩
            have b20 := vbox_at hb2 0 _ rfl
            have b21 := vbox_at hb2 1 _ rfl
            have b22 := vbox_at hb2 2 _ rfl
            have b23 := vbox_at hb2 3 _ rfl
            have b24 := vbox_at hb2 4 _ rfl
            have HB2 := Lib.hid hb2
            clear hb2))
        go_ret
        exact ⟨congrArg (fun x : Bool => Ending.returned (.bool x)) HF.out, HW.out _ HB3.out⟩
      · skip
        have HF := Lib.hid (show true = V by rw [HV2.out, rest2])
        clear HV2
        go_enter Tryz.func9, Tryz.ntmps9
        go_wp2_with (first
          | (
            have hhb := HB2
            clear hhb
            go_at_call 18
            refine (HC.out _ HB2.out).mono ?_
            rintro e w3 ⟨rfl, hb3⟩
            have hb3 := HB2.out.trans (hb3.mono HB2.out.size)
            have b30 := vbox_at hb3 0 _ rfl
            have b31 := vbox_at hb3 1 _ rfl
            have b32 := vbox_at hb3 2 _ rfl
            have b33 := vbox_at hb3 3 _ rfl
            have b34 := vbox_at hb3 4 _ rfl
            have HB3 := Lib.hid hb3
            clear hb3 b20 b21 b22 b23 b24)
          | (
            go_at_call 18
            refine (HM.out _ (Below.refl _ _)).mono ?_
            rintro e w2 ⟨rfl, hb2⟩
            have b20 := vbox_at hb2 0 _ rfl
            have b21 := vbox_at hb2 1 _ rfl
            have b22 := vbox_at hb2 2 _ rfl
            have b23 := vbox_at hb2 3 _ rfl
            have b24 := vbox_at hb2 4 _ rfl
            have HB2 := Lib.hid hb2
            clear hb2))
        go_ret
        exact ⟨congrArg (fun x : Bool => Ending.returned (.bool x)) HF.out, HW.out _ HB3.out⟩
      · skip
        have HF := Lib.hid (show ((lm : Int) == 0) = V by rw [HV2.out, rest3, Bool.eq_iff_iff, beq_iff_eq, decide_eq_true_eq]; omega)
        clear HV2
        go_enter Tryz.func9, Tryz.ntmps9
        go_wp2_with (first
          | (
            have hhb := HB2
            clear hhb
            go_at_call 18
            refine (HC.out _ HB2.out).mono ?_
            rintro e w3 ⟨rfl, hb3⟩
            have hb3 := HB2.out.trans (hb3.mono HB2.out.size)
            have b30 := vbox_at hb3 0 _ rfl
            have b31 := vbox_at hb3 1 _ rfl
            have b32 := vbox_at hb3 2 _ rfl
            have b33 := vbox_at hb3 3 _ rfl
            have b34 := vbox_at hb3 4 _ rfl
            have HB3 := Lib.hid hb3
            clear hb3 b20 b21 b22 b23 b24)
          | (
            go_at_call 18
            refine (HM.out _ (Below.refl _ _)).mono ?_
            rintro e w2 ⟨rfl, hb2⟩
            have b20 := vbox_at hb2 0 _ rfl
            have b21 := vbox_at hb2 1 _ rfl
            have b22 := vbox_at hb2 2 _ rfl
            have b23 := vbox_at hb2 3 _ rfl
            have b24 := vbox_at hb2 4 _ rfl
            have HB2 := Lib.hid hb2
            clear hb2))
        go_ret
        exact ⟨congrArg (fun x : Bool => Ending.returned (.bool x)) HF.out, HW.out _ HB3.out⟩
      · skip
        have HF := Lib.hid (show (((lm : Int) + (lc : Int)) == 0) = V by rw [HV2.out, rest5, Bool.eq_iff_iff, beq_iff_eq, decide_eq_true_eq]; omega)
        clear HV2
        go_enter Tryz.func9, Tryz.ntmps9
        go_wp2_with (first
          | (
            have hhb := HB2
            clear hhb
            go_at_call 18
            refine (HC.out _ HB2.out).mono ?_
            rintro e w3 ⟨rfl, hb3⟩
            have hb3 := HB2.out.trans (hb3.mono HB2.out.size)
            have b30 := vbox_at hb3 0 _ rfl
            have b31 := vbox_at hb3 1 _ rfl
            have b32 := vbox_at hb3 2 _ rfl
            have b33 := vbox_at hb3 3 _ rfl
            have b34 := vbox_at hb3 4 _ rfl
            have HB3 := Lib.hid hb3
            clear hb3 b20 b21 b22 b23 b24)
          | (
            go_at_call 18
            refine (HM.out _ (Below.refl _ _)).mono ?_
            rintro e w2 ⟨rfl, hb2⟩
            have b20 := vbox_at hb2 0 _ rfl
            have b21 := vbox_at hb2 1 _ rfl
            have b22 := vbox_at hb2 2 _ rfl
            have b23 := vbox_at hb2 3 _ rfl
            have b24 := vbox_at hb2 4 _ rfl
            have HB2 := Lib.hid hb2
            clear hb2))
        go_ret
        exact ⟨congrArg (fun x : Bool => Ending.returned (.bool x)) HF.out, HW.out _ HB3.out⟩
    · have s0 : (at0 != 0) = true := by simp; omega
      have HF := Lib.hid (show false = V by rw [HV2.out, rest_no h4 (fun h => a0 h.2)])
      clear HV2
      go_enter Tryz.func9, Tryz.ntmps9
      go_wp2_with (first
        | (
          have hhb := HB2
          clear hhb
          go_at_call 18
          refine (HC.out _ HB2.out).mono ?_
          rintro e w3 ⟨rfl, hb3⟩
          have hb3 := HB2.out.trans (hb3.mono HB2.out.size)
          have b30 := vbox_at hb3 0 _ rfl
          have b31 := vbox_at hb3 1 _ rfl
          have b32 := vbox_at hb3 2 _ rfl
          have b33 := vbox_at hb3 3 _ rfl
          have b34 := vbox_at hb3 4 _ rfl
          have HB3 := Lib.hid hb3
          clear hb3 b20 b21 b22 b23 b24)
        | (
          go_at_call 18
          refine (HM.out _ (Below.refl _ _)).mono ?_
          rintro e w2 ⟨rfl, hb2⟩
          have b20 := vbox_at hb2 0 _ rfl
          have b21 := vbox_at hb2 1 _ rfl
          have b22 := vbox_at hb2 2 _ rfl
          have b23 := vbox_at hb2 3 _ rfl
          have b24 := vbox_at hb2 4 _ rfl
          have HB2 := Lib.hid hb2
          clear hb2))
      go_ret
      exact ⟨congrArg (fun x : Bool => Ending.returned (.bool x)) HF.out, HW.out _ HB3.out⟩
  · have s0 : (er != 0) = true := by simp; omega
    have HF := Lib.hid (show false = V by rw [HV2.out, rest_no h4 (fun h => e0 h.1)])
    clear HV2
    go_enter Tryz.func9, Tryz.ntmps9
    go_wp2_with (first
      | (
        have hhb := HB2
        clear hhb
        go_at_call 18
        refine (HC.out _ HB2.out).mono ?_
        rintro e w3 ⟨rfl, hb3⟩
        have hb3 := HB2.out.trans (hb3.mono HB2.out.size)
        have b30 := vbox_at hb3 0 _ rfl
        have b31 := vbox_at hb3 1 _ rfl
        have b32 := vbox_at hb3 2 _ rfl
        have b33 := vbox_at hb3 3 _ rfl
        have b34 := vbox_at hb3 4 _ rfl
        have HB3 := Lib.hid hb3
        clear hb3 b20 b21 b22 b23 b24)
      | (
        go_at_call 18
        refine (HM.out _ (Below.refl _ _)).mono ?_
        rintro e w2 ⟨rfl, hb2⟩
        have b20 := vbox_at hb2 0 _ rfl
        have b21 := vbox_at hb2 1 _ rfl
        have b22 := vbox_at hb2 2 _ rfl
        have b23 := vbox_at hb2 3 _ rfl
        have b24 := vbox_at hb2 4 _ rfl
        have HB2 := Lib.hid hb2
        clear hb2))
    go_ret
    exact ⟨congrArg (fun x : Bool => Ending.returned (.bool x)) HF.out, HW.out _ HB3.out⟩
end Go.Proofs.YteikakoheibnjaaGreatDoor
