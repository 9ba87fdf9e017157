/- Parts of the proof: RVal. -/
import Derived.Test.YteikakoheibnjaaGreatDoorM19
import Derived.Test.YteikakoheibnjaaGreatDoorM22
namespace Go.Proofs.YteikakoheibnjaaGreatDoor
open Go Go.RowKit

def preB (o : Int) (n : Nat) : Bool := if o = 0 then decide (n ≤ 1) else if o = 1 then decide (n = 1) else true
def vstep (o : Int) (l : List Int) (k : Nat) : Bool := setStep l k && (!decide (o = 0) || decide (l.getD k 0 = 0))
theorem shape_pre (o : Int) (l : List Int) (h0 : 0 ≤ o) (h2 : o ≤ 2) : (setB l && shapeB o l) = (preB o l.length && (List.range l.length).all (vstep o l)) := by
  have ho : o = 0 ∨ o = 1 ∨ o = 2 := by omega
  unfold setB shapeB preB
  rcases ho with rfl | rfl | rfl
  · rw [if_pos rfl, if_pos rfl]
    match l with
    | [] => rfl
    | [n] =>
      have e : (([n] : List Int) == [] || [n] == [0]) = decide (n = 0) := by
        rw [Bool.eq_iff_iff]
        simp
      rw [e]
      show ((setStep [n] 0 && true) && decide (n = 0)) = (true && (vstep 0 [n] 0 && true))
      unfold vstep
      rw [Bool.and_true, Bool.true_and, Bool.and_true]
      rfl
    | n :: m :: r =>
      have e1 : ((n :: m :: r : List Int) == [] || n :: m :: r == [0]) = false := by simp
      have e2 : decide ((n :: m :: r).length ≤ 1) = false := by simp
      rw [e1, e2, Bool.and_false, Bool.false_and]
  · rw [if_neg (show ¬ (1 : Int) = 0 by decide), if_neg (show ¬ (1 : Int) = 0 by decide), if_pos rfl, if_pos rfl, Bool.and_comm, show (l.length == 1) = decide (l.length = 1) by rw [Bool.eq_iff_iff]; simp]
    congr 2
    funext k
    unfold vstep
    simp
  · rw [if_neg (by decide), if_neg (by decide), if_neg (by decide), if_neg (by decide), Bool.and_true, Bool.true_and]
    congr 1
    funext k
    unfold vstep
    simp
set_option maxHeartbeats 8000000 in
theorem rval_any {w : World} {A : Option Addr} {c : Nat} {v : ValP} (h : IntsAt w w.heap.size A c v.set) (hn : v.name.length ≤ 140737488355328) (hT : Tab8 w) :
    Calls Tryz.prog 33 #[valW v.name v.order A v.set.length c] w fun e w' => e = .returned (.bool (valB v)) ∧ Below w.heap.size w w' := by
  obtain ⟨nm, o, l⟩ := v
  dsimp only at h hn ⊢
  have hz := h.small
  have HV := Lib.hid (show (nameB nm && (decide (0 ≤ o) && decide (o ≤ 2)) && setB l && shapeB o l) = valB ⟨nm, o, l⟩ from rfl)
  have HB1 : Below w.heap.size w (w.alloc (boxV nm o A l.length c)) := (Below.refl _ _).alloc (Nat.le_refl _) _
  have HW := Lib.hid (fun W (hb : Below (w.alloc (boxV nm o A l.length c)).heap.size (w.alloc (boxV nm o A l.length c)) W) => HB1.trans (hb.mono (by simp)))
  have HNM := Lib.hid (fun W (hb : Below (w.alloc (boxV nm o A l.length c)).heap.size (w.alloc (boxV nm o A l.length c)) W) => isName_any nm hn W (Go.Proofs.Utf8Tabs_below hT (HW.out W hb)))
  have HI0 := Lib.hid (fun W (hb : Below (w.alloc (boxV nm o A l.length c)).heap.size (w.alloc (boxV nm o A l.length c)) W) => h.keep (w' := W) (fun p hp => (HW.out W hb).cell hp))
  have HSP := Lib.hid (shape_pre o l)
  have HPR : Hid (preB o l.length = if o = 0 then decide (l.length ≤ 1) else if o = 1 then decide (l.length = 1) else true) := Lib.hid rfl
  generalize valB ⟨nm, o, l⟩ = V at *
  generalize nameB nm = nb at *
  clear h hn hT HB1
  cases nb with
  | false =>
    have HF := Lib.hid (show false = V from HV.out)
    clear HV HI0 HSP HPR
    go_enter Tryz.func33, Tryz.ntmps33
    go_wp2_with (
      go_at_call 45
      refine (HNM.out _ (Below.refl _ _)).mono ?_
      rintro e w2 ⟨rfl, hb2⟩
      have b0 := vbox_at hb2 0 _ rfl
      have b1 := vbox_at hb2 1 _ rfl
      have b2 := vbox_at hb2 2 _ rfl
      have HB2 := Lib.hid hb2
      clear hb2)
    go_ret
    exact ⟨congrArg (fun x : Bool => Ending.returned (.bool x)) HF.out, HW.out _ HB2.out⟩
  | true =>
  by_cases h0 : o < 0
  · have t0 : decide (o < 0) = true := decide_eq_true h0
    have HF := Lib.hid (show false = V by rw [← HV.out, decide_eq_false (show ¬ 0 ≤ o by omega)]; rfl)
    clear HV HI0 HSP HPR
    go_enter Tryz.func33, Tryz.ntmps33
    go_wp2_with (
      go_at_call 45
      refine (HNM.out _ (Below.refl _ _)).mono ?_
      rintro e w2 ⟨rfl, hb2⟩
      have b0 := vbox_at hb2 0 _ rfl
      have b1 := vbox_at hb2 1 _ rfl
      have b2 := vbox_at hb2 2 _ rfl
      have HB2 := Lib.hid hb2
      clear hb2)
    go_ret
    exact ⟨congrArg (fun x : Bool => Ending.returned (.bool x)) HF.out, HW.out _ HB2.out⟩
  have t0 : decide (o < 0) = false := decide_eq_false h0
  by_cases h3 : 2 < o
  · have t3 : decide (2 < o) = true := decide_eq_true h3
    have HF := Lib.hid (show false = V by rw [← HV.out, decide_eq_false (show ¬ o ≤ 2 by omega)]; simp)
    clear HV HI0 HSP HPR
    go_enter Tryz.func33, Tryz.ntmps33
    go_wp2_with (
      go_at_call 45
      refine (HNM.out _ (Below.refl _ _)).mono ?_
      rintro e w2 ⟨rfl, hb2⟩
      have b0 := vbox_at hb2 0 _ rfl
      have b1 := vbox_at hb2 1 _ rfl
      have b2 := vbox_at hb2 2 _ rfl
      have HB2 := Lib.hid hb2
      clear hb2)
    go_ret
    exact ⟨congrArg (fun x : Bool => Ending.returned (.bool x)) HF.out, HW.out _ HB2.out⟩
  have t3 : decide (2 < o) = false := decide_eq_false h3
  have HV2 := Lib.hid (show (preB o l.length && (List.range l.length).all (vstep o l)) = V by
    rw [← HSP.out (by omega) (by omega), ← HV.out, decide_eq_true (show 0 ≤ o by omega), decide_eq_true (show o ≤ 2 by omega)]
    rfl)
  clear HV HSP
  cases hpb : preB o l.length with
  | false =>
    have HF := Lib.hid (show false = V by rw [← HV2.out, hpb]; rfl)
    rw [hpb] at HPR
    by_cases h1 : o = 0
    · subst h1
      have x1 : decide ((1 : Int) < (l.length : Int)) = true := by
        have := HPR.out
        rw [if_pos rfl] at this
        have := of_decide_eq_false this.symm
        exact decide_eq_true (by omega)
      clear HPR HV2 HI0 hpb
      go_enter Tryz.func33, Tryz.ntmps33
      go_wp2_with (
        go_at_call 45
        refine (HNM.out _ (Below.refl _ _)).mono ?_
        rintro e w2 ⟨rfl, hb2⟩
        have b0 := vbox_at hb2 0 _ rfl
        have b1 := vbox_at hb2 1 _ rfl
        have b2 := vbox_at hb2 2 _ rfl
        have HB2 := Lib.hid hb2
        clear hb2)
      go_ret
      exact ⟨congrArg (fun x : Bool => Ending.returned (.bool x)) HF.out, HW.out _ HB2.out⟩
    · have g0 : (o == 0) = false := by simp; omega
      by_cases h1' : o = 1
      · subst h1'
        have x1 : ((l.length : Int) != 1) = true := by
          have := HPR.out
          rw [if_neg (by decide), if_pos rfl] at this
          have := of_decide_eq_false this.symm
          simp
          omega
        clear HPR HV2 HI0 hpb
        go_enter Tryz.func33, Tryz.ntmps33
        go_wp2_with (
          go_at_call 45
          refine (HNM.out _ (Below.refl _ _)).mono ?_
          rintro e w2 ⟨rfl, hb2⟩
          have b0 := vbox_at hb2 0 _ rfl
          have b1 := vbox_at hb2 1 _ rfl
          have b2 := vbox_at hb2 2 _ rfl
          have HB2 := Lib.hid hb2
          clear hb2)
        go_ret
        exact ⟨congrArg (fun x : Bool => Ending.returned (.bool x)) HF.out, HW.out _ HB2.out⟩
      · exfalso
        have := HPR.out
        rw [if_neg h1, if_neg h1'] at this
        cases this
  | true =>
  rw [hpb, Bool.true_and] at HV2
  rw [hpb] at HPR
  clear hpb
  have h012 : (o = 0 ∧ l.length ≤ 1) ∨ (o = 1 ∧ l.length = 1) ∨ o = 2 := by
    have := HPR.out
    by_cases h1 : o = 0
    · rw [if_pos h1] at this
      exact Or.inl ⟨h1, of_decide_eq_true this.symm⟩
    · by_cases h1' : o = 1
      · rw [if_neg h1, if_pos h1'] at this
        exact Or.inr (Or.inl ⟨h1', of_decide_eq_true this.symm⟩)
      · exact Or.inr (Or.inr (by omega))
  clear HPR h0 h3
  rcases h012 with ⟨rfl, hl1⟩ | ⟨rfl, hl1⟩ | rfl
  · have x1 : decide ((1 : Int) < (l.length : Int)) = false := decide_eq_false (by omega)
    have HVS := Lib.hid (fun j => (show vstep 0 l j = (setStep l j && (!decide ((0 : Int) = 0) || decide (l.getD j 0 = 0))) from rfl))
    go_enter Tryz.func33, Tryz.ntmps33
    go_wp2_with (
      go_at_call 45
      refine (HNM.out _ (Below.refl _ _)).mono ?_
      rintro e w2 ⟨rfl, hb2⟩
      have b0 := vbox_at hb2 0 _ rfl
      have b1 := vbox_at hb2 1 _ rfl
      have b2 := vbox_at hb2 2 _ rfl
      have HB2 := Lib.hid hb2
      clear hb2)
    go_loopg [3] l.length (fun g iv wr => ∃ k m : Nat, k ≤ l.length ∧ g = l.length - k ∧ iv = .int .i64 (k : Int) ∧ Hid ((List.range k).all (vstep 0 l) = true) ∧ wr = w2.drewN m)
    case atStart => exact ⟨0, 0, Nat.zero_le _, rfl, rfl, Lib.hid rfl, rfl⟩
    case round =>
      obtain ⟨k, m, hk, hg, rfl, HA, rfl⟩ := hrel
      have HG := Lib.hid hg
      clear hg
      by_cases hlt : k < l.length
      · have g1 : decide ((k : Int) < (l.length : Int)) = true := decide_eq_true (by omega)
        obtain ⟨b, off, rfl, hb, hc⟩ := (HI0.out _ HB2.out).at_ (by omega)
        have c0 := hc k hlt
        have HST := Lib.hid (all_range_succ (vstep 0 l) k)
        have HFL := Lib.hid (fun hf => all_range_false (f := vstep 0 l) hlt hf)
        have e1 := getD_at l hlt
        have hp0 : (0 : Int) ≤ (k : Int) := by omega
        have hp1 : (k : Int) < (l.length : Int) := by omega
        have HVK := Lib.hid (HVS.out k)
        by_cases hk0 : k = 0
        · skip
          have q2 : decide ((0 : Int) < (k : Int)) = false := decide_eq_false (by omega)
          have q3 : decide (0 < k) = false := decide_eq_false (by omega)
          have HS0 : Hid (setStep l k = (decide ((0 : Int) ≤ l[k]) && decide (l[k] ≤ 999))) := Lib.hid (by unfold setStep; rw [e1, show (k == 0) = true by rw [beq_iff_eq]; exact hk0, Bool.true_or, Bool.and_true])
          rw [HS0.out, e1] at HVK
          clear hc e1 hk0 HS0 HVS
          generalize l[k] = n at *
          by_cases h0 : n < 0
          · have t1 : decide (n < 0) = true := decide_eq_true h0
            have HF := Lib.hid (show false = V by rw [← HV2.out, HFL.out (by rw [HVK.out, decide_eq_false (show ¬ (0 : Int) ≤ n by omega)]; rfl)])
            clear HVK HST HFL HV2
            go_wp2_with fail
            go_quiet (fail)
            go_wp2_with fail
            go_ret
            exact ⟨congrArg (fun x : Bool => Ending.returned (.bool x)) HF.out, by repeat' (first | (with_reducible exact HW.out _ HB2.out) | (with_reducible refine Below.drewN_ ?_ _))⟩
          · have t1 : decide (n < 0) = false := decide_eq_false h0
            by_cases h9 : 999 < n
            · have t2 : decide (999 < n) = true := decide_eq_true h9
              have HF := Lib.hid (show false = V by rw [← HV2.out, HFL.out (by rw [HVK.out, decide_eq_false (show ¬ n ≤ 999 by omega)]; simp)])
              clear HVK HST HFL HV2
              go_wp2_with fail
              go_quiet (fail)
              go_wp2_with fail
              go_ret
              exact ⟨congrArg (fun x : Bool => Ending.returned (.bool x)) HF.out, by repeat' (first | (with_reducible exact HW.out _ HB2.out) | (with_reducible refine Below.drewN_ ?_ _))⟩
            · have t2 : decide (999 < n) = false := decide_eq_false h9
              by_cases hn0 : n = 0
              · subst hn0
                have HT := Lib.hid (show (List.range (k + 1)).all (vstep _ l) = true by rw [HST.out, HA.out, HVK.out]; simp <;> omega)
                clear HVK HST HFL
                go_wp2_with fail
                go_quiet (fail)
                go_wp2_with fail
                go_roundg (l.length - (k + 1))
                case measure => have := HG.out; omega
                case rel => exact ⟨k + 1, _, by omega, rfl, by go_num, HT, rfl⟩
              · have t4 : (n != 0) = true := by simp; omega
                have HF := Lib.hid (show false = V by rw [← HV2.out, HFL.out (by rw [HVK.out, decide_eq_false hn0]; simp)])
                clear HVK HST HFL HV2
                go_wp2_with fail
                go_quiet (fail)
                go_wp2_with fail
                go_ret
                exact ⟨congrArg (fun x : Bool => Ending.returned (.bool x)) HF.out, by repeat' (first | (with_reducible exact HW.out _ HB2.out) | (with_reducible refine Below.drewN_ ?_ _))⟩
        · skip
          exfalso
          omega
      · have g1 : decide ((k : Int) < (l.length : Int)) = false := decide_eq_false (by omega)
        have HF := Lib.hid (show true = V by rw [← HV2.out, ← HA.out, show k = l.length by omega])
        go_wp2_with fail
        go_ret
        exact ⟨congrArg (fun x : Bool => Ending.returned (.bool x)) HF.out, by repeat' (first | (with_reducible exact HW.out _ HB2.out) | (with_reducible refine Below.drewN_ ?_ _))⟩
  · have x1 : ((l.length : Int) != 1) = false := by simp; omega
    have HL1 := Lib.hid hl1
    clear hl1
    have HVS := Lib.hid (fun j => (show vstep 1 l j = (setStep l j && (!decide ((1 : Int) = 0) || decide (l.getD j 0 = 0))) from rfl))
    go_enter Tryz.func33, Tryz.ntmps33
    go_wp2_with (
      go_at_call 45
      refine (HNM.out _ (Below.refl _ _)).mono ?_
      rintro e w2 ⟨rfl, hb2⟩
      have b0 := vbox_at hb2 0 _ rfl
      have b1 := vbox_at hb2 1 _ rfl
      have b2 := vbox_at hb2 2 _ rfl
      have HB2 := Lib.hid hb2
      clear hb2)
    go_loopg [3] l.length (fun g iv wr => ∃ k m : Nat, k ≤ l.length ∧ g = l.length - k ∧ iv = .int .i64 (k : Int) ∧ Hid ((List.range k).all (vstep 1 l) = true) ∧ wr = w2.drewN m)
    case atStart => exact ⟨0, 0, Nat.zero_le _, rfl, rfl, Lib.hid rfl, rfl⟩
    case round =>
      obtain ⟨k, m, hk, hg, rfl, HA, rfl⟩ := hrel
      have HG := Lib.hid hg
      clear hg
      by_cases hlt : k < l.length
      · have g1 : decide ((k : Int) < (l.length : Int)) = true := decide_eq_true (by omega)
        obtain ⟨b, off, rfl, hb, hc⟩ := (HI0.out _ HB2.out).at_ (by omega)
        have c0 := hc k hlt
        have HST := Lib.hid (all_range_succ (vstep 1 l) k)
        have HFL := Lib.hid (fun hf => all_range_false (f := vstep 1 l) hlt hf)
        have e1 := getD_at l hlt
        have hp0 : (0 : Int) ≤ (k : Int) := by omega
        have hp1 : (k : Int) < (l.length : Int) := by omega
        have HVK := Lib.hid (HVS.out k)
        by_cases hk0 : k = 0
        · skip
          have q2 : decide ((0 : Int) < (k : Int)) = false := decide_eq_false (by omega)
          have q3 : decide (0 < k) = false := decide_eq_false (by omega)
          have HS0 : Hid (setStep l k = (decide ((0 : Int) ≤ l[k]) && decide (l[k] ≤ 999))) := Lib.hid (by unfold setStep; rw [e1, show (k == 0) = true by rw [beq_iff_eq]; exact hk0, Bool.true_or, Bool.and_true])
          rw [HS0.out, e1] at HVK
          clear hc e1 hk0 HS0 HVS
          generalize l[k] = n at *
          by_cases h0 : n < 0
          · have t1 : decide (n < 0) = true := decide_eq_true h0
            have HF := Lib.hid (show false = V by rw [← HV2.out, HFL.out (by rw [HVK.out, decide_eq_false (show ¬ (0 : Int) ≤ n by omega)]; rfl)])
            clear HVK HST HFL HV2
            go_wp2_with fail
            go_quiet (fail)
            go_wp2_with fail
            go_ret
            exact ⟨congrArg (fun x : Bool => Ending.returned (.bool x)) HF.out, by repeat' (first | (with_reducible exact HW.out _ HB2.out) | (with_reducible refine Below.drewN_ ?_ _))⟩
          · have t1 : decide (n < 0) = false := decide_eq_false h0
            by_cases h9 : 999 < n
            · have t2 : decide (999 < n) = true := decide_eq_true h9
              have HF := Lib.hid (show false = V by rw [← HV2.out, HFL.out (by rw [HVK.out, decide_eq_false (show ¬ n ≤ 999 by omega)]; simp)])
              clear HVK HST HFL HV2
              go_wp2_with fail
              go_quiet (fail)
              go_wp2_with fail
              go_ret
              exact ⟨congrArg (fun x : Bool => Ending.returned (.bool x)) HF.out, by repeat' (first | (with_reducible exact HW.out _ HB2.out) | (with_reducible refine Below.drewN_ ?_ _))⟩
            · have t2 : decide (999 < n) = false := decide_eq_false h9
              have HT := Lib.hid (show (List.range (k + 1)).all (vstep _ l) = true by rw [HST.out, HA.out, HVK.out]; simp <;> omega)
              clear HVK HST HFL
              go_wp2_with fail
              go_quiet (fail)
              go_wp2_with fail
              go_roundg (l.length - (k + 1))
              case measure => have := HG.out; omega
              case rel => exact ⟨k + 1, _, by omega, rfl, by go_num, HT, rfl⟩
        · skip
          exfalso
          have := HL1.out
          omega
      · have g1 : decide ((k : Int) < (l.length : Int)) = false := decide_eq_false (by omega)
        have HF := Lib.hid (show true = V by rw [← HV2.out, ← HA.out, show k = l.length by omega])
        go_wp2_with fail
        go_ret
        exact ⟨congrArg (fun x : Bool => Ending.returned (.bool x)) HF.out, by repeat' (first | (with_reducible exact HW.out _ HB2.out) | (with_reducible refine Below.drewN_ ?_ _))⟩
  · skip
    have HVS := Lib.hid (fun j => (show vstep 2 l j = (setStep l j && (!decide ((2 : Int) = 0) || decide (l.getD j 0 = 0))) from rfl))
    go_enter Tryz.func33, Tryz.ntmps33
    go_wp2_with (
      go_at_call 45
      refine (HNM.out _ (Below.refl _ _)).mono ?_
      rintro e w2 ⟨rfl, hb2⟩
      have b0 := vbox_at hb2 0 _ rfl
      have b1 := vbox_at hb2 1 _ rfl
      have b2 := vbox_at hb2 2 _ rfl
      have HB2 := Lib.hid hb2
      clear hb2)
    go_loopg [3] l.length (fun g iv wr => ∃ k m : Nat, k ≤ l.length ∧ g = l.length - k ∧ iv = .int .i64 (k : Int) ∧ Hid ((List.range k).all (vstep 2 l) = true) ∧ wr = w2.drewN m)
    case atStart => exact ⟨0, 0, Nat.zero_le _, rfl, rfl, Lib.hid rfl, rfl⟩
    case round =>
      obtain ⟨k, m, hk, hg, rfl, HA, rfl⟩ := hrel
      have HG := Lib.hid hg
      clear hg
      by_cases hlt : k < l.length
      · have g1 : decide ((k : Int) < (l.length : Int)) = true := decide_eq_true (by omega)
        obtain ⟨b, off, rfl, hb, hc⟩ := (HI0.out _ HB2.out).at_ (by omega)
        have c0 := hc k hlt
        have HST := Lib.hid (all_range_succ (vstep 2 l) k)
        have HFL := Lib.hid (fun hf => all_range_false (f := vstep 2 l) hlt hf)
        have e1 := getD_at l hlt
        have hp0 : (0 : Int) ≤ (k : Int) := by omega
        have hp1 : (k : Int) < (l.length : Int) := by omega
        have HVK := Lib.hid (HVS.out k)
        by_cases hk0 : k = 0
        · skip
          have q2 : decide ((0 : Int) < (k : Int)) = false := decide_eq_false (by omega)
          have q3 : decide (0 < k) = false := decide_eq_false (by omega)
          have HS0 : Hid (setStep l k = (decide ((0 : Int) ≤ l[k]) && decide (l[k] ≤ 999))) := Lib.hid (by unfold setStep; rw [e1, show (k == 0) = true by rw [beq_iff_eq]; exact hk0, Bool.true_or, Bool.and_true])
          rw [HS0.out, e1] at HVK
          clear hc e1 hk0 HS0 HVS
          generalize l[k] = n at *
          by_cases h0 : n < 0
          · have t1 : decide (n < 0) = true := decide_eq_true h0
            have HF := Lib.hid (show false = V by rw [← HV2.out, HFL.out (by rw [HVK.out, decide_eq_false (show ¬ (0 : Int) ≤ n by omega)]; rfl)])
            clear HVK HST HFL HV2
            go_wp2_with fail
            go_quiet (fail)
            go_wp2_with fail
            go_ret
            exact ⟨congrArg (fun x : Bool => Ending.returned (.bool x)) HF.out, by repeat' (first | (with_reducible exact HW.out _ HB2.out) | (with_reducible refine Below.drewN_ ?_ _))⟩
          · have t1 : decide (n < 0) = false := decide_eq_false h0
            by_cases h9 : 999 < n
            · have t2 : decide (999 < n) = true := decide_eq_true h9
              have HF := Lib.hid (show false = V by rw [← HV2.out, HFL.out (by rw [HVK.out, decide_eq_false (show ¬ n ≤ 999 by omega)]; simp)])
              clear HVK HST HFL HV2
              go_wp2_with fail
              go_quiet (fail)
              go_wp2_with fail
              go_ret
              exact ⟨congrArg (fun x : Bool => Ending.returned (.bool x)) HF.out, by repeat' (first | (with_reducible exact HW.out _ HB2.out) | (with_reducible refine Below.drewN_ ?_ _))⟩
            · have t2 : decide (999 < n) = false := decide_eq_false h9
              have HT := Lib.hid (show (List.range (k + 1)).all (vstep _ l) = true by rw [HST.out, HA.out, HVK.out]; simp <;> omega)
              clear HVK HST HFL
              go_wp2_with fail
              go_quiet (fail)
              go_wp2_with fail
              go_roundg (l.length - (k + 1))
              case measure => have := HG.out; omega
              case rel => exact ⟨k + 1, _, by omega, rfl, by go_num, HT, rfl⟩
        · skip
          obtain ⟨j, hj⟩ : ∃ j, j = k - 1 := ⟨_, rfl⟩
          have hjl : j < l.length := by omega
          have c1 := hc j hjl
          have e2 := getD_at l hjl
          have HS0 : Hid (setStep l k = (decide ((0 : Int) ≤ l[k]) && decide (l[k] ≤ 999) && decide (l[j] < l[k]))) := Lib.hid (by
            unfold setStep
            rw [e1, ← hj, e2, show (k == 0) = false by rw [beq_eq_false_iff_ne]; exact hk0, Bool.false_or])
          have q1 : IntKind.i64.wrap ((k : Int) - 1) = (j : Int) := by
            rw [show (k : Int) - 1 = (j : Int) by omega]
            exact IntWalk.i64_in _ ⟨by omega, by omega⟩
          have q2 : decide ((0 : Int) < (k : Int)) = true := decide_eq_true (by omega)
          have q3 : decide (0 < k) = true := decide_eq_true (by omega)
          have q4 : (0 : Int) ≤ (j : Int) := by omega
          have q5 : (j : Int) < (l.length : Int) := by omega
          rw [HS0.out, e1] at HVK
          clear hc e1 hk0 HS0 HVS e2 hj
          generalize l[j] = p at *
          generalize l[k] = n at *
          by_cases h0 : n < 0
          · have t1 : decide (n < 0) = true := decide_eq_true h0
            have HF := Lib.hid (show false = V by rw [← HV2.out, HFL.out (by rw [HVK.out, decide_eq_false (show ¬ (0 : Int) ≤ n by omega)]; rfl)])
            clear HVK HST HFL HV2
            go_wp2_with fail
            go_quiet (fail)
            go_wp2_with fail
            go_ret
            exact ⟨congrArg (fun x : Bool => Ending.returned (.bool x)) HF.out, by repeat' (first | (with_reducible exact HW.out _ HB2.out) | (with_reducible refine Below.drewN_ ?_ _))⟩
          · have t1 : decide (n < 0) = false := decide_eq_false h0
            by_cases h9 : 999 < n
            · have t2 : decide (999 < n) = true := decide_eq_true h9
              have HF := Lib.hid (show false = V by rw [← HV2.out, HFL.out (by rw [HVK.out, decide_eq_false (show ¬ n ≤ 999 by omega)]; simp)])
              clear HVK HST HFL HV2
              go_wp2_with fail
              go_quiet (fail)
              go_wp2_with fail
              go_ret
              exact ⟨congrArg (fun x : Bool => Ending.returned (.bool x)) HF.out, by repeat' (first | (with_reducible exact HW.out _ HB2.out) | (with_reducible refine Below.drewN_ ?_ _))⟩
            · have t2 : decide (999 < n) = false := decide_eq_false h9
              by_cases hp : n ≤ p
              · have t3 : decide (n ≤ p) = true := decide_eq_true hp
                have HF := Lib.hid (show false = V by rw [← HV2.out, HFL.out (by rw [HVK.out, decide_eq_false (show ¬ p < n by omega)]; simp)])
                clear HVK HST HFL HV2
                go_wp2_with fail
                go_quiet (fail)
                go_wp2_with fail
                go_ret
                exact ⟨congrArg (fun x : Bool => Ending.returned (.bool x)) HF.out, by repeat' (first | (with_reducible exact HW.out _ HB2.out) | (with_reducible refine Below.drewN_ ?_ _))⟩
              · have t3 : decide (n ≤ p) = false := decide_eq_false hp
                have HT := Lib.hid (show (List.range (k + 1)).all (vstep _ l) = true by rw [HST.out, HA.out, HVK.out]; simp <;> omega)
                clear HVK HST HFL
                go_wp2_with fail
                go_quiet (fail)
                go_wp2_with fail
                go_roundg (l.length - (k + 1))
                case measure => have := HG.out; omega
                case rel => exact ⟨k + 1, _, by omega, rfl, by go_num, HT, rfl⟩
      · have g1 : decide ((k : Int) < (l.length : Int)) = false := decide_eq_false (by omega)
        have HF := Lib.hid (show true = V by rw [← HV2.out, ← HA.out, show k = l.length by omega])
        go_wp2_with fail
        go_ret
        exact ⟨congrArg (fun x : Bool => Ending.returned (.bool x)) HF.out, by repeat' (first | (with_reducible exact HW.out _ HB2.out) | (with_reducible refine Below.drewN_ ?_ _))⟩
end Go.Proofs.YteikakoheibnjaaGreatDoor
