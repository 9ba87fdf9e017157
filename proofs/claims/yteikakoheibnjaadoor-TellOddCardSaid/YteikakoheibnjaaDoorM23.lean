/- Parts of the proof: LIsName, TIsVal, TAny. -/
import Derived.Test.YteikakoheibnjaaDoorM22
import Derived.Test.YteikakoheibnjaaDoorM6
namespace Go.Proofs.YteikakoheibnjaaDoor
open Go Go.RowKit

set_option maxHeartbeats 2000000 in
theorem lisName_any (s : List UInt8) (hs : s.length ≤ 140737488355328) (w : World) : Calls Tryd.prog 145 #[.string ⟨s.toArray⟩] w fun e w' => e = .returned (.bool (nameB s)) ∧ Below w.heap.size w w' := by
  have HTK := Lib.hid (fun W => ltokens_any s hs W)
  unfold ToksPost at HTK
  have HV := Lib.hid (show nameB s = ((tokens s).2.2 == 0 && (match (tokens s).1 with | [t, _] => t.kind == 1 && t.text == s | _ => false)) by
    unfold nameB
    generalize tokens s = x
    obtain ⟨l, p, e⟩ := x
    rfl)
  generalize nameB s = V at *
  generalize tokens s = x at *
  obtain ⟨l, p, er⟩ := x
  simp only at HTK HV
  have ARM : True := trivial
  by_cases he : er = 0
  · subst he
    by_cases hl : l.length = 2
    · obtain ⟨t0, t1, rfl⟩ : ∃ t0 t1, l = [t0, t1] := by
        match l, hl with
        | [a, b], _ => exact ⟨a, b, rfl⟩
      have HV2 := Lib.hid (show (t0.kind == 1 && t0.text == s) = V by rw [HV.out]; rfl)
      clear HV hl
      by_cases hk : t0.kind = 1
      · have gk : ((t0.kind : Int) == 1) = true := by rw [hk]; rfl
        have HV3 := Lib.hid (show (t0.text == s) = V by rw [← HV2.out, hk]; rfl)
        clear HV2 hk
        go_enter Tryd.func145, Tryd.ntmps145
        go_wp2_with (
          go_at_call 153
          refine (HTK.out _).mono ?_
          intro e w2 hp
          obtain ⟨A, c, rfl, hown, hb⟩ := hp
          have HB := Lib.hid hb
          obtain ⟨g, cap, hv, _, hlt⟩ := hown.form (by simp)
          have hA : A = some ⟨g, 0, none⟩ := by injection hv
          subst hA
          have k0 : w2.cell? ⟨g, 0, none⟩ = some (.int .i64 t0.kind) := hown.cells (g := g) rfl 0 _ rfl
          have k1 : w2.cell? ⟨g, 1, none⟩ = some (.string ⟨t0.text.toArray⟩) := hown.cells (g := g) rfl 1 _ rfl
          clear hown hb hv)
        go_ret
        exact ⟨congrArg (fun x : Bool => Ending.returned (.bool x)) HV3.out, HB.out⟩
      · have gk : ((t0.kind : Int) == 1) = false := by simp; omega
        have HV3 := Lib.hid (show false = V by rw [← HV2.out, beq_false_of_ne hk]; rfl)
        clear HV2 hk
        go_enter Tryd.func145, Tryd.ntmps145
        go_wp2_with (
          go_at_call 153
          refine (HTK.out _).mono ?_
          intro e w2 hp
          obtain ⟨A, c, rfl, hown, hb⟩ := hp
          have HB := Lib.hid hb
          obtain ⟨g, cap, hv, _, hlt⟩ := hown.form (by simp)
          have hA : A = some ⟨g, 0, none⟩ := by injection hv
          subst hA
          have k0 : w2.cell? ⟨g, 0, none⟩ = some (.int .i64 t0.kind) := hown.cells (g := g) rfl 0 _ rfl
          have k1 : w2.cell? ⟨g, 1, none⟩ = some (.string ⟨t0.text.toArray⟩) := hown.cells (g := g) rfl 1 _ rfl
          clear hown hb hv)
        go_ret
        exact ⟨congrArg (fun x : Bool => Ending.returned (.bool x)) HV3.out, HB.out⟩
    · have HV2 := Lib.hid (show false = V by
        rw [HV.out]
        match l, hl with
        | [], _ => rfl
        | [_], _ => rfl
        | [a, b], h => exact absurd rfl h
        | _ :: _ :: _ :: _, _ => rfl)
      have gl : ((l.length : Int) == 2) = false := by simp; omega
      clear HV hl
      go_enter Tryd.func145, Tryd.ntmps145
      go_wp2_with (
        go_at_call 153
        refine (HTK.out _).mono ?_
        intro e w2 hp
        obtain ⟨A, c, rfl, hown, hb⟩ := hp
        have HB := Lib.hid hb
        clear hown hb)
      go_ret
      exact ⟨congrArg (fun x : Bool => Ending.returned (.bool x)) HV2.out, HB.out⟩
  · have HV2 := Lib.hid (show false = V by rw [HV.out, beq_false_of_ne he]; rfl)
    have ge : ((er : Int) == 0) = false := by simp; omega
    clear HV he
    go_enter Tryd.func145, Tryd.ntmps145
    go_wp2_with (
      go_at_call 153
      refine (HTK.out _).mono ?_
      intro e w2 hp
      obtain ⟨A, c, rfl, hown, hb⟩ := hp
      have HB := Lib.hid hb
      clear hown hb)
    go_ret
    exact ⟨congrArg (fun x : Bool => Ending.returned (.bool x)) HV2.out, HB.out⟩
end Go.Proofs.YteikakoheibnjaaDoor
namespace Go.Proofs.YteikakoheibnjaaDoor
open Go Go.RowKit

set_option maxHeartbeats 4000000 in
theorem isVal_any {w : World} {A : Option Addr} {c : Nat} {v : ValP} (h : IntsAt w w.heap.size A c v.set) (hn : v.name.length ≤ 140737488355328) :
    Calls Tryd.prog 131 #[valW v.name v.order A v.set.length c] w fun e w' => e = .returned (.bool (valB v)) ∧ Below w.heap.size w w' := by
  obtain ⟨nm, o, l⟩ := v
  dsimp only at h hn ⊢
  have hz := h.small
  have HV := Lib.hid (show (nameB nm && (decide (0 ≤ o) && decide (o ≤ 2)) && setB l && shapeB o l) = valB ⟨nm, o, l⟩ from rfl)
  have HNM := Lib.hid (fun W => lisName_any nm hn W)
  have HW := Lib.hid (fun W (hb : Below (w.alloc (boxV nm o A l.length c)).heap.size (w.alloc (boxV nm o A l.length c)) W) => ((Below.refl _ _).alloc (Nat.le_refl _) _ : Below w.heap.size w (w.alloc (boxV nm o A l.length c))).trans (hb.mono (by simp)))
  have HI0 := Lib.hid (fun W (hb : Below (w.alloc (boxV nm o A l.length c)).heap.size (w.alloc (boxV nm o A l.length c)) W) => h.keep (w' := W) (fun p hp => (HW.out W hb).cell hp))
  have HSE := Lib.hid (fun W hb => isSet_any (HI0.out W hb))
  have HSH : Hid (shapeB o l = if o = 0 then l == [] || l == [0] else if o = 1 then l.length == 1 else true) := Lib.hid rfl
  generalize valB ⟨nm, o, l⟩ = V at *
  generalize nameB nm = nb at *
  generalize setB l = sb at *
  generalize shapeB o l = hb at *
  clear h hn
  cases nb with
  | false =>
    have HF := Lib.hid (show false = V from HV.out)
    clear HV HI0 HSE HSH
    go_enter Tryd.func131, Tryd.ntmps131
    go_wp2_with (
      go_at_call 145
      refine (HNM.out _).mono ?_
      rintro e w2 ⟨rfl, hb2⟩
      have b0 := vbox_at hb2 0 _ rfl
      have b1 := vbox_at hb2 1 _ rfl
      have b2 := vbox_at hb2 2 _ rfl
      have HB2 := Lib.hid hb2
      clear hb2)
    go_ret
    exact ⟨congrArg (fun x : Bool => Ending.returned (.bool x)) HF.out, HW.out _ HB2.out⟩
  | true =>
    by_cases h0 : o < 0
    · have t0 : decide (o < 0) = true := decide_eq_true h0
      have HF := Lib.hid (show false = V by rw [← HV.out, decide_eq_false (show ¬ 0 ≤ o by omega)]; rfl)
      clear HV HI0 HSE HSH
      go_enter Tryd.func131, Tryd.ntmps131
      go_wp2_with (
        go_at_call 145
        refine (HNM.out _).mono ?_
        rintro e w2 ⟨rfl, hb2⟩
        have b0 := vbox_at hb2 0 _ rfl
        have b1 := vbox_at hb2 1 _ rfl
        have b2 := vbox_at hb2 2 _ rfl
        have HB2 := Lib.hid hb2
        clear hb2)
      go_ret
      exact ⟨congrArg (fun x : Bool => Ending.returned (.bool x)) HF.out, HW.out _ HB2.out⟩
    · have t0 : decide (o < 0) = false := decide_eq_false h0
      by_cases h3 : 3 ≤ o
      · have t3 : decide (3 ≤ o) = true := decide_eq_true h3
        have HF := Lib.hid (show false = V by rw [← HV.out, decide_eq_false (show ¬ o ≤ 2 by omega)]; simp)
        clear HV HI0 HSE HSH
        go_enter Tryd.func131, Tryd.ntmps131
        go_wp2_with (
          go_at_call 145
          refine (HNM.out _).mono ?_
          rintro e w2 ⟨rfl, hb2⟩
          have b0 := vbox_at hb2 0 _ rfl
          have b1 := vbox_at hb2 1 _ rfl
          have b2 := vbox_at hb2 2 _ rfl
          have HB2 := Lib.hid hb2
          clear hb2)
        go_ret
        exact ⟨congrArg (fun x : Bool => Ending.returned (.bool x)) HF.out, HW.out _ HB2.out⟩
      · have t3 : decide (3 ≤ o) = false := decide_eq_false h3
        rw [decide_eq_true (show 0 ≤ o by omega), decide_eq_true (show o ≤ 2 by omega)] at HV
        cases sb with
        | false =>
          have HF := Lib.hid (show false = V from HV.out)
          clear HV HSH
          go_enter Tryd.func131, Tryd.ntmps131
          go_wp2_with (first
            | (
              go_at_call 145
              refine (HNM.out _).mono ?_
              rintro e w2 ⟨rfl, hb2⟩
              have b0 := vbox_at hb2 0 _ rfl
              have b1 := vbox_at hb2 1 _ rfl
              have b2 := vbox_at hb2 2 _ rfl
              have HB2 := Lib.hid hb2
              clear hb2)
            | (
              go_at_call 146
              refine (HSE.out _ HB2.out).mono ?_
              rintro e w3 ⟨rfl, rfl⟩))
          go_ret
          exact ⟨congrArg (fun x : Bool => Ending.returned (.bool x)) HF.out, HW.out _ HB2.out⟩
        | true =>
          have HV2 := Lib.hid (show hb = V from HV.out)
          clear HV
          have ho : o = 0 ∨ o = 1 ∨ o = 2 := by omega
          rcases ho with rfl | rfl | rfl
          · rw [if_pos rfl] at HSH
            match l, hz, HI0, HSE, HSH, HW with
            | [], hz, HI0, HSE, HSH, HW =>
              have HF := Lib.hid (show true = V by rw [← HV2.out, HSH.out]; rfl)
              clear HSH HV2
              go_enter Tryd.func131, Tryd.ntmps131
              go_wp2_with (first
                | (
                  go_at_call 145
                  refine (HNM.out _).mono ?_
                  rintro e w2 ⟨rfl, hb2⟩
                  have b0 := vbox_at hb2 0 _ rfl
                  have b1 := vbox_at hb2 1 _ rfl
                  have b2 := vbox_at hb2 2 _ rfl
                  have HB2 := Lib.hid hb2
                  clear hb2)
                | (
                  go_at_call 146
                  refine (HSE.out _ HB2.out).mono ?_
                  rintro e w3 ⟨rfl, rfl⟩))
              go_ret
              exact ⟨congrArg (fun x : Bool => Ending.returned (.bool x)) HF.out, HW.out _ HB2.out⟩
            | [n], hz, HI0, HSE, HSH, HW =>
              have HCE : Hid (∀ W, Below (w.alloc (boxV nm 0 A [n].length c)).heap.size (w.alloc (boxV nm 0 A [n].length c)) W → ∃ b off, A = some ⟨b, off, none⟩ ∧ W.cell? ⟨b, off, none⟩ = some (.int .i64 n)) := Lib.hid (fun W hb => by
                obtain ⟨b, off, e, _, hc⟩ := (HI0.out W hb).at_ (by simp)
                exact ⟨b, off, e, hc 0 (by simp)⟩)
              obtain ⟨b, off, rfl, _⟩ := HCE.out (w.alloc (boxV nm 0 A [n].length c)) (Below.refl _ _)
              have HCF : Hid (∀ W, Below (w.alloc (boxV nm 0 (some ⟨b, off, none⟩) [n].length c)).heap.size (w.alloc (boxV nm 0 (some ⟨b, off, none⟩) [n].length c)) W → W.cell? ⟨b, off, none⟩ = some (.int .i64 n)) := Lib.hid (fun W hb => by
                obtain ⟨b', off', e, h⟩ := HCE.out W hb
                injection e with e
                injection e with e1 e2 _
                subst e1 e2
                exact h)
              have HF := Lib.hid (show (n == 0) = V by rw [← HV2.out, HSH.out]; simp)
              generalize hT : (n == 0) = T at *
              have t5 := hT
              clear HSH HV2 HCE hT
              go_enter Tryd.func131, Tryd.ntmps131
              go_wp2_with (first
                | (
                  go_at_call 145
                  refine (HNM.out _).mono ?_
                  rintro e w2 ⟨rfl, hb2⟩
                  have b0 := vbox_at hb2 0 _ rfl
                  have b1 := vbox_at hb2 1 _ rfl
                  have b2 := vbox_at hb2 2 _ rfl
                  have HB2 := Lib.hid hb2
                  clear hb2)
                | (
                  go_at_call 146
                  refine (HSE.out _ HB2.out).mono ?_
                  rintro e w3 ⟨rfl, rfl⟩
                  have c0 := HCF.out _ HB2.out))
              go_ret
              exact ⟨congrArg (fun x : Bool => Ending.returned (.bool x)) HF.out, HW.out _ HB2.out⟩
            | n :: m :: r, hz, HI0, HSE, HSH, HW =>
              have HF := Lib.hid (show false = V by rw [← HV2.out, HSH.out]; simp)
              have t4 : (((n :: m :: r).length : Int) == 0) = false := by simp; omega
              have t5 : (((n :: m :: r).length : Int) == 1) = false := by simp; omega
              clear HSH HV2
              generalize n :: m :: r = l at *
              go_enter Tryd.func131, Tryd.ntmps131
              go_wp2_with (first
                | (
                  go_at_call 145
                  refine (HNM.out _).mono ?_
                  rintro e w2 ⟨rfl, hb2⟩
                  have b0 := vbox_at hb2 0 _ rfl
                  have b1 := vbox_at hb2 1 _ rfl
                  have b2 := vbox_at hb2 2 _ rfl
                  have HB2 := Lib.hid hb2
                  clear hb2)
                | (
                  go_at_call 146
                  refine (HSE.out _ HB2.out).mono ?_
                  rintro e w3 ⟨rfl, rfl⟩))
              go_ret
              exact ⟨congrArg (fun x : Bool => Ending.returned (.bool x)) HF.out, HW.out _ HB2.out⟩
          · rw [if_neg (by decide), if_pos rfl] at HSH
            have HF := Lib.hid (show ((l.length : Int) == 1) = V by rw [← HV2.out, HSH.out, Bool.eq_iff_iff, beq_iff_eq, beq_iff_eq]; omega)
            clear HSH HV2
            go_enter Tryd.func131, Tryd.ntmps131
            go_wp2_with (first
              | (
                go_at_call 145
                refine (HNM.out _).mono ?_
                rintro e w2 ⟨rfl, hb2⟩
                have b0 := vbox_at hb2 0 _ rfl
                have b1 := vbox_at hb2 1 _ rfl
                have b2 := vbox_at hb2 2 _ rfl
                have HB2 := Lib.hid hb2
                clear hb2)
              | (
                go_at_call 146
                refine (HSE.out _ HB2.out).mono ?_
                rintro e w3 ⟨rfl, rfl⟩))
            go_ret
            exact ⟨congrArg (fun x : Bool => Ending.returned (.bool x)) HF.out, HW.out _ HB2.out⟩
          · rw [if_neg (by decide), if_neg (by decide)] at HSH
            have HF := Lib.hid (show true = V by rw [← HV2.out, HSH.out])
            clear HSH HV2
            go_enter Tryd.func131, Tryd.ntmps131
            go_wp2_with (first
              | (
                go_at_call 145
                refine (HNM.out _).mono ?_
                rintro e w2 ⟨rfl, hb2⟩
                have b0 := vbox_at hb2 0 _ rfl
                have b1 := vbox_at hb2 1 _ rfl
                have b2 := vbox_at hb2 2 _ rfl
                have HB2 := Lib.hid hb2
                clear hb2)
              | (
                go_at_call 146
                refine (HSE.out _ HB2.out).mono ?_
                rintro e w3 ⟨rfl, rfl⟩))
            go_ret
            exact ⟨congrArg (fun x : Bool => Ending.returned (.bool x)) HF.out, HW.out _ HB2.out⟩
end Go.Proofs.YteikakoheibnjaaDoor
namespace Go.Proofs.YteikakoheibnjaaDoor
open Go Go.RowKit

def badV (v : ValP) : Bool := !valB v
set_option maxHeartbeats 1000000 in
theorem badV_any {w : World} {A : Option Addr} {c : Nat} {v : ValP} (h : IntsAt w w.heap.size A c v.set) (hn : v.name.length ≤ 140737488355328) :
    Calls Tryd.prog 130 #[valW v.name v.order A v.set.length c] w fun e w' => e = .returned (.bool (badV v)) ∧ Below w.heap.size w w' := by
  have HIS := Lib.hid (fun W (hb : Below w.heap.size w W) => isVal_any (h.later hb hb.size) hn)
  have HV := Lib.hid (show badV v = !valB v from rfl)
  have HB0 := Lib.hid ((Below.refl _ _).alloc (Nat.le_refl _) (boxV v.name v.order A v.set.length c) : Below w.heap.size w (w.alloc (boxV v.name v.order A v.set.length c)))
  generalize badV v = V at *
  generalize valB v = b at *
  generalize v.name = nm at *
  generalize v.order = o at *
  generalize v.set.length = l at *
  clear h hn
  go_enter Tryd.func130, Tryd.ntmps130
  go_wp2_with (
    go_at_call 131
    refine (HIS.out _ HB0.out).mono ?_
    rintro e w2 ⟨rfl, hb2⟩
    have HB2 := Lib.hid (HB0.out.trans (hb2.mono (by simp)))
    clear hb2)
  go_ret
  exact ⟨congrArg (fun x : Bool => Ending.returned (.bool x)) HV.out.symm, HB2.out⟩
theorem vany_take (P : ValP → Bool) (ks : List ValP) (k : Nat) (h : k < ks.length) : (ks.take (k + 1)).any P = ((ks.take k).any P || P ks[k]) := by
  rw [List.take_succ_eq_append_getElem h, List.any_append]
  simp
theorem vany_mem {P : ValP → Bool} {ks : List ValP} {k : Nat} (h : k < ks.length) (hp : P ks[k] = true) : ks.any P = true := by
  rw [List.any_eq_true]
  exact ⟨_, List.getElem_mem h, hp⟩
set_option maxHeartbeats 1000000 in
theorem vindex_any {w : World} {A : Option Addr} {c : Nat} {vs : List ValP} (h : ValsAt w w.heap.size A c vs) :
    Calls Tryd.prog 144 #[.slice A vs.length c, .func (.func 130) #[] #[]] w fun e w' => ∃ i : Int, e = .returned (.int .i64 i) ∧ decide (0 ≤ i) = vs.any badV ∧ Below w.heap.size w w' := by
  have HC := Lib.hid h
  have hl1 := h.cap_
  have hl2 := h.small
  clear h
  go_enter Tryd.func144, Tryd.ntmps144
  go_wp2_with fail
  go_loopg [8] vs.length (fun r i wr => ∃ k : Nat, k ≤ vs.length ∧ r = vs.length - k ∧ i = .int .i64 (k : Int) ∧ (vs.take k).any badV = false ∧ Below w.heap.size w wr)
  case atStart => exact ⟨0, Nat.zero_le _, rfl, rfl, by simp, Below.refl _ _⟩
  case round =>
    obtain ⟨k, hk, hr, rfl, hp, hb⟩ := hrel
    have HRr := Lib.hid hr
    have HP := Lib.hid hp
    have HB := Lib.hid hb
    have hs1 := hb.size
    have HL := Lib.hid (HC.out.later hb hb.size)
    clear hr hb hp
    by_cases hlt : k < vs.length
    · obtain ⟨b, off, A1, c1, rfl, hlo, d0, d1, d2, hset⟩ := HL.out.at_ k hlt
      have HS := Lib.hid (vany_take badV vs k hlt)
      have HM := Lib.hid (fun hp => vany_mem (P := badV) hlt hp)
      have HI := Lib.hid (badV_any hset (HC.out.name _ (List.getElem_mem hlt)))
      have g1 : decide ((k : Int) < (vs.length : Int)) = true := decide_eq_true (by omega)
      have hp0 : (0 : Int) ≤ (k : Int) := by omega
      have hp1 : (k : Int) < (vs.length : Int) := by omega
      clear hset
      generalize vs[k] = v at *
      generalize v.name = nm at *
      generalize v.order = o at *
      generalize v.set.length = l at *
      cases hpv : badV v with
      | true =>
        rw [hpv] at HI
        go_wp2_with (
          go_at_call 130
          refine HI.out.mono ?_
          rintro e w2 ⟨rfl, hb2⟩
          have HB2 := Lib.hid (HB.out.trans (hb2.mono hs1))
          clear hb2)
        go_ret
        refine ⟨_, rfl, ?_, HB2.out⟩
        rw [HM.out hpv, decide_eq_true (by omega : (0 : Int) ≤ (k : Int))]
      | false =>
        rw [hpv] at HI
        go_wp2_with (
          go_at_call 130
          refine HI.out.mono ?_
          rintro e w2 ⟨rfl, hb2⟩
          have HB2 := Lib.hid (HB.out.trans (hb2.mono hs1))
          clear hb2)
        go_roundg (vs.length - (k + 1))
        case measure => have := HRr.out; omega
        case rel => exact ⟨k + 1, by omega, rfl, by go_num, by rw [HS.out, HP.out, hpv]; rfl, HB2.out⟩
    · have g1 : decide ((k : Int) < (vs.length : Int)) = false := decide_eq_false (by omega)
      go_wp2_with fail
      go_ret
      have hkk : k = vs.length := by omega
      refine ⟨_, rfl, ?_, HB.out⟩
      have := HP.out
      rw [hkk, List.take_length] at this
      rw [this]
      rfl
theorem vcontains_any {w : World} {A : Option Addr} {c : Nat} {vs : List ValP} (h : ValsAt w w.heap.size A c vs) :
    Calls Tryd.prog 129 #[.slice A vs.length c, .func (.func 130) #[] #[]] w fun e w' => e = .returned (.bool (vs.any badV)) ∧ Below w.heap.size w w' := by
  have HI := Lib.hid (vindex_any h)
  clear h
  generalize vs.any badV = r at *
  go_enter Tryd.func129, Tryd.ntmps129
  go_wp2_with (
    go_at_call 144
    refine HI.out.mono ?_
    rintro e w2 ⟨i, rfl, hi, hb⟩)
  go_ret
  exact ⟨rfl, hb⟩
theorem valsB_any (vs : List ValP) : valsB vs = (decide (vs.length ≤ 6) && !vs.any badV) := by
  unfold valsB
  congr 1
  induction vs with
  | nil => rfl
  | cons v r ih => rw [List.all_cons, List.any_cons, ih, Bool.not_or]; unfold badV; rw [Bool.not_not]
theorem areVals_any {w : World} {A : Option Addr} {c : Nat} {vs : List ValP} (h : ValsAt w w.heap.size A c vs) :
    Calls Tryd.prog 109 #[.slice A vs.length c] w fun e w' => e = .returned (.bool (valsB vs)) ∧ Below w.heap.size w w' := by
  have HC := Lib.hid (vcontains_any h)
  have HV := Lib.hid (valsB_any vs)
  have hz := h.small
  clear h
  generalize valsB vs = V at *
  generalize vs.any badV = r at *
  by_cases h6 : vs.length ≤ 6
  · have g1 : decide ((vs.length : Int) ≤ 6) = true := decide_eq_true (by omega)
    rw [decide_eq_true h6, Bool.true_and] at HV
    go_enter Tryd.func109, Tryd.ntmps109
    go_wp2_with (
      go_at_call 129
      refine HC.out.mono ?_
      rintro e w2 ⟨rfl, hb⟩)
    go_ret
    exact ⟨congrArg (fun x : Bool => Ending.returned (.bool x)) HV.out.symm, hb⟩
  · have g1 : decide ((vs.length : Int) ≤ 6) = false := decide_eq_false (by omega)
    rw [decide_eq_false h6, Bool.false_and] at HV
    clear HC
    go_enter Tryd.func109, Tryd.ntmps109
    go_wp2_with fail
    go_ret
    exact ⟨congrArg (fun x : Bool => Ending.returned (.bool x)) HV.out.symm, Below.refl _ _⟩
def hasMB (t : Int) : Bool := decide (t = 1 ∨ t = 2)
def hasCB (t : Int) : Bool := decide (t = 3 ∨ t = 2)
theorem hasModel_any (t : Int) (w : World) : Calls Tryd.prog 83 #[.int .i64 t] w fun e w' => e = .returned (.bool (hasMB t)) ∧ w = w' := by
  have HV : Hid ((t == 1 || t == 2) = hasMB t) := Lib.hid (by unfold hasMB; rw [Bool.eq_iff_iff, Bool.or_eq_true, beq_iff_eq, beq_iff_eq, decide_eq_true_eq])
  generalize hasMB t = V at *
  cases h1 : (t == 1)
  all_goals
    have g1 := h1
    clear h1
    rw [g1] at HV
    go_enter Tryd.func83, Tryd.ntmps83
    go_wp2_with fail
    go_ret
    exact ⟨congrArg (fun x : Bool => Ending.returned (.bool x)) HV.out, rfl⟩
theorem hasCounter_any (t : Int) (w : World) : Calls Tryd.prog 85 #[.int .i64 t] w fun e w' => e = .returned (.bool (hasCB t)) ∧ w = w' := by
  have HV : Hid ((t == 3 || t == 2) = hasCB t) := Lib.hid (by unfold hasCB; rw [Bool.eq_iff_iff, Bool.or_eq_true, beq_iff_eq, beq_iff_eq, decide_eq_true_eq])
  generalize hasCB t = V at *
  cases h1 : (t == 3)
  all_goals
    have g1 := h1
    clear h1
    rw [g1] at HV
    go_enter Tryd.func85, Tryd.ntmps85
    go_wp2_with fail
    go_ret
    exact ⟨congrArg (fun x : Bool => Ending.returned (.bool x)) HV.out, rfl⟩
end Go.Proofs.YteikakoheibnjaaDoor
