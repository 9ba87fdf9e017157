/- Parts of the proof: LawTB, LawTR. -/
import Derived.Test.YteikakoheibnjaaGreatDoorM36
namespace Go.Proofs.YteikakoheibnjaaGreatDoor
open Go Go.RowKit

theorem textS_len {r : ResP} (h : isB r = true) : (textS r).length ≤ 200000 := by
  obtain ⟨_, hvm, hvc, _, _, hea, hlm, hlc⟩ := isB_facts h
  have h1 := listS_len (t := wModel) hvm hlm
  have h2 := listS_len (t := wCounter) hvc hlc
  have e1 : wModel.length = 5 := rfl
  have e2 : wCounter.length = 7 := rfl
  have h3 : (tagsL.getD r.tag.toNat []).length ≤ 10 := by
    have : ∀ k : Nat, (tagsL.getD k []).length ≤ 10 := fun k => by
      match k with
      | 0 => decide
      | 1 => decide
      | 2 => decide
      | 3 => decide
      | 4 => decide
      | 5 => decide
      | k + 6 => simp [tagsL]
    exact this _
  have h4 : (if r.tag = 4 then [32] ++ num r.err ++ [32] ++ num r.at_ else []).length ≤ 20 := by
    split
    · next ht =>
      rw [if_pos ht] at hea
      obtain ⟨⟨he1, he2⟩, ha1, ha2⟩ := hea
      have a1 := num_len (n := r.err) (by omega) (by omega)
      have a2 := num_len (n := r.at_) (by omega) (by omega)
      simp only [List.length_append, List.length_cons, List.length_nil]
      omega
    · simp
  have h5 : (if r.tag = 1 ∨ r.tag = 2 then listS wModel r.model else []).length ≤ 72006 := by
    split
    · omega
    · simp
  have h6 : (if r.tag = 3 ∨ r.tag = 2 then listS wCounter r.counter else []).length ≤ 72008 := by
    split
    · omega
    · simp
  unfold textS
  simp only [List.length_append] at h3 h4 h5 h6 ⊢
  simp only [List.length_cons, List.length_nil]
  omega
set_option maxRecDepth 100000 in
set_option maxHeartbeats 8000000 in
theorem lawBack_any {w : World} {r : ResP} {L : ResL} (h : ResAt w w.heap.size r L) (hT : TTab w) :
    Calls Tryz.prog 4 #[resT r L] w fun e w' => e = .returned (.bool true) ∧ Below w.heap.size w w' := by
  show Calls Tryz.prog 4 #[resW r.tag r.err r.at_ r.model.length r.counter.length L] w _
  have HLG := Lib.hid (fun W (hb : Below w.heap.size w W) => (show Calls Tryz.prog 7 #[resW r.tag r.err r.at_ r.model.length r.counter.length L] W _ from long_any (h.later hb hb.size)))
  have HRI := Lib.hid (fun W (hb : Below w.heap.size w W) => (show Calls Tryz.prog 9 #[resW r.tag r.err r.at_ r.model.length r.counter.length L] W _ from ris_any (h.later hb hb.size) (hT.below hb).t8))
  have HTX := Lib.hid (fun W (hb : Below w.heap.size w W) => (show Calls Tryz.prog 10 #[resW r.tag r.err r.at_ r.model.length r.counter.length L] W _ from ttext_any (h.later hb hb.size) (hT.below hb)))
  have HKN := Lib.hid (fun W (hb : Below w.heap.size w W) => tknown_any (hT.below hb))
  have HB0 := Lib.hid ((Below.refl w.heap.size w).alloc (Nat.le_refl _) (boxR r.tag r.err r.at_ r.model.length r.counter.length L))
  have HX0 := Lib.hid (lblkNew w 25 #[.int .i64 r.tag, .int .i64 r.err, .int .i64 r.at_, .slice L.Am r.model.length L.cm, .slice L.Ac r.counter.length L.cc])
  cases hV : isB r with
  | false =>
    rw [hV] at HRI
    clear h hT HTX HKN
    generalize r.model.length = lm at *
    generalize r.counter.length = lc at *
    generalize r.tag = t at *
    generalize r.err = er at *
    generalize r.at_ = ap at *
    go_enter Tryz.func4, Tryz.ntmps4
    go_wp2_with (first
          | (
            have hgd := HB1
            clear hgd
            go_at_call 9
            refine (HRI.out _ HB1.out).mono ?_
            rintro q w2 ⟨rfl, hb2⟩
            have HX2 := Lib.hid (HX1.out.later hb2)
            obtain ⟨z0, z1, z2, z3, z4⟩ := lblk5 HX2.out
            have HB2 := Lib.hid (HB1.out.trans (hb2.mono HB1.out.size))
            clear hb2)
          | (
            go_at_call 7
            refine (HLG.out _ HB0.out).mono ?_
            rintro q w1 ⟨b, rfl, hb1⟩
            have HX1 := Lib.hid (HX0.out.later hb1)
            obtain ⟨x0, x1, x2, x3, x4⟩ := lblk5 HX1.out
            have HB1 := Lib.hid (HB0.out.trans (hb1.mono HB0.out.size))
            clear hb1))
    · go_ret
      exact ⟨rfl, HB1.out⟩
    · go_ret
      exact ⟨rfl, HB2.out⟩
  | true =>
    rw [hV] at HRI
    have HSM := Lib.hid (fun W (Lq : ResL) (hb : Below w.heap.size w W) (hr : ResAt W W.heap.size r Lq) => (show Calls Tryz.prog 14 #[resW r.tag r.err r.at_ r.model.length r.counter.length Lq, resW r.tag r.err r.at_ r.model.length r.counter.length L] W (fun e w' => e = .returned (.bool true) ∧ Below W.heap.size W w') by
      have := rsame_any hr (h.later hb hb.size)
      rw [decide_eq_true rfl] at this
      exact this))
    have HRD := Lib.hid (fun W (hb : Below w.heap.size w W) => (show Calls Tryz.prog 13 #[.string ⟨(textP r).toArray⟩] W (fun e w' => ∃ Lq : ResL, e = .returned (.tuple #[resW r.tag r.err r.at_ r.model.length r.counter.length Lq, .bool true]) ∧ Below W.heap.size W w' ∧ ResAt w' w'.heap.size r Lq) by
      have hp : textP r = textS r := by unfold textP; rw [hV]; rfl
      have hl := textS_len hV
      have := tReadR_any (s := textP r) (by rw [hp]; omega) (hT.below hb)
      rw [hp, readOk_text hV] at this
      rw [hp]
      exact this))
    have HLA := Lib.hid (fun (W : World) (Lq : ResL) (hr : ResAt W W.heap.size r Lq) => (show ResAt (W.alloc (.cells (resC r.tag r.err r.at_ (.slice Lq.Am r.model.length Lq.cm) (.slice Lq.Ac r.counter.length Lq.cc)) 25)) _ r Lq from hr.later ((Below.refl _ _).alloc (Nat.le_refl _) _) (by simp)))
    clear h hT hV
    generalize textP r = TX at *
    generalize r.model.length = lm at *
    generalize r.counter.length = lc at *
    generalize r.tag = t at *
    generalize r.err = er at *
    generalize r.at_ = ap at *
    go_enter Tryz.func4, Tryz.ntmps4
    go_wp2_with (first
          | (
            have hgd := HB5
            clear hgd
            go_at_call 12
            refine (HKN.out _ HB5.out).mono ?_
            rintro q w6 ⟨rfl, hb6⟩
            have HB6 := Lib.hid (HB5.out.trans (hb6.mono HB5.out.size))
            clear hb6)
          | (
            have hgd := HB4
            clear hgd
            go_at_call 14
            refine HSM4.out.mono ?_
            rintro q w5 ⟨rfl, hb5⟩
            have HB5 := Lib.hid (HB4.out.trans (hb5.mono HB4.out.size))
            clear hb5)
          | (
            have hgd := HB3
            clear hgd
            go_at_call 13
            refine (HRD.out _ HB3.out).mono ?_
            rintro q w4 ⟨Lq, rfl, hb4, hr4⟩
            have HX4 := Lib.hid (lblkA (HX3.out.later hb4) (.cells (resC t er ap (.slice Lq.Am lm Lq.cm) (.slice Lq.Ac lc Lq.cc)) 25))
            obtain ⟨v0, v1, v2, v3, v4⟩ := lblk5 HX4.out
            have HB4 := Lib.hid ((HB3.out.trans (hb4.mono HB3.out.size)).alloc (Nat.le_trans HB3.out.size hb4.size) (.cells (resC t er ap (.slice Lq.Am lm Lq.cm) (.slice Lq.Ac lc Lq.cc)) 25))
            have HR4 := Lib.hid (HLA.out _ _ hr4)
            have HSM4 := Lib.hid (HSM.out _ Lq HB4.out HR4.out)
            clear hb4 hr4)
          | (
            have hgd := HB2
            clear hgd
            go_at_call 10
            refine (HTX.out _ HB2.out).mono ?_
            rintro q w3 ⟨rfl, hb3⟩
            have HX3 := Lib.hid (HX2.out.later hb3)
            have HB3 := Lib.hid (HB2.out.trans (hb3.mono HB2.out.size))
            clear hb3)
          | (
            have hgd := HB1
            clear hgd
            go_at_call 9
            refine (HRI.out _ HB1.out).mono ?_
            rintro q w2 ⟨rfl, hb2⟩
            have HX2 := Lib.hid (HX1.out.later hb2)
            obtain ⟨z0, z1, z2, z3, z4⟩ := lblk5 HX2.out
            have HB2 := Lib.hid (HB1.out.trans (hb2.mono HB1.out.size))
            clear hb2)
          | (
            go_at_call 7
            refine (HLG.out _ HB0.out).mono ?_
            rintro q w1 ⟨b, rfl, hb1⟩
            have HX1 := Lib.hid (HX0.out.later hb1)
            obtain ⟨x0, x1, x2, x3, x4⟩ := lblk5 HX1.out
            have HB1 := Lib.hid (HB0.out.trans (hb1.mono HB0.out.size))
            clear hb1))
    · go_ret
      exact ⟨rfl, HB1.out⟩
    · go_ret
      exact ⟨rfl, HB6.out⟩
end Go.Proofs.YteikakoheibnjaaGreatDoor
namespace Go.Proofs.YteikakoheibnjaaGreatDoor
open Go Go.RowKit

theorem readP_no {s : List UInt8} (h : (readP s).2 = false) : readP s = (zeroR, false) := by
  unfold readP at h ⊢
  by_cases hr : readOk s = true
  · rw [if_pos hr] at h
    cases h
  · rw [if_neg hr]
theorem res_alloc {W : World} {q : ResP} {Lq : ResL} (hr : ResAt W W.heap.size q Lq) (o : Obj) : ResAt (W.alloc o) (W.alloc o).heap.size q Lq := hr.later ((Below.refl _ _).alloc (Nat.le_refl _) _) (by simp)
set_option maxRecDepth 100000 in
set_option maxHeartbeats 8000000 in
theorem lawReads_any (s : List UInt8) {w : World} (hT : TTab w) : Calls Tryz.prog 5 #[.string ⟨s.toArray⟩] w fun e w' => e = .returned (.bool true) ∧ Below w.heap.size w w' := by
  by_cases h8 : 800 < s.length
  · have g1 : decide ((800 : Int) < (s.length : Int)) = true := decide_eq_true (by omega)
    have g1' : decide (800 < s.length) = true := decide_eq_true h8
    go_enter Tryz.func5, Tryz.ntmps5
    go_wp2_with fail
    go_ret
    exact ⟨rfl, Below.refl _ _⟩
  have g1 : decide ((800 : Int) < (s.length : Int)) = false := decide_eq_false (by omega)
  have g1' : decide (800 < s.length) = false := decide_eq_false h8
  have HKN := Lib.hid (fun W (hb : Below w.heap.size w W) => tknown_any (hT.below hb))
  have hrd := tReadR_any (s := s) (by omega) hT
  cases hok : (readP s).2 with
  | false =>
    rw [readP_no hok] at hrd
    have HRD := Lib.hid (show Calls Tryz.prog 13 #[.string ⟨s.toArray⟩] w (fun e w' => ∃ Lq : ResL, e = .returned (.tuple #[resW 0 0 0 0 0 Lq, .bool false]) ∧ Below w.heap.size w w' ∧ ResAt w' w'.heap.size zeroR Lq) from hrd)
    have HLA := Lib.hid (fun (W : World) (Lq : ResL) (hr : ResAt W W.heap.size zeroR Lq) => res_alloc hr (.cells (resC 0 0 0 (.slice Lq.Am 0 Lq.cm) (.slice Lq.Ac 0 Lq.cc)) 25))
    have HNX := Lib.hid (fun W (Lq : ResL) (_ : Below w.heap.size w W) (hr : ResAt W W.heap.size zeroR Lq) => (show Calls Tryz.prog 14 #[resW 0 0 0 0 0 Lq, .agg #[.int .i64 0, .int .i64 0, .int .i64 0, .slice none 0 0, .slice none 0 0]] W (fun e w' => e = .returned (.bool true) ∧ Below W.heap.size W w') by
      have := rsame_any (q := zeroR) (M := ⟨none, 0, none, 0⟩) hr (resAt_zero _ _)
      rw [decide_eq_true rfl] at this
      exact this))
    clear hrd hok hT h8
    go_enter Tryz.func5, Tryz.ntmps5
    go_wp2_with (first
          | (
            have hgd := HB5
            clear hgd
            go_at_call 12
            refine (HKN.out _ HB5.out).mono ?_
            rintro q w6 ⟨rfl, hb6⟩
            have HB6 := Lib.hid (HB5.out.trans (hb6.mono HB5.out.size))
            clear hb6)
          | (
            have hgd := HB2
            clear hgd
            go_at_call 14
            refine HA.out.mono ?_
            rintro q w5 ⟨rfl, hb5⟩
            have HB5 := Lib.hid (HB2.out.trans (hb5.mono HB2.out.size))
            clear hb5)
          | (
            go_at_call 13
            refine HRD.out.mono ?_
            rintro e w2 ⟨Lq, rfl, hb2, hr2⟩
            have HB2 := Lib.hid (hb2.alloc hb2.size (.cells (resC 0 0 0 (.slice Lq.Am 0 Lq.cm) (.slice Lq.Ac 0 Lq.cc)) 25))
            have HR2 := Lib.hid (HLA.out _ _ hr2)
            have HX2 := Lib.hid (lblkNew w2 25 (resC 0 0 0 (.slice Lq.Am 0 Lq.cm) (.slice Lq.Ac 0 Lq.cc)))
            obtain ⟨x0, x1, x2, x3, x4⟩ := lblk5 HX2.out
            have HA := Lib.hid (HNX.out _ _ HB2.out HR2.out)
            clear hb2 hr2))
    go_ret
    exact ⟨rfl, HB6.out⟩
  | true =>
    obtain ⟨hB, hS, _⟩ := readP_ok hok
    have hp : textP (readP s).1 = s := by unfold textP; rw [hB, if_pos rfl, hS]
    generalize hq : (readP s).1 = q at *
    rw [show readP s = (q, true) by rw [← hq, ← hok]] at hrd
    have HRD := Lib.hid (show Calls Tryz.prog 13 #[.string ⟨s.toArray⟩] w (fun e w' => ∃ Lq : ResL, e = .returned (.tuple #[resW q.tag q.err q.at_ q.model.length q.counter.length Lq, .bool true]) ∧ Below w.heap.size w w' ∧ ResAt w' w'.heap.size q Lq) from hrd)
    have HLA := Lib.hid (fun (W : World) (Lq : ResL) (hr : ResAt W W.heap.size q Lq) => res_alloc hr (.cells (resC q.tag q.err q.at_ (.slice Lq.Am q.model.length Lq.cm) (.slice Lq.Ac q.counter.length Lq.cc)) 25))
    have HNX := Lib.hid (fun W (Lq : ResL) (hb : Below w.heap.size w W) (hr : ResAt W W.heap.size q Lq) => And.intro (show Calls Tryz.prog 9 #[resW q.tag q.err q.at_ q.model.length q.counter.length Lq] W (fun e w' => e = .returned (.bool true) ∧ Below W.heap.size W w') by
      have := ris_any hr (hT.below hb).t8
      rw [hB] at this
      exact this) (fun W2 (hb2 : Below W.heap.size W W2) => show Calls Tryz.prog 11 #[resW q.tag q.err q.at_ q.model.length q.counter.length Lq] W2 (fun e w' => e = .returned (.string ⟨s.toArray⟩) ∧ Below W2.heap.size W2 w') by
      have := rtext_any (hr.later hb2 hb2.size) ((hT.below hb).below hb2).t8
      rw [hp] at this
      exact this))
    clear hrd hok hT h8 hB hS hp hq
    generalize q.model.length = lm at *
    generalize q.counter.length = lc at *
    generalize q.tag = t at *
    generalize q.err = er at *
    generalize q.at_ = ap at *
    have hse : (s == s) = true := by simp
    go_enter Tryz.func5, Tryz.ntmps5
    go_wp2_with (first
          | (
            have hgd := HB5
            clear hgd
            go_at_call 12
            refine (HKN.out _ HB5.out).mono ?_
            rintro q w6 ⟨rfl, hb6⟩
            have HB6 := Lib.hid (HB5.out.trans (hb6.mono HB5.out.size))
            clear hb6)
          | (
            have hgd := HB3
            clear hgd
            go_at_call 11
            refine HT3.out.mono ?_
            rintro q w5 ⟨rfl, hb5⟩
            have HB5 := Lib.hid (HB3.out.trans (hb5.mono HB3.out.size))
            clear hb5)
          | (
            have hgd := HB2
            clear hgd
            go_at_call 9
            refine HA.out.1.mono ?_
            rintro q w3 ⟨rfl, hb3⟩
            have HX3 := Lib.hid (HX2.out.later hb3)
            obtain ⟨y0, y1, y2, y3, y4⟩ := lblk5 HX3.out
            have HT3 := Lib.hid (HA.out.2 _ hb3)
            have HB3 := Lib.hid (HB2.out.trans (hb3.mono HB2.out.size))
            clear hb3)
          | (
            go_at_call 13
            refine HRD.out.mono ?_
            rintro e w2 ⟨Lq, rfl, hb2, hr2⟩
            have HB2 := Lib.hid (hb2.alloc hb2.size (.cells (resC t er ap (.slice Lq.Am lm Lq.cm) (.slice Lq.Ac lc Lq.cc)) 25))
            have HR2 := Lib.hid (HLA.out _ _ hr2)
            have HX2 := Lib.hid (lblkNew w2 25 (resC t er ap (.slice Lq.Am lm Lq.cm) (.slice Lq.Ac lc Lq.cc)))
            obtain ⟨x0, x1, x2, x3, x4⟩ := lblk5 HX2.out
            have HA := Lib.hid (HNX.out _ _ HB2.out HR2.out)
            clear hb2 hr2))
    go_ret
    exact ⟨rfl, HB6.out⟩
end Go.Proofs.YteikakoheibnjaaGreatDoor
