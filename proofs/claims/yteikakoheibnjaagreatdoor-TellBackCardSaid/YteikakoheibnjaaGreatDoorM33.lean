/- Parts of the proof: TTextA, RText. -/
import Derived.Test.YteikakoheibnjaaGreatDoorM29
import Derived.Test.YteikakoheibnjaaGreatDoorM30
namespace Go.Proofs.YteikakoheibnjaaGreatDoor
open Go Go.RowKit

set_option maxHeartbeats 4000000 in
theorem ttextN {w : World} {r : ResP} {L : ResL} (h : ResAt w w.heap.size r L) (hB : isB r = false) :
    Calls Tryz.prog 10 #[resT r L] w fun q w' => q = .returned (.string ⟨#[]⟩) ∧ Below w.heap.size w w' := by
  have HB1 := Lib.hid ((Below.refl _ _).alloc (Nat.le_refl _) (boxR r.tag r.err r.at_ r.model.length r.counter.length L) : Below w.heap.size w (w.alloc (boxR r.tag r.err r.at_ r.model.length r.counter.length L)))
  have HIS := Lib.hid (fun W (hb : Below w.heap.size w W) => (show Calls Tryz.prog 8 #[resW r.tag r.err r.at_ r.model.length r.counter.length L] W (fun q w' => q = .returned (.bool false) ∧ Below W.heap.size W w') by
    have := tis_any (h.later hb hb.size)
    rw [hB] at this
    exact this))
  clear h hB
  show Calls Tryz.prog 10 #[resW r.tag r.err r.at_ r.model.length r.counter.length L] w _
  generalize r.tag = t at *
  generalize r.err = er at *
  generalize r.at_ = ap at *
  generalize r.model.length = lm at *
  generalize r.counter.length = lc at *
  go_enter Tryz.func10, Tryz.ntmps10
  go_wp2_with (
    go_at_call 8
    refine (HIS.out _ HB1.out).mono ?_
    rintro q w2 ⟨rfl, hb2⟩
    have HB2 := Lib.hid (HB1.out.trans (hb2.mono (by simp)))
    clear hb2)
  go_ret
  exact ⟨rfl, HB2.out⟩
theorem isB_tag {r : ResP} (h : isB r = true) : r.tag = 1 ∨ r.tag = 2 ∨ r.tag = 3 ∨ r.tag = 4 ∨ r.tag = 5 := by
  unfold isB tagB at h
  simp only [Bool.and_eq_true, decide_eq_true_eq] at h
  omega
theorem ttext_any {w : World} {r : ResP} {L : ResL} (h : ResAt w w.heap.size r L) (hT : TTab w) :
    Calls Tryz.prog 10 #[resT r L] w fun q w' => q = .returned (.string ⟨(textP r).toArray⟩) ∧ Below w.heap.size w w' := by
  cases hB : isB r with
  | false =>
    have := ttextN h hB
    unfold textP
    rw [hB]
    exact this
  | true =>
    unfold textP
    rw [hB, if_pos rfl]
    have ht := isB_tag hB
    obtain ⟨t, e, a, M, C⟩ := r
    dsimp only at ht
    rcases ht with rfl | rfl | rfl | rfl | rfl
    · exact ttext1 h hT hB
    · exact ttext2 h hT hB
    · exact ttext3 h hT hB
    · exact ttext4 h hT hB
    · exact ttext5 h hT hB
end Go.Proofs.YteikakoheibnjaaGreatDoor
namespace Go.Proofs.YteikakoheibnjaaGreatDoor
open Go Go.RowKit

set_option maxHeartbeats 4000000 in
theorem rtextN {w : World} {r : ResP} {L : ResL} (h : ResAt w w.heap.size r L) (h8 : Tab8 w) (hB : isB r = false) :
    Calls Tryz.prog 11 #[resT r L] w fun q w' => q = .returned (.string ⟨#[]⟩) ∧ Below w.heap.size w w' := by
  have HB1 := Lib.hid ((Below.refl _ _).alloc (Nat.le_refl _) (boxR r.tag r.err r.at_ r.model.length r.counter.length L) : Below w.heap.size w (w.alloc (boxR r.tag r.err r.at_ r.model.length r.counter.length L)))
  have HIS := Lib.hid (fun W (hb : Below w.heap.size w W) => (show Calls Tryz.prog 9 #[resW r.tag r.err r.at_ r.model.length r.counter.length L] W (fun q w' => q = .returned (.bool false) ∧ Below W.heap.size W w') by
    have := ris_any (h.later hb hb.size) (Go.Proofs.Utf8Tabs_below h8 hb)
    rw [hB] at this
    exact this))
  clear h hB h8
  show Calls Tryz.prog 11 #[resW r.tag r.err r.at_ r.model.length r.counter.length L] w _
  generalize r.tag = t at *
  generalize r.err = er at *
  generalize r.at_ = ap at *
  generalize r.model.length = lm at *
  generalize r.counter.length = lc at *
  go_enter Tryz.func11, Tryz.ntmps11
  go_wp2_with (
    go_at_call 9
    refine (HIS.out _ HB1.out).mono ?_
    rintro q w2 ⟨rfl, hb2⟩
    have HB2 := Lib.hid (HB1.out.trans (hb2.mono (by simp)))
    clear hb2)
  go_ret
  exact ⟨rfl, HB2.out⟩
set_option maxRecDepth 100000 in
set_option maxHeartbeats 8000000 in
theorem rtext1 {w : World} {e a : Int} {M C : List ValP} {L : ResL} (h : ResAt w w.heap.size ⟨1, e, a, M, C⟩ L) (h8 : Tab8 w) (hB : isB ⟨1, e, a, M, C⟩ = true) :
    Calls Tryz.prog 11 #[resW 1 e a M.length C.length L] w fun q w' => q = .returned (.string ⟨(textS ⟨1, e, a, M, C⟩).toArray⟩) ∧ Below w.heap.size w w' := by
  have HIS := Lib.hid (fun W (hb : Below w.heap.size w W) => (show Calls Tryz.prog 9 #[resW 1 e a M.length C.length L] W (fun q w' => q = .returned (.bool true) ∧ Below W.heap.size W w') by
    have := ris_any (h.later hb hb.size) (Go.Proofs.Utf8Tabs_below h8 hb)
    rw [hB] at this
    exact this))
  obtain ⟨_, hvm, hvc, _, _, hea, hlm, hlc⟩ := isB_facts hB
  dsimp only at hvm hvc hea hlm hlc
  have HB1 := Lib.hid ((Below.refl _ _).alloc (Nat.le_refl _) (boxR 1 e a M.length C.length L) : Below w.heap.size w (w.alloc (boxR 1 e a M.length C.length L)))
  rw [if_neg (by decide)] at hea
  clear hea
  have HLM := Lib.hid (fun W (hb : Below w.heap.size w W) => rlist_any wModel (by decide) (h.model.later hb hb.size) hvm hlm)
  have hML := listS_len (t := wModel) hvm hlm
  have HTX := Lib.hid (show textS ⟨1, e, a, M, C⟩ = wValid ++ [] ++ [10] ++ listS wModel M ++ [] from rfl)
  clear h h8 hB hvm hvc
  generalize textS ⟨1, e, a, M, C⟩ = TX at *
  generalize M.length = lm at *
  generalize C.length = lc at *
  have hml : (wModel : List UInt8).length = 5 := rfl
  rw [hml] at hML
  clear hml
  generalize listS wModel M = X at *
  obtain ⟨T1, hadd1, hT1⟩ := add_ex ⟨#[118, 97, 108, 105, 100, 10]⟩ ⟨X.toArray⟩ (X := [118, 97, 108, 105, 100, 10]) (Y := X) rfl rfl (by simp only [List.length_cons, List.length_nil]; omega)
  have HF := Lib.hid (show T1 = ⟨TX.toArray⟩ by
    rw [HTX.out]
    refine bytes_of ?_
    rw [hT1]
    simp [wValid])
  clear HTX hT1
  go_enter Tryz.func11, Tryz.ntmps11
  go_wp2_with (first
    | (
      have hhb := HB2
      clear hhb
      go_at_call 22
      refine (HLM.out _ HB2.out).mono ?_
      rintro q w5 ⟨rfl, hb5⟩
      have HB5 := Lib.hid (HB2.out.trans (hb5.mono HB2.out.size))
      clear hb5)
    | (
        go_at_call 9
        refine (HIS.out _ HB1.out).mono ?_
        rintro q w2 ⟨rfl, hb2⟩
        have HB2 := Lib.hid (HB1.out.trans (hb2.mono (by simp)))
        have b0 : w2.cell? ⟨w.heap.size, 0, none⟩ = some (.int .i64 1) := vbox_at hb2 0 _ rfl
        have b1 : w2.cell? ⟨w.heap.size, 1, none⟩ = some (.int .i64 e) := vbox_at hb2 1 _ rfl
        have b2 : w2.cell? ⟨w.heap.size, 2, none⟩ = some (.int .i64 a) := vbox_at hb2 2 _ rfl
        have b3 : w2.cell? ⟨w.heap.size, 3, none⟩ = some (.slice L.Am lm L.cm) := vbox_at hb2 3 _ rfl
        have b4 : w2.cell? ⟨w.heap.size, 4, none⟩ = some (.slice L.Ac lc L.cc) := vbox_at hb2 4 _ rfl
        clear hb2))
  go_ret
  exact ⟨congrArg (fun x : ByteArray => Ending.returned (.string x)) HF.out, HB5.out⟩
set_option maxRecDepth 100000 in
set_option maxHeartbeats 8000000 in
theorem rtext2 {w : World} {e a : Int} {M C : List ValP} {L : ResL} (h : ResAt w w.heap.size ⟨2, e, a, M, C⟩ L) (h8 : Tab8 w) (hB : isB ⟨2, e, a, M, C⟩ = true) :
    Calls Tryz.prog 11 #[resW 2 e a M.length C.length L] w fun q w' => q = .returned (.string ⟨(textS ⟨2, e, a, M, C⟩).toArray⟩) ∧ Below w.heap.size w w' := by
  have HIS := Lib.hid (fun W (hb : Below w.heap.size w W) => (show Calls Tryz.prog 9 #[resW 2 e a M.length C.length L] W (fun q w' => q = .returned (.bool true) ∧ Below W.heap.size W w') by
    have := ris_any (h.later hb hb.size) (Go.Proofs.Utf8Tabs_below h8 hb)
    rw [hB] at this
    exact this))
  obtain ⟨_, hvm, hvc, _, _, hea, hlm, hlc⟩ := isB_facts hB
  dsimp only at hvm hvc hea hlm hlc
  have HB1 := Lib.hid ((Below.refl _ _).alloc (Nat.le_refl _) (boxR 2 e a M.length C.length L) : Below w.heap.size w (w.alloc (boxR 2 e a M.length C.length L)))
  rw [if_neg (by decide)] at hea
  clear hea
  have HLM := Lib.hid (fun W (hb : Below w.heap.size w W) => rlist_any wModel (by decide) (h.model.later hb hb.size) hvm hlm)
  have hML := listS_len (t := wModel) hvm hlm
  have HLC := Lib.hid (fun W (hb : Below w.heap.size w W) => rlist_any wCounter (by decide) (h.counter.later hb hb.size) hvc hlc)
  have hCL := listS_len (t := wCounter) hvc hlc
  have HTX := Lib.hid (show textS ⟨2, e, a, M, C⟩ = wContingent ++ [] ++ [10] ++ listS wModel M ++ listS wCounter C from rfl)
  clear h h8 hB hvm hvc
  generalize textS ⟨2, e, a, M, C⟩ = TX at *
  generalize M.length = lm at *
  generalize C.length = lc at *
  have hml : (wModel : List UInt8).length = 5 := rfl
  rw [hml] at hML
  clear hml
  generalize listS wModel M = X at *
  have hcl : (wCounter : List UInt8).length = 7 := rfl
  rw [hcl] at hCL
  clear hcl
  generalize listS wCounter C = Y at *
  obtain ⟨T1, hadd1, hT1⟩ := add_ex ⟨#[99, 111, 110, 116, 105, 110, 103, 101, 110, 116, 10]⟩ ⟨X.toArray⟩ (X := [99, 111, 110, 116, 105, 110, 103, 101, 110, 116, 10]) (Y := X) rfl rfl (by simp only [List.length_cons, List.length_nil]; omega)
  obtain ⟨T2, hadd2, hT2⟩ := add_ex T1 ⟨Y.toArray⟩ (X := ([99, 111, 110, 116, 105, 110, 103, 101, 110, 116, 10] ++ X)) (Y := Y) hT1 rfl (by simp only [List.length_append, List.length_cons, List.length_nil]; omega)
  have HF := Lib.hid (show T2 = ⟨TX.toArray⟩ by
    rw [HTX.out]
    refine bytes_of ?_
    rw [hT2]
    simp [wContingent])
  clear HTX hT1 hT2
  go_enter Tryz.func11, Tryz.ntmps11
  go_upto_region 7 with (
    go_at_call 9
    refine (HIS.out _ HB1.out).mono ?_
    rintro q w2 ⟨rfl, hb2⟩
    have HB2 := Lib.hid (HB1.out.trans (hb2.mono (by simp)))
    have b0 : w2.cell? ⟨w.heap.size, 0, none⟩ = some (.int .i64 2) := vbox_at hb2 0 _ rfl
    have b1 : w2.cell? ⟨w.heap.size, 1, none⟩ = some (.int .i64 e) := vbox_at hb2 1 _ rfl
    have b2 : w2.cell? ⟨w.heap.size, 2, none⟩ = some (.int .i64 a) := vbox_at hb2 2 _ rfl
    have b3 : w2.cell? ⟨w.heap.size, 3, none⟩ = some (.slice L.Am lm L.cm) := vbox_at hb2 3 _ rfl
    have b4 : w2.cell? ⟨w.heap.size, 4, none⟩ = some (.slice L.Ac lc L.cc) := vbox_at hb2 4 _ rfl
    clear hb2)
  have hw2 := World.block_lt_of_cell? _ _ b0
  have hs2 := HB2.out.size
  clear b0 b1 b2
  go_region_held3 (fun W : World => W.cell? ⟨w.heap.size, 3, none⟩ = some (.slice L.Am lm L.cm) ∧ W.cell? ⟨w.heap.size, 4, none⟩ = some (.slice L.Ac lc L.cc)) ((refine ⟨?_, ?_⟩) <;> repeat' (first | (with_reducible exact x3) | (with_reducible exact x4) | (with_reducible exact y3) | (with_reducible exact y4) | (with_reducible exact b3) | (with_reducible exact b4) | (with_reducible refine lkeepD ?_) | omega)) ((first
    | (
      have hhb := HB7
      go_at_call 22
      refine (HLC.out _ HB7.out).mono ?_
      rintro q w8 ⟨rfl, hb8⟩
      have hw7 := World.block_lt_of_cell? _ _ y3
      have HB8 := Lib.hid (HB7.out.trans (hb8.mono HB7.out.size))
      have x3 := (hb8.cell (p := ⟨w.heap.size, 3, none⟩) hw7).trans y3
      have x4 := (hb8.cell (p := ⟨w.heap.size, 4, none⟩) hw7).trans y4
      clear hb8)
    | (
      go_at_call 22
      refine (HLM.out _ HB2.out.drew).mono ?_
      rintro q w7 ⟨rfl, hb7⟩
      have HB7 := Lib.hid (HB2.out.drew.trans (hb7.mono hs2))
      have y3 := (hb7.cell (p := ⟨w.heap.size, 3, none⟩) hw2).trans (lkeepD b3)
      have y4 := (hb7.cell (p := ⟨w.heap.size, 4, none⟩) hw2).trans (lkeepD b4)
      clear hb7)))
  all_goals
    go_wp2_with fail
    go_ret
    exact ⟨congrArg (fun x : ByteArray => Ending.returned (.string x)) HF.out, HB8.out⟩
set_option maxRecDepth 100000 in
set_option maxHeartbeats 8000000 in
theorem rtext3 {w : World} {e a : Int} {M C : List ValP} {L : ResL} (h : ResAt w w.heap.size ⟨3, e, a, M, C⟩ L) (h8 : Tab8 w) (hB : isB ⟨3, e, a, M, C⟩ = true) :
    Calls Tryz.prog 11 #[resW 3 e a M.length C.length L] w fun q w' => q = .returned (.string ⟨(textS ⟨3, e, a, M, C⟩).toArray⟩) ∧ Below w.heap.size w w' := by
  have HIS := Lib.hid (fun W (hb : Below w.heap.size w W) => (show Calls Tryz.prog 9 #[resW 3 e a M.length C.length L] W (fun q w' => q = .returned (.bool true) ∧ Below W.heap.size W w') by
    have := ris_any (h.later hb hb.size) (Go.Proofs.Utf8Tabs_below h8 hb)
    rw [hB] at this
    exact this))
  obtain ⟨_, hvm, hvc, _, _, hea, hlm, hlc⟩ := isB_facts hB
  dsimp only at hvm hvc hea hlm hlc
  have HB1 := Lib.hid ((Below.refl _ _).alloc (Nat.le_refl _) (boxR 3 e a M.length C.length L) : Below w.heap.size w (w.alloc (boxR 3 e a M.length C.length L)))
  rw [if_neg (by decide)] at hea
  clear hea
  have HLC := Lib.hid (fun W (hb : Below w.heap.size w W) => rlist_any wCounter (by decide) (h.counter.later hb hb.size) hvc hlc)
  have hCL := listS_len (t := wCounter) hvc hlc
  have HTX := Lib.hid (show textS ⟨3, e, a, M, C⟩ = wUnsat ++ [] ++ [10] ++ [] ++ listS wCounter C from rfl)
  clear h h8 hB hvm hvc
  generalize textS ⟨3, e, a, M, C⟩ = TX at *
  generalize M.length = lm at *
  generalize C.length = lc at *
  have hcl : (wCounter : List UInt8).length = 7 := rfl
  rw [hcl] at hCL
  clear hcl
  generalize listS wCounter C = Y at *
  obtain ⟨T1, hadd1, hT1⟩ := add_ex ⟨#[117, 110, 115, 97, 116, 10]⟩ ⟨Y.toArray⟩ (X := [117, 110, 115, 97, 116, 10]) (Y := Y) rfl rfl (by simp only [List.length_cons, List.length_nil]; omega)
  have HF := Lib.hid (show T1 = ⟨TX.toArray⟩ by
    rw [HTX.out]
    refine bytes_of ?_
    rw [hT1]
    simp [wUnsat])
  clear HTX hT1
  go_enter Tryz.func11, Tryz.ntmps11
  go_wp2_with (first
    | (
      have hhb := HB2
      clear hhb
      go_at_call 22
      refine (HLC.out _ HB2.out).mono ?_
      rintro q w5 ⟨rfl, hb5⟩
      have HB5 := Lib.hid (HB2.out.trans (hb5.mono HB2.out.size))
      clear hb5)
    | (
        go_at_call 9
        refine (HIS.out _ HB1.out).mono ?_
        rintro q w2 ⟨rfl, hb2⟩
        have HB2 := Lib.hid (HB1.out.trans (hb2.mono (by simp)))
        have b0 : w2.cell? ⟨w.heap.size, 0, none⟩ = some (.int .i64 3) := vbox_at hb2 0 _ rfl
        have b1 : w2.cell? ⟨w.heap.size, 1, none⟩ = some (.int .i64 e) := vbox_at hb2 1 _ rfl
        have b2 : w2.cell? ⟨w.heap.size, 2, none⟩ = some (.int .i64 a) := vbox_at hb2 2 _ rfl
        have b3 : w2.cell? ⟨w.heap.size, 3, none⟩ = some (.slice L.Am lm L.cm) := vbox_at hb2 3 _ rfl
        have b4 : w2.cell? ⟨w.heap.size, 4, none⟩ = some (.slice L.Ac lc L.cc) := vbox_at hb2 4 _ rfl
        clear hb2))
  go_ret
  exact ⟨congrArg (fun x : ByteArray => Ending.returned (.string x)) HF.out, HB5.out⟩
set_option maxRecDepth 100000 in
set_option maxHeartbeats 8000000 in
theorem rtext4 {w : World} {e a : Int} {M C : List ValP} {L : ResL} (h : ResAt w w.heap.size ⟨4, e, a, M, C⟩ L) (h8 : Tab8 w) (hB : isB ⟨4, e, a, M, C⟩ = true) :
    Calls Tryz.prog 11 #[resW 4 e a M.length C.length L] w fun q w' => q = .returned (.string ⟨(textS ⟨4, e, a, M, C⟩).toArray⟩) ∧ Below w.heap.size w w' := by
  have HIS := Lib.hid (fun W (hb : Below w.heap.size w W) => (show Calls Tryz.prog 9 #[resW 4 e a M.length C.length L] W (fun q w' => q = .returned (.bool true) ∧ Below W.heap.size W w') by
    have := ris_any (h.later hb hb.size) (Go.Proofs.Utf8Tabs_below h8 hb)
    rw [hB] at this
    exact this))
  obtain ⟨_, hvm, hvc, _, _, hea, hlm, hlc⟩ := isB_facts hB
  dsimp only at hvm hvc hea hlm hlc
  have HB1 := Lib.hid ((Below.refl _ _).alloc (Nat.le_refl _) (boxR 4 e a M.length C.length L) : Below w.heap.size w (w.alloc (boxR 4 e a M.length C.length L)))
  rw [if_pos rfl] at hea
  obtain ⟨⟨he1, he2⟩, ha1, ha2⟩ := hea
  have HTX := Lib.hid (show textS ⟨4, e, a, M, C⟩ = wRefused ++ ([32] ++ num e ++ [32] ++ num a) ++ [10] ++ [] ++ [] from rfl)
  clear h h8 hB hvm hvc
  generalize textS ⟨4, e, a, M, C⟩ = TX at *
  generalize M.length = lm at *
  generalize C.length = lc at *
  have hel := num_len (n := e) (by omega) (by omega)
  have hal := num_len (n := a) (by omega) (by omega)
  have HE := Lib.hid (fun W => tdigits_any (n := e) (by omega) (by omega) W)
  have HA := Lib.hid (fun W => tdigits_any (n := a) (by omega) (by omega) W)
  generalize num e = E at *
  generalize num a = AA at *
  obtain ⟨T1, hadd1, hT1⟩ := add_ex ⟨#[114, 101, 102, 117, 115, 101, 100, 32]⟩ ⟨E.toArray⟩ (X := [114, 101, 102, 117, 115, 101, 100, 32]) (Y := E) rfl rfl (by simp only [List.length_cons, List.length_nil]; omega)
  obtain ⟨T2, hadd2, hT2⟩ := add_ex T1 ⟨#[32]⟩ (X := ([114, 101, 102, 117, 115, 101, 100, 32] ++ E)) (Y := [32]) hT1 rfl (by simp only [List.length_append, List.length_cons, List.length_nil]; omega)
  obtain ⟨T3, hadd3, hT3⟩ := add_ex T2 ⟨AA.toArray⟩ (X := (([114, 101, 102, 117, 115, 101, 100, 32] ++ E) ++ [32])) (Y := AA) hT2 rfl (by simp only [List.length_append, List.length_cons, List.length_nil]; omega)
  obtain ⟨T4, hadd4, hT4⟩ := add_ex T3 ⟨#[10]⟩ (X := ((([114, 101, 102, 117, 115, 101, 100, 32] ++ E) ++ [32]) ++ AA)) (Y := [10]) hT3 rfl (by simp only [List.length_append, List.length_cons, List.length_nil]; omega)
  have HF := Lib.hid (show T4 = ⟨TX.toArray⟩ by
    rw [HTX.out]
    refine bytes_of ?_
    rw [hT4]
    simp [wRefused])
  clear HTX hT1 hT2 hT3 hT4
  go_enter Tryz.func11, Tryz.ntmps11
  go_upto_region 12 with (
    go_at_call 9
    refine (HIS.out _ HB1.out).mono ?_
    rintro q w2 ⟨rfl, hb2⟩
    have HB2 := Lib.hid (HB1.out.trans (hb2.mono (by simp)))
    have b0 : w2.cell? ⟨w.heap.size, 0, none⟩ = some (.int .i64 4) := vbox_at hb2 0 _ rfl
    have b1 : w2.cell? ⟨w.heap.size, 1, none⟩ = some (.int .i64 e) := vbox_at hb2 1 _ rfl
    have b2 : w2.cell? ⟨w.heap.size, 2, none⟩ = some (.int .i64 a) := vbox_at hb2 2 _ rfl
    have b3 : w2.cell? ⟨w.heap.size, 3, none⟩ = some (.slice L.Am lm L.cm) := vbox_at hb2 3 _ rfl
    have b4 : w2.cell? ⟨w.heap.size, 4, none⟩ = some (.slice L.Ac lc L.cc) := vbox_at hb2 4 _ rfl
    clear hb2)
  have hw2 := World.block_lt_of_cell? _ _ b0
  have hs2 := HB2.out.size
  clear b0 b3 b4
  go_region_held3 (fun W : World => W.cell? ⟨w.heap.size, 1, none⟩ = some (.int .i64 e) ∧ W.cell? ⟨w.heap.size, 2, none⟩ = some (.int .i64 a)) ((refine ⟨?_, ?_⟩) <;> repeat' (first | (with_reducible exact x1) | (with_reducible exact x2) | (with_reducible exact y1) | (with_reducible exact y2) | (with_reducible exact b1) | (with_reducible exact b2) | (with_reducible refine lkeepD ?_) | omega)) ((first
    | (
      have hhb := HB7
      go_at_call 23
      refine (HA.out _).mono ?_
      rintro q w8 ⟨rfl, hb8⟩
      have hw7 := World.block_lt_of_cell? _ _ y1
      have HB8 := Lib.hid (HB7.out.trans (hb8.mono HB7.out.size))
      have x1 := (hb8.cell (p := ⟨w.heap.size, 1, none⟩) hw7).trans y1
      have x2 := (hb8.cell (p := ⟨w.heap.size, 2, none⟩) hw7).trans y2
      clear hb8)
    | (
      go_at_call 23
      refine (HE.out _).mono ?_
      rintro q w7 ⟨rfl, hb7⟩
      have HB7 := Lib.hid (HB2.out.drew.trans (hb7.mono hs2))
      have y1 := (hb7.cell (p := ⟨w.heap.size, 1, none⟩) hw2).trans (lkeepD b1)
      have y2 := (hb7.cell (p := ⟨w.heap.size, 2, none⟩) hw2).trans (lkeepD b2)
      clear hb7)))
  all_goals
    go_wp2_with fail
    go_ret
    exact ⟨congrArg (fun x : ByteArray => Ending.returned (.string x)) HF.out, HB8.out⟩
set_option maxRecDepth 100000 in
set_option maxHeartbeats 8000000 in
theorem rtext5 {w : World} {e a : Int} {M C : List ValP} {L : ResL} (h : ResAt w w.heap.size ⟨5, e, a, M, C⟩ L) (h8 : Tab8 w) (hB : isB ⟨5, e, a, M, C⟩ = true) :
    Calls Tryz.prog 11 #[resW 5 e a M.length C.length L] w fun q w' => q = .returned (.string ⟨(textS ⟨5, e, a, M, C⟩).toArray⟩) ∧ Below w.heap.size w w' := by
  have HIS := Lib.hid (fun W (hb : Below w.heap.size w W) => (show Calls Tryz.prog 9 #[resW 5 e a M.length C.length L] W (fun q w' => q = .returned (.bool true) ∧ Below W.heap.size W w') by
    have := ris_any (h.later hb hb.size) (Go.Proofs.Utf8Tabs_below h8 hb)
    rw [hB] at this
    exact this))
  obtain ⟨_, hvm, hvc, _, _, hea, hlm, hlc⟩ := isB_facts hB
  dsimp only at hvm hvc hea hlm hlc
  have HB1 := Lib.hid ((Below.refl _ _).alloc (Nat.le_refl _) (boxR 5 e a M.length C.length L) : Below w.heap.size w (w.alloc (boxR 5 e a M.length C.length L)))
  rw [if_neg (by decide)] at hea
  clear hea
  have HTX := Lib.hid (show textS ⟨5, e, a, M, C⟩ = wLimit ++ [] ++ [10] ++ [] ++ [] from rfl)
  clear h h8 hB hvm hvc
  generalize textS ⟨5, e, a, M, C⟩ = TX at *
  generalize M.length = lm at *
  generalize C.length = lc at *
  have HF := Lib.hid (show (⟨#[108, 105, 109, 105, 116, 10]⟩ : ByteArray) = ⟨TX.toArray⟩ by
    rw [HTX.out]
    refine bytes_of ?_
    skip
    rfl)
  clear HTX 
  go_enter Tryz.func11, Tryz.ntmps11
  go_wp2_with (
    go_at_call 9
    refine (HIS.out _ HB1.out).mono ?_
    rintro q w2 ⟨rfl, hb2⟩
    have HB2 := Lib.hid (HB1.out.trans (hb2.mono (by simp)))
    have b0 : w2.cell? ⟨w.heap.size, 0, none⟩ = some (.int .i64 5) := vbox_at hb2 0 _ rfl
    have b1 : w2.cell? ⟨w.heap.size, 1, none⟩ = some (.int .i64 e) := vbox_at hb2 1 _ rfl
    have b2 : w2.cell? ⟨w.heap.size, 2, none⟩ = some (.int .i64 a) := vbox_at hb2 2 _ rfl
    have b3 : w2.cell? ⟨w.heap.size, 3, none⟩ = some (.slice L.Am lm L.cm) := vbox_at hb2 3 _ rfl
    have b4 : w2.cell? ⟨w.heap.size, 4, none⟩ = some (.slice L.Ac lc L.cc) := vbox_at hb2 4 _ rfl
    clear hb2)
  go_ret
  exact ⟨congrArg (fun x : ByteArray => Ending.returned (.string x)) HF.out, HB2.out⟩
theorem rtext_any {w : World} {r : ResP} {L : ResL} (h : ResAt w w.heap.size r L) (h8 : Tab8 w) :
    Calls Tryz.prog 11 #[resT r L] w fun q w' => q = .returned (.string ⟨(textP r).toArray⟩) ∧ Below w.heap.size w w' := by
  cases hB : isB r with
  | false =>
    have := rtextN h h8 hB
    unfold textP
    rw [hB]
    exact this
  | true =>
    unfold textP
    rw [hB, if_pos rfl]
    have ht := isB_tag hB
    obtain ⟨t, e, a, M, C⟩ := r
    dsimp only at ht
    rcases ht with rfl | rfl | rfl | rfl | rfl
    · exact rtext1 h h8 hB
    · exact rtext2 h h8 hB
    · exact rtext3 h h8 hB
    · exact rtext4 h h8 hB
    · exact rtext5 h h8 hB
end Go.Proofs.YteikakoheibnjaaGreatDoor
