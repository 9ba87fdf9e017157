/- Parts of the proof: TText. -/
import Derived.Test.YteikakoheibnjaaGreatDoorM29
namespace Go.Proofs.YteikakoheibnjaaGreatDoor
open Go Go.RowKit

theorem ttags_any (w : World) : Calls Tryz.prog 19 #[] w fun e w' => e = .returned (.slice (some ⟨w.heap.size, 0, none⟩) 6 6) ∧ w' = w.alloc (.cells (strVs tagsL).toArray 9) := by
  go_enter Tryz.func19, Tryz.ntmps19
  go_wp2_with fail
  go_ret
  exact ⟨rfl, rfl⟩
theorem ttags_at {t : Nat} {s : List UInt8} (ht : tagsL[t]? = some s) (w : World) : Calls Tryz.prog 19 #[] w fun e w' => ∃ g, e = .returned (.slice (some ⟨g, 0, none⟩) 6 6) ∧ Below w.heap.size w w' ∧ w'.cell? ⟨g, t, none⟩ = some (.string ⟨s.toArray⟩) := by
  refine (ttags_any w).mono ?_
  rintro e w' ⟨rfl, rfl⟩
  refine ⟨w.heap.size, rfl, (Below.refl _ _).alloc (Nat.le_refl _) _, ?_⟩
  rw [(lblkNew w _ _).cell t]
  unfold strVs
  simp [ht]
set_option maxRecDepth 100000 in
set_option maxHeartbeats 8000000 in
theorem ttext1 {w : World} {e a : Int} {M C : List ValP} {L : ResL} (h : ResAt w w.heap.size ⟨1, e, a, M, C⟩ L) (hT : TTab w) (hB : isB ⟨1, e, a, M, C⟩ = true) :
    Calls Tryz.prog 10 #[resW 1 e a M.length C.length L] w fun q w' => q = .returned (.string ⟨(textS ⟨1, e, a, M, C⟩).toArray⟩) ∧ Below w.heap.size w w' := by
  have HIS := Lib.hid (fun W (hb : Below w.heap.size w W) => (show Calls Tryz.prog 8 #[resW 1 e a M.length C.length L] W (fun q w' => q = .returned (.bool true) ∧ Below W.heap.size W w') by
    have := tis_any (h.later hb hb.size)
    rw [hB] at this
    exact this))
  obtain ⟨_, hvm, hvc, _, _, hea, hlm, hlc⟩ := isB_facts hB
  dsimp only at hvm hvc hea hlm hlc
  have HB1 := Lib.hid ((Below.refl _ _).alloc (Nat.le_refl _) (boxR 1 e a M.length C.length L) : Below w.heap.size w (w.alloc (boxR 1 e a M.length C.length L)))
  have HTT := Lib.hid (fun W (hb : Below w.heap.size w W) => hT.below hb)
  have HTG := Lib.hid (fun W => ttags_at (t := 1) (s := wValid) rfl W)
  have HHM := Lib.hid (fun W => (show Calls Tryz.prog 16 #[.int .i64 1] W (fun q w' => q = .returned (.bool true) ∧ W = w') from hasModel_any 1 W))
  have HHC := Lib.hid (fun W => (show Calls Tryz.prog 17 #[.int .i64 1] W (fun q w' => q = .returned (.bool false) ∧ W = w') from hasCounter_any 1 W))
  rw [if_neg (by decide)] at hea
  clear hea
  have HLM := Lib.hid (fun W (hb : Below w.heap.size w W) => tlist_any wModel (by decide) (h.model.later hb hb.size) hvm hlm (hT.below hb))
  have hML := listS_len (t := wModel) hvm hlm
  have HTX := Lib.hid (show textS ⟨1, e, a, M, C⟩ = wValid ++ [] ++ [10] ++ listS wModel M ++ [] from rfl)
  clear h hT hB hvm hvc
  generalize textS ⟨1, e, a, M, C⟩ = TX at *
  generalize M.length = lm at *
  generalize C.length = lc at *
  have hml : (wModel : List UInt8).length = 5 := rfl
  rw [hml] at hML
  clear hml
  generalize listS wModel M = X at *
  obtain ⟨T1, hadd1, hT1⟩ := add_ex ⟨wValid.toArray⟩ ⟨#[10]⟩ (X := wValid) (Y := [10]) rfl rfl (by simp only [List.length_cons, List.length_nil, wValid]; omega)
  obtain ⟨T2, hadd2, hT2⟩ := add_ex T1 ⟨X.toArray⟩ (X := (wValid ++ [10])) (Y := X) hT1 rfl (by simp only [List.length_append, List.length_cons, List.length_nil, wValid]; omega)
  have HF := Lib.hid (show T2 = ⟨TX.toArray⟩ by
    rw [HTX.out]
    refine bytes_of ?_
    rw [hT2]
    simp)
  clear HTX hT1 hT2 
  go_enter Tryz.func10, Tryz.ntmps10
  go_upto_region 3 with (
    go_at_call 8
    refine (HIS.out _ HB1.out).mono ?_
    rintro q w2 ⟨rfl, hb2⟩
    have HB2 := Lib.hid (HB1.out.trans (hb2.mono (by simp)))
    have b0 : w2.cell? ⟨w.heap.size, 0, none⟩ = some (.int .i64 1) := vbox_at hb2 0 _ rfl
    have b1 : w2.cell? ⟨w.heap.size, 1, none⟩ = some (.int .i64 e) := vbox_at hb2 1 _ rfl
    have b2 : w2.cell? ⟨w.heap.size, 2, none⟩ = some (.int .i64 a) := vbox_at hb2 2 _ rfl
    have b3 : w2.cell? ⟨w.heap.size, 3, none⟩ = some (.slice L.Am lm L.cm) := vbox_at hb2 3 _ rfl
    have b4 : w2.cell? ⟨w.heap.size, 4, none⟩ = some (.slice L.Ac lc L.cc) := vbox_at hb2 4 _ rfl
    clear hb2)
  have hw2 := World.block_lt_of_cell? _ _ b0
  have hs2 := HB2.out.size
  go_region_with ((
    go_at_call 19
    refine (HTG.out _).mono ?_
    rintro q w3 ⟨g, rfl, hb3, hg3⟩
    have HB3 := Lib.hid (HB2.out.drew.trans (hb3.mono hs2))
    have z0 : w3.cell? ⟨w.heap.size, 0, none⟩ = some (.int .i64 1) := (hb3.cell (p := ⟨w.heap.size, 0, none⟩) hw2).trans b0
    have z1 : w3.cell? ⟨w.heap.size, 1, none⟩ = some (.int .i64 e) := (hb3.cell (p := ⟨w.heap.size, 1, none⟩) hw2).trans b1
    have z2 : w3.cell? ⟨w.heap.size, 2, none⟩ = some (.int .i64 a) := (hb3.cell (p := ⟨w.heap.size, 2, none⟩) hw2).trans b2
    have z3 : w3.cell? ⟨w.heap.size, 3, none⟩ = some (.slice L.Am lm L.cm) := (hb3.cell (p := ⟨w.heap.size, 3, none⟩) hw2).trans b3
    have z4 : w3.cell? ⟨w.heap.size, 4, none⟩ = some (.slice L.Ac lc L.cc) := (hb3.cell (p := ⟨w.heap.size, 4, none⟩) hw2).trans b4
    clear hb3))

  all_goals
    clear b0 b1 b2 b3 b4
    go_wp2_with (first
      | (
        go_at_call 21
        refine (HLM.out _ HB3.out).mono ?_
        rintro q w5 ⟨rfl, hb5⟩
        have HB5 := Lib.hid (HB3.out.trans (hb5.mono HB3.out.size))
        have hw3 := World.block_lt_of_cell? _ _ z0
        have y0 := (hb5.cell (p := ⟨w.heap.size, 0, none⟩) hw3).trans z0
        have y3 := (hb5.cell (p := ⟨w.heap.size, 3, none⟩) hw3).trans z3
        have y4 := (hb5.cell (p := ⟨w.heap.size, 4, none⟩) hw3).trans z4
        clear hb5 z0 z1 z2 z3 z4)
      | (
        go_at_call 16
        refine (HHM.out _).mono ?_
        rintro q w4 ⟨rfl, rfl⟩)
      | (
        go_at_call 17
        refine (HHC.out _).mono ?_
        rintro q w4 ⟨rfl, rfl⟩))
    go_ret
    exact ⟨congrArg (fun x : ByteArray => Ending.returned (.string x)) HF.out, HB5.out⟩
set_option maxRecDepth 100000 in
set_option maxHeartbeats 8000000 in
theorem ttext2 {w : World} {e a : Int} {M C : List ValP} {L : ResL} (h : ResAt w w.heap.size ⟨2, e, a, M, C⟩ L) (hT : TTab w) (hB : isB ⟨2, e, a, M, C⟩ = true) :
    Calls Tryz.prog 10 #[resW 2 e a M.length C.length L] w fun q w' => q = .returned (.string ⟨(textS ⟨2, e, a, M, C⟩).toArray⟩) ∧ Below w.heap.size w w' := by
  have HIS := Lib.hid (fun W (hb : Below w.heap.size w W) => (show Calls Tryz.prog 8 #[resW 2 e a M.length C.length L] W (fun q w' => q = .returned (.bool true) ∧ Below W.heap.size W w') by
    have := tis_any (h.later hb hb.size)
    rw [hB] at this
    exact this))
  obtain ⟨_, hvm, hvc, _, _, hea, hlm, hlc⟩ := isB_facts hB
  dsimp only at hvm hvc hea hlm hlc
  have HB1 := Lib.hid ((Below.refl _ _).alloc (Nat.le_refl _) (boxR 2 e a M.length C.length L) : Below w.heap.size w (w.alloc (boxR 2 e a M.length C.length L)))
  have HTT := Lib.hid (fun W (hb : Below w.heap.size w W) => hT.below hb)
  have HTG := Lib.hid (fun W => ttags_at (t := 2) (s := wContingent) rfl W)
  have HHM := Lib.hid (fun W => (show Calls Tryz.prog 16 #[.int .i64 2] W (fun q w' => q = .returned (.bool true) ∧ W = w') from hasModel_any 2 W))
  have HHC := Lib.hid (fun W => (show Calls Tryz.prog 17 #[.int .i64 2] W (fun q w' => q = .returned (.bool true) ∧ W = w') from hasCounter_any 2 W))
  rw [if_neg (by decide)] at hea
  clear hea
  have HLM := Lib.hid (fun W (hb : Below w.heap.size w W) => tlist_any wModel (by decide) (h.model.later hb hb.size) hvm hlm (hT.below hb))
  have hML := listS_len (t := wModel) hvm hlm
  have HLC := Lib.hid (fun W (hb : Below w.heap.size w W) => tlist_any wCounter (by decide) (h.counter.later hb hb.size) hvc hlc (hT.below hb))
  have hCL := listS_len (t := wCounter) hvc hlc
  have HTX := Lib.hid (show textS ⟨2, e, a, M, C⟩ = wContingent ++ [] ++ [10] ++ listS wModel M ++ listS wCounter C from rfl)
  clear h hT hB hvm hvc
  generalize textS ⟨2, e, a, M, C⟩ = TX at *
  generalize M.length = lm at *
  generalize C.length = lc at *
  have hml : (wModel : List UInt8).length = 5 := rfl
  rw [hml] at hML
  clear hml
  generalize listS wModel M = X at *
  have hcl : (wCounter : List UInt8).length = 7 := rfl
  rw [hcl] at hCL
  clear hcl
  generalize listS wCounter C = Y at *
  obtain ⟨T1, hadd1, hT1⟩ := add_ex ⟨wContingent.toArray⟩ ⟨#[10]⟩ (X := wContingent) (Y := [10]) rfl rfl (by simp only [List.length_cons, List.length_nil, wContingent]; omega)
  obtain ⟨T2, hadd2, hT2⟩ := add_ex T1 ⟨X.toArray⟩ (X := (wContingent ++ [10])) (Y := X) hT1 rfl (by simp only [List.length_append, List.length_cons, List.length_nil, wContingent]; omega)
  obtain ⟨T3, hadd3, hT3⟩ := add_ex T2 ⟨Y.toArray⟩ (X := ((wContingent ++ [10]) ++ X)) (Y := Y) hT2 rfl (by simp only [List.length_append, List.length_cons, List.length_nil, wContingent]; omega)
  have HF := Lib.hid (show T3 = ⟨TX.toArray⟩ by
    rw [HTX.out]
    refine bytes_of ?_
    rw [hT3]
    simp)
  clear HTX hT1 hT2 hT3 
  go_enter Tryz.func10, Tryz.ntmps10
  go_upto_region 3 with (
    go_at_call 8
    refine (HIS.out _ HB1.out).mono ?_
    rintro q w2 ⟨rfl, hb2⟩
    have HB2 := Lib.hid (HB1.out.trans (hb2.mono (by simp)))
    have b0 : w2.cell? ⟨w.heap.size, 0, none⟩ = some (.int .i64 2) := vbox_at hb2 0 _ rfl
    have b1 : w2.cell? ⟨w.heap.size, 1, none⟩ = some (.int .i64 e) := vbox_at hb2 1 _ rfl
    have b2 : w2.cell? ⟨w.heap.size, 2, none⟩ = some (.int .i64 a) := vbox_at hb2 2 _ rfl
    have b3 : w2.cell? ⟨w.heap.size, 3, none⟩ = some (.slice L.Am lm L.cm) := vbox_at hb2 3 _ rfl
    have b4 : w2.cell? ⟨w.heap.size, 4, none⟩ = some (.slice L.Ac lc L.cc) := vbox_at hb2 4 _ rfl
    clear hb2)
  have hw2 := World.block_lt_of_cell? _ _ b0
  have hs2 := HB2.out.size
  go_region_with ((
    go_at_call 19
    refine (HTG.out _).mono ?_
    rintro q w3 ⟨g, rfl, hb3, hg3⟩
    have HB3 := Lib.hid (HB2.out.drew.trans (hb3.mono hs2))
    have z0 : w3.cell? ⟨w.heap.size, 0, none⟩ = some (.int .i64 2) := (hb3.cell (p := ⟨w.heap.size, 0, none⟩) hw2).trans b0
    have z1 : w3.cell? ⟨w.heap.size, 1, none⟩ = some (.int .i64 e) := (hb3.cell (p := ⟨w.heap.size, 1, none⟩) hw2).trans b1
    have z2 : w3.cell? ⟨w.heap.size, 2, none⟩ = some (.int .i64 a) := (hb3.cell (p := ⟨w.heap.size, 2, none⟩) hw2).trans b2
    have z3 : w3.cell? ⟨w.heap.size, 3, none⟩ = some (.slice L.Am lm L.cm) := (hb3.cell (p := ⟨w.heap.size, 3, none⟩) hw2).trans b3
    have z4 : w3.cell? ⟨w.heap.size, 4, none⟩ = some (.slice L.Ac lc L.cc) := (hb3.cell (p := ⟨w.heap.size, 4, none⟩) hw2).trans b4
    clear hb3))

  all_goals
    clear b0 b1 b2 b3 b4
    go_wp2_with (first
      | (
        have hhb := HB5
        go_at_call 21
        refine (HLC.out _ HB5.out).mono ?_
        rintro q w6 ⟨rfl, hb6⟩
        have HB6 := Lib.hid (HB5.out.trans (hb6.mono HB5.out.size))
        clear hb6)
      | (
        go_at_call 21
        refine (HLM.out _ HB3.out).mono ?_
        rintro q w5 ⟨rfl, hb5⟩
        have HB5 := Lib.hid (HB3.out.trans (hb5.mono HB3.out.size))
        have hw3 := World.block_lt_of_cell? _ _ z0
        have y0 := (hb5.cell (p := ⟨w.heap.size, 0, none⟩) hw3).trans z0
        have y3 := (hb5.cell (p := ⟨w.heap.size, 3, none⟩) hw3).trans z3
        have y4 := (hb5.cell (p := ⟨w.heap.size, 4, none⟩) hw3).trans z4
        clear hb5 z0 z1 z2 z3 z4)
      | (
        go_at_call 16
        refine (HHM.out _).mono ?_
        rintro q w4 ⟨rfl, rfl⟩)
      | (
        go_at_call 17
        refine (HHC.out _).mono ?_
        rintro q w4 ⟨rfl, rfl⟩))
    go_ret
    exact ⟨congrArg (fun x : ByteArray => Ending.returned (.string x)) HF.out, HB6.out⟩
set_option maxRecDepth 100000 in
set_option maxHeartbeats 8000000 in
theorem ttext3 {w : World} {e a : Int} {M C : List ValP} {L : ResL} (h : ResAt w w.heap.size ⟨3, e, a, M, C⟩ L) (hT : TTab w) (hB : isB ⟨3, e, a, M, C⟩ = true) :
    Calls Tryz.prog 10 #[resW 3 e a M.length C.length L] w fun q w' => q = .returned (.string ⟨(textS ⟨3, e, a, M, C⟩).toArray⟩) ∧ Below w.heap.size w w' := by
  have HIS := Lib.hid (fun W (hb : Below w.heap.size w W) => (show Calls Tryz.prog 8 #[resW 3 e a M.length C.length L] W (fun q w' => q = .returned (.bool true) ∧ Below W.heap.size W w') by
    have := tis_any (h.later hb hb.size)
    rw [hB] at this
    exact this))
  obtain ⟨_, hvm, hvc, _, _, hea, hlm, hlc⟩ := isB_facts hB
  dsimp only at hvm hvc hea hlm hlc
  have HB1 := Lib.hid ((Below.refl _ _).alloc (Nat.le_refl _) (boxR 3 e a M.length C.length L) : Below w.heap.size w (w.alloc (boxR 3 e a M.length C.length L)))
  have HTT := Lib.hid (fun W (hb : Below w.heap.size w W) => hT.below hb)
  have HTG := Lib.hid (fun W => ttags_at (t := 3) (s := wUnsat) rfl W)
  have HHM := Lib.hid (fun W => (show Calls Tryz.prog 16 #[.int .i64 3] W (fun q w' => q = .returned (.bool false) ∧ W = w') from hasModel_any 3 W))
  have HHC := Lib.hid (fun W => (show Calls Tryz.prog 17 #[.int .i64 3] W (fun q w' => q = .returned (.bool true) ∧ W = w') from hasCounter_any 3 W))
  rw [if_neg (by decide)] at hea
  clear hea
  have HLC := Lib.hid (fun W (hb : Below w.heap.size w W) => tlist_any wCounter (by decide) (h.counter.later hb hb.size) hvc hlc (hT.below hb))
  have hCL := listS_len (t := wCounter) hvc hlc
  have HTX := Lib.hid (show textS ⟨3, e, a, M, C⟩ = wUnsat ++ [] ++ [10] ++ [] ++ listS wCounter C from rfl)
  clear h hT hB hvm hvc
  generalize textS ⟨3, e, a, M, C⟩ = TX at *
  generalize M.length = lm at *
  generalize C.length = lc at *
  have hcl : (wCounter : List UInt8).length = 7 := rfl
  rw [hcl] at hCL
  clear hcl
  generalize listS wCounter C = Y at *
  obtain ⟨T1, hadd1, hT1⟩ := add_ex ⟨wUnsat.toArray⟩ ⟨#[10]⟩ (X := wUnsat) (Y := [10]) rfl rfl (by simp only [List.length_cons, List.length_nil, wUnsat]; omega)
  obtain ⟨T2, hadd2, hT2⟩ := add_ex T1 ⟨Y.toArray⟩ (X := (wUnsat ++ [10])) (Y := Y) hT1 rfl (by simp only [List.length_append, List.length_cons, List.length_nil, wUnsat]; omega)
  have HF := Lib.hid (show T2 = ⟨TX.toArray⟩ by
    rw [HTX.out]
    refine bytes_of ?_
    rw [hT2]
    simp)
  clear HTX hT1 hT2 
  go_enter Tryz.func10, Tryz.ntmps10
  go_upto_region 3 with (
    go_at_call 8
    refine (HIS.out _ HB1.out).mono ?_
    rintro q w2 ⟨rfl, hb2⟩
    have HB2 := Lib.hid (HB1.out.trans (hb2.mono (by simp)))
    have b0 : w2.cell? ⟨w.heap.size, 0, none⟩ = some (.int .i64 3) := vbox_at hb2 0 _ rfl
    have b1 : w2.cell? ⟨w.heap.size, 1, none⟩ = some (.int .i64 e) := vbox_at hb2 1 _ rfl
    have b2 : w2.cell? ⟨w.heap.size, 2, none⟩ = some (.int .i64 a) := vbox_at hb2 2 _ rfl
    have b3 : w2.cell? ⟨w.heap.size, 3, none⟩ = some (.slice L.Am lm L.cm) := vbox_at hb2 3 _ rfl
    have b4 : w2.cell? ⟨w.heap.size, 4, none⟩ = some (.slice L.Ac lc L.cc) := vbox_at hb2 4 _ rfl
    clear hb2)
  have hw2 := World.block_lt_of_cell? _ _ b0
  have hs2 := HB2.out.size
  go_region_with ((
    go_at_call 19
    refine (HTG.out _).mono ?_
    rintro q w3 ⟨g, rfl, hb3, hg3⟩
    have HB3 := Lib.hid (HB2.out.drew.trans (hb3.mono hs2))
    have z0 : w3.cell? ⟨w.heap.size, 0, none⟩ = some (.int .i64 3) := (hb3.cell (p := ⟨w.heap.size, 0, none⟩) hw2).trans b0
    have z1 : w3.cell? ⟨w.heap.size, 1, none⟩ = some (.int .i64 e) := (hb3.cell (p := ⟨w.heap.size, 1, none⟩) hw2).trans b1
    have z2 : w3.cell? ⟨w.heap.size, 2, none⟩ = some (.int .i64 a) := (hb3.cell (p := ⟨w.heap.size, 2, none⟩) hw2).trans b2
    have z3 : w3.cell? ⟨w.heap.size, 3, none⟩ = some (.slice L.Am lm L.cm) := (hb3.cell (p := ⟨w.heap.size, 3, none⟩) hw2).trans b3
    have z4 : w3.cell? ⟨w.heap.size, 4, none⟩ = some (.slice L.Ac lc L.cc) := (hb3.cell (p := ⟨w.heap.size, 4, none⟩) hw2).trans b4
    clear hb3))

  all_goals
    clear b0 b1 b2 b3 b4
    go_wp2_with (first
      | (
        skip
        go_at_call 21
        refine (HLC.out _ HB3.out).mono ?_
        rintro q w6 ⟨rfl, hb6⟩
        have HB6 := Lib.hid (HB3.out.trans (hb6.mono HB3.out.size))
        clear hb6)
      | (
        go_at_call 16
        refine (HHM.out _).mono ?_
        rintro q w4 ⟨rfl, rfl⟩)
      | (
        go_at_call 17
        refine (HHC.out _).mono ?_
        rintro q w4 ⟨rfl, rfl⟩))
    go_ret
    exact ⟨congrArg (fun x : ByteArray => Ending.returned (.string x)) HF.out, HB6.out⟩
set_option maxRecDepth 100000 in
set_option maxHeartbeats 8000000 in
theorem ttext4 {w : World} {e a : Int} {M C : List ValP} {L : ResL} (h : ResAt w w.heap.size ⟨4, e, a, M, C⟩ L) (hT : TTab w) (hB : isB ⟨4, e, a, M, C⟩ = true) :
    Calls Tryz.prog 10 #[resW 4 e a M.length C.length L] w fun q w' => q = .returned (.string ⟨(textS ⟨4, e, a, M, C⟩).toArray⟩) ∧ Below w.heap.size w w' := by
  have HIS := Lib.hid (fun W (hb : Below w.heap.size w W) => (show Calls Tryz.prog 8 #[resW 4 e a M.length C.length L] W (fun q w' => q = .returned (.bool true) ∧ Below W.heap.size W w') by
    have := tis_any (h.later hb hb.size)
    rw [hB] at this
    exact this))
  obtain ⟨_, hvm, hvc, _, _, hea, hlm, hlc⟩ := isB_facts hB
  dsimp only at hvm hvc hea hlm hlc
  have HB1 := Lib.hid ((Below.refl _ _).alloc (Nat.le_refl _) (boxR 4 e a M.length C.length L) : Below w.heap.size w (w.alloc (boxR 4 e a M.length C.length L)))
  have HTT := Lib.hid (fun W (hb : Below w.heap.size w W) => hT.below hb)
  have HTG := Lib.hid (fun W => ttags_at (t := 4) (s := wRefused) rfl W)
  have HHM := Lib.hid (fun W => (show Calls Tryz.prog 16 #[.int .i64 4] W (fun q w' => q = .returned (.bool false) ∧ W = w') from hasModel_any 4 W))
  have HHC := Lib.hid (fun W => (show Calls Tryz.prog 17 #[.int .i64 4] W (fun q w' => q = .returned (.bool false) ∧ W = w') from hasCounter_any 4 W))
  rw [if_pos rfl] at hea
  obtain ⟨⟨he1, he2⟩, ha1, ha2⟩ := hea
  have HTX := Lib.hid (show textS ⟨4, e, a, M, C⟩ = wRefused ++ ([32] ++ num e ++ [32] ++ num a) ++ [10] ++ [] ++ [] from rfl)
  clear h hT hB hvm hvc
  generalize textS ⟨4, e, a, M, C⟩ = TX at *
  generalize M.length = lm at *
  generalize C.length = lc at *
  have hel := num_len (n := e) (by omega) (by omega)
  have hal := num_len (n := a) (by omega) (by omega)
  have HE := Lib.hid (fun W hb => titoa_any (n := e) (by omega) (by omega) (HTT.out W hb))
  have HA := Lib.hid (fun W hb => titoa_any (n := a) (by omega) (by omega) (HTT.out W hb))
  generalize num e = E at *
  generalize num a = AA at *
  obtain ⟨U1, ha1', hU1⟩ := add_ex ⟨#[32]⟩ ⟨E.toArray⟩ (X := [32]) (Y := E) rfl rfl (by simp only [List.length_cons, List.length_nil]; omega)
  obtain ⟨U2, ha2', hU2⟩ := add_ex U1 ⟨#[32]⟩ (X := [32] ++ E) (Y := [32]) hU1 rfl (by simp only [List.length_append, List.length_cons, List.length_nil]; omega)
  obtain ⟨U3, ha3', hU3⟩ := add_ex U2 ⟨AA.toArray⟩ (X := [32] ++ E ++ [32]) (Y := AA) hU2 rfl (by simp only [List.length_append, List.length_cons, List.length_nil]; omega)
  obtain ⟨T1, hadd1, hT1⟩ := add_ex ⟨wRefused.toArray⟩ U3 (X := wRefused) (Y := [32] ++ E ++ [32] ++ AA) rfl hU3 (by simp only [List.length_append, List.length_cons, List.length_nil, wRefused]; omega)
  obtain ⟨T2, hadd2, hT2⟩ := add_ex T1 ⟨#[10]⟩ (X := (wRefused ++ ([32] ++ E ++ [32] ++ AA))) (Y := [10]) hT1 rfl (by simp only [List.length_append, List.length_cons, List.length_nil, wRefused]; omega)
  have HF := Lib.hid (show T2 = ⟨TX.toArray⟩ by
    rw [HTX.out]
    refine bytes_of ?_
    rw [hT2]
    simp)
  clear HTX hT1 hT2 hU1 hU2 hU3
  go_enter Tryz.func10, Tryz.ntmps10
  go_upto_region 3 with (
    go_at_call 8
    refine (HIS.out _ HB1.out).mono ?_
    rintro q w2 ⟨rfl, hb2⟩
    have HB2 := Lib.hid (HB1.out.trans (hb2.mono (by simp)))
    have b0 : w2.cell? ⟨w.heap.size, 0, none⟩ = some (.int .i64 4) := vbox_at hb2 0 _ rfl
    have b1 : w2.cell? ⟨w.heap.size, 1, none⟩ = some (.int .i64 e) := vbox_at hb2 1 _ rfl
    have b2 : w2.cell? ⟨w.heap.size, 2, none⟩ = some (.int .i64 a) := vbox_at hb2 2 _ rfl
    have b3 : w2.cell? ⟨w.heap.size, 3, none⟩ = some (.slice L.Am lm L.cm) := vbox_at hb2 3 _ rfl
    have b4 : w2.cell? ⟨w.heap.size, 4, none⟩ = some (.slice L.Ac lc L.cc) := vbox_at hb2 4 _ rfl
    clear hb2)
  have hw2 := World.block_lt_of_cell? _ _ b0
  have hs2 := HB2.out.size
  go_region_with ((
    go_at_call 19
    refine (HTG.out _).mono ?_
    rintro q w3 ⟨g, rfl, hb3, hg3⟩
    have HB3 := Lib.hid (HB2.out.drew.trans (hb3.mono hs2))
    have z0 : w3.cell? ⟨w.heap.size, 0, none⟩ = some (.int .i64 4) := (hb3.cell (p := ⟨w.heap.size, 0, none⟩) hw2).trans b0
    have z1 : w3.cell? ⟨w.heap.size, 1, none⟩ = some (.int .i64 e) := (hb3.cell (p := ⟨w.heap.size, 1, none⟩) hw2).trans b1
    have z2 : w3.cell? ⟨w.heap.size, 2, none⟩ = some (.int .i64 a) := (hb3.cell (p := ⟨w.heap.size, 2, none⟩) hw2).trans b2
    have z3 : w3.cell? ⟨w.heap.size, 3, none⟩ = some (.slice L.Am lm L.cm) := (hb3.cell (p := ⟨w.heap.size, 3, none⟩) hw2).trans b3
    have z4 : w3.cell? ⟨w.heap.size, 4, none⟩ = some (.slice L.Ac lc L.cc) := (hb3.cell (p := ⟨w.heap.size, 4, none⟩) hw2).trans b4
    clear hb3))

  all_goals
    clear b0 b1 b2 b3 b4
    go_upto_region 5 with fail
    have hw3 := World.block_lt_of_cell? _ _ z0
    have hs3 := HB3.out.size
    go_region_held3 (fun W : World => W.cell? ⟨w.heap.size, 0, none⟩ = some (.int .i64 4) ∧ W.cell? ⟨w.heap.size, 1, none⟩ = some (.int .i64 e) ∧ W.cell? ⟨w.heap.size, 2, none⟩ = some (.int .i64 a)) ((refine ⟨?_, ?_, ?_⟩) <;> repeat' (first | (with_reducible exact z0) | (with_reducible exact z1) | (with_reducible exact z2) | (with_reducible exact y0) | (with_reducible exact y1) | (with_reducible exact y2) | (with_reducible exact x0) | (with_reducible exact x1) | (with_reducible exact x2) | (with_reducible refine lkeepD ?_) | omega)) ((first
      | (
        have hhb := HB7
        go_at_call 20
        refine (HA.out _ HB7.out).mono ?_
        rintro q w8 ⟨rfl, hb8⟩
        have hw7 := World.block_lt_of_cell? _ _ y0
        have HB8 := Lib.hid (HB7.out.trans (hb8.mono HB7.out.size))
        have x0 := (hb8.cell (p := ⟨w.heap.size, 0, none⟩) hw7).trans y0
        have x1 := (hb8.cell (p := ⟨w.heap.size, 1, none⟩) hw7).trans y1
        have x2 := (hb8.cell (p := ⟨w.heap.size, 2, none⟩) hw7).trans y2
        clear hb8)
      | (
        go_at_call 20
        refine (HE.out _ HB3.out.drew).mono ?_
        rintro q w7 ⟨rfl, hb7⟩
        have HB7 := Lib.hid (HB3.out.drew.trans (hb7.mono HB3.out.size))
        have y0 := (hb7.cell (p := ⟨w.heap.size, 0, none⟩) hw3).trans (lkeepD z0)
        have y1 := (hb7.cell (p := ⟨w.heap.size, 1, none⟩) hw3).trans (lkeepD z1)
        have y2 := (hb7.cell (p := ⟨w.heap.size, 2, none⟩) hw3).trans (lkeepD z2)
        clear hb7)))
    all_goals
      go_wp2_with (first
        | (
          go_at_call 16
          refine (HHM.out _).mono ?_
          rintro q w4 ⟨rfl, rfl⟩)
        | (
          go_at_call 17
          refine (HHC.out _).mono ?_
          rintro q w4 ⟨rfl, rfl⟩))
      go_ret
      exact ⟨congrArg (fun x : ByteArray => Ending.returned (.string x)) HF.out, HB8.out⟩
set_option maxRecDepth 100000 in
set_option maxHeartbeats 8000000 in
theorem ttext5 {w : World} {e a : Int} {M C : List ValP} {L : ResL} (h : ResAt w w.heap.size ⟨5, e, a, M, C⟩ L) (hT : TTab w) (hB : isB ⟨5, e, a, M, C⟩ = true) :
    Calls Tryz.prog 10 #[resW 5 e a M.length C.length L] w fun q w' => q = .returned (.string ⟨(textS ⟨5, e, a, M, C⟩).toArray⟩) ∧ Below w.heap.size w w' := by
  have HIS := Lib.hid (fun W (hb : Below w.heap.size w W) => (show Calls Tryz.prog 8 #[resW 5 e a M.length C.length L] W (fun q w' => q = .returned (.bool true) ∧ Below W.heap.size W w') by
    have := tis_any (h.later hb hb.size)
    rw [hB] at this
    exact this))
  obtain ⟨_, hvm, hvc, _, _, hea, hlm, hlc⟩ := isB_facts hB
  dsimp only at hvm hvc hea hlm hlc
  have HB1 := Lib.hid ((Below.refl _ _).alloc (Nat.le_refl _) (boxR 5 e a M.length C.length L) : Below w.heap.size w (w.alloc (boxR 5 e a M.length C.length L)))
  have HTT := Lib.hid (fun W (hb : Below w.heap.size w W) => hT.below hb)
  have HTG := Lib.hid (fun W => ttags_at (t := 5) (s := wLimit) rfl W)
  have HHM := Lib.hid (fun W => (show Calls Tryz.prog 16 #[.int .i64 5] W (fun q w' => q = .returned (.bool false) ∧ W = w') from hasModel_any 5 W))
  have HHC := Lib.hid (fun W => (show Calls Tryz.prog 17 #[.int .i64 5] W (fun q w' => q = .returned (.bool false) ∧ W = w') from hasCounter_any 5 W))
  rw [if_neg (by decide)] at hea
  clear hea
  have HTX := Lib.hid (show textS ⟨5, e, a, M, C⟩ = wLimit ++ [] ++ [10] ++ [] ++ [] from rfl)
  clear h hT hB hvm hvc
  generalize textS ⟨5, e, a, M, C⟩ = TX at *
  generalize M.length = lm at *
  generalize C.length = lc at *
  obtain ⟨T1, hadd1, hT1⟩ := add_ex ⟨wLimit.toArray⟩ ⟨#[10]⟩ (X := wLimit) (Y := [10]) rfl rfl (by simp only [List.length_cons, List.length_nil, wLimit]; omega)
  have HF := Lib.hid (show T1 = ⟨TX.toArray⟩ by
    rw [HTX.out]
    refine bytes_of ?_
    rw [hT1]
    simp)
  clear HTX hT1 
  go_enter Tryz.func10, Tryz.ntmps10
  go_upto_region 3 with (
    go_at_call 8
    refine (HIS.out _ HB1.out).mono ?_
    rintro q w2 ⟨rfl, hb2⟩
    have HB2 := Lib.hid (HB1.out.trans (hb2.mono (by simp)))
    have b0 : w2.cell? ⟨w.heap.size, 0, none⟩ = some (.int .i64 5) := vbox_at hb2 0 _ rfl
    have b1 : w2.cell? ⟨w.heap.size, 1, none⟩ = some (.int .i64 e) := vbox_at hb2 1 _ rfl
    have b2 : w2.cell? ⟨w.heap.size, 2, none⟩ = some (.int .i64 a) := vbox_at hb2 2 _ rfl
    have b3 : w2.cell? ⟨w.heap.size, 3, none⟩ = some (.slice L.Am lm L.cm) := vbox_at hb2 3 _ rfl
    have b4 : w2.cell? ⟨w.heap.size, 4, none⟩ = some (.slice L.Ac lc L.cc) := vbox_at hb2 4 _ rfl
    clear hb2)
  have hw2 := World.block_lt_of_cell? _ _ b0
  have hs2 := HB2.out.size
  go_region_with ((
    go_at_call 19
    refine (HTG.out _).mono ?_
    rintro q w3 ⟨g, rfl, hb3, hg3⟩
    have HB3 := Lib.hid (HB2.out.drew.trans (hb3.mono hs2))
    have z0 : w3.cell? ⟨w.heap.size, 0, none⟩ = some (.int .i64 5) := (hb3.cell (p := ⟨w.heap.size, 0, none⟩) hw2).trans b0
    have z1 : w3.cell? ⟨w.heap.size, 1, none⟩ = some (.int .i64 e) := (hb3.cell (p := ⟨w.heap.size, 1, none⟩) hw2).trans b1
    have z2 : w3.cell? ⟨w.heap.size, 2, none⟩ = some (.int .i64 a) := (hb3.cell (p := ⟨w.heap.size, 2, none⟩) hw2).trans b2
    have z3 : w3.cell? ⟨w.heap.size, 3, none⟩ = some (.slice L.Am lm L.cm) := (hb3.cell (p := ⟨w.heap.size, 3, none⟩) hw2).trans b3
    have z4 : w3.cell? ⟨w.heap.size, 4, none⟩ = some (.slice L.Ac lc L.cc) := (hb3.cell (p := ⟨w.heap.size, 4, none⟩) hw2).trans b4
    clear hb3))

  all_goals
    clear b0 b1 b2 b3 b4
    go_wp2_with (first
      | (
        go_at_call 16
        refine (HHM.out _).mono ?_
        rintro q w4 ⟨rfl, rfl⟩)
      | (
        go_at_call 17
        refine (HHC.out _).mono ?_
        rintro q w4 ⟨rfl, rfl⟩))
    go_ret
    exact ⟨congrArg (fun x : ByteArray => Ending.returned (.string x)) HF.out, HB3.out⟩
end Go.Proofs.YteikakoheibnjaaGreatDoor
