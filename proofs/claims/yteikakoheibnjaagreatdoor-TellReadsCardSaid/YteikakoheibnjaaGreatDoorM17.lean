/- Parts of the proof: LNumber. -/
import Derived.Test.YteikakoheibnjaaGreatDoorM14
import Derived.Test.YteikakoheibnjaaGreatDoorM16
namespace Go.Proofs.YteikakoheibnjaaGreatDoor
open Go Go.RowKit

def numL (l : List Ru) : Nat := min (numVal l) 100
theorem numL_snoc (l : List Ru) (r : Ru) : numL (l ++ [r]) = min (numL l * 10 + (r.1 - 48)) 100 := by
  unfold numL
  rw [numVal_snoc]
  unfold numStep
  omega
theorem lnumber_post {w w' : World} {B q : Nat} {S : ByteArray} {R : List Ru} {A : Option Addr} {c : Nat} {bad : Int} {i D v p : Nat} {b : Bool} (hi : i < R.length) (hc : cls R[i].1 = 2) (hD : ((R.drop i).takeWhile digit).length = D) (hp : posn R i = p)
    (hv : v = numL ((R.drop i).take D)) (hb : b = (decide (v ≤ 99) && (!(decide (R[i].1 = 48)) || decide (D = 1)))) (hL : LLeft w B q S R A c bad (i + D) w') :
    LTokPost w B q S R A c bad i (.returned (.tuple #[.agg #[.int .i64 2, .string ⟨#[]⟩, .int .i64 v, .int .i64 p], .bool b])) w' := by
  have hD1 : 1 ≤ D := by
    rw [← hD, tw_dig hi (by unfold digit; rw [hc]; rfl)]
    omega
  subst hD hp
  rw [← tw_take] at hv
  have e : R.drop i = R[i] :: R.drop (i + 1) := List.drop_eq_getElem_cons hi
  have ht : tokR (posn R i) (R.drop i) = if numVal ((R.drop i).takeWhile digit) ≤ 99 ∧ ¬ (R[i].1 = 48 ∧ 1 < ((R.drop i).takeWhile digit).length) then some (⟨2, [], numVal ((R.drop i).takeWhile digit), posn R i⟩, ((R.drop i).takeWhile digit).length) else none := by
    rw [e]
    unfold tokR
    exact (if_neg (by rw [hc]; decide)).trans (if_pos hc)
  unfold numL at hv
  unfold LTokPost
  by_cases h12 : numVal ((R.drop i).takeWhile digit) ≤ 99 ∧ ¬ (R[i].1 = 48 ∧ 1 < ((R.drop i).takeWhile digit).length)
  · rw [if_pos h12] at ht
    have hvv : v = numVal ((R.drop i).takeWhile digit) := by omega
    refine Or.inl ⟨_, _, ht, ?_, hL⟩
    have : b = true := by
      rw [hb, decide_eq_true (by omega), Bool.true_and, Bool.or_eq_true, Bool.not_eq_true', decide_eq_false_iff_not, decide_eq_true_eq]
      by_cases h48 : R[i].1 = 48
      · exact Or.inr (by have := h12.2; omega)
      · exact Or.inl h48
    rw [this, hvv]
    rfl
  · rw [if_neg h12] at ht
    refine Or.inr ⟨ht, ⟨2, [], v, posn R i⟩, _, ?_, hL⟩
    have : b = false := by
      rw [hb, ← Bool.not_eq_true]
      intro h
      rw [Bool.and_eq_true, decide_eq_true_eq, Bool.or_eq_true, Bool.not_eq_true', decide_eq_false_iff_not, decide_eq_true_eq] at h
      refine h12 ⟨by omega, ?_⟩
      rintro ⟨x, y⟩
      rcases h.2 with h | h
      · exact h x
      · omega
    rw [this]
    rfl
set_option maxRecDepth 100000 in
set_option maxHeartbeats 8000000 in
theorem lnumber_any {w : World} {B q : Nat} {S : ByteArray} {R : List Ru} {A : Option Addr} {c : Nat} {bad : Int} {i : Nat} (h : Lxr w B q S R A c bad i) (hi : i < R.length) (hc : cls R[i].1 = 2) (hBw : B ≤ w.heap.size) :
    Calls Tryz.prog 105 #[.pointer (some ⟨q, 0, none⟩)] w (LTokPost w B q S R A c bad i) := by
  have hl := h.len
  have hql := h.blk.lt
  have hqB := h.qlt
  have HR0 := Lib.hid h
  have HC0 := Lib.hid hc
  have hi2 : i ≤ 2000 := by omega
  have HAT0 := Lib.hid (fun W (hW : Lxr W B q S R A c bad i) => lat_any hW (Nat.le_of_lt hi))
  have hDle : ((R.drop i).takeWhile digit).length ≤ R.length - i := by have := takeWhile_le digit (R.drop i); simp at this; omega
  obtain ⟨cc0, cc1, cc2, cc3⟩ := h.cells
  obtain ⟨g0, eA, hg0, _, k1, k2⟩ := h.runes _ hi
  have hg0w : g0 < w.heap.size := World.block_lt_of_cell? _ _ k1
  clear h hc k2
  generalize hD : ((R.drop i).takeWhile digit).length = D at *
  have HDD := Lib.hid hD
  clear hD
  generalize hPP : posn R i = p at *
  have HPP := Lib.hid hPP
  clear hPP
  generalize hZ : R[i].1 = z at *
  have HZ := Lib.hid hZ
  clear hZ
  have hp0 : (0 : Int) ≤ (i : Int) := by omega
  have hp1 : (i : Int) < (R.length : Int) := by omega
  subst eA
  go_enter Tryz.func105, Tryz.ntmps105
  go_upto_region 2 with (
    go_at_call 83
    refine (HAT0.out _ (HR0.out.alloc _)).mono ?_
    rintro e w2 ⟨rfl, n3, rfl⟩)
  refine wp_named (fun W1 => LLeft w B q S R (some ⟨g0, 0, none⟩) c bad i W1 ∧ Blk W1 (w.heap.size + 1) 78 #[.int .i64 2, .string ⟨#[]⟩, .int .i64 0, .int .i64 (p : Nat)] ∧ Blk W1 w.heap.size 78 #[.int .i64 0, .string ⟨#[]⟩, .int .i64 0, .int .i64 0] ∧ W1.cell? ⟨g0, i * 2, none⟩ = some (.int .i32 (z : Nat))) ⟨?_, ?_, ?_, ?_⟩ ?_
  · repeat' (first | (with_reducible exact LLeft.refl HR0.out) | (with_reducible refine LLeft.far ?_ ?_ ?_ _) | (with_reducible refine LLeft.drewN ?_ _) | (with_reducible refine LLeft.drew ?_) | (with_reducible refine LLeft.alloc ?_ _) | omega | (simp; done) | (simp <;> omega))
  · repeat' (first | (with_reducible exact lblkNew _ _ _) | (with_reducible refine ltokZ ?_ _ _ _ _) | (with_reducible refine Blk.other ?_ ?_ _) | (with_reducible refine lblkN ?_) | (with_reducible refine lblkD ?_) | (with_reducible refine lblkNewAt ?_) | (with_reducible refine lblkA ?_ _) | omega | (simp; done) | (simp <;> omega))
  · repeat' (first | (with_reducible exact lblkNew _ _ _) | (with_reducible refine ltokZ ?_ _ _ _ _) | (with_reducible refine Blk.other ?_ ?_ _) | (with_reducible refine lblkN ?_) | (with_reducible refine lblkD ?_) | (with_reducible refine lblkNewAt ?_) | (with_reducible refine lblkA ?_ _) | omega | (simp; done) | (simp <;> omega))
  · repeat' (first | (with_reducible exact k1) | (with_reducible refine lkeepS ?_ ?_ _) | (with_reducible refine lkeepN ?_) | (with_reducible refine lkeepA ?_ _) | omega | (simp <;> omega))
  rintro W1 ⟨hL1, hT1, hT0, k11⟩
  have HL1 := Lib.hid hL1
  have HT1 := Lib.hid hT1
  have HT0 := Lib.hid hT0
  obtain ⟨c0, c1, c2, c3⟩ := hL1.2.cells
  have hsz1 := hT1.lt
  clear hL1 hT1 hT0 cc0 cc1 cc2 cc3 k1 HAT0
  go_quiet (fail)
  go_wp2_with fail
  go_loopg [] D (fun g wr => ∃ n : Nat, n ≤ D ∧ g = D - n ∧ Hid (D = n + ((R.drop (i + n)).takeWhile digit).length) ∧ Hid (LLeft w B q S R (some ⟨g0, 0, none⟩) c bad (i + n) wr) ∧
    Hid (Blk wr (w.heap.size + 1) 78 #[.int .i64 2, .string ⟨#[]⟩, .int .i64 (numL ((R.drop i).take n) : Nat), .int .i64 (p : Nat)]) ∧ Hid (Blk wr w.heap.size 78 #[.int .i64 0, .string ⟨#[]⟩, .int .i64 0, .int .i64 0]) ∧ w.heap.size + 1 < wr.heap.size)
  case atStart => exact ⟨0, Nat.zero_le _, rfl, Lib.hid (by rw [Nat.zero_add]; exact HDD.out.symm), Lib.hid (HL1.out.drewN _), Lib.hid (lblkN HT1.out), Lib.hid (lblkN HT0.out), hsz1⟩
  case round =>
    obtain ⟨n, hn, hg, HN, HL, HA1, HA0, hsz⟩ := hrel
    have HG := Lib.hid hg
    clear hg
    have hn2 : i + n ≤ 2000 := by omega
    have HCL := Lib.hid (fun W (hW : Lxr W B q S R (some ⟨g0, 0, none⟩) c bad (i + n)) => lclassof_any hW hn2)
    by_cases hlt : n < D
    · have hj : i + n < R.length := by omega
      have hdg : digit R[i + n] = true := by
        cases e : digit R[i + n] with
        | true => rfl
        | false =>
          have h1 := HN.out
          rw [tw_dstop (fun _ => e)] at h1
          omega
      have HT := Lib.hid (tw_dig hj hdg)
      have h2 : cls R[i + n].1 = 2 := by unfold digit at hdg; exact eq_of_beq hdg
      rw [show clsAt R (i + n) = 2 by unfold clsAt; rw [dif_pos hj, h2]; rfl] at HCL
      obtain ⟨hr1, hr2⟩ := cls_digit h2
      have HV := Lib.hid (show numL ((R.drop i).take (n + 1)) = min (numL ((R.drop i).take n) * 10 + (R[i + n].1 - 48)) 100 by
        rw [List.take_succ_eq_append_getElem (by simp; omega), numL_snoc]
        simp)
      have hvl : numL ((R.drop i).take n) ≤ 100 := by unfold numL; omega
      obtain ⟨g, ea, hg, _, h5, h6⟩ := HL.out.2.runes _ hj
      injection ea with ea
      injection ea with ea _ _
      subst ea
      clear hdg h2 h6
      generalize numL ((R.drop i).take n) = v at *
      generalize R[i + n].1 = r at *
      have HNJ := Lib.hid (show i + (n + 1) = i + n + 1 by omega)
      generalize hJ : i + n = j at *
      have HJ := Lib.hid hJ
      clear hJ
      have hp0 : (0 : Int) ≤ (j : Int) := by omega
      have hp1 : (j : Int) < (R.length : Int) := by omega
      go_wp2_with (
        go_at_call 102
        refine (HCL.out _ HL.out.2).mono ?_
        rintro e w2 ⟨rfl, n1, rfl⟩)
      refine wp_named (fun W2 => LLeft w B q S R (some ⟨g0, 0, none⟩) c bad j W2 ∧ Blk W2 (w.heap.size + 1) 78 #[.int .i64 2, .string ⟨#[]⟩, .int .i64 (v : Nat), .int .i64 (p : Nat)] ∧ Blk W2 w.heap.size 78 #[.int .i64 0, .string ⟨#[]⟩, .int .i64 0, .int .i64 0] ∧ W2.cell? ⟨g0, j * 2, none⟩ = some (.int .i32 (r : Nat)) ∧ w.heap.size + 1 < W2.heap.size) ⟨HL.out.drewN _, lblkN HA1.out, lblkN HA0.out, h5, hsz⟩ ?_
      rintro W2 ⟨hL2, hA1, hA0, k2, hsz2⟩
      obtain ⟨d0, d1, d2, d3⟩ := hL2.2.cells
      have f3 := hL2.2.blk.frozen 3
      obtain ⟨x0, x1, x2, x3⟩ := lblk4 hA1
      obtain ⟨y0, y1, y2, y3⟩ := lblk4f hA1
      have HL2 := Lib.hid hL2
      have HB1 := Lib.hid hA1
      have HB0 := Lib.hid hA0
      clear hL2 hA1 hA0 h5 HL HA1 HA0 hsz c0 c1 c2 c3 k11 HCL
      have q1 : IntKind.i64.wrap ((v : Int) * 10) = (v : Int) * 10 := IntWalk.i64_in _ ⟨by omega, by omega⟩
      have q3 : IntKind.i32.wrap ((r : Int) - 48) = (r : Int) - 48 := IntWalk.i32_in _ ⟨by omega, by omega⟩
      have q4 : IntKind.i64.wrap ((r : Int) - 48) = (r : Int) - 48 := IntWalk.i64_in _ ⟨by omega, by omega⟩
      have q5 : IntKind.i64.wrap ((v : Int) * 10 + ((r : Int) - 48)) = (v : Int) * 10 + ((r : Int) - 48) := IntWalk.i64_in _ ⟨by omega, by omega⟩
      go_still_tail 19, (by kernel_rfl)
      clear q1 q3 q4 q5
      change wpList _ _ _ _ _ W2.drew
      go_wp2_with fail
      go_roundg (D - (n + 1))
      case measure => have := HG.out; omega
      case rel =>
        refine ⟨n + 1, by omega, rfl, Lib.hid (by rw [HN.out, HT.out, HNJ.out]; omega), Lib.hid ?_, Lib.hid ?_, Lib.hid ?_, by simpa [World.setCell] using hsz2⟩
        · rw [HNJ.out]
          exact LLeft.inc (LLeft.far HL2.out.drew hBw (by simp <;> omega) _)
        · rw [HV.out]
          have e : (((min (v * 10 + (r - 48)) 100 : Nat) : Nat) : Int) = min ((v : Int) * 10 + ((r : Int) - 48)) 100 := by omega
          rw [e]
          refine Blk.other ?_ (by simp <;> omega) _
          have := HB1.out.set_ 2 (.int .i64 (min ((v : Int) * 10 + ((r : Int) - 48)) 100))
          show Blk (W2.setCell _ _) _ _ _
          simpa using this
        · exact Blk.other (Blk.other (lblkD HB0.out) (by simp) _) (by simp <;> omega) _
    · obtain rfl : n = D := by omega
      have hcv : ((clsAt R (i + n)) == 2) = false := by
        unfold clsAt
        split
        · next hj =>
          rw [beq_eq_false_iff_ne]
          intro e
          have h1 := HN.out
          rw [tw_dig hj (by unfold digit; rw [beq_iff_eq]; omega)] at h1
          omega
        · rfl
      generalize hvv : numL ((R.drop i).take n) = v at *
      have HVV := Lib.hid hvv
      have hvl : v ≤ 100 := by rw [← hvv]; unfold numL; omega
      clear hvv HN
      generalize clsAt R (i + n) = V at *
      generalize hJ : i + n = j at *
      have HJ := Lib.hid hJ
      have q1 : IntKind.i64.wrap ((j : Int) - (i : Int)) = (n : Int) := by
        rw [show (j : Int) - (i : Int) = (n : Int) by omega]
        exact IntWalk.i64_in _ ⟨by omega, by omega⟩
      clear hJ
      go_upto_region 6 with (
        go_at_call 102
        refine (HCL.out _ HL.out.2).mono ?_
        rintro e w2 ⟨rfl, n1, rfl⟩)
      refine wp_named (fun W2 => LLeft w B q S R (some ⟨g0, 0, none⟩) c bad j W2 ∧ Blk W2 (w.heap.size + 1) 78 #[.int .i64 2, .string ⟨#[]⟩, .int .i64 (v : Nat), .int .i64 (p : Nat)] ∧ Blk W2 w.heap.size 78 #[.int .i64 0, .string ⟨#[]⟩, .int .i64 0, .int .i64 0]) ⟨HL.out.drewN _, lblkN HA1.out, lblkN HA0.out⟩ ?_
      rintro W2 ⟨hL2, hA1, hA0⟩
      obtain ⟨d0, d1, d2, d3⟩ := hL2.2.cells
      obtain ⟨x0, x1, x2, x3⟩ := lblk4 hA1
      obtain ⟨y0, y1, y2, y3⟩ := lblk4f hA0
      obtain ⟨u0, u1, u2, u3⟩ := lblk4 hA0
      have HL2 := Lib.hid hL2
      have HB0 := Lib.hid hA0
      have hl0 := hA0.lt
      have hl1 := hA1.lt
      clear hL2 hA1 hA0 HL HA1 HA0 hsz c0 c1 c2 c3 k11 HCL
      by_cases hv : v ≤ 99
      · have gv : decide ((v : Int) ≤ 99) = true := decide_eq_true (by omega)
        by_cases h48 : z = 48
        · subst h48
          by_cases h1 : n = 1
          · have g1 : ((n : Int) == 1) = true := by simp; omega
            go_region_held3 (fun W : World => W.cell? ⟨w.heap.size + 1, 0, none⟩ = some (.int .i64 2) ∧ W.cell? ⟨w.heap.size + 1, 1, none⟩ = some (.string ⟨#[]⟩) ∧ W.cell? ⟨w.heap.size + 1, 2, none⟩ = some (.int .i64 (v : Nat)) ∧ W.cell? ⟨w.heap.size + 1, 3, none⟩ = some (.int .i64 (p : Nat)) ∧ W.cell? ⟨q, 3, none⟩ = some (.int .i64 (j : Nat))) ((refine ⟨?_, ?_, ?_, ?_, ?_⟩) <;> repeat' (first | (with_reducible exact x0) | (with_reducible exact x1) | (with_reducible exact x2) | (with_reducible exact x3) | (with_reducible exact d3) | (with_reducible refine lkeepS ?_ ?_ _) | (with_reducible refine lkeepD ?_) | omega)) (fail)
            all_goals
              go_wp2_with fail
              refine bodyPost_ret (res_tok (by rfl) _ _ w.heap.size #[.int .i64 2, .string ⟨#[]⟩, .int .i64 (v : Nat), .int .i64 (p : Nat)] rfl (ltokZ (lblkD HB0.out) _ _ _ _) rfl) rfl ?_
              exact lnumber_post (D := n) (v := v) hi (by rw [HZ.out]; exact HC0.out) HDD.out HPP.out HVV.out.symm (by rw [HZ.out, decide_eq_true hv, decide_eq_true h1]; rfl) (by
                rw [HJ.out]
                repeat' (first | (with_reducible exact HL2.out) | (with_reducible refine LLeft.far ?_ hBw ?_ _) | (with_reducible refine LLeft.drewN ?_ _) | (with_reducible refine LLeft.drew ?_) | omega | (simp <;> omega)))
          · have g1 : ((n : Int) == 1) = false := by simp; omega
            go_region_held3 (fun W : World => W.cell? ⟨w.heap.size + 1, 0, none⟩ = some (.int .i64 2) ∧ W.cell? ⟨w.heap.size + 1, 1, none⟩ = some (.string ⟨#[]⟩) ∧ W.cell? ⟨w.heap.size + 1, 2, none⟩ = some (.int .i64 (v : Nat)) ∧ W.cell? ⟨w.heap.size + 1, 3, none⟩ = some (.int .i64 (p : Nat)) ∧ W.cell? ⟨q, 3, none⟩ = some (.int .i64 (j : Nat))) ((refine ⟨?_, ?_, ?_, ?_, ?_⟩) <;> repeat' (first | (with_reducible exact x0) | (with_reducible exact x1) | (with_reducible exact x2) | (with_reducible exact x3) | (with_reducible exact d3) | (with_reducible refine lkeepS ?_ ?_ _) | (with_reducible refine lkeepD ?_) | omega)) (fail)
            all_goals
              go_wp2_with fail
              refine bodyPost_ret (res_tok (by rfl) _ _ w.heap.size #[.int .i64 2, .string ⟨#[]⟩, .int .i64 (v : Nat), .int .i64 (p : Nat)] rfl (ltokZ (lblkD HB0.out) _ _ _ _) rfl) rfl ?_
              exact lnumber_post (D := n) (v := v) hi (by rw [HZ.out]; exact HC0.out) HDD.out HPP.out HVV.out.symm (by rw [HZ.out, decide_eq_true hv, decide_eq_false h1]; rfl) (by
                rw [HJ.out]
                repeat' (first | (with_reducible exact HL2.out) | (with_reducible refine LLeft.far ?_ hBw ?_ _) | (with_reducible refine LLeft.drewN ?_ _) | (with_reducible refine LLeft.drew ?_) | omega | (simp <;> omega)))
        · have g4 : ((z : Int) == 48) = false := by simp; omega
          have g5 : ((z : Int) != 48) = true := by simp; omega
          refine wp_region_noPanic ?_
          refine wp_region_held_drew (S := (fun W : World => W.cell? ⟨w.heap.size + 1, 0, none⟩ = some (.int .i64 2) ∧ W.cell? ⟨w.heap.size + 1, 1, none⟩ = some (.string ⟨#[]⟩) ∧ W.cell? ⟨w.heap.size + 1, 2, none⟩ = some (.int .i64 (v : Nat)) ∧ W.cell? ⟨w.heap.size + 1, 3, none⟩ = some (.int .i64 (p : Nat)) ∧ W.cell? ⟨q, 3, none⟩ = some (.int .i64 (j : Nat)))) (by kernel_rfl) (by ((refine ⟨?_, ?_, ?_, ?_, ?_⟩) <;> repeat' (first | (with_reducible exact x0) | (with_reducible exact x1) | (with_reducible exact x2) | (with_reducible exact x3) | (with_reducible exact d3) | (with_reducible refine lkeepS ?_ ?_ _) | (with_reducible refine lkeepD ?_) | omega))) (fun hHeld => ?_)
          refine wpAnyH_take (i := 0) (v := ?vvA0) rfl (by kernel_rfl) (by kernel_rfl) (by kernel_rfl) (fun _ _ _ h => h) (Or.inl ⟨by rfl, ?hyA0⟩) (by assumption) ?rrA0
          case hyA0 =>
            intro W hS
            try dsimp only at hS
            go_simp
            try with_reducible rfl
          case rrA0 =>
          try simp only [Act.put, List.getElem_toArray, List.getElem_cons_zero, List.setIfInBounds_toArray, List.set_cons_zero, List.set_cons_succ]
          refine wpAnyH_take (i := 1) (v := ?vvA1) rfl (by kernel_rfl) (by kernel_rfl) (by kernel_rfl) (fun _ _ _ h => h) (Or.inl ⟨by rfl, ?hyA1⟩) (by assumption) ?rrA1
          case hyA1 =>
            intro W hS
            try dsimp only at hS
            go_simp
            try with_reducible rfl
          case rrA1 =>
          try simp only [Act.put, List.getElem_toArray, List.getElem_cons_succ, List.getElem_cons_zero, List.setIfInBounds_toArray, List.set_cons_zero, List.set_cons_succ]
          refine wpAnyH_take (i := 2) (v := ?vvA2) rfl (by kernel_rfl) (by kernel_rfl) (by kernel_rfl) (fun _ _ _ h => h) (Or.inl ⟨by rfl, ?hyA2⟩) (by assumption) ?rrA2
          case hyA2 =>
            intro W hS
            try dsimp only at hS
            go_simp
            try with_reducible rfl
          case rrA2 =>
          try simp only [Act.put, List.getElem_toArray, List.getElem_cons_succ, List.getElem_cons_zero, List.setIfInBounds_toArray, List.set_cons_zero, List.set_cons_succ]
          refine wpAnyH_take (i := 3) (v := ?vvA3) rfl (by kernel_rfl) (by kernel_rfl) (by kernel_rfl) (fun _ _ _ h => h) (Or.inl ⟨by rfl, ?hyA3⟩) (by assumption) ?rrA3
          case hyA3 =>
            intro W hS
            try dsimp only at hS
            go_simp
            try with_reducible rfl
          case rrA3 =>
          try simp only [Act.put, List.getElem_toArray, List.getElem_cons_succ, List.getElem_cons_zero, List.setIfInBounds_toArray, List.set_cons_zero, List.set_cons_succ]
          refine wpAnyH_take (i := 4) (v := ?vvA4) rfl (by kernel_rfl) (by kernel_rfl) (by kernel_rfl) (fun _ _ _ h => h) (Or.inl ⟨by rfl, ?hyA4⟩) (by assumption) ?rrA4
          case hyA4 =>
            intro W hS
            try dsimp only at hS
            go_simp
            try with_reducible rfl
          case rrA4 =>
          try simp only [Act.put, List.getElem_toArray, List.getElem_cons_succ, List.getElem_cons_zero, List.setIfInBounds_toArray, List.set_cons_zero, List.set_cons_succ]
          refine wpAnyH_take (i := 5) (v := ?vvA5) rfl (by kernel_rfl) (by kernel_rfl) (by kernel_rfl) (fun _ _ _ h => h) (Or.inl ⟨by rfl, ?hyA5⟩) (by assumption) ?rrA5
          case hyA5 =>
            intro W hS
            try dsimp only at hS
            go_simp
            try with_reducible rfl
          case rrA5 =>
          try simp only [Act.put, List.getElem_toArray, List.getElem_cons_succ, List.getElem_cons_zero, List.setIfInBounds_toArray, List.set_cons_zero, List.set_cons_succ]
          refine wpAnyH_take (i := 6) (v := ?vvA6) rfl (by kernel_rfl) (by kernel_rfl) (by kernel_rfl) (fun _ _ _ h => h) (Or.inl ⟨by rfl, ?hyA6⟩) (by assumption) ?rrA6
          case hyA6 =>
            intro W hS
            try dsimp only at hS
            go_simp
            try with_reducible rfl
          case rrA6 =>
          try simp only [Act.put, List.getElem_toArray, List.getElem_cons_succ, List.getElem_cons_zero, List.setIfInBounds_toArray, List.set_cons_zero, List.set_cons_succ]
          refine wpAnyH_take (i := 7) (v := ?vvA7) rfl (by kernel_rfl) (by kernel_rfl) (by kernel_rfl) (fun _ _ _ h => h) (Or.inl ⟨by rfl, ?hyA7⟩) (by assumption) ?rrA7
          case hyA7 =>
            intro W hS
            try dsimp only at hS
            go_simp
            try with_reducible rfl
          case rrA7 =>
          try simp only [Act.put, List.getElem_toArray, List.getElem_cons_succ, List.getElem_cons_zero, List.setIfInBounds_toArray, List.set_cons_zero, List.set_cons_succ]
          refine wpAnyH_take (i := 8) rfl (by kernel_rfl) (by kernel_rfl) (by kernel_rfl) (fun _ _ _ h => h) (Or.inr ⟨by kernel_rfl, rfl⟩) (by assumption) ?_
          try simp only [Act.put, List.getElem_toArray, List.getElem_cons_succ, List.getElem_cons_zero, List.setIfInBounds_toArray, List.set_cons_zero, List.set_cons_succ]
          refine wpAnyH_take (i := 9) rfl (by kernel_rfl) (by kernel_rfl) (by kernel_rfl) (fun _ _ _ h => h) (Or.inr ⟨by kernel_rfl, rfl⟩) (by assumption) ?_
          try simp only [Act.put, List.getElem_toArray, List.getElem_cons_succ, List.getElem_cons_zero, List.setIfInBounds_toArray, List.set_cons_zero, List.set_cons_succ]
          refine wpAnyH_take (i := 10) rfl (by kernel_rfl) (by kernel_rfl) (by kernel_rfl) (fun _ _ _ h => h) (Or.inr ⟨by kernel_rfl, rfl⟩) (by assumption) ?_
          try simp only [Act.put, List.getElem_toArray, List.getElem_cons_succ, List.getElem_cons_zero, List.setIfInBounds_toArray, List.set_cons_zero, List.set_cons_succ]
          refine wpAnyH_take (i := 11) rfl (by kernel_rfl) (by kernel_rfl) (by kernel_rfl) (fun _ _ _ h => h) (Or.inr ⟨by kernel_rfl, rfl⟩) (by assumption) ?_
          try simp only [Act.put, List.getElem_toArray, List.getElem_cons_succ, List.getElem_cons_zero, List.setIfInBounds_toArray, List.set_cons_zero, List.set_cons_succ]
          refine wpAnyH_take (i := 12) rfl (by kernel_rfl) (by kernel_rfl) (by kernel_rfl) (fun _ _ _ h => h) (Or.inr ⟨by kernel_rfl, rfl⟩) (by assumption) ?_
          try simp only [Act.put, List.getElem_toArray, List.getElem_cons_succ, List.getElem_cons_zero, List.setIfInBounds_toArray, List.set_cons_zero, List.set_cons_succ]
          refine wpAnyH_take (i := 13) rfl (by kernel_rfl) (by kernel_rfl) (by kernel_rfl) (fun _ _ _ h => h) (Or.inr ⟨by kernel_rfl, rfl⟩) (by assumption) ?_
          try simp only [Act.put, List.getElem_toArray, List.getElem_cons_succ, List.getElem_cons_zero, List.setIfInBounds_toArray, List.set_cons_zero, List.set_cons_succ]
          refine wpAnyH_take (i := 14) rfl (by kernel_rfl) (by kernel_rfl) (by kernel_rfl) (fun _ _ _ h => h) (Or.inr ⟨by kernel_rfl, rfl⟩) (by assumption) ?_
          try simp only [Act.put, List.getElem_toArray, List.getElem_cons_succ, List.getElem_cons_zero, List.setIfInBounds_toArray, List.set_cons_zero, List.set_cons_succ]
          refine wpAnyH_take (i := 15) (v := ?vvA15) rfl (by kernel_rfl) (by kernel_rfl) (by kernel_rfl) (fun _ _ _ h => h) (Or.inl ⟨by rfl, ?hyA15⟩) (by assumption) ?rrA15
          case hyA15 =>
            intro W hS
            try dsimp only at hS
            go_simp
            try with_reducible rfl
          case rrA15 =>
          try simp only [Act.put, List.getElem_toArray, List.getElem_cons_succ, List.getElem_cons_zero, List.setIfInBounds_toArray, List.set_cons_zero, List.set_cons_succ]
          refine wpAnyH_take (i := 16) (v := ?vvA16) rfl (by kernel_rfl) (by kernel_rfl) (by kernel_rfl) (fun _ _ _ h => h) (Or.inl ⟨by rfl, ?hyA16⟩) (by assumption) ?rrA16
          case hyA16 =>
            intro W hS
            try dsimp only at hS
            go_simp
            try with_reducible rfl
          case rrA16 =>
          try simp only [Act.put, List.getElem_toArray, List.getElem_cons_succ, List.getElem_cons_zero, List.setIfInBounds_toArray, List.set_cons_zero, List.set_cons_succ]
          refine wpAnyH_ready (rs := [17]) (by kernel_rfl) (by simp) ?_
          refine AllReadyH.cons rfl (fun K hK => ?_) AllReadyH.nil
          go_simp
          refine hK.out _ _ (by ((refine ⟨?_, ?_, ?_, ?_, ?_⟩) <;> repeat' (first | (with_reducible exact x0) | (with_reducible exact x1) | (with_reducible exact x2) | (with_reducible exact x3) | (with_reducible exact d3) | (with_reducible refine lkeepS ?_ ?_ _) | (with_reducible refine lkeepD ?_) | omega))) (fun hHeld => ?_)
          clear hK K
          try simp only [Act.put, List.getElem_toArray, List.getElem_cons_succ, List.getElem_cons_zero, List.setIfInBounds_toArray, List.set_cons_zero, List.set_cons_succ]
          refine wpAnyH_take (i := 18) (v := ?vvA18) rfl (by kernel_rfl) (by kernel_rfl) (by kernel_rfl) (fun _ _ _ h => h) (Or.inl ⟨by rfl, ?hyA18⟩) (by assumption) ?rrA18
          case hyA18 =>
            intro W hS
            try dsimp only at hS
            go_simp
            try with_reducible rfl
          case rrA18 =>
          try simp only [Act.put, List.getElem_toArray, List.getElem_cons_succ, List.getElem_cons_zero, List.setIfInBounds_toArray, List.set_cons_zero, List.set_cons_succ]
          refine wpAnyH_done (by kernel_rfl) ?_ _
          refine NoPanic.normal ?_
          go_wp2_with fail
          refine bodyPost_ret (res_tok (by rfl) _ _ w.heap.size #[.int .i64 2, .string ⟨#[]⟩, .int .i64 (v : Nat), .int .i64 (p : Nat)] rfl (ltokZ (lblkD HB0.out) _ _ _ _) rfl) rfl ?_
          exact lnumber_post (D := n) (v := v) hi (by rw [HZ.out]; exact HC0.out) HDD.out HPP.out HVV.out.symm (by rw [HZ.out, decide_eq_true hv, decide_eq_false h48]; rfl) (by
            rw [HJ.out]
            repeat' (first | (with_reducible exact HL2.out) | (with_reducible refine LLeft.far ?_ hBw ?_ _) | (with_reducible refine LLeft.drewN ?_ _) | (with_reducible refine LLeft.drew ?_) | omega | (simp <;> omega)))
      · have gv : decide ((v : Int) ≤ 99) = false := decide_eq_false (by omega)
        refine wp_region_noPanic ?_
        refine wp_region_held_drew (S := (fun W : World => W.cell? ⟨w.heap.size + 1, 0, none⟩ = some (.int .i64 2) ∧ W.cell? ⟨w.heap.size + 1, 1, none⟩ = some (.string ⟨#[]⟩) ∧ W.cell? ⟨w.heap.size + 1, 2, none⟩ = some (.int .i64 (v : Nat)) ∧ W.cell? ⟨w.heap.size + 1, 3, none⟩ = some (.int .i64 (p : Nat)) ∧ W.cell? ⟨q, 3, none⟩ = some (.int .i64 (j : Nat)))) (by kernel_rfl) (by ((refine ⟨?_, ?_, ?_, ?_, ?_⟩) <;> repeat' (first | (with_reducible exact x0) | (with_reducible exact x1) | (with_reducible exact x2) | (with_reducible exact x3) | (with_reducible exact d3) | (with_reducible refine lkeepS ?_ ?_ _) | (with_reducible refine lkeepD ?_) | omega))) (fun hHeld => ?_)
        refine wpAnyH_take (i := 0) (v := ?vvB0) rfl (by kernel_rfl) (by kernel_rfl) (by kernel_rfl) (fun _ _ _ h => h) (Or.inl ⟨by rfl, ?hyB0⟩) (by assumption) ?rrB0
        case hyB0 =>
          intro W hS
          try dsimp only at hS
          go_simp
          try with_reducible rfl
        case rrB0 =>
        try simp only [Act.put, List.getElem_toArray, List.getElem_cons_zero, List.setIfInBounds_toArray, List.set_cons_zero, List.set_cons_succ]
        refine wpAnyH_take (i := 1) (v := ?vvB1) rfl (by kernel_rfl) (by kernel_rfl) (by kernel_rfl) (fun _ _ _ h => h) (Or.inl ⟨by rfl, ?hyB1⟩) (by assumption) ?rrB1
        case hyB1 =>
          intro W hS
          try dsimp only at hS
          go_simp
          try with_reducible rfl
        case rrB1 =>
        try simp only [Act.put, List.getElem_toArray, List.getElem_cons_succ, List.getElem_cons_zero, List.setIfInBounds_toArray, List.set_cons_zero, List.set_cons_succ]
        refine wpAnyH_take (i := 2) (v := ?vvB2) rfl (by kernel_rfl) (by kernel_rfl) (by kernel_rfl) (fun _ _ _ h => h) (Or.inl ⟨by rfl, ?hyB2⟩) (by assumption) ?rrB2
        case hyB2 =>
          intro W hS
          try dsimp only at hS
          go_simp
          try with_reducible rfl
        case rrB2 =>
        try simp only [Act.put, List.getElem_toArray, List.getElem_cons_succ, List.getElem_cons_zero, List.setIfInBounds_toArray, List.set_cons_zero, List.set_cons_succ]
        refine wpAnyH_take (i := 3) (v := ?vvB3) rfl (by kernel_rfl) (by kernel_rfl) (by kernel_rfl) (fun _ _ _ h => h) (Or.inl ⟨by rfl, ?hyB3⟩) (by assumption) ?rrB3
        case hyB3 =>
          intro W hS
          try dsimp only at hS
          go_simp
          try with_reducible rfl
        case rrB3 =>
        try simp only [Act.put, List.getElem_toArray, List.getElem_cons_succ, List.getElem_cons_zero, List.setIfInBounds_toArray, List.set_cons_zero, List.set_cons_succ]
        refine wpAnyH_take (i := 4) (v := ?vvB4) rfl (by kernel_rfl) (by kernel_rfl) (by kernel_rfl) (fun _ _ _ h => h) (Or.inl ⟨by rfl, ?hyB4⟩) (by assumption) ?rrB4
        case hyB4 =>
          intro W hS
          try dsimp only at hS
          go_simp
          try with_reducible rfl
        case rrB4 =>
        try simp only [Act.put, List.getElem_toArray, List.getElem_cons_succ, List.getElem_cons_zero, List.setIfInBounds_toArray, List.set_cons_zero, List.set_cons_succ]
        refine wpAnyH_take (i := 5) rfl (by kernel_rfl) (by kernel_rfl) (by kernel_rfl) (fun _ _ _ h => h) (Or.inr ⟨by kernel_rfl, rfl⟩) (by assumption) ?_
        try simp only [Act.put, List.getElem_toArray, List.getElem_cons_succ, List.getElem_cons_zero, List.setIfInBounds_toArray, List.set_cons_zero, List.set_cons_succ]
        refine wpAnyH_take (i := 6) rfl (by kernel_rfl) (by kernel_rfl) (by kernel_rfl) (fun _ _ _ h => h) (Or.inr ⟨by kernel_rfl, rfl⟩) (by assumption) ?_
        try simp only [Act.put, List.getElem_toArray, List.getElem_cons_succ, List.getElem_cons_zero, List.setIfInBounds_toArray, List.set_cons_zero, List.set_cons_succ]
        refine wpAnyH_take (i := 7) rfl (by kernel_rfl) (by kernel_rfl) (by kernel_rfl) (fun _ _ _ h => h) (Or.inr ⟨by kernel_rfl, rfl⟩) (by assumption) ?_
        try simp only [Act.put, List.getElem_toArray, List.getElem_cons_succ, List.getElem_cons_zero, List.setIfInBounds_toArray, List.set_cons_zero, List.set_cons_succ]
        refine wpAnyH_take (i := 8) rfl (by kernel_rfl) (by kernel_rfl) (by kernel_rfl) (fun _ _ _ h => h) (Or.inr ⟨by kernel_rfl, rfl⟩) (by assumption) ?_
        try simp only [Act.put, List.getElem_toArray, List.getElem_cons_succ, List.getElem_cons_zero, List.setIfInBounds_toArray, List.set_cons_zero, List.set_cons_succ]
        refine wpAnyH_take (i := 9) rfl (by kernel_rfl) (by kernel_rfl) (by kernel_rfl) (fun _ _ _ h => h) (Or.inr ⟨by kernel_rfl, rfl⟩) (by assumption) ?_
        try simp only [Act.put, List.getElem_toArray, List.getElem_cons_succ, List.getElem_cons_zero, List.setIfInBounds_toArray, List.set_cons_zero, List.set_cons_succ]
        refine wpAnyH_take (i := 10) rfl (by kernel_rfl) (by kernel_rfl) (by kernel_rfl) (fun _ _ _ h => h) (Or.inr ⟨by kernel_rfl, rfl⟩) (by assumption) ?_
        try simp only [Act.put, List.getElem_toArray, List.getElem_cons_succ, List.getElem_cons_zero, List.setIfInBounds_toArray, List.set_cons_zero, List.set_cons_succ]
        refine wpAnyH_take (i := 11) rfl (by kernel_rfl) (by kernel_rfl) (by kernel_rfl) (fun _ _ _ h => h) (Or.inr ⟨by kernel_rfl, rfl⟩) (by assumption) ?_
        try simp only [Act.put, List.getElem_toArray, List.getElem_cons_succ, List.getElem_cons_zero, List.setIfInBounds_toArray, List.set_cons_zero, List.set_cons_succ]
        refine wpAnyH_take (i := 12) rfl (by kernel_rfl) (by kernel_rfl) (by kernel_rfl) (fun _ _ _ h => h) (Or.inr ⟨by kernel_rfl, rfl⟩) (by assumption) ?_
        try simp only [Act.put, List.getElem_toArray, List.getElem_cons_succ, List.getElem_cons_zero, List.setIfInBounds_toArray, List.set_cons_zero, List.set_cons_succ]
        refine wpAnyH_take (i := 13) rfl (by kernel_rfl) (by kernel_rfl) (by kernel_rfl) (fun _ _ _ h => h) (Or.inr ⟨by kernel_rfl, rfl⟩) (by assumption) ?_
        try simp only [Act.put, List.getElem_toArray, List.getElem_cons_succ, List.getElem_cons_zero, List.setIfInBounds_toArray, List.set_cons_zero, List.set_cons_succ]
        refine wpAnyH_take (i := 14) rfl (by kernel_rfl) (by kernel_rfl) (by kernel_rfl) (fun _ _ _ h => h) (Or.inr ⟨by kernel_rfl, rfl⟩) (by assumption) ?_
        try simp only [Act.put, List.getElem_toArray, List.getElem_cons_succ, List.getElem_cons_zero, List.setIfInBounds_toArray, List.set_cons_zero, List.set_cons_succ]
        refine wpAnyH_take (i := 15) rfl (by kernel_rfl) (by kernel_rfl) (by kernel_rfl) (fun _ _ _ h => h) (Or.inr ⟨by kernel_rfl, rfl⟩) (by assumption) ?_
        try simp only [Act.put, List.getElem_toArray, List.getElem_cons_succ, List.getElem_cons_zero, List.setIfInBounds_toArray, List.set_cons_zero, List.set_cons_succ]
        refine wpAnyH_take (i := 16) (v := ?vvB16) rfl (by kernel_rfl) (by kernel_rfl) (by kernel_rfl) (fun _ _ _ h => h) (Or.inl ⟨by rfl, ?hyB16⟩) (by assumption) ?rrB16
        case hyB16 =>
          intro W hS
          try dsimp only at hS
          go_simp
          try with_reducible rfl
        case rrB16 =>
        try simp only [Act.put, List.getElem_toArray, List.getElem_cons_succ, List.getElem_cons_zero, List.setIfInBounds_toArray, List.set_cons_zero, List.set_cons_succ]
        refine wpAnyH_ready (rs := [17]) (by kernel_rfl) (by simp) ?_
        refine AllReadyH.cons rfl (fun K hK => ?_) AllReadyH.nil
        go_simp
        refine hK.out _ _ (by ((refine ⟨?_, ?_, ?_, ?_, ?_⟩) <;> repeat' (first | (with_reducible exact x0) | (with_reducible exact x1) | (with_reducible exact x2) | (with_reducible exact x3) | (with_reducible exact d3) | (with_reducible refine lkeepS ?_ ?_ _) | (with_reducible refine lkeepD ?_) | omega))) (fun hHeld => ?_)
        clear hK K
        try simp only [Act.put, List.getElem_toArray, List.getElem_cons_succ, List.getElem_cons_zero, List.setIfInBounds_toArray, List.set_cons_zero, List.set_cons_succ]
        refine wpAnyH_take (i := 18) (v := ?vvB18) rfl (by kernel_rfl) (by kernel_rfl) (by kernel_rfl) (fun _ _ _ h => h) (Or.inl ⟨by rfl, ?hyB18⟩) (by assumption) ?rrB18
        case hyB18 =>
          intro W hS
          try dsimp only at hS
          go_simp
          try with_reducible rfl
        case rrB18 =>
        try simp only [Act.put, List.getElem_toArray, List.getElem_cons_succ, List.getElem_cons_zero, List.setIfInBounds_toArray, List.set_cons_zero, List.set_cons_succ]
        refine wpAnyH_done (by kernel_rfl) ?_ _
        refine NoPanic.normal ?_
        go_wp2_with fail
        refine bodyPost_ret (res_tok (by rfl) _ _ w.heap.size #[.int .i64 2, .string ⟨#[]⟩, .int .i64 (v : Nat), .int .i64 (p : Nat)] rfl (ltokZ (lblkD HB0.out) _ _ _ _) rfl) rfl ?_
        exact lnumber_post (D := n) (v := v) hi (by rw [HZ.out]; exact HC0.out) HDD.out HPP.out HVV.out.symm (by rw [decide_eq_false hv]; rfl) (by
          rw [HJ.out]
          repeat' (first | (with_reducible exact HL2.out) | (with_reducible refine LLeft.far ?_ hBw ?_ _) | (with_reducible refine LLeft.drewN ?_ _) | (with_reducible refine LLeft.drew ?_) | omega | (simp <;> omega)))
end Go.Proofs.YteikakoheibnjaaGreatDoor
