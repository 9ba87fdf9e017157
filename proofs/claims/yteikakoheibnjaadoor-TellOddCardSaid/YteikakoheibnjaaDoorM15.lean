/- Parts of the proof: Number. -/
import Derived.Test.YteikakoheibnjaaDoorM13
namespace Go.Proofs.YteikakoheibnjaaDoor
open Go Go.RowKit

theorem tw_dig {R : List Ru} {j : Nat} (h : j < R.length) (hm : digit R[j] = true) : ((R.drop j).takeWhile digit).length = ((R.drop (j + 1)).takeWhile digit).length + 1 := by
  rw [List.drop_eq_getElem_cons h, List.takeWhile_cons, if_pos hm]
  rfl
theorem tw_dstop {R : List Ru} {j : Nat} (h : ∀ hj : j < R.length, digit (R[j]'hj) = false) : ((R.drop j).takeWhile digit).length = 0 := by
  by_cases hj : j < R.length
  · rw [List.drop_eq_getElem_cons hj, List.takeWhile_cons, if_neg (by rw [h hj]; decide)]
    rfl
  · rw [List.drop_eq_nil_of_le (by omega)]
    rfl
theorem tw_take {α : Type} (p : α → Bool) : ∀ l : List α, l.takeWhile p = l.take (l.takeWhile p).length
  | [] => rfl
  | x :: r => by
    rw [List.takeWhile_cons]
    split
    · have := tw_take p r
      simp only [List.length_cons, List.take_succ_cons]
      rw [← this]
    · rfl
theorem numVal_snoc (l : List Ru) (r : Ru) : numVal (l ++ [r]) = numStep (numVal l) r := by
  unfold numVal
  rw [List.foldl_append]
  rfl
theorem numVal_le (l : List Ru) : numVal l ≤ 1000 := by
  rcases List.eq_nil_or_concat l with rfl | ⟨l', r, rfl⟩
  · decide
  · rw [List.concat_eq_append, numVal_snoc]
    unfold numStep
    omega
theorem cls_digit {r : Nat} (h : cls r = 2) : 48 ≤ r ∧ r ≤ 57 := by
  unfold cls at h
  split at h
  · cases h
  · split at h
    · next h2 => exact h2
    · split at h
      · cases h
      · split at h <;> cases h
theorem number_post {w w' : World} {B q : Nat} {S : ByteArray} {R : List Ru} {A : Option Addr} {c : Nat} {bad : Int} {i D v p : Nat} {b : Bool} (hi : i < R.length) (hc : cls R[i].1 = 2) (hD : ((R.drop i).takeWhile digit).length = D) (hp : posn R i = p)
    (hv : v = numVal ((R.drop i).take D)) (hb : b = (decide (v ≤ 99) && !(decide (R[i].1 = 48) && decide (1 < D)))) (hL : Left w B q S R A c bad (i + D) w') :
    TokPost w B q S R A c bad i (.returned (.tuple #[.agg #[.int .i64 2, .string ⟨#[]⟩, .int .i64 v, .int .i64 p], .bool b])) w' := by
  subst hD hp
  rw [← tw_take] at hv
  subst hv
  have e : R.drop i = R[i] :: R.drop (i + 1) := List.drop_eq_getElem_cons hi
  have ht : tokR (posn R i) (R.drop i) = if numVal ((R.drop i).takeWhile digit) ≤ 99 ∧ ¬ (R[i].1 = 48 ∧ 1 < ((R.drop i).takeWhile digit).length) then some (⟨2, [], numVal ((R.drop i).takeWhile digit), posn R i⟩, ((R.drop i).takeWhile digit).length) else none := by
    rw [e]
    unfold tokR
    exact (if_neg (by rw [hc]; decide)).trans (if_pos hc)
  unfold TokPost
  by_cases h12 : numVal ((R.drop i).takeWhile digit) ≤ 99 ∧ ¬ (R[i].1 = 48 ∧ 1 < ((R.drop i).takeWhile digit).length)
  · rw [if_pos h12] at ht
    refine Or.inl ⟨_, _, ht, ?_, hL⟩
    have : b = true := by
      rw [hb, decide_eq_true h12.1, ← Bool.not_eq_false]
      intro h
      simp only [Bool.true_and, Bool.not_eq_false', Bool.and_eq_true, decide_eq_true_eq] at h
      exact h12.2 h
    rw [this]
    rfl
  · rw [if_neg h12] at ht
    refine Or.inr ⟨ht, ⟨2, [], numVal ((R.drop i).takeWhile digit), posn R i⟩, _, ?_, hL⟩
    have : b = false := by
      rw [hb, ← Bool.not_eq_true]
      intro h
      simp only [Bool.and_eq_true, decide_eq_true_eq, Bool.not_eq_true', Bool.and_eq_false_iff, decide_eq_false_iff_not] at h
      refine h12 ⟨h.1, ?_⟩
      rintro ⟨x, y⟩
      rcases h.2 with h | h
      · exact h x
      · exact h y
    rw [this]
    rfl

theorem BlkL (w : World) (cs : Array Value) (o : Obj) (n : Nat) : Blk (((w.alloc o).alloc (.cells cs 80)).drewN n) (w.heap.size + 1) 80 cs := by
  have := heap_alloc_new (w.alloc o) (.cells cs 80)
  rw [World.size_alloc] at this
  exact this
theorem Left.drew_ {w W : World} {B q : Nat} {S : ByteArray} {R : List Ru} {A : Option Addr} {c : Nat} {bad : Int} {i : Nat} (h : Left w B q S R A c bad i W) : Left w B q S R A c bad i W.drew := h.drewN 1
set_option maxRecDepth 100000 in
set_option maxHeartbeats 8000000 in
theorem number_any {w : World} {B q : Nat} {S : ByteArray} {R : List Ru} {A : Option Addr} {c : Nat} {bad : Int} {i : Nat} (h : Rd w B q S R A c bad i) (hi : i < R.length) (hc : cls R[i].1 = 2) (hBw : B ≤ w.heap.size) :
    Calls Tryd.prog 94 #[.pointer (some ⟨q, 0, none⟩)] w (TokPost w B q S R A c bad i) := by
  have hl := h.len
  have hql := h.blk.lt
  have hqB := h.qlt
  have HR0 := Lib.hid h
  have HC0 := Lib.hid hc
  have hi2 : i ≤ 2000 := by omega
  have HAT0 := Lib.hid (fun W (hW : Rd W B q S R A c bad i) => rdat_zero hW hi2)
  rw [show atAt R S.size i = posn R i by unfold atAt; rw [if_pos hi]] at HAT0
  have HIS0 := Lib.hid (fun W (hW : Rd W B q S R A c bad i) => rdis_zero hW 48 hi2)
  rw [show isAt R i 48 = decide (R[i].1 = 48) by unfold isAt; rw [dif_pos hi]; rw [Bool.eq_iff_iff, beq_iff_eq, decide_eq_true_eq]] at HIS0
  have HD0 := Lib.hid (rfl : ((R.drop i).takeWhile digit).length = ((R.drop i).takeWhile digit).length)
  have hDle : ((R.drop i).takeWhile digit).length ≤ R.length - i := by have := takeWhile_le digit (R.drop i); simp at this; omega
  clear h hc
  generalize hD : ((R.drop i).takeWhile digit).length = D at *
  have HDD := Lib.hid hD
  clear hD HD0
  generalize hPP : posn R i = p at *
  have HPP := Lib.hid hPP
  clear hPP
  generalize hZ : decide (R[i].1 = 48) = z at *
  have HZ := Lib.hid hZ
  clear hZ
  go_enter Tryd.func94, Tryd.ntmps94
  go_wp2_with (first
    | (
      go_at_call 70
      refine (HAT0.out _ (HR0.out.alloc _)).mono ?_
      rintro e w2 ⟨rfl, n3, rfl⟩
      try simp only)
    | (
      go_at_call 92
      refine (HIS0.out _ (((HR0.out.alloc _).alloc _).drewN _)).mono ?_
      rintro e w2 ⟨rfl, n4, rfl⟩
      try simp only [World.drewN_drewN]))
  cases z
  all_goals
    go_loopg [6] D (fun g nv wr => ∃ n : Nat, n ≤ D ∧ g = D - n ∧ nv = .int .i64 (n : Int) ∧ Hid (D = n + ((R.drop (i + n)).takeWhile digit).length) ∧ Hid (Left w B q S R A c bad i wr) ∧
      Hid (Blk wr (w.heap.size + 1) 80 #[.int .i64 2, .string ⟨#[]⟩, .int .i64 (numVal ((R.drop i).take n) : Nat), .int .i64 (p : Nat)]) ∧ Hid (Blk wr w.heap.size 80 #[.int .i64 0, .string ⟨#[]⟩, .int .i64 0, .int .i64 0]) ∧ w.heap.size + 1 < wr.heap.size)
    case atStart => exact ⟨0, Nat.zero_le _, rfl, rfl, Lib.hid (by rw [Nat.zero_add]; exact HDD.out.symm), Lib.hid (by repeat' (first | (with_reducible exact Left.refl HR0.out) | (with_reducible exact HL.out) | (with_reducible refine Left.to (i := i) ?_ _ _ ?_) | (with_reducible refine Left.drewN ?_ _) | (with_reducible refine Left.drew_ ?_) | (with_reducible refine Left.alloc ?_ _) | (with_reducible refine Left.far ?_ hBw ?_ _) | omega | (simp <;> omega))), Lib.hid (BlkL w _ _ _), Lib.hid (BlkN w _ _ _), by simp⟩
    case round =>
      obtain ⟨n, hn, hg, rfl, HN, HL, HT1, HT0, hsz⟩ := hrel
      have HG := Lib.hid hg
      clear hg
      have hn2 : n ≤ 2000 := by omega
      have hNV := numVal_le ((R.drop i).take n)
      have HCL := Lib.hid (fun W (hW : Rd W B q S R A c bad i) => class_any hW n hi2 hn2)
      by_cases hlt : n < D
      · have hj : i + n < R.length := by omega
        have hdg : digit R[i + n] = true := by
          cases e : digit R[i + n] with
          | true => rfl
          | false =>
            have h1 := HN.out
            rw [tw_dstop (fun _ => e)] at h1
            omega
        have HT := Lib.hid (tw_dig hj hdg)
        have h2 : cls R[i + n].1 = 2 := by unfold digit at hdg; exact eq_of_beq hdg
        rw [show clsAt R (i + n) = 2 by unfold clsAt; rw [dif_pos hj, h2]; rfl] at HCL
        obtain ⟨hr1, hr2⟩ := cls_digit h2
        have HV := Lib.hid (show numVal ((R.drop i).take (n + 1)) = numStep (numVal ((R.drop i).take n)) R[i + n] by
          rw [List.take_succ_eq_append_getElem (by simp; omega), numVal_snoc]
          simp)
        unfold numStep at HV
        obtain ⟨g, ea, hg, _, h5, h6⟩ := HL.out.2.runes _ hj
        clear hdg h2
        subst ea
        generalize numVal ((R.drop i).take n) = v at *
        generalize R[i + n].1 = r at *
        have hp0 : (0 : Int) ≤ (i : Int) + (n : Int) := by omega
        have hp1 : (i : Int) + (n : Int) < (R.length : Int) := by omega
        go_wp2_with (
          go_at_call 91
          refine (HCL.out _ HL.out.2).mono ?_
          rintro e w2 ⟨rfl, n1, rfl⟩)
        generalize hW : wr.drewN n1 = W1
        have h5' : W1.cell? ⟨g, (i + n) * 2, none⟩ = some (.int .i32 (r : Nat)) := by rw [← hW]; exact h5
        have hW1 : Blk W1 (w.heap.size + 1) 80 #[.int .i64 2, .string ⟨#[]⟩, .int .i64 (v : Nat), .int .i64 (p : Nat)] := by rw [← hW]; exact HT1.out
        have hW0 : Blk W1 w.heap.size 80 #[.int .i64 0, .string ⟨#[]⟩, .int .i64 0, .int .i64 0] := by rw [← hW]; exact HT0.out
        have hLW : Left w B q S R (some ⟨g, 0, none⟩) c bad i W1 := by rw [← hW]; exact HL.out.drewN n1
        have hszW : w.heap.size + 1 < W1.heap.size := by rw [← hW]; exact hsz
        obtain ⟨c0, c1, c2, c3⟩ := hLW.2.cells
        have f3 := hLW.2.blk.frozen 3
        have d2 := hW1.cell 2
        have e2 := hW1.frozen 2
        simp only [List.getElem?_toArray, List.getElem?_cons_zero, List.getElem?_cons_succ] at d2
        have HW1 := Lib.hid hW1
        have HW0 := Lib.hid hW0
        have HLW := Lib.hid hLW
        clear hW hW1 hW0 hLW
        clear h5 h6
        have q1 : IntKind.i64.wrap (10 * (v : Int)) = 10 * (v : Int) := IntWalk.i64_in _ ⟨by omega, by omega⟩
        have q2 : IntKind.i64.wrap ((i : Int) + (n : Int)) = (i : Int) + (n : Int) := IntWalk.i64_in _ ⟨by omega, by omega⟩
        have q3 : IntKind.i32.wrap ((r : Int) - 48) = (r : Int) - 48 := IntWalk.i32_in _ ⟨by omega, by omega⟩
        have q4 : IntKind.i64.wrap ((r : Int) - 48) = (r : Int) - 48 := IntWalk.i64_in _ ⟨by omega, by omega⟩
        have q5 : IntKind.i64.wrap (10 * (v : Int) + ((r : Int) - 48)) = 10 * (v : Int) + ((r : Int) - 48) := IntWalk.i64_in _ ⟨by omega, by omega⟩
        have q6 : ((i : Int) + (n : Int)).toNat = i + n := by omega
        go_still_tail 21, (by kernel_rfl)
        clear q1 q2 q3 q4 q5 q6
        change wpList _ _ _ _ _ W1.drew
        go_wp2_with fail
        go_roundg (D - (n + 1))
        case measure => have := HG.out; omega
        case rel =>
          refine ⟨n + 1, by omega, rfl, by go_num, Lib.hid (by rw [HN.out, HT.out, show i + (n + 1) = i + n + 1 by omega]; omega), Lib.hid (by repeat' (first | (with_reducible exact HLW.out) | (with_reducible refine Left.drew_ ?_) | (with_reducible refine Left.far ?_ hBw ?_ _) | omega | (simp <;> omega))), Lib.hid ?_, Lib.hid ?_, by simpa [World.setCell] using hszW⟩
          · rw [HV.out]
            have e : (((min (10 * v + (r - 48)) 1000 : Nat) : Nat) : Int) = min (10 * (v : Int) + ((r : Int) - 48)) 1000 := by omega
            rw [e]
            have := HW1.out.set_ 2 (.int .i64 (min (10 * (v : Int) + ((r : Int) - 48)) 1000))
            show Blk (W1.setCell _ _) _ _ _
            simpa using this
          · exact Blk.other (show Blk W1.drew w.heap.size 80 _ from HW0.out) (by simp) _
      · obtain rfl : n = D := by omega
        have hcv : ((clsAt R (i + n)) == 2) = false := by
          unfold clsAt
          split
          · next hj =>
            rw [beq_eq_false_iff_ne]
            intro e
            have h1 := HN.out
            rw [tw_dig hj (by unfold digit; rw [beq_iff_eq]; omega)] at h1
            omega
          · rfl
        have HNV := Lib.hid (show numVal ((R.drop i).take n) = numVal ((R.drop i).take n) from rfl)
        generalize hvv : numVal ((R.drop i).take n) = v at *
        have HVV := Lib.hid hvv
        clear hvv HNV
        generalize clsAt R (i + n) = V at *
        obtain ⟨c0, c1, c2, c3⟩ := HL.out.2.cells
        have f3 := HL.out.2.blk.frozen 3
        have d0 := HT1.out.cell 0
        have d1 := HT1.out.cell 1
        have d2 := HT1.out.cell 2
        have d3 := HT1.out.cell 3
        have r0 := HT0.out.cell 0
        have r1 := HT0.out.cell 1
        have r2 := HT0.out.cell 2
        have r3 := HT0.out.cell 3
        have s0 := HT0.out.frozen 0
        have s1 := HT0.out.frozen 1
        have s2 := HT0.out.frozen 2
        have s3 := HT0.out.frozen 3
        simp only [List.getElem?_toArray, List.getElem?_cons_zero, List.getElem?_cons_succ] at d0 d1 d2 d3 r0 r1 r2 r3
        have HE := Lib.hid (show decide ((1 : Int) < (n : Int)) = decide (1 < n) by rw [decide_eq_decide]; omega)
        by_cases hv : v ≤ 99
        · have gv : decide ((v : Int) ≤ 99) = true := decide_eq_true (by omega)
          go_wp2_with (
            go_at_call 91
            refine (HCL.out _ HL.out.2).mono ?_
            rintro e w2 ⟨rfl, n1, rfl⟩)
          refine bodyPost_ret (res_tok (by rfl) _ _ w.heap.size #[.int .i64 2, .string ⟨#[]⟩, .int .i64 (v : Nat), .int .i64 (p : Nat)] rfl (tok4 (Blk.other (show Blk (wr.drewN n1) w.heap.size 80 _ from HT0.out) (by simp <;> omega) _) _ _ _ _) rfl) rfl ?_
          exact number_post (D := n) (v := v) hi HC0.out HDD.out HPP.out HVV.out.symm (by rw [HZ.out, decide_eq_true hv]; first | rfl | (simp; done) | (rw [← HE.out]; simp)) (by repeat' (first | (with_reducible exact HL.out) | (with_reducible refine Left.to (i := i) ?_ _ _ ?_) | (with_reducible refine Left.drewN ?_ _) | (with_reducible refine Left.far ?_ hBw ?_ _) | omega | (simp <;> omega)))
        · have gv : decide ((v : Int) ≤ 99) = false := decide_eq_false (by omega)
          go_wp2_with (
            go_at_call 91
            refine (HCL.out _ HL.out.2).mono ?_
            rintro e w2 ⟨rfl, n1, rfl⟩)
          refine bodyPost_ret (res_tok (by rfl) _ _ w.heap.size #[.int .i64 2, .string ⟨#[]⟩, .int .i64 (v : Nat), .int .i64 (p : Nat)] rfl (tok4 (Blk.other (show Blk (wr.drewN n1) w.heap.size 80 _ from HT0.out) (by simp <;> omega) _) _ _ _ _) rfl) rfl ?_
          exact number_post (D := n) (v := v) hi HC0.out HDD.out HPP.out HVV.out.symm (by rw [HZ.out, decide_eq_false hv]; first | rfl | (simp; done) | (rw [← HE.out]; simp)) (by repeat' (first | (with_reducible exact HL.out) | (with_reducible refine Left.to (i := i) ?_ _ _ ?_) | (with_reducible refine Left.drewN ?_ _) | (with_reducible refine Left.far ?_ hBw ?_ _) | omega | (simp <;> omega)))
end Go.Proofs.YteikakoheibnjaaDoor
