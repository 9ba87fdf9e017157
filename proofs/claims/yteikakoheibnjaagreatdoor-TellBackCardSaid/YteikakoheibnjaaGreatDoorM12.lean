/- Parts of the proof: Name. -/
import Derived.Deep.CutRange
import Derived.Deep.RegionHeld3
import Derived.Laws.ResultCell
import Derived.StillTailTactics
import Derived.Test.YteikakoheibnjaaGreatDoorM2
import Derived.Test.YteikakoheibnjaaGreatDoorM9
namespace Go.Proofs.YteikakoheibnjaaGreatDoor
open Go Go.RowKit

theorem bcell {W w1 : World} (hb : Below W.heap.size W w1) : (∀ b o, b < W.heap.size → w1.cell? ⟨b, o, none⟩ = W.cell? ⟨b, o, none⟩) ∧ (∀ b o, b < W.heap.size → w1.frozen? ⟨b, o, none⟩ = W.frozen? ⟨b, o, none⟩) :=
  ⟨fun b o h => hb.cell (p := ⟨b, o, none⟩) h, fun b o h => hb.frozen (p := ⟨b, o, none⟩) h⟩
/-- The runes are the text's: behind them lies nothing, or what begins none. -/
def Src (S : ByteArray) (R : List Ru) (bad : Int) : Prop := ∃ rest, S.data.toList = flat R ++ rest ∧ ((bad = -1 ∧ rest = []) ∨ bad = ((flat R).length : Nat))
/-- A block of the call's own, with one more behind, and draws. -/
theorem BlkN (w : World) (cs : Array Value) (o : Obj) (n : Nat) : Blk (((w.alloc (.cells cs 78)).alloc o).drewN n) w.heap.size 78 cs :=
  (Below.heap_alloc (w.alloc (.cells cs 78)) o w.heap.size (by simp)).trans (heap_alloc_new w _)
theorem posn_le (R : List Ru) (i j : Nat) (h : i ≤ j) : posn R i ≤ posn R j := by
  unfold posn
  obtain ⟨d, rfl⟩ := Nat.exists_eq_add_of_le h
  rw [List.take_add, flat_app, List.length_append]
  omega
theorem posn_all (R : List Ru) (i : Nat) : posn R i ≤ (flat R).length := by
  have := posn_le R i (max i R.length) (by omega)
  unfold posn at this ⊢
  rw [List.take_of_length_le (l := R) (i := max i R.length) (by omega)] at this
  exact this
theorem src_size {S : ByteArray} {R : List Ru} {bad : Int} (h : Src S R bad) : (flat R).length ≤ S.size ∧ (bad = -1 → S.size = (flat R).length) := by
  obtain ⟨rest, e, hb⟩ := h
  have hs : S.size = (flat R).length + rest.length := by
    rw [← List.length_append, ← e, Array.length_toList]
    rfl
  refine ⟨by omega, fun hb1 => ?_⟩
  rcases hb with ⟨_, hr⟩ | hb
  · rw [hr] at hs
    simpa using hs
  · omega
theorem drop_flat (R : List Ru) (i : Nat) : (flat R).drop (posn R i) = flat (R.drop i) := by
  have h : flat R = flat (R.take i) ++ flat (R.drop i) := by rw [← flat_app, List.take_append_drop]
  unfold posn
  rw [h, List.drop_left]
theorem src_text {S : ByteArray} {R : List Ru} {bad : Int} (h : Src S R bad) (i n : Nat) : S.extract (posn R i) (posn R (i + n)) = ⟨(flat ((R.drop i).take n)).toArray⟩ := by
  obtain ⟨rest, e, _⟩ := h
  refine bytes_of ?_
  rw [Lib.extract_data, e]
  have h1 := posn_all R i
  have h2 : posn R (i + n) - posn R i = (flat ((R.drop i).take n)).length := by
    unfold posn
    rw [List.take_add, flat_app, List.length_append]
    omega
  rw [List.drop_append_of_le_length h1, drop_flat, h2]
  have h3 : flat (R.drop i) = flat ((R.drop i).take n) ++ flat ((R.drop i).drop n) := by rw [← flat_app, List.take_append_drop]
  rw [h3, List.append_assoc, List.take_left']
  rfl
theorem nameLen_drop {R : List Ru} {i : Nat} (h : i < R.length) : nameLen (R.drop i) = ((R.drop (i + 1)).takeWhile more).length + 1 := by
  rw [List.drop_eq_getElem_cons h]
  rfl
theorem tw_more {R : List Ru} {j : Nat} (h : j < R.length) (hm : more R[j] = true) : ((R.drop j).takeWhile more).length = ((R.drop (j + 1)).takeWhile more).length + 1 := by
  rw [List.drop_eq_getElem_cons h, List.takeWhile_cons, if_pos hm]
  rfl
theorem tw_stop {R : List Ru} {j : Nat} (h : ∀ hj : j < R.length, more (R[j]'hj) = false) : ((R.drop j).takeWhile more).length = 0 := by
  by_cases hj : j < R.length
  · rw [List.drop_eq_getElem_cons hj, List.takeWhile_cons, if_neg (by rw [h hj]; decide)]
    rfl
  · rw [List.drop_eq_nil_of_le (by omega)]
    rfl
theorem cls_39 : cls 39 = 4 := by decide
theorem inf_tok : (Tryz.prog.info? 78).map (fun i => (i.zero, i.size, i.bytes)) = some (some (.agg #[.int .i64 0, .string ⟨#[]⟩, .int .i64 0, .int .i64 0]), 4, 40) := by kernel_rfl

theorem name_post {w w' : World} {B q : Nat} {S : ByteArray} {R : List Ru} {A : Option Addr} {c : Nat} {bad : Int} {i N : Nat} {b : Bool} {k : Nat} {p : Nat} {X : ByteArray} (hi : i < R.length) (hc : cls R[i].1 = 1) (hN : nameLen (R.drop i) = N) (hp : posn R i = p)
    (hX : X = ⟨(flat ((R.drop i).take N)).toArray⟩) (hk : k = if flat ((R.drop i).take N) ∈ wordL then 3 else 1) (hb : b = decide (N ≤ 12)) (hL : Left w B q S R A c bad (i + N) w') :
    TokPost w B q S R A c bad i (.returned (.tuple #[.agg #[.int .i64 k, .string X, .int .i64 0, .int .i64 p], .bool b])) w' := by
  subst hN hp hX hk hb
  have e : R.drop i = R[i] :: R.drop (i + 1) := List.drop_eq_getElem_cons hi
  unfold TokPost
  have ht : tokR (posn R i) (R.drop i) = if nameLen (R.drop i) ≤ 12 then some (⟨if flat ((R.drop i).take (nameLen (R.drop i))) ∈ wordL then 3 else 1, flat ((R.drop i).take (nameLen (R.drop i))), 0, posn R i⟩, nameLen (R.drop i)) else none := by
    rw [e]
    unfold tokR
    exact if_pos hc
  by_cases h12 : nameLen (R.drop i) ≤ 12
  · rw [if_pos h12] at ht
    exact Or.inl ⟨_, _, ht, by rw [decide_eq_true h12]; rfl, hL⟩
  · rw [if_neg h12] at ht
    exact Or.inr ⟨ht, ⟨if flat ((R.drop i).take (nameLen (R.drop i))) ∈ wordL then 3 else 1, flat ((R.drop i).take (nameLen (R.drop i))), 0, posn R i⟩, _, by rw [decide_eq_false h12]; rfl, hL⟩
set_option maxRecDepth 100000 in
set_option maxHeartbeats 8000000 in
theorem name_any {w : World} {B q : Nat} {S : ByteArray} {R : List Ru} {A : Option Addr} {c : Nat} {bad : Int} {i : Nat} (h : Rd w B q S R A c bad i) (hs : Src S R bad) (hi : i < R.length) (hc : cls R[i].1 = 1) (_hS : S.size ≤ 2000) (hBw : B ≤ w.heap.size) :
    Calls Tryz.prog 109 #[.pointer (some ⟨q, 0, none⟩)] w (TokPost w B q S R A c bad i) := by
  have hl := h.len
  have hql := h.blk.lt
  obtain ⟨c0, c1, c2, c3⟩ := h.cells
  have f3 := h.blk.frozen 3
  have HR0 := Lib.hid h
  have HSR := Lib.hid hs
  have HNL := Lib.hid (nameLen_drop hi)
  have HC0 := Lib.hid hc
  clear h hs hc
  generalize hN : nameLen (R.drop i) = N at *
  have HNN := Lib.hid hN
  clear hN
  go_enter Tryz.func109, Tryz.ntmps109
  go_wp2_with fail
  go_loopg [4] (R.length - i) (fun g nv wr => ∃ n m : Nat, i + n ≤ R.length ∧ g = R.length - (i + n) ∧ nv = .int .i64 (n : Int) ∧ Hid (n = 0 ∨ N = n + ((R.drop (i + n)).takeWhile more).length) ∧ wr = (w.alloc (.cells #[.int .i64 0, .string ⟨#[]⟩, .int .i64 0, .int .i64 0] 78)).drewN m)
  case atStart => exact ⟨0, 0, by omega, rfl, rfl, Lib.hid (Or.inl rfl), rfl⟩
  case round =>
    obtain ⟨n, m, hn, hg, rfl, HN, rfl⟩ := hrel
    have HG := Lib.hid hg
    have hi2 : i ≤ 2000 := by omega
    have hn2 : n ≤ 2000 := by omega
    clear hg
    have HCL := Lib.hid (fun W (hW : Rd W B q S R A c bad i) => class_any hW n hi2 hn2)
    have HIS := Lib.hid (fun W (hW : Rd W B q S R A c bad i) => rdis_any hW n 39 hi2 hn2)
    have HRW := Lib.hid (fun k => (HR0.out.alloc (.cells #[.int .i64 0, .string ⟨#[]⟩, .int .i64 0, .int .i64 0] 78)).drewN k)
    by_cases hlt : i + n < R.length
    · by_cases hm : more R[i + n] = true
      · have HT := Lib.hid (tw_more hlt hm)
        have hcv : clsAt R (i + n) = (cls R[i + n].1 : Nat) := by unfold clsAt; rw [dif_pos hlt]
        have hiv : isAt R (i + n) 39 = (R[i + n].1 == 39) := by unfold isAt; rw [dif_pos hlt]
        rw [hcv] at HCL
        rw [hiv] at HIS
        clear hcv hiv
        by_cases h1 : cls R[i + n].1 = 1
        · rw [h1] at HCL
          clear hm h1
          go_wp2_with (first
            | (
              go_at_call 107
              refine (HCL.out _ (HRW.out _)).mono ?_
              rintro e w2 ⟨rfl, n1, rfl⟩
              try simp only [World.drewN_drewN])
            | (
              go_at_call 108
              refine (HIS.out _ (HRW.out _)).mono ?_
              rintro e w3 ⟨rfl, n2, rfl⟩
              try simp only [World.drewN_drewN]))
          go_roundg (R.length - (i + (n + 1)))
          case measure => have := HG.out; omega
          case rel => exact ⟨n + 1, _, by omega, rfl, by go_num, Lib.hid (Or.inr (by
              rcases HN.out with h0 | h0
              · subst h0
                rw [HNL.out, Nat.zero_add]
                omega
              · rw [h0, HT.out, show i + (n + 1) = i + n + 1 by omega]
                omega)), rfl⟩
        · have hn0 : ¬ n = 0 := by rintro rfl; exact h1 HC0.out
          have gn : decide ((0 : Int) < (n : Int)) = true := decide_eq_true (by omega)
          have gn2 : decide (0 < n) = true := decide_eq_true (by omega)
          by_cases h2 : cls R[i + n].1 = 2
          · rw [h2] at HCL
            clear hm h1 h2 hn0
            go_wp2_with (first
              | (
                go_at_call 107
                refine (HCL.out _ (HRW.out _)).mono ?_
                rintro e w2 ⟨rfl, n1, rfl⟩
                try simp only [World.drewN_drewN])
              | (
                go_at_call 108
                refine (HIS.out _ (HRW.out _)).mono ?_
                rintro e w3 ⟨rfl, n2, rfl⟩
                try simp only [World.drewN_drewN]))
            go_roundg (R.length - (i + (n + 1)))
            case measure => have := HG.out; omega
            case rel => exact ⟨n + 1, _, by omega, rfl, by go_num, Lib.hid (Or.inr (by
                rcases HN.out with h0 | h0
                · subst h0
                  rw [HNL.out, Nat.zero_add]
                  omega
                · rw [h0, HT.out, show i + (n + 1) = i + n + 1 by omega]
                  omega)), rfl⟩
          · have h3 : R[i + n].1 = 39 := by
              unfold more at hm
              simp only [Bool.or_eq_true, beq_iff_eq] at hm
              rcases hm with (hm | hm) | hm
              · exact absurd hm h1
              · exact absurd hm h2
              · exact hm
            rw [h3, cls_39] at HCL
            rw [h3] at HIS
            clear hm h1 h2 h3 hn0
            go_wp2_with (first
              | (
                go_at_call 107
                refine (HCL.out _ (HRW.out _)).mono ?_
                rintro e w2 ⟨rfl, n1, rfl⟩
                try simp only [World.drewN_drewN])
              | (
                go_at_call 108
                refine (HIS.out _ (HRW.out _)).mono ?_
                rintro e w3 ⟨rfl, n2, rfl⟩
                try simp only [World.drewN_drewN]))
            go_roundg (R.length - (i + (n + 1)))
            case measure => have := HG.out; omega
            case rel => exact ⟨n + 1, _, by omega, rfl, by go_num, Lib.hid (Or.inr (by
                rcases HN.out with h0 | h0
                · subst h0
                  rw [HNL.out, Nat.zero_add]
                  omega
                · rw [h0, HT.out, show i + (n + 1) = i + n + 1 by omega]
                  omega)), rfl⟩
      · have hm0 : more R[i + n] = false := by simpa using hm
        have hn0 : ¬ n = 0 := by
          rintro rfl
          unfold more at hm0
          rw [show R[i + 0] = R[i] from rfl, HC0.out] at hm0
          simp at hm0
        obtain rfl : N = n := by
          rcases HN.out with h0 | h0
          · exact absurd h0 hn0
          · rw [h0, tw_stop (fun hj => hm0)]
            rfl
        unfold more at hm0
        simp only [Bool.or_eq_false_iff, beq_eq_false_iff_ne] at hm0
        obtain ⟨⟨k1, k2⟩, k3⟩ := hm0
        rw [show clsAt R (i + N) = (cls R[i + N].1 : Nat) by unfold clsAt; rw [dif_pos hlt]] at HCL
        rw [show isAt R (i + N) 39 = false by unfold isAt; rw [dif_pos hlt]; exact beq_false_of_ne k3] at HIS
        have gv1 : ((cls R[i + N].1 : Int) == 1) = false := by simp; omega
        have gv2 : ((cls R[i + N].1 : Int) == 2) = false := by simp; omega
        have gn : decide ((0 : Int) < (N : Int)) = true := decide_eq_true (by omega)
        have gn2 : decide (0 < N) = true := decide_eq_true (by omega)
        clear k1 k2 k3 hm hn0 HN
        generalize cls R[i + N].1 = V at *
        have HAT0 := Lib.hid (fun W (hW : Rd W B q S R A c bad i) => rdat_zero hW hi2)
        have HATn := Lib.hid (fun W (hW : Rd W B q S R A c bad i) => rdat_any hW N hi2 hn2)
        rw [show atAt R S.size i = posn R i by unfold atAt; rw [if_pos hi]] at HAT0
        rw [show atAt R S.size (i + N) = posn R (i + N) by unfold atAt; rw [if_pos hlt]] at HATn
        have g6 : decide ((R.length : Int) ≤ (i : Int) + (N : Int)) = false := decide_eq_false (by omega)
        have hp1 := posn_le R i (i + N) (by omega)
        have hp2 : posn R (i + N) ≤ S.size := Nat.le_trans (posn_all R (i + N)) (src_size HSR.out).1
        have HTX := Lib.hid (src_text HSR.out i N)
        have HWD := Lib.hid (fun W => word_any (flat ((R.drop i).take N)) W)
        rw [← HTX.out] at HWD
        have HV := Lib.hid (show decide ((N : Int) ≤ 12) = decide (N ≤ 12) by rw [decide_eq_decide]; omega)
        clear hlt
        generalize posn R (i + N) = E at *
        generalize hPP : posn R i = p at *
        have HPP := Lib.hid hPP
        clear hPP
        generalize hTT : flat ((R.drop i).take N) = T at *
        have HTT := Lib.hid hTT
        clear hTT
        have hpi : (p : Int) ≤ (E : Int) := by omega
        have hei : (E : Int) ≤ (S.size : Int) := by omega
        go_upto_region 8 with (first
          | (
            go_at_call 107
            refine (HCL.out _ (HRW.out _)).mono ?_
            rintro e w2 ⟨rfl, n1, rfl⟩
            try simp only [World.drewN_drewN])
          | (
            go_at_call 108
            refine (HIS.out _ (HRW.out _)).mono ?_
            rintro e w3 ⟨rfl, n2, rfl⟩
            try simp only [World.drewN_drewN])
          | (
            go_at_call_of 87 (Value.int IntKind.i64 0)
            refine (HAT0.out _ (HRW.out _)).mono ?_
            rintro e w2 ⟨rfl, n3, rfl⟩
            try simp only [World.drewN_drewN])
          | (
            go_at_call 87
            refine (HATn.out _ (((HR0.out.alloc _).alloc _).drewN _)).mono ?_
            rintro e w2 ⟨rfl, n4, rfl⟩
            try simp only [World.drewN_drewN]))
        go_quiet (fail)
        go_upto_region 8 with fail
        go_region_held3 (fun W => W.cell? ⟨q, 0, none⟩ = some (.string S) ∧ W.cell? ⟨w.heap.size + 1, 3, none⟩ = some (.int .i64 (p : Nat))) (first | go_keep | (refine ⟨?_, ?_⟩ <;> (rw [World.cell?_setCell_other _ _ _ _ (by simp <;> omega)]; go_keep))) (fail)
        by_cases hw : T ∈ wordL
        · rw [decide_eq_true hw] at HWD
          go_wp2_with (
            go_at_call 125
            refine (HWD.out _).mono ?_
            rintro e w9 ⟨rfl, hb9⟩
            have HB9 := Lib.hid hb9
            have HT9 := Lib.hid (show Blk w9 w.heap.size 78 #[.int .i64 0, .string ⟨#[]⟩, .int .i64 0, .int .i64 0] from (Fr.of_below hb9).blk (Blk.other (Blk.other (BlkN w _ _ _) (by simp) _) (by simp <;> omega) _) (by simp <;> omega))
            obtain ⟨hc9, hf9⟩ := bcell hb9
            have hz9 : w.heap.size + 1 < w9.heap.size := by have := hb9.size; simp at this; omega
            clear hb9)
          refine bodyPost_ret (res_tok (by rfl) _ _ w.heap.size #[.int .i64 3, .string (S.extract p E), .int .i64 0, .int .i64 (p : Nat)] rfl (tok4 (Blk.other HT9.out (by simp <;> omega) _) _ _ _ _) rfl) rfl ?_
          exact name_post (k := 3) hi HC0.out HNN.out HPP.out (HTX.out.trans (by rw [HTT.out])) (by rw [HTT.out]; rw [if_pos hw]) HV.out (by repeat' (first | (with_reducible exact Left.refl HR0.out) | (with_reducible refine Left.to (i := i) ?_ _ _ ?_) | (with_reducible refine Left.drewN ?_ _) | (with_reducible refine Left.alloc ?_ _) | (with_reducible refine Left.far ?_ hBw ?_ _) | (with_reducible refine Left.below ?_ HB9.out) | (with_reducible exact HB9.out) | omega | (simp <;> omega)))
        · rw [decide_eq_false hw] at HWD
          go_wp2_with (
            go_at_call 125
            refine (HWD.out _).mono ?_
            rintro e w9 ⟨rfl, hb9⟩
            have HB9 := Lib.hid hb9
            have HT9 := Lib.hid (show Blk w9 w.heap.size 78 #[.int .i64 0, .string ⟨#[]⟩, .int .i64 0, .int .i64 0] from (Fr.of_below hb9).blk (Blk.other (Blk.other (BlkN w _ _ _) (by simp) _) (by simp <;> omega) _) (by simp <;> omega))
            obtain ⟨hc9, hf9⟩ := bcell hb9
            have hz9 : w.heap.size + 1 < w9.heap.size := by have := hb9.size; simp at this; omega
            clear hb9)
          refine bodyPost_ret (res_tok (by rfl) _ _ w.heap.size #[.int .i64 1, .string (S.extract p E), .int .i64 0, .int .i64 (p : Nat)] rfl (tok4 (HT9.out) _ _ _ _) rfl) rfl ?_
          exact name_post (k := 1) hi HC0.out HNN.out HPP.out (HTX.out.trans (by rw [HTT.out])) (by rw [HTT.out]; rw [if_neg hw]) HV.out (by repeat' (first | (with_reducible exact Left.refl HR0.out) | (with_reducible refine Left.to (i := i) ?_ _ _ ?_) | (with_reducible refine Left.drewN ?_ _) | (with_reducible refine Left.alloc ?_ _) | (with_reducible refine Left.far ?_ hBw ?_ _) | (with_reducible refine Left.below ?_ HB9.out) | (with_reducible exact HB9.out) | omega | (simp <;> omega)))
    · have hn0 : ¬ n = 0 := by rintro rfl; exact hlt hi
      obtain rfl : N = n := by
        rcases HN.out with h0 | h0
        · exact absurd h0 hn0
        · rw [h0, tw_stop (fun hj => absurd hj hlt)]
          rfl
      rw [show clsAt R (i + N) = -1 by unfold clsAt; rw [dif_neg hlt]] at HCL
      rw [show isAt R (i + N) 39 = false by unfold isAt; rw [dif_neg hlt]] at HIS
      have gn : decide ((0 : Int) < (N : Int)) = true := decide_eq_true (by omega)
      have gn2 : decide (0 < N) = true := decide_eq_true (by omega)
      have hend : posn R (i + N) = (flat R).length := by unfold posn; rw [List.take_of_length_le (by omega)]
      clear hn0 HN
      have HSR2 := HSR.out
      obtain ⟨rest, hsrc, hbb⟩ := HSR2
      have hbb2 : bad = -1 ∨ bad = ((flat R).length : Nat) := by
        rcases hbb with h | h
        · exact Or.inl h.1
        · exact Or.inr h
      clear hbb hsrc
      rcases hbb2 with hbad | hbad
      · have gz : True := trivial
        have HAT0 := Lib.hid (fun W (hW : Rd W B q S R A c bad i) => rdat_zero hW hi2)
        have HATn := Lib.hid (fun W (hW : Rd W B q S R A c bad i) => rdat_any hW N hi2 hn2)
        rw [show atAt R S.size i = posn R i by unfold atAt; rw [if_pos hi]] at HAT0
        rw [show atAt R S.size (i + N) = posn R (i + N) by unfold atAt; rw [if_neg hlt, hend]; exact (src_size HSR.out).2 hbad] at HATn
        have g6 : decide ((R.length : Int) ≤ (i : Int) + (N : Int)) = true := decide_eq_true (by omega)
        have g7 : decide (0 ≤ bad) = false := decide_eq_false (by omega)
        have hp1 := posn_le R i (i + N) (by omega)
        have hp2 : posn R (i + N) ≤ S.size := Nat.le_trans (posn_all R (i + N)) (src_size HSR.out).1
        have HTX := Lib.hid (src_text HSR.out i N)
        have HWD := Lib.hid (fun W => word_any (flat ((R.drop i).take N)) W)
        rw [← HTX.out] at HWD
        have HV := Lib.hid (show decide ((N : Int) ≤ 12) = decide (N ≤ 12) by rw [decide_eq_decide]; omega)
        clear hlt hbad hend
        generalize posn R (i + N) = E at *
        generalize hPP : posn R i = p at *
        have HPP := Lib.hid hPP
        clear hPP
        generalize hTT : flat ((R.drop i).take N) = T at *
        have HTT := Lib.hid hTT
        clear hTT
        have hpi : (p : Int) ≤ (E : Int) := by omega
        have hei : (E : Int) ≤ (S.size : Int) := by omega
        go_upto_region 8 with (first
          | (
            go_at_call 107
            refine (HCL.out _ (HRW.out _)).mono ?_
            rintro e w2 ⟨rfl, n1, rfl⟩
            try simp only [World.drewN_drewN])
          | (
            go_at_call 108
            refine (HIS.out _ (HRW.out _)).mono ?_
            rintro e w3 ⟨rfl, n2, rfl⟩
            try simp only [World.drewN_drewN])
          | (
            go_at_call_of 87 (Value.int IntKind.i64 0)
            refine (HAT0.out _ (HRW.out _)).mono ?_
            rintro e w2 ⟨rfl, n3, rfl⟩
            try simp only [World.drewN_drewN])
          | (
            go_at_call 87
            refine (HATn.out _ (((HR0.out.alloc _).alloc _).drewN _)).mono ?_
            rintro e w2 ⟨rfl, n4, rfl⟩
            try simp only [World.drewN_drewN]))
        go_quiet (fail)
        go_upto_region 8 with fail
        go_region_held3 (fun W => W.cell? ⟨q, 0, none⟩ = some (.string S) ∧ W.cell? ⟨w.heap.size + 1, 3, none⟩ = some (.int .i64 (p : Nat))) (first | go_keep | (refine ⟨?_, ?_⟩ <;> (rw [World.cell?_setCell_other _ _ _ _ (by simp <;> omega)]; go_keep))) (fail)
        by_cases hw : T ∈ wordL
        · rw [decide_eq_true hw] at HWD
          go_wp2_with (
            go_at_call 125
            refine (HWD.out _).mono ?_
            rintro e w9 ⟨rfl, hb9⟩
            have HB9 := Lib.hid hb9
            have HT9 := Lib.hid (show Blk w9 w.heap.size 78 #[.int .i64 0, .string ⟨#[]⟩, .int .i64 0, .int .i64 0] from (Fr.of_below hb9).blk (Blk.other (Blk.other (BlkN w _ _ _) (by simp) _) (by simp <;> omega) _) (by simp <;> omega))
            obtain ⟨hc9, hf9⟩ := bcell hb9
            have hz9 : w.heap.size + 1 < w9.heap.size := by have := hb9.size; simp at this; omega
            clear hb9)
          refine bodyPost_ret (res_tok (by rfl) _ _ w.heap.size #[.int .i64 3, .string (S.extract p E), .int .i64 0, .int .i64 (p : Nat)] rfl (tok4 (Blk.other HT9.out (by simp <;> omega) _) _ _ _ _) rfl) rfl ?_
          exact name_post (k := 3) hi HC0.out HNN.out HPP.out (HTX.out.trans (by rw [HTT.out])) (by rw [HTT.out]; rw [if_pos hw]) HV.out (by repeat' (first | (with_reducible exact Left.refl HR0.out) | (with_reducible refine Left.to (i := i) ?_ _ _ ?_) | (with_reducible refine Left.drewN ?_ _) | (with_reducible refine Left.alloc ?_ _) | (with_reducible refine Left.far ?_ hBw ?_ _) | (with_reducible refine Left.below ?_ HB9.out) | (with_reducible exact HB9.out) | omega | (simp <;> omega)))
        · rw [decide_eq_false hw] at HWD
          go_wp2_with (
            go_at_call 125
            refine (HWD.out _).mono ?_
            rintro e w9 ⟨rfl, hb9⟩
            have HB9 := Lib.hid hb9
            have HT9 := Lib.hid (show Blk w9 w.heap.size 78 #[.int .i64 0, .string ⟨#[]⟩, .int .i64 0, .int .i64 0] from (Fr.of_below hb9).blk (Blk.other (Blk.other (BlkN w _ _ _) (by simp) _) (by simp <;> omega) _) (by simp <;> omega))
            obtain ⟨hc9, hf9⟩ := bcell hb9
            have hz9 : w.heap.size + 1 < w9.heap.size := by have := hb9.size; simp at this; omega
            clear hb9)
          refine bodyPost_ret (res_tok (by rfl) _ _ w.heap.size #[.int .i64 1, .string (S.extract p E), .int .i64 0, .int .i64 (p : Nat)] rfl (tok4 (HT9.out) _ _ _ _) rfl) rfl ?_
          exact name_post (k := 1) hi HC0.out HNN.out HPP.out (HTX.out.trans (by rw [HTT.out])) (by rw [HTT.out]; rw [if_neg hw]) HV.out (by repeat' (first | (with_reducible exact Left.refl HR0.out) | (with_reducible refine Left.to (i := i) ?_ _ _ ?_) | (with_reducible refine Left.drewN ?_ _) | (with_reducible refine Left.alloc ?_ _) | (with_reducible refine Left.far ?_ hBw ?_ _) | (with_reducible refine Left.below ?_ HB9.out) | (with_reducible exact HB9.out) | omega | (simp <;> omega)))
      · have gz : True := trivial
        have HAT0 := Lib.hid (fun W (hW : Rd W B q S R A c bad i) => rdat_zero hW hi2)
        have HATn := Lib.hid (fun W (hW : Rd W B q S R A c bad i) => rdat_any hW N hi2 hn2)
        rw [show atAt R S.size i = posn R i by unfold atAt; rw [if_pos hi]] at HAT0

        have g6 : decide ((R.length : Int) ≤ (i : Int) + (N : Int)) = true := decide_eq_true (by omega)
        have g7 : decide (0 ≤ bad) = true := decide_eq_true (by omega)
        rw [show bad = ((posn R (i + N) : Nat) : Int) by rw [hend]; exact hbad] at c2
        have hp1 := posn_le R i (i + N) (by omega)
        have hp2 : posn R (i + N) ≤ S.size := Nat.le_trans (posn_all R (i + N)) (src_size HSR.out).1
        have HTX := Lib.hid (src_text HSR.out i N)
        have HWD := Lib.hid (fun W => word_any (flat ((R.drop i).take N)) W)
        rw [← HTX.out] at HWD
        have HV := Lib.hid (show decide ((N : Int) ≤ 12) = decide (N ≤ 12) by rw [decide_eq_decide]; omega)
        clear hlt hbad hend
        generalize posn R (i + N) = E at *
        generalize hPP : posn R i = p at *
        have HPP := Lib.hid hPP
        clear hPP
        generalize hTT : flat ((R.drop i).take N) = T at *
        have HTT := Lib.hid hTT
        clear hTT
        have hpi : (p : Int) ≤ (E : Int) := by omega
        have hei : (E : Int) ≤ (S.size : Int) := by omega
        go_upto_region 8 with (first
          | (
            go_at_call 107
            refine (HCL.out _ (HRW.out _)).mono ?_
            rintro e w2 ⟨rfl, n1, rfl⟩
            try simp only [World.drewN_drewN])
          | (
            go_at_call 108
            refine (HIS.out _ (HRW.out _)).mono ?_
            rintro e w3 ⟨rfl, n2, rfl⟩
            try simp only [World.drewN_drewN])
          | (
            go_at_call_of 87 (Value.int IntKind.i64 0)
            refine (HAT0.out _ (HRW.out _)).mono ?_
            rintro e w2 ⟨rfl, n3, rfl⟩
            try simp only [World.drewN_drewN])
          | (
            go_at_call 87
            refine (HATn.out _ (((HR0.out.alloc _).alloc _).drewN _)).mono ?_
            rintro e w2 ⟨rfl, n4, rfl⟩
            try simp only [World.drewN_drewN]))
        go_quiet (fail)
        go_upto_region 8 with fail
        go_region_held3 (fun W => W.cell? ⟨q, 0, none⟩ = some (.string S) ∧ W.cell? ⟨w.heap.size + 1, 3, none⟩ = some (.int .i64 (p : Nat))) (first | go_keep | (refine ⟨?_, ?_⟩ <;> (rw [World.cell?_setCell_other _ _ _ _ (by simp <;> omega)]; go_keep))) (fail)
        by_cases hw : T ∈ wordL
        · rw [decide_eq_true hw] at HWD
          go_wp2_with (
            go_at_call 125
            refine (HWD.out _).mono ?_
            rintro e w9 ⟨rfl, hb9⟩
            have HB9 := Lib.hid hb9
            have HT9 := Lib.hid (show Blk w9 w.heap.size 78 #[.int .i64 0, .string ⟨#[]⟩, .int .i64 0, .int .i64 0] from (Fr.of_below hb9).blk (Blk.other (Blk.other (BlkN w _ _ _) (by simp) _) (by simp <;> omega) _) (by simp <;> omega))
            obtain ⟨hc9, hf9⟩ := bcell hb9
            have hz9 : w.heap.size + 1 < w9.heap.size := by have := hb9.size; simp at this; omega
            clear hb9)
          refine bodyPost_ret (res_tok (by rfl) _ _ w.heap.size #[.int .i64 3, .string (S.extract p E), .int .i64 0, .int .i64 (p : Nat)] rfl (tok4 (Blk.other HT9.out (by simp <;> omega) _) _ _ _ _) rfl) rfl ?_
          exact name_post (k := 3) hi HC0.out HNN.out HPP.out (HTX.out.trans (by rw [HTT.out])) (by rw [HTT.out]; rw [if_pos hw]) HV.out (by repeat' (first | (with_reducible exact Left.refl HR0.out) | (with_reducible refine Left.to (i := i) ?_ _ _ ?_) | (with_reducible refine Left.drewN ?_ _) | (with_reducible refine Left.alloc ?_ _) | (with_reducible refine Left.far ?_ hBw ?_ _) | (with_reducible refine Left.below ?_ HB9.out) | (with_reducible exact HB9.out) | omega | (simp <;> omega)))
        · rw [decide_eq_false hw] at HWD
          go_wp2_with (
            go_at_call 125
            refine (HWD.out _).mono ?_
            rintro e w9 ⟨rfl, hb9⟩
            have HB9 := Lib.hid hb9
            have HT9 := Lib.hid (show Blk w9 w.heap.size 78 #[.int .i64 0, .string ⟨#[]⟩, .int .i64 0, .int .i64 0] from (Fr.of_below hb9).blk (Blk.other (Blk.other (BlkN w _ _ _) (by simp) _) (by simp <;> omega) _) (by simp <;> omega))
            obtain ⟨hc9, hf9⟩ := bcell hb9
            have hz9 : w.heap.size + 1 < w9.heap.size := by have := hb9.size; simp at this; omega
            clear hb9)
          refine bodyPost_ret (res_tok (by rfl) _ _ w.heap.size #[.int .i64 1, .string (S.extract p E), .int .i64 0, .int .i64 (p : Nat)] rfl (tok4 (HT9.out) _ _ _ _) rfl) rfl ?_
          exact name_post (k := 1) hi HC0.out HNN.out HPP.out (HTX.out.trans (by rw [HTT.out])) (by rw [HTT.out]; rw [if_neg hw]) HV.out (by repeat' (first | (with_reducible exact Left.refl HR0.out) | (with_reducible refine Left.to (i := i) ?_ _ _ ?_) | (with_reducible refine Left.drewN ?_ _) | (with_reducible refine Left.alloc ?_ _) | (with_reducible refine Left.far ?_ hBw ?_ _) | (with_reducible refine Left.below ?_ HB9.out) | (with_reducible exact HB9.out) | omega | (simp <;> omega)))
end Go.Proofs.YteikakoheibnjaaGreatDoor
