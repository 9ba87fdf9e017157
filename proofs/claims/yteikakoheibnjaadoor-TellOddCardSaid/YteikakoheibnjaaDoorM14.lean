/- Parts of the proof: LSkip, LWord. -/
import Derived.Test.YteikakoheibnjaaDoorM10
import Derived.Test.YteikakoheibnjaaDoorM11
import Derived.Test.YteikakoheibnjaaDoorM12
import Derived.Test.YteikakoheibnjaaDoorM13
import Derived.Test.YteikakoheibnjaaDoorM7
namespace Go.Proofs.YteikakoheibnjaaDoor
open Go Go.RowKit

set_option maxHeartbeats 2000000 in
theorem lskips_any {w : World} {B q : Nat} {S : ByteArray} {R : List Ru} {A : Option Addr} {c : Nat} {bad : Int} {i : Nat} (h : Lxr w B q S R A c bad i) (hi : i ≤ R.length) :
    Calls Tryd.prog 164 #[.pointer (some ⟨q, 0, none⟩)] w fun e w' => e = .returned (.tuple #[]) ∧
      ∃ k, i ≤ k ∧ k ≤ R.length ∧ i + skipM true (R.drop i) = k + skipM false (R.drop k) ∧ (k < R.length → isAt R k 10 = true) ∧ LLeft w B q S R A c bad k w' := by
  have hl := h.len
  have HR0 := Lib.hid h
  clear h
  go_enter Tryd.func164, Tryd.ntmps164
  go_wp2_with fail
  go_loopg [] (R.length - i) (fun g wr => ∃ j : Nat, i ≤ j ∧ j ≤ R.length ∧ g = R.length - j ∧ Hid (i + skipM true (R.drop i) = j + skipM true (R.drop j)) ∧ Hid (LLeft w B q S R A c bad j wr))
  case atStart => exact ⟨i, Nat.le_refl _, hi, rfl, Lib.hid rfl, Lib.hid ⟨Fr.refl _ _, HR0.out⟩⟩
  case round =>
    obtain ⟨j, hij, hj, hg, HE, HL⟩ := hrel
    have HG := Lib.hid hg
    obtain ⟨c0, c1, c2, c3⟩ := HL.out.2.cells
    have f3 := HL.out.2.blk.frozen 3
    clear hg
    by_cases hlt : j < R.length
    · have t1 : decide ((j : Int) < (R.length : Int)) = true := decide_eq_true (by omega)
      have hp0 : (0 : Int) ≤ (j : Int) := by omega
      have hp1 : (j : Int) < (R.length : Int) := by omega
      obtain ⟨g, e, hg, _, h1, h2⟩ := HL.out.2.runes _ hlt
      by_cases h10 : R[j].1 = 10
      · have HS2 := Lib.hid (sk_nl hlt h10)
        have HI := Lib.hid (show isAt R j 10 = true by unfold isAt; rw [dif_pos hlt, h10]; rfl)
        rw [h10] at h1
        clear h10
        subst e
        go_wp2_with fail
        go_quiet (fail)
        go_wp2_with fail
        go_end0
        exact ⟨rfl, j, hij, hj, by rw [HE.out, HS2.out], fun _ => HI.out, HL.out.drewN _⟩
      · have HS2 := Lib.hid (sk_in hlt h10)
        have g2 : ((R[j].1 : Int) == 10) = false := by simp; omega
        clear h10
        subst e
        generalize R[j].1 = r at *
        go_wp2_with fail
        go_quiet (fail)
        go_wp2_with fail
        go_roundg (R.length - (j + 1))
        case measure => have := HG.out; omega
        case rel => exact ⟨j + 1, by omega, by omega, rfl, Lib.hid (by rw [HE.out, HS2.out]; omega), Lib.hid (by repeat' (first | exact HL.out | refine LLeft.drewN ?_ _ | refine LLeft.inc ?_))⟩
    · have t1 : decide ((j : Int) < (R.length : Int)) = false := decide_eq_false (by omega)
      go_wp2_with fail
      go_quiet (fail)
      go_wp2_with fail
      go_end0
      exact ⟨rfl, j, hij, hj, by rw [HE.out, sk_end hlt, sk_end hlt], fun hk => absurd hk hlt, HL.out.drewN _⟩
set_option maxHeartbeats 4000000 in
theorem lblank_any {w : World} {B q : Nat} {S : ByteArray} {R : List Ru} {A : Option Addr} {c : Nat} {bad : Int} {i : Nat} (h : Lxr w B q S R A c bad i) (hi : i ≤ R.length) :
    Calls Tryd.prog 158 #[.pointer (some ⟨q, 0, none⟩)] w fun e w' => e = .returned (.tuple #[]) ∧ LLeft w B q S R A c bad (i + skipM false (R.drop i)) w' := by
  have hl := h.len
  have HR0 := Lib.hid h
  clear h
  go_enter Tryd.func158, Tryd.ntmps158
  go_wp2_with fail
  go_loopg [] (R.length - i) (fun g wr => ∃ j : Nat, j ≤ R.length ∧ g = R.length - j ∧ Hid (i + skipM false (R.drop i) = j + skipM false (R.drop j)) ∧ Hid (LLeft w B q S R A c bad j wr))
  case atStart => exact ⟨i, hi, rfl, Lib.hid rfl, Lib.hid ⟨Fr.refl _ _, HR0.out⟩⟩
  case round =>
    obtain ⟨j, hj, hg, HE, HL⟩ := hrel
    have HG := Lib.hid hg
    have hj2 : j ≤ 2000 := by omega
    obtain ⟨c0, c1, c2, c3⟩ := HL.out.2.cells
    have f3 := HL.out.2.blk.frozen 3
    clear hg
    have HCL := Lib.hid (fun W (hW : Lxr W B q S R A c bad j) => lclassof_any hW hj2)
    by_cases hlt : j < R.length
    · have t1 : decide ((j : Int) < (R.length : Int)) = true := decide_eq_true (by omega)
      have hp0 : (0 : Int) ≤ (j : Int) := by omega
      have hp1 : (j : Int) < (R.length : Int) := by omega
      obtain ⟨g, e, hg, _, h1, h2⟩ := HL.out.2.runes _ hlt
      by_cases hsp : cls R[j].1 = 3
      · rw [show clsAt R j = 3 by unfold clsAt; rw [dif_pos hlt, hsp]; rfl] at HCL
        have HS := Lib.hid (sk_space hlt hsp)
        clear hsp
        subst e
        generalize R[j].1 = r at *
        go_wp2_with fail
        go_quiet (fail)
        go_wp2_with (
          go_at_call 163
          refine (HCL.out _ (HL.out.2.drewN _)).mono ?_
          rintro e w2 ⟨rfl, n1, rfl⟩)
        go_roundg (R.length - (j + 1))
        case measure => have := HG.out; omega
        case rel => exact ⟨j + 1, by omega, rfl, Lib.hid (by rw [HE.out, HS.out]; omega), Lib.hid (by repeat' (first | exact HL.out | refine LLeft.drewN ?_ _ | refine LLeft.inc ?_))⟩
      · have HV := Lib.hid (show clsAt R j = (cls R[j].1 : Nat) by unfold clsAt; rw [dif_pos hlt])
        have gv : (clsAt R j == 3) = false := by rw [HV.out]; simp; omega
        by_cases h35 : R[j].1 = 35
        · have HS := Lib.hid (sk_hash hlt h35)
          have HS1 := Lib.hid (sk_in hlt (by rw [h35]; decide))
          have HN := Lib.hid (show isAt R j 10 = false by unfold isAt; rw [dif_pos hlt, h35]; rfl)
          have HSK := Lib.hid (fun W (hW : Lxr W B q S R A c bad j) => lskips_any hW hj)
          rw [h35] at h1
          clear h35 hsp HV
          subst e
          generalize clsAt R j = v at *
          go_wp2_with fail
          go_quiet (fail)
          go_wp2_with (
            go_at_call 163
            refine (HCL.out _ (HL.out.2.drewN _)).mono ?_
            rintro e w2 ⟨rfl, n1, rfl⟩)
          go_quiet (fail)
          go_wp2_with (
            go_at_call 164
            refine (HSK.out _ (HL.out.2.drewN _)).mono ?_
            rintro e w3 ⟨rfl, k, hjk, hk, he, hn, hL⟩
            have HL3 := Lib.hid (show LLeft w B q S R _ c bad k w3 from LLeft.trans (HL.out.drewN _) hL)
            have hk2 : j < k := Nat.lt_of_le_of_ne hjk (fun e => by subst e; have := hn hlt; rw [HN.out] at this; cases this)
            have HE3 := Lib.hid (show i + skipM false (R.drop i) = k + skipM false (R.drop k) by rw [HE.out, HS.out, ← he, HS1.out])
            clear hL hn he)
          go_roundg (R.length - k)
          case measure => have := HG.out; omega
          case rel => exact ⟨k, hk, rfl, HE3, HL3⟩
        · have HS := Lib.hid (sk_else hlt hsp h35)
          have g2 : ((R[j].1 : Int) == 35) = false := by simp; omega
          clear h35 hsp HV
          subst e
          generalize R[j].1 = r at *
          generalize clsAt R j = v at *
          go_wp2_with fail
          go_quiet (fail)
          go_wp2_with (
            go_at_call 163
            refine (HCL.out _ (HL.out.2.drewN _)).mono ?_
            rintro e w2 ⟨rfl, n1, rfl⟩)
          go_quiet (fail)
          go_wp2_with fail
          (try simp only [Exit.inBlock, Exit.then]); refine bodyPost_ret (results_none rfl _ _ _) rfl ?_
          exact ⟨rfl, by
            rw [HE.out, HS.out]
            repeat' (first | exact HL.out | refine LLeft.drewN ?_ _)⟩
    · have t1 : decide ((j : Int) < (R.length : Int)) = false := decide_eq_false (by omega)
      have HS := Lib.hid (sk_end hlt false)
      go_wp2_with fail
      go_quiet (fail)
      go_wp2_with fail
      go_end0
      exact ⟨rfl, by
        rw [HE.out, HS.out]
        repeat' (first | exact HL.out | refine LLeft.drewN ?_ _)⟩
end Go.Proofs.YteikakoheibnjaaDoor
namespace Go.Proofs.YteikakoheibnjaaDoor
open Go Go.RowKit

theorem lwords_any (w : World) : Calls Tryd.prog 171 #[] w fun e w' => e = .returned (.slice (some ⟨w.heap.size, 0, none⟩) 17 17) ∧ w' = w.alloc (.cells (strVs wordL).toArray 9) := by
  go_enter Tryd.func171, Tryd.ntmps171
  go_wp2_with fail
  go_ret
  exact ⟨rfl, rfl⟩
/-- Texts as byte rows. -/
def strBs (l : List (List UInt8)) : List ByteArray := l.map fun x => ⟨x.toArray⟩
theorem strBs_mem (l : List (List UInt8)) (x : List UInt8) : (⟨x.toArray⟩ : ByteArray) ∈ strBs l ↔ x ∈ l := by
  unfold strBs
  rw [List.mem_map]
  constructor
  · rintro ⟨y, hy, e⟩
    have := congrArg (fun b : ByteArray => b.data.toList) e
    simp at this
    exact this ▸ hy
  · intro h
    exact ⟨x, h, rfl⟩
theorem lcont_any {w : World} {b : Nat} (hb : Blk w b 9 (strVs wordL).toArray) (x : List UInt8) : Calls Tryd.prog 170 #[.slice (some ⟨b, 0, none⟩) 17 17, .string ⟨x.toArray⟩] w fun e w' => e = .returned (.bool (decide (x ∈ wordL))) ∧ w' = w := by
  refine (Tryd.slices_Contains_string b 0 17 17 (strBs wordL) ⟨x.toArray⟩ _ (by decide) (by decide) (fun j hj => ?_)).mono ?_
  · have hj2 : j < wordL.length := by simpa [strBs] using hj
    rw [Nat.zero_add, cell_of_row w b j _ 9 (0, 0) hb, List.getElem?_toArray, strVs_at wordL j hj2]
    unfold strBs
    rw [List.getD_eq_getElem?_getD, List.getElem?_map, List.getElem?_eq_getElem hj2]
    rfl
  · rintro e w2 ⟨rfl, rfl⟩
    refine ⟨congrArg (fun b : Bool => Ending.returned (.bool b)) ?_, rfl⟩
    rw [List.take_of_length_le (by decide), Bool.eq_iff_iff, Lib.containsS_iff, strBs_mem, decide_eq_true_eq]
set_option maxHeartbeats 2000000 in
theorem llen_any (R : List Ru) (hR : ∀ r ∈ R, Snd r) (hl : (flat R).length ≤ 2000) (w : World) : Calls Tryd.prog 172 #[.string ⟨(flat R).toArray⟩] w fun e w' => e = .returned (.int .i64 (R.length : Nat)) ∧ Below w.heap.size w w' := by
  generalize hS : (⟨(flat R).toArray⟩ : ByteArray) = S
  have HSS := Lib.hid hS.symm
  have hsz : S.size = (flat R).length := by rw [← hS]; show (flat R).toArray.size = _; simp
  have HSZ := Lib.hid hsz
  have HRS := Lib.hid hR
  have hRl : R.length ≤ 2000 := Nat.le_trans (snd_len R hR) hl
  clear hsz hS hR
  go_enter Tryd.func172, Tryd.ntmps172
  go_wp2_with fail
  go_loopg [3] R.length (fun q v wr => ∃ k : Nat, k ≤ R.length ∧ q = R.length - k ∧ v = .int .i64 (k : Nat) ∧ Hid (wr.heap[w.heap.size]? = some (.stringIter S (posn R k))) ∧ Hid (Below w.heap.size w wr))
  case atStart => exact ⟨0, Nat.zero_le _, rfl, rfl, Lib.hid (World.iter_heap w S 0), Lib.hid ((Below.refl _ w).alloc (Nat.le_refl _) _)⟩
  case round =>
    obtain ⟨k, hk, hq, rfl, HIT, HB⟩ := hrel
    have HQ := Lib.hid hq
    clear hq
    by_cases hlt : k < R.length
    · have hd : (flat R).drop (posn R k) = flat (R.drop k) := drop_flat R k
      have hs := HRS.out R[k] (List.getElem_mem hlt)
      have hdec : dec (flat (R.drop k)) = (R[k].1, R[k].2.length) := by
        rw [List.drop_eq_getElem_cons hlt, flat_cons, dec_app _ _ hs.1 (by rw [hs.2.1]; exact hs.2.2), hs.2.1]
      have hps : posn R (k + 1) = posn R k + R[k].2.length := by
        unfold posn
        rw [List.take_succ_eq_append_getElem hlt, flat_app, List.length_append, flat_cons, flat_nil, List.append_nil]
      have hpos : 1 ≤ R[k].2.length := by
        cases h : R[k].2 with
        | nil => exact absurd h hs.1
        | cons => simp
      have hpa := posn_all R (k + 1)
      obtain ⟨W1, hnx, hB1, hIT1⟩ : ∃ W1, (∀ ty, (Instr.next (.pointer (some ⟨w.heap.size, 0, none⟩)) true ty).run Tryd.prog wr = .ok (.tuple #[.bool true, .int .i64 (posn R k : Nat), .int .i32 (R[k].1 : Nat)]) W1) ∧ Below w.heap.size w W1 ∧
          W1.heap[w.heap.size]? = some (.stringIter S (posn R (k + 1))) := by
        refine ⟨wr.iterAt w.heap.size S (posn R (k + 1)), fun ty => ?_, Lib.below_iterAt HB.out (Nat.le_refl _) _ _, Lib.iterAt_heap wr _ S _ _ HIT.out⟩
        have := Lib.run_next_any_at (P := Tryd.prog) wr w.heap.size S (posn R k) ty HIT.out (by have := HSZ.out; omega)
        rw [HSS.out, decode_drop, hd, hdec, ← HSS.out] at this
        rw [hps]
        exact this
      have HB1 := Lib.hid hB1
      have HIT1 := Lib.hid hIT1
      clear hd hs hdec hps hpos hpa hB1 hIT1 HRS HIT HB
      generalize R[k].1 = r at *
      go_wp2_with fail
      go_roundg (R.length - (k + 1))
      case measure => have := HQ.out; omega
      case rel => exact ⟨k + 1, by omega, rfl, by go_num, HIT1, HB1⟩
    · have e : k = R.length := by omega
      have hpe : posn R k = (flat R).length := by unfold posn; rw [List.take_of_length_le (by omega)]
      have hnx : ∀ ty, (Instr.next (.pointer (some ⟨w.heap.size, 0, none⟩)) true ty).run Tryd.prog wr = .ok (.tuple #[.bool false]) wr := fun ty => Lib.run_next_end_at wr w.heap.size S _ ty HIT.out (by have := HSZ.out; omega)
      have HF := Lib.hid (show ((k : Nat) : Int) = (R.length : Nat) by rw [e])
      clear e hpe
      go_wp2_with fail
      go_ret
      exact ⟨congrArg (fun x : Int => Ending.returned (.int .i64 x)) HF.out, HB.out⟩
end Go.Proofs.YteikakoheibnjaaDoor
