/- Parts of the proof: LSkip, LEach, LWord. -/
import Derived.Deep.Onto
import Derived.Lib.OthersKept
import Derived.Test.YteikakoheibnjaaGreatDoorM10
import Derived.Test.YteikakoheibnjaaGreatDoorM11
import Derived.Test.YteikakoheibnjaaGreatDoorM12
import Derived.Test.YteikakoheibnjaaGreatDoorM4
import Derived.Test.YteikakoheibnjaaGreatDoorM6
import Derived.WalkSmall
namespace Go.Proofs.YteikakoheibnjaaGreatDoor
open Go Go.RowKit

set_option maxHeartbeats 2000000 in
theorem lskips_any {w : World} {B q : Nat} {S : ByteArray} {R : List Ru} {A : Option Addr} {c : Nat} {bad : Int} {i : Nat} (h : Lxr w B q S R A c bad i) (hi : i ≤ R.length) :
    Calls Tryz.prog 103 #[.pointer (some ⟨q, 0, none⟩)] w fun e w' => e = .returned (.tuple #[]) ∧
      ∃ k, i ≤ k ∧ k ≤ R.length ∧ i + skipM true (R.drop i) = k + skipM false (R.drop k) ∧ (k < R.length → isAt R k 10 = true) ∧ LLeft w B q S R A c bad k w' := by
  have hl := h.len
  have HR0 := Lib.hid h
  clear h
  go_enter Tryz.func103, Tryz.ntmps103
  go_wp2_with fail
  go_loopg [] (R.length - i) (fun g wr => ∃ j : Nat, i ≤ j ∧ j ≤ R.length ∧ g = R.length - j ∧ Hid (i + skipM true (R.drop i) = j + skipM true (R.drop j)) ∧ Hid (LLeft w B q S R A c bad j wr))
  case atStart => exact ⟨i, Nat.le_refl _, hi, rfl, Lib.hid rfl, Lib.hid ⟨Fr.refl _ _, HR0.out⟩⟩
  case round =>
    obtain ⟨j, hij, hj, hg, HE, HL⟩ := hrel
    have HG := Lib.hid hg
    obtain ⟨c0, c1, c2, c3⟩ := HL.out.2.cells
    have f3 := HL.out.2.blk.frozen 3
    clear hg
    by_cases hlt : j < R.length
    · have t1 : decide ((j : Int) < (R.length : Int)) = true := decide_eq_true (by omega)
      have hp0 : (0 : Int) ≤ (j : Int) := by omega
      have hp1 : (j : Int) < (R.length : Int) := by omega
      obtain ⟨g, e, hg, _, h1, h2⟩ := HL.out.2.runes _ hlt
      by_cases h10 : R[j].1 = 10
      · have HS2 := Lib.hid (sk_nl hlt h10)
        have HI := Lib.hid (show isAt R j 10 = true by unfold isAt; rw [dif_pos hlt, h10]; rfl)
        rw [h10] at h1
        clear h10
        subst e
        go_wp2_with fail
        go_quiet (fail)
        go_wp2_with fail
        go_end0
        exact ⟨rfl, j, hij, hj, by rw [HE.out, HS2.out], fun _ => HI.out, HL.out.drewN _⟩
      · have HS2 := Lib.hid (sk_in hlt h10)
        have g2 : ((R[j].1 : Int) == 10) = false := by simp; omega
        clear h10
        subst e
        generalize R[j].1 = r at *
        go_wp2_with fail
        go_quiet (fail)
        go_wp2_with fail
        go_roundg (R.length - (j + 1))
        case measure => have := HG.out; omega
        case rel => exact ⟨j + 1, by omega, by omega, rfl, Lib.hid (by rw [HE.out, HS2.out]; omega), Lib.hid (by repeat' (first | exact HL.out | refine LLeft.drewN ?_ _ | refine LLeft.inc ?_))⟩
    · have t1 : decide ((j : Int) < (R.length : Int)) = false := decide_eq_false (by omega)
      go_wp2_with fail
      go_quiet (fail)
      go_wp2_with fail
      go_end0
      exact ⟨rfl, j, hij, hj, by rw [HE.out, sk_end hlt, sk_end hlt], fun hk => absurd hk hlt, HL.out.drewN _⟩
set_option maxHeartbeats 4000000 in
theorem lblank_any {w : World} {B q : Nat} {S : ByteArray} {R : List Ru} {A : Option Addr} {c : Nat} {bad : Int} {i : Nat} (h : Lxr w B q S R A c bad i) (hi : i ≤ R.length) :
    Calls Tryz.prog 82 #[.pointer (some ⟨q, 0, none⟩)] w fun e w' => e = .returned (.tuple #[]) ∧ LLeft w B q S R A c bad (i + skipM false (R.drop i)) w' := by
  have hl := h.len
  have HR0 := Lib.hid h
  clear h
  go_enter Tryz.func82, Tryz.ntmps82
  go_wp2_with fail
  go_loopg [] (R.length - i) (fun g wr => ∃ j : Nat, j ≤ R.length ∧ g = R.length - j ∧ Hid (i + skipM false (R.drop i) = j + skipM false (R.drop j)) ∧ Hid (LLeft w B q S R A c bad j wr))
  case atStart => exact ⟨i, hi, rfl, Lib.hid rfl, Lib.hid ⟨Fr.refl _ _, HR0.out⟩⟩
  case round =>
    obtain ⟨j, hj, hg, HE, HL⟩ := hrel
    have HG := Lib.hid hg
    have hj2 : j ≤ 2000 := by omega
    obtain ⟨c0, c1, c2, c3⟩ := HL.out.2.cells
    have f3 := HL.out.2.blk.frozen 3
    clear hg
    have HCL := Lib.hid (fun W (hW : Lxr W B q S R A c bad j) => lclassof_any hW hj2)
    by_cases hlt : j < R.length
    · have t1 : decide ((j : Int) < (R.length : Int)) = true := decide_eq_true (by omega)
      have hp0 : (0 : Int) ≤ (j : Int) := by omega
      have hp1 : (j : Int) < (R.length : Int) := by omega
      obtain ⟨g, e, hg, _, h1, h2⟩ := HL.out.2.runes _ hlt
      by_cases hsp : cls R[j].1 = 3
      · rw [show clsAt R j = 3 by unfold clsAt; rw [dif_pos hlt, hsp]; rfl] at HCL
        have HS := Lib.hid (sk_space hlt hsp)
        clear hsp
        subst e
        generalize R[j].1 = r at *
        go_wp2_with fail
        go_quiet (fail)
        go_wp2_with (
          go_at_call 102
          refine (HCL.out _ (HL.out.2.drewN _)).mono ?_
          rintro e w2 ⟨rfl, n1, rfl⟩)
        go_roundg (R.length - (j + 1))
        case measure => have := HG.out; omega
        case rel => exact ⟨j + 1, by omega, rfl, Lib.hid (by rw [HE.out, HS.out]; omega), Lib.hid (by repeat' (first | exact HL.out | refine LLeft.drewN ?_ _ | refine LLeft.inc ?_))⟩
      · have HV := Lib.hid (show clsAt R j = (cls R[j].1 : Nat) by unfold clsAt; rw [dif_pos hlt])
        have gv : (clsAt R j == 3) = false := by rw [HV.out]; simp; omega
        by_cases h35 : R[j].1 = 35
        · have HS := Lib.hid (sk_hash hlt h35)
          have HS1 := Lib.hid (sk_in hlt (by rw [h35]; decide))
          have HN := Lib.hid (show isAt R j 10 = false by unfold isAt; rw [dif_pos hlt, h35]; rfl)
          have HSK := Lib.hid (fun W (hW : Lxr W B q S R A c bad j) => lskips_any hW hj)
          rw [h35] at h1
          clear h35 hsp HV
          subst e
          generalize clsAt R j = v at *
          go_wp2_with fail
          go_quiet (fail)
          go_wp2_with (
            go_at_call 102
            refine (HCL.out _ (HL.out.2.drewN _)).mono ?_
            rintro e w2 ⟨rfl, n1, rfl⟩)
          go_quiet (fail)
          go_wp2_with (
            go_at_call 103
            refine (HSK.out _ (HL.out.2.drewN _)).mono ?_
            rintro e w3 ⟨rfl, k, hjk, hk, he, hn, hL⟩
            have HL3 := Lib.hid (show LLeft w B q S R _ c bad k w3 from LLeft.trans (HL.out.drewN _) hL)
            have hk2 : j < k := Nat.lt_of_le_of_ne hjk (fun e => by subst e; have := hn hlt; rw [HN.out] at this; cases this)
            have HE3 := Lib.hid (show i + skipM false (R.drop i) = k + skipM false (R.drop k) by rw [HE.out, HS.out, ← he, HS1.out])
            clear hL hn he)
          go_roundg (R.length - k)
          case measure => have := HG.out; omega
          case rel => exact ⟨k, hk, rfl, HE3, HL3⟩
        · have HS := Lib.hid (sk_else hlt hsp h35)
          have g2 : ((R[j].1 : Int) == 35) = false := by simp; omega
          clear h35 hsp HV
          subst e
          generalize R[j].1 = r at *
          generalize clsAt R j = v at *
          go_wp2_with fail
          go_quiet (fail)
          go_wp2_with (
            go_at_call 102
            refine (HCL.out _ (HL.out.2.drewN _)).mono ?_
            rintro e w2 ⟨rfl, n1, rfl⟩)
          go_quiet (fail)
          go_wp2_with fail
          (try simp only [Exit.inBlock, Exit.then]); refine bodyPost_ret (results_none rfl _ _ _) rfl ?_
          exact ⟨rfl, by
            rw [HE.out, HS.out]
            repeat' (first | exact HL.out | refine LLeft.drewN ?_ _)⟩
    · have t1 : decide ((j : Int) < (R.length : Int)) = false := decide_eq_false (by omega)
      have HS := Lib.hid (sk_end hlt false)
      go_wp2_with fail
      go_quiet (fail)
      go_wp2_with fail
      go_end0
      exact ⟨rfl, by
        rw [HE.out, HS.out]
        repeat' (first | exact HL.out | refine LLeft.drewN ?_ _)⟩
end Go.Proofs.YteikakoheibnjaaGreatDoor
namespace Go.Proofs.YteikakoheibnjaaGreatDoor
open Go Go.RowKit

theorem dec_ffd (t : List UInt8) : dec (239 :: 191 :: 189 :: t) = (65533, 3) := by
  have h : dec [239, 191, 189] = (65533, 3) := by decide
  have := dec_app [239, 191, 189] t (by simp) (by rw [h]; decide)
  rw [h] at this
  exact this
theorem odd_iff (l : List UInt8) (h5 : (dec l).1 = 65533) : (dec l).2 < 2 ↔ ([239, 191, 189] : List UInt8).isPrefixOf l = false := by
  constructor
  · intro h
    cases hh : ([239, 191, 189] : List UInt8).isPrefixOf l with
    | false => rfl
    | true =>
      obtain ⟨t, rfl⟩ := List.isPrefixOf_iff_prefix.1 hh
      have := dec_ffd t
      rw [show [239, 191, 189] ++ t = 239 :: 191 :: 189 :: t from rfl, this] at h
      exact absurd h (by decide)
  · intro h
    refine Decidable.byContradiction fun hn => ?_
    have key : ∃ t, l = 239 :: 191 :: 189 :: t := by
      have hlt : ∀ k, (l.getD k 0).toNat < 256 := fun k => (l.getD k 0).toNat_lt
      have h0 := hlt 0
      have h1 := hlt 1
      have h2 := hlt 2
      have h3 := hlt 3
      have hl : 2 < l.length ∧ (l.getD 0 0).toNat = 239 ∧ (l.getD 1 0).toNat = 191 ∧ (l.getD 2 0).toNat = 189 := by
        unfold dec decG at h5 hn
        dsimp only at h5 hn
        by_cases c1 : (l.getD 0 0).toNat < 128
        · rw [if_pos c1] at h5
          simp only at h5
          omega
        rw [if_neg c1] at h5 hn
        split at h5
        · next c2 =>
          rw [if_pos c2] at hn
          split at h5
          · simp only at h5
            omega
          · next c3 =>
            rw [if_neg c3] at hn
            exact absurd (by decide) hn
        · next c2 =>
          rw [if_neg c2] at hn
          split at h5
          · next c3 =>
            rw [if_pos c3] at hn
            simp only [Bool.and_eq_true, decide_eq_true_eq, beq_iff_eq] at c3
            split at h5
            · simp only at h5
              omega
            · next c4 =>
              rw [if_neg c4] at hn
              exact absurd (by decide) hn
          · next c3 =>
            rw [if_neg c3] at hn
            split at h5
            · next c4 =>
              rw [if_pos c4] at hn
              split at h5
              · next c5 =>
                simp only [Bool.and_eq_true, decide_eq_true_eq] at c5 h5
                omega
              · next c5 =>
                rw [if_neg c5] at hn
                exact absurd (by decide) hn
            · next c4 =>
              rw [if_neg c4] at hn
              exact absurd (by decide) hn
      match l, hl with
      | a :: b :: c :: t, hl =>
        obtain ⟨_, e0, e1, e2⟩ := hl
        refine ⟨t, ?_⟩
        have ea : a = 239 := UInt8.toNat_inj.1 e0
        have eb : b = 191 := UInt8.toNat_inj.1 e1
        have ec : c = 189 := UInt8.toNat_inj.1 e2
        rw [ea, eb, ec]
    obtain ⟨t, rfl⟩ := key
    simp [List.isPrefixOf] at h
theorem isOdd_any (S : ByteArray) (l : List UInt8) (hS : S = ⟨l.toArray⟩) (p r : Nat) (hp : p ≤ l.length) (hl : l.length ≤ 2000) (w : World) :
    Calls Tryz.prog 101 #[.string S, .int .i64 (p : Nat), .int .i32 (r : Nat)] w fun e w' => e = .returned (.bool (decide (r = 65533) && !(([239, 191, 189] : List UInt8).isPrefixOf (l.drop p)))) ∧ w' = w := by
  have hsz : S.size = l.length := by subst hS; show l.toArray.size = _; simp
  have hle : ((p : Nat) : Int) ≤ ((S.size : Nat) : Int) := by omega
  have HC : Hid (∀ W, Calls Tryz.prog 39 #[.string (S.extract p S.size), .string ⟨#[239, 191, 189]⟩] W fun e w' => e = .returned (.bool (([239, 191, 189] : List UInt8).isPrefixOf (l.drop p))) ∧ w' = W) := Lib.hid (fun W => by
    have := Tryz.strings_HasPrefix (S.extract p S.size) ⟨#[239, 191, 189]⟩ W
    rw [hS, ext_drop] at this
    rw [hS, ext_drop]
    exact this)
  have hss : ((S.size : Nat) : Int) ≤ 2000 := by omega
  clear hS hsz hp hl
  generalize ([239, 191, 189] : List UInt8).isPrefixOf (l.drop p) = b at *
  by_cases hr : r = 65533
  · subst hr
    cases b
    all_goals
      go_enter Tryz.func101, Tryz.ntmps101
      go_wp2_with (
        go_at_call 39
        refine (HC.out _).mono ?_
        rintro e w2 ⟨rfl, rfl⟩)
      all_goals
        go_ret
        exact ⟨rfl, rfl⟩
  · have g1 : ((r : Int) == 65533) = false := by simp; omega
    rw [decide_eq_false hr, Bool.false_and]
    clear hr HC
    go_enter Tryz.func101, Tryz.ntmps101
    go_wp2_with fail
    go_ret
    exact ⟨rfl, rfl⟩
set_option maxRecDepth 100000 in
set_option maxHeartbeats 4000000 in
theorem leach_any (l : List UInt8) (hl : l.length ≤ 2000) (w : World) : Calls Tryz.prog 81 #[.string ⟨l.toArray⟩] w (EachPost w l) := by
  generalize hS : (⟨l.toArray⟩ : ByteArray) = S
  have HSS := Lib.hid hS.symm
  obtain ⟨i0, hi, hz0, hz1, hz2⟩ := info_parts inf_rune
  have hsz : S.size = l.length := by rw [← hS]; show l.toArray.size = _; simp
  have HSZ := Lib.hid hsz
  have HODD := Lib.hid (fun p r (hp : p ≤ l.length) W => isOdd_any S l hS.symm p r hp hl W)
  clear hsz hS
  go_enter Tryz.func81, Tryz.ntmps81
  go_wp2_with fail
  go_loopg [2] l.length (fun q v wr => ∃ (acc : List Ru) (rest : List UInt8), Hid (l = flat acc ++ rest) ∧ Hid (each l = (acc ++ (each rest).1, (each rest).2)) ∧ q = rest.length ∧ Hid (wr.heap[w.heap.size]? = some (.stringIter S (flat acc).length)) ∧
    Hid (wr.ownsRow (w.heap.size + 1) 126 2 v acc.length (cellsR 0 acc)) ∧ Below w.heap.size w wr)
  case atStart => exact ⟨[], l, Lib.hid rfl, Lib.hid rfl, rfl, Lib.hid (World.iter_heap w S 0), Lib.hid ⟨rfl, .inl ⟨rfl, rfl⟩⟩, (Below.refl _ w).alloc (Nat.le_refl _) _⟩
  case round =>
    obtain ⟨acc, rest, HA, HE, hq, HIT, HO, hb⟩ := hrel
    have HQ := Lib.hid hq
    have HB := Lib.hid hb
    have hws := hb.size
    have hlen : l.length = (flat acc).length + rest.length := by have := congrArg List.length HA.out; rwa [List.length_append] at this
    have hacc : acc.length ≤ l.length := by
      have h1 := each_len l
      rw [HE.out] at h1
      simp at h1
      omega
    have hp1 : (flat acc).length ≤ 2000 := by omega
    have hacc2 : acc.length ≤ 2000 := by omega
    have hkw : w.heap.size < wr.heap.size := (Array.getElem?_eq_some_iff.1 HIT.out).1
    have HLN := Lib.hid hlen
    have hpl : (flat acc).length ≤ l.length := by omega
    clear hq hb hlen
    by_cases hr : rest = []
    · have HF := Lib.hid (show each l = (acc, false) by rw [HE.out, hr]; simp [each_nil])
      have hnx : ∀ ty, (Instr.next (.pointer (some ⟨w.heap.size, 0, none⟩)) true ty).run Tryz.prog wr = .ok (.tuple #[.bool false]) wr := fun ty => Lib.run_next_end_at wr w.heap.size S _ ty HIT.out (by
        have := HLN.out
        have := HSZ.out
        rw [hr] at *
        simp at *
        omega)
      clear hr HODD
      go_wp2_with fail
      go_ret2
      obtain ⟨A, c, rfl⟩ := own_slice HO.out
      unfold EachPost
      rw [HF.out]
      exact ⟨A, c, -1, rfl, rfl, HO.out.mono (by omega), HB.out⟩
    · have hdr : l.drop (flat acc).length = rest := by rw [HA.out, List.drop_left]
      have hd1 := dec_pos rest
      have hd2 := dec_le rest hr
      have hd3 := dec_lt rest
      have hpos : 1 ≤ rest.length := by cases rest with | nil => exact absurd rfl hr | cons => simp
      have hdd0 : Utf8.decode S (flat acc).length = dec rest := by rw [HSS.out, decode_drop, hdr]
      obtain ⟨W1, hnx, HB1, HIT1, hO1⟩ : ∃ W1, (∀ ty, (Instr.next (.pointer (some ⟨w.heap.size, 0, none⟩)) true ty).run Tryz.prog wr = .ok (.tuple #[.bool true, .int .i64 ((flat acc).length : Nat), .int .i32 ((dec rest).1 : Nat)]) W1) ∧ Hid (Below w.heap.size w W1) ∧
          Hid (W1.heap[w.heap.size]? = some (.stringIter S ((flat acc).length + (dec rest).2))) ∧ (∀ v, wr.ownsRow (w.heap.size + 1) 126 2 v acc.length (cellsR 0 acc) → W1.ownsRow (w.heap.size + 1) 126 2 v acc.length (cellsR 0 acc)) := by
        refine ⟨wr.iterAt w.heap.size S ((flat acc).length + (dec rest).2), fun ty => ?_, Lib.hid (Lib.below_iterAt HB.out (Nat.le_refl _) _ _), Lib.hid (Lib.iterAt_heap wr _ S _ _ HIT.out), fun v hv => ownsRow_iterAt hv (Nat.lt_succ_self _) _ _⟩
        have := Lib.run_next_any_at (P := Tryz.prog) wr w.heap.size S (flat acc).length ty HIT.out (by have := HLN.out; have := HSZ.out; omega)
        rw [hdd0] at this
        exact this
      have HO1 := Lib.hid (hO1 _ HO.out)
      have hk1 : w.heap.size < W1.heap.size := (Array.getElem?_eq_some_iff.1 HIT1.out).1
      clear hO1
      have HSTEP := Lib.hid (fun hb => each_step hr hb)
      have HBAD := Lib.hid (fun hb => each_bad hr hb)
      have HDR := Lib.hid (show ((rest.take (dec rest).2).length = (dec rest).2) by simp; omega)
      have HOI := Lib.hid (odd_iff rest)
      have HOD := Lib.hid (fun W => HODD.out (flat acc).length (dec rest).1 hpl W)
      rw [hdr] at HOD
      have HR := Lib.hid hr
      clear hdr hr HODD hdd0 HIT HO HB
      generalize hdd : dec rest = d at *
      clear hdd
      obtain ⟨r, n⟩ := d
      simp only at hd1 hd2 hd3 HDR HSTEP HBAD HOI HOD HIT1 hnx
      have hws1 := HB1.out.size
      by_cases hb : r = 65533 ∧ n < 2
      · have HF := Lib.hid (show each l = (acc, true) by rw [HE.out, HBAD.out hb]; simp)
        have hod : (decide (r = 65533) && !(([239, 191, 189] : List UInt8).isPrefixOf rest)) = true := by rw [decide_eq_true hb.1, (HOI.out hb.1).1 hb.2]; rfl
        rw [hod] at HOD
        clear hb hod
        go_wp2_with (
          go_at_call 101
          refine (HOD.out _).mono ?_
          rintro e w2 ⟨rfl, rfl⟩)
        go_ret2
        obtain ⟨A, c, rfl⟩ := own_slice HO1.out
        unfold EachPost
        rw [HF.out]
        exact ⟨A, c, _, rfl, rfl, HO1.out.mono (by omega), HB1.out⟩
      · have HS := Lib.hid (HSTEP.out hb)
        have hod : (decide (r = 65533) && !(([239, 191, 189] : List UInt8).isPrefixOf rest)) = false := by
          by_cases h5 : r = 65533
          · cases hh : ([239, 191, 189] : List UInt8).isPrefixOf rest with
            | true => simp
            | false => exact absurd ⟨h5, (HOI.out h5).2 hh⟩ hb
          · rw [decide_eq_false h5]
            rfl
        rw [hod] at HOD
        clear hb hod
        go_wp2_with (first
          | (
            go_at_call 101
            refine (HOD.out _).mono ?_
            rintro e w2 ⟨rfl, rfl⟩)
          | (at_builtin; refine wpList_append_any _ rfl (.tmp 18) (.tmp 22) 104 rfl (w.heap.size + 1) 126 i0 _ 2 16 und_runes hi hz0 hz1 hz2 rfl (by decide) _ acc.length (cellsR 0 acc) rfl (HO1.out.alloc _) (w2.heap.size + 1) (some ⟨w2.heap.size, 0, none⟩) 1 1 [.int .i32 r, .int .i64 ((flat acc).length : Nat)] rfl ?_ (rune_one _ _) (by simp only [maxLen]; omega) (by omega) (by simp <;> omega) ?_))
        · exact reads_two (heap_new_at rfl)
        intro v3 w3 hown3 hg3 _
        have HO3 := Lib.hid (show w3.ownsRow (w.heap.size + 1) 126 2 v3 (acc ++ [((r : Nat), rest.take n)]).length (cellsR 0 (acc ++ [((r : Nat), rest.take n)])) by
          rw [cellsR_snoc, List.length_append, Nat.zero_add]
          exact hown3)
        have HB3 := Lib.hid ((HB1.out.alloc HB1.out.size _).grown hg3 (by have := HB1.out.size; simp <;> omega) (fun k hk => by have := (HO1.out.lt k hk).1; omega))
        have HIT3 := Lib.hid (show w3.heap[w.heap.size]? = some (.stringIter S ((flat acc).length + n)) from (hg3.block w.heap.size (by simp; omega) (fun e => by have := (HO1.out.lt _ e.symm).1; omega)).trans ((Below.heap_alloc _ _ _ (by omega)).trans HIT1.out))
        clear hown3 hg3
        go_wp2_with fail
        go_roundg (rest.drop n).length
        case measure =>
          have := HQ.out
          simp
          omega
        case rel =>
          refine ⟨acc ++ [(r, rest.take n)], rest.drop n, Lib.hid ?_, Lib.hid ?_, rfl, Lib.hid ?_, HO3, HB3.out⟩
          · rw [flat_app, flat_cons, flat_nil, List.append_nil, List.append_assoc, List.take_append_drop, ← HA.out]
          · rw [HE.out, HS.out]
            simp
          · rw [flat_app, flat_cons, flat_nil, List.append_nil, List.length_append, HDR.out]
            exact HIT3.out
end Go.Proofs.YteikakoheibnjaaGreatDoor
namespace Go.Proofs.YteikakoheibnjaaGreatDoor
open Go Go.RowKit

theorem lwords_any (w : World) : Calls Tryz.prog 121 #[] w fun e w' => e = .returned (.slice (some ⟨w.heap.size, 0, none⟩) 17 17) ∧ w' = w.alloc (.cells (strVs wordL).toArray 9) := by
  go_enter Tryz.func121, Tryz.ntmps121
  go_wp2_with fail
  go_ret
  exact ⟨rfl, rfl⟩
/-- Texts as byte rows. -/
def strBs (l : List (List UInt8)) : List ByteArray := l.map fun x => ⟨x.toArray⟩
theorem strBs_mem (l : List (List UInt8)) (x : List UInt8) : (⟨x.toArray⟩ : ByteArray) ∈ strBs l ↔ x ∈ l := by
  unfold strBs
  rw [List.mem_map]
  constructor
  · rintro ⟨y, hy, e⟩
    have := congrArg (fun b : ByteArray => b.data.toList) e
    simp at this
    exact this ▸ hy
  · intro h
    exact ⟨x, h, rfl⟩
theorem lcont_any {w : World} {b : Nat} (hb : Blk w b 9 (strVs wordL).toArray) (x : List UInt8) : Calls Tryz.prog 120 #[.slice (some ⟨b, 0, none⟩) 17 17, .string ⟨x.toArray⟩] w fun e w' => e = .returned (.bool (decide (x ∈ wordL))) ∧ w' = w := by
  refine (Tryz.slices_Contains_string b 0 17 17 (strBs wordL) ⟨x.toArray⟩ _ (by decide) (by decide) (fun j hj => ?_)).mono ?_
  · have hj2 : j < wordL.length := by simpa [strBs] using hj
    rw [Nat.zero_add, cell_of_row w b j _ 9 (0, 0) hb, List.getElem?_toArray, strVs_at wordL j hj2]
    unfold strBs
    rw [List.getD_eq_getElem?_getD, List.getElem?_map, List.getElem?_eq_getElem hj2]
    rfl
  · rintro e w2 ⟨rfl, rfl⟩
    refine ⟨congrArg (fun b : Bool => Ending.returned (.bool b)) ?_, rfl⟩
    rw [List.take_of_length_le (by decide), Bool.eq_iff_iff, Lib.containsS_iff, strBs_mem, decide_eq_true_eq]
set_option maxHeartbeats 2000000 in
theorem llen_any (R : List Ru) (hR : ∀ r ∈ R, Snd r) (hl : (flat R).length ≤ 2000) (w : World) : Calls Tryz.prog 122 #[.string ⟨(flat R).toArray⟩] w fun e w' => e = .returned (.int .i64 (R.length : Nat)) ∧ Below w.heap.size w w' := by
  generalize hS : (⟨(flat R).toArray⟩ : ByteArray) = S
  have HSS := Lib.hid hS.symm
  have hsz : S.size = (flat R).length := by rw [← hS]; show (flat R).toArray.size = _; simp
  have HSZ := Lib.hid hsz
  have HRS := Lib.hid hR
  have hRl : R.length ≤ 2000 := Nat.le_trans (snd_len R hR) hl
  clear hsz hS hR
  go_enter Tryz.func122, Tryz.ntmps122
  go_wp2_with fail
  go_loopg [3] R.length (fun q v wr => ∃ k : Nat, k ≤ R.length ∧ q = R.length - k ∧ v = .int .i64 (k : Nat) ∧ Hid (wr.heap[w.heap.size]? = some (.stringIter S (posn R k))) ∧ Hid (Below w.heap.size w wr))
  case atStart => exact ⟨0, Nat.zero_le _, rfl, rfl, Lib.hid (World.iter_heap w S 0), Lib.hid ((Below.refl _ w).alloc (Nat.le_refl _) _)⟩
  case round =>
    obtain ⟨k, hk, hq, rfl, HIT, HB⟩ := hrel
    have HQ := Lib.hid hq
    clear hq
    by_cases hlt : k < R.length
    · have hd : (flat R).drop (posn R k) = flat (R.drop k) := drop_flat R k
      have hs := HRS.out R[k] (List.getElem_mem hlt)
      have hdec : dec (flat (R.drop k)) = (R[k].1, R[k].2.length) := by
        rw [List.drop_eq_getElem_cons hlt, flat_cons, dec_app _ _ hs.1 (by rw [hs.2.1]; exact hs.2.2), hs.2.1]
      have hps : posn R (k + 1) = posn R k + R[k].2.length := by
        unfold posn
        rw [List.take_succ_eq_append_getElem hlt, flat_app, List.length_append, flat_cons, flat_nil, List.append_nil]
      have hpos : 1 ≤ R[k].2.length := by
        cases h : R[k].2 with
        | nil => exact absurd h hs.1
        | cons => simp
      have hpa := posn_all R (k + 1)
      obtain ⟨W1, hnx, hB1, hIT1⟩ : ∃ W1, (∀ ty, (Instr.next (.pointer (some ⟨w.heap.size, 0, none⟩)) true ty).run Tryz.prog wr = .ok (.tuple #[.bool true, .int .i64 (posn R k : Nat), .int .i32 (R[k].1 : Nat)]) W1) ∧ Below w.heap.size w W1 ∧
          W1.heap[w.heap.size]? = some (.stringIter S (posn R (k + 1))) := by
        refine ⟨wr.iterAt w.heap.size S (posn R (k + 1)), fun ty => ?_, Lib.below_iterAt HB.out (Nat.le_refl _) _ _, Lib.iterAt_heap wr _ S _ _ HIT.out⟩
        have := Lib.run_next_any_at (P := Tryz.prog) wr w.heap.size S (posn R k) ty HIT.out (by have := HSZ.out; omega)
        rw [HSS.out, decode_drop, hd, hdec, ← HSS.out] at this
        rw [hps]
        exact this
      have HB1 := Lib.hid hB1
      have HIT1 := Lib.hid hIT1
      clear hd hs hdec hps hpos hpa hB1 hIT1 HRS HIT HB
      generalize R[k].1 = r at *
      go_wp2_with fail
      go_roundg (R.length - (k + 1))
      case measure => have := HQ.out; omega
      case rel => exact ⟨k + 1, by omega, rfl, by go_num, HIT1, HB1⟩
    · have e : k = R.length := by omega
      have hpe : posn R k = (flat R).length := by unfold posn; rw [List.take_of_length_le (by omega)]
      have hnx : ∀ ty, (Instr.next (.pointer (some ⟨w.heap.size, 0, none⟩)) true ty).run Tryz.prog wr = .ok (.tuple #[.bool false]) wr := fun ty => Lib.run_next_end_at wr w.heap.size S _ ty HIT.out (by have := HSZ.out; omega)
      have HF := Lib.hid (show ((k : Nat) : Int) = (R.length : Nat) by rw [e])
      clear e hpe
      go_wp2_with fail
      go_ret
      exact ⟨congrArg (fun x : Int => Ending.returned (.int .i64 x)) HF.out, HB.out⟩
end Go.Proofs.YteikakoheibnjaaGreatDoor
