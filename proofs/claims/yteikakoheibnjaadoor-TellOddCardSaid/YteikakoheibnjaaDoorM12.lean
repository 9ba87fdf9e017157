/- Parts of the proof: LEach. -/
import Derived.Deep.Onto
import Derived.Lib.OthersKept
import Derived.Test.YteikakoheibnjaaDoorM11
import Derived.Test.YteikakoheibnjaaDoorM5
import Derived.WalkSmall
namespace Go.Proofs.YteikakoheibnjaaDoor
open Go Go.RowKit

theorem dec_ffd (t : List UInt8) : dec (239 :: 191 :: 189 :: t) = (65533, 3) := by
  have h : dec [239, 191, 189] = (65533, 3) := by decide
  have := dec_app [239, 191, 189] t (by simp) (by rw [h]; decide)
  rw [h] at this
  exact this
theorem odd_iff (l : List UInt8) (h5 : (dec l).1 = 65533) : (dec l).2 < 2 ↔ ([239, 191, 189] : List UInt8).isPrefixOf l = false := by
  constructor
  · intro h
    cases hh : ([239, 191, 189] : List UInt8).isPrefixOf l with
    | false => rfl
    | true =>
      obtain ⟨t, rfl⟩ := List.isPrefixOf_iff_prefix.1 hh
      have := dec_ffd t
      rw [show [239, 191, 189] ++ t = 239 :: 191 :: 189 :: t from rfl, this] at h
      exact absurd h (by decide)
  · intro h
    refine Decidable.byContradiction fun hn => ?_
    have key : ∃ t, l = 239 :: 191 :: 189 :: t := by
      have hlt : ∀ k, (l.getD k 0).toNat < 256 := fun k => (l.getD k 0).toNat_lt
      have h0 := hlt 0
      have h1 := hlt 1
      have h2 := hlt 2
      have h3 := hlt 3
      have hl : 2 < l.length ∧ (l.getD 0 0).toNat = 239 ∧ (l.getD 1 0).toNat = 191 ∧ (l.getD 2 0).toNat = 189 := by
        unfold dec decG at h5 hn
        dsimp only at h5 hn
        by_cases c1 : (l.getD 0 0).toNat < 128
        · rw [if_pos c1] at h5
          simp only at h5
          omega
        rw [if_neg c1] at h5 hn
        split at h5
        · next c2 =>
          rw [if_pos c2] at hn
          split at h5
          · simp only at h5
            omega
          · next c3 =>
            rw [if_neg c3] at hn
            exact absurd (by decide) hn
        · next c2 =>
          rw [if_neg c2] at hn
          split at h5
          · next c3 =>
            rw [if_pos c3] at hn
            simp only [Bool.and_eq_true, decide_eq_true_eq, beq_iff_eq] at c3
            split at h5
            · simp only at h5
              omega
            · next c4 =>
              rw [if_neg c4] at hn
              exact absurd (by decide) hn
          · next c3 =>
            rw [if_neg c3] at hn
            split at h5
            · next c4 =>
              rw [if_pos c4] at hn
              split at h5
              · next c5 =>
                simp only [Bool.and_eq_true, decide_eq_true_eq] at c5 h5
                omega
              · next c5 =>
                rw [if_neg c5] at hn
                exact absurd (by decide) hn
            · next c4 =>
              rw [if_neg c4] at hn
              exact absurd (by decide) hn
      match l, hl with
      | a :: b :: c :: t, hl =>
        obtain ⟨_, e0, e1, e2⟩ := hl
        refine ⟨t, ?_⟩
        have ea : a = 239 := UInt8.toNat_inj.1 e0
        have eb : b = 191 := UInt8.toNat_inj.1 e1
        have ec : c = 189 := UInt8.toNat_inj.1 e2
        rw [ea, eb, ec]
    obtain ⟨t, rfl⟩ := key
    simp [List.isPrefixOf] at h
theorem isOdd_any (S : ByteArray) (l : List UInt8) (hS : S = ⟨l.toArray⟩) (p r : Nat) (hp : p ≤ l.length) (hl : l.length ≤ 2000) (w : World) :
    Calls Tryd.prog 162 #[.string S, .int .i64 (p : Nat), .int .i32 (r : Nat)] w fun e w' => e = .returned (.bool (decide (r = 65533) && !(([239, 191, 189] : List UInt8).isPrefixOf (l.drop p)))) ∧ w' = w := by
  have hsz : S.size = l.length := by subst hS; show l.toArray.size = _; simp
  have hle : ((p : Nat) : Int) ≤ ((S.size : Nat) : Int) := by omega
  have HC : Hid (∀ W, Calls Tryd.prog 80 #[.string (S.extract p S.size), .string ⟨#[239, 191, 189]⟩] W fun e w' => e = .returned (.bool (([239, 191, 189] : List UInt8).isPrefixOf (l.drop p))) ∧ w' = W) := Lib.hid (fun W => by
    have := Tryd.strings_HasPrefix (S.extract p S.size) ⟨#[239, 191, 189]⟩ W
    rw [hS, ext_drop] at this
    rw [hS, ext_drop]
    exact this)
  have hss : ((S.size : Nat) : Int) ≤ 2000 := by omega
  clear hS hsz hp hl
  generalize ([239, 191, 189] : List UInt8).isPrefixOf (l.drop p) = b at *
  by_cases hr : r = 65533
  · subst hr
    cases b
    all_goals
      go_enter Tryd.func162, Tryd.ntmps162
      go_wp2_with (
        go_at_call 80
        refine (HC.out _).mono ?_
        rintro e w2 ⟨rfl, rfl⟩)
      all_goals
        go_ret
        exact ⟨rfl, rfl⟩
  · have g1 : ((r : Int) == 65533) = false := by simp; omega
    rw [decide_eq_false hr, Bool.false_and]
    clear hr HC
    go_enter Tryd.func162, Tryd.ntmps162
    go_wp2_with fail
    go_ret
    exact ⟨rfl, rfl⟩
set_option maxRecDepth 100000 in
set_option maxHeartbeats 4000000 in
theorem leach_any (l : List UInt8) (hl : l.length ≤ 2000) (w : World) : Calls Tryd.prog 157 #[.string ⟨l.toArray⟩] w (EachPost w l) := by
  generalize hS : (⟨l.toArray⟩ : ByteArray) = S
  have HSS := Lib.hid hS.symm
  obtain ⟨i0, hi, hz0, hz1, hz2⟩ := info_parts inf_rune
  have hsz : S.size = l.length := by rw [← hS]; show l.toArray.size = _; simp
  have HSZ := Lib.hid hsz
  have HODD := Lib.hid (fun p r (hp : p ≤ l.length) W => isOdd_any S l hS.symm p r hp hl W)
  clear hsz hS
  go_enter Tryd.func157, Tryd.ntmps157
  go_wp2_with fail
  go_loopg [2] l.length (fun q v wr => ∃ (acc : List Ru) (rest : List UInt8), Hid (l = flat acc ++ rest) ∧ Hid (each l = (acc ++ (each rest).1, (each rest).2)) ∧ q = rest.length ∧ Hid (wr.heap[w.heap.size]? = some (.stringIter S (flat acc).length)) ∧
    Hid (wr.ownsRow (w.heap.size + 1) 121 2 v acc.length (cellsR 0 acc)) ∧ Below w.heap.size w wr)
  case atStart => exact ⟨[], l, Lib.hid rfl, Lib.hid rfl, rfl, Lib.hid (World.iter_heap w S 0), Lib.hid ⟨rfl, .inl ⟨rfl, rfl⟩⟩, (Below.refl _ w).alloc (Nat.le_refl _) _⟩
  case round =>
    obtain ⟨acc, rest, HA, HE, hq, HIT, HO, hb⟩ := hrel
    have HQ := Lib.hid hq
    have HB := Lib.hid hb
    have hws := hb.size
    have hlen : l.length = (flat acc).length + rest.length := by have := congrArg List.length HA.out; rwa [List.length_append] at this
    have hacc : acc.length ≤ l.length := by
      have h1 := each_len l
      rw [HE.out] at h1
      simp at h1
      omega
    have hp1 : (flat acc).length ≤ 2000 := by omega
    have hacc2 : acc.length ≤ 2000 := by omega
    have hkw : w.heap.size < wr.heap.size := (Array.getElem?_eq_some_iff.1 HIT.out).1
    have HLN := Lib.hid hlen
    have hpl : (flat acc).length ≤ l.length := by omega
    clear hq hb hlen
    by_cases hr : rest = []
    · have HF := Lib.hid (show each l = (acc, false) by rw [HE.out, hr]; simp [each_nil])
      have hnx : ∀ ty, (Instr.next (.pointer (some ⟨w.heap.size, 0, none⟩)) true ty).run Tryd.prog wr = .ok (.tuple #[.bool false]) wr := fun ty => Lib.run_next_end_at wr w.heap.size S _ ty HIT.out (by
        have := HLN.out
        have := HSZ.out
        rw [hr] at *
        simp at *
        omega)
      clear hr HODD
      go_wp2_with fail
      go_ret2
      obtain ⟨A, c, rfl⟩ := own_slice HO.out
      unfold EachPost
      rw [HF.out]
      exact ⟨A, c, -1, rfl, rfl, HO.out.mono (by omega), HB.out⟩
    · have hdr : l.drop (flat acc).length = rest := by rw [HA.out, List.drop_left]
      have hd1 := dec_pos rest
      have hd2 := dec_le rest hr
      have hd3 := dec_lt rest
      have hpos : 1 ≤ rest.length := by cases rest with | nil => exact absurd rfl hr | cons => simp
      have hdd0 : Utf8.decode S (flat acc).length = dec rest := by rw [HSS.out, decode_drop, hdr]
      obtain ⟨W1, hnx, HB1, HIT1, hO1⟩ : ∃ W1, (∀ ty, (Instr.next (.pointer (some ⟨w.heap.size, 0, none⟩)) true ty).run Tryd.prog wr = .ok (.tuple #[.bool true, .int .i64 ((flat acc).length : Nat), .int .i32 ((dec rest).1 : Nat)]) W1) ∧ Hid (Below w.heap.size w W1) ∧
          Hid (W1.heap[w.heap.size]? = some (.stringIter S ((flat acc).length + (dec rest).2))) ∧ (∀ v, wr.ownsRow (w.heap.size + 1) 121 2 v acc.length (cellsR 0 acc) → W1.ownsRow (w.heap.size + 1) 121 2 v acc.length (cellsR 0 acc)) := by
        refine ⟨wr.iterAt w.heap.size S ((flat acc).length + (dec rest).2), fun ty => ?_, Lib.hid (Lib.below_iterAt HB.out (Nat.le_refl _) _ _), Lib.hid (Lib.iterAt_heap wr _ S _ _ HIT.out), fun v hv => ownsRow_iterAt hv (Nat.lt_succ_self _) _ _⟩
        have := Lib.run_next_any_at (P := Tryd.prog) wr w.heap.size S (flat acc).length ty HIT.out (by have := HLN.out; have := HSZ.out; omega)
        rw [hdd0] at this
        exact this
      have HO1 := Lib.hid (hO1 _ HO.out)
      have hk1 : w.heap.size < W1.heap.size := (Array.getElem?_eq_some_iff.1 HIT1.out).1
      clear hO1
      have HSTEP := Lib.hid (fun hb => each_step hr hb)
      have HBAD := Lib.hid (fun hb => each_bad hr hb)
      have HDR := Lib.hid (show ((rest.take (dec rest).2).length = (dec rest).2) by simp; omega)
      have HOI := Lib.hid (odd_iff rest)
      have HOD := Lib.hid (fun W => HODD.out (flat acc).length (dec rest).1 hpl W)
      rw [hdr] at HOD
      have HR := Lib.hid hr
      clear hdr hr HODD hdd0 HIT HO HB
      generalize hdd : dec rest = d at *
      clear hdd
      obtain ⟨r, n⟩ := d
      simp only at hd1 hd2 hd3 HDR HSTEP HBAD HOI HOD HIT1 hnx
      have hws1 := HB1.out.size
      by_cases hb : r = 65533 ∧ n < 2
      · have HF := Lib.hid (show each l = (acc, true) by rw [HE.out, HBAD.out hb]; simp)
        have hod : (decide (r = 65533) && !(([239, 191, 189] : List UInt8).isPrefixOf rest)) = true := by rw [decide_eq_true hb.1, (HOI.out hb.1).1 hb.2]; rfl
        rw [hod] at HOD
        clear hb hod
        go_wp2_with (
          go_at_call 162
          refine (HOD.out _).mono ?_
          rintro e w2 ⟨rfl, rfl⟩)
        go_ret2
        obtain ⟨A, c, rfl⟩ := own_slice HO1.out
        unfold EachPost
        rw [HF.out]
        exact ⟨A, c, _, rfl, rfl, HO1.out.mono (by omega), HB1.out⟩
      · have HS := Lib.hid (HSTEP.out hb)
        have hod : (decide (r = 65533) && !(([239, 191, 189] : List UInt8).isPrefixOf rest)) = false := by
          by_cases h5 : r = 65533
          · cases hh : ([239, 191, 189] : List UInt8).isPrefixOf rest with
            | true => simp
            | false => exact absurd ⟨h5, (HOI.out h5).2 hh⟩ hb
          · rw [decide_eq_false h5]
            rfl
        rw [hod] at HOD
        clear hb hod
        go_wp2_with (first
          | (
            go_at_call 162
            refine (HOD.out _).mono ?_
            rintro e w2 ⟨rfl, rfl⟩)
          | (at_builtin; refine wpList_append_any _ rfl (.tmp 18) (.tmp 22) 101 rfl (w.heap.size + 1) 121 i0 _ 2 16 und_runes hi hz0 hz1 hz2 rfl (by decide) _ acc.length (cellsR 0 acc) rfl (HO1.out.alloc _) (w2.heap.size + 1) (some ⟨w2.heap.size, 0, none⟩) 1 1 [.int .i32 r, .int .i64 ((flat acc).length : Nat)] rfl ?_ (rune_one _ _) (by simp only [maxLen]; omega) (by omega) (by simp <;> omega) ?_))
        · exact reads_two (heap_new_at rfl)
        intro v3 w3 hown3 hg3 _
        have HO3 := Lib.hid (show w3.ownsRow (w.heap.size + 1) 121 2 v3 (acc ++ [((r : Nat), rest.take n)]).length (cellsR 0 (acc ++ [((r : Nat), rest.take n)])) by
          rw [cellsR_snoc, List.length_append, Nat.zero_add]
          exact hown3)
        have HB3 := Lib.hid ((HB1.out.alloc HB1.out.size _).grown hg3 (by have := HB1.out.size; simp <;> omega) (fun k hk => by have := (HO1.out.lt k hk).1; omega))
        have HIT3 := Lib.hid (show w3.heap[w.heap.size]? = some (.stringIter S ((flat acc).length + n)) from (hg3.block w.heap.size (by simp; omega) (fun e => by have := (HO1.out.lt _ e.symm).1; omega)).trans ((Below.heap_alloc _ _ _ (by omega)).trans HIT1.out))
        clear hown3 hg3
        go_wp2_with fail
        go_roundg (rest.drop n).length
        case measure =>
          have := HQ.out
          simp
          omega
        case rel =>
          refine ⟨acc ++ [(r, rest.take n)], rest.drop n, Lib.hid ?_, Lib.hid ?_, rfl, Lib.hid ?_, HO3, HB3.out⟩
          · rw [flat_app, flat_cons, flat_nil, List.append_nil, List.append_assoc, List.take_append_drop, ← HA.out]
          · rw [HE.out, HS.out]
            simp
          · rw [flat_app, flat_cons, flat_nil, List.append_nil, List.length_append, HDR.out]
            exact HIT3.out
end Go.Proofs.YteikakoheibnjaaDoor
