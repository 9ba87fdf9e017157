/- Parts of the proof: SegPure, PrePure, TNumber. -/
import Derived.Deep.Onto
import Derived.Lib.OthersKept
import Derived.Test.YteikakoheibnjaaGreatDoorM0
import Derived.Test.YteikakoheibnjaaGreatDoorM4
import Derived.Test.YteikakoheibnjaaGreatDoorM5
import Derived.WalkSmall
namespace Go.Proofs.YteikakoheibnjaaGreatDoor
open Go

theorem decG_any (n m : Nat) (a b : Nat → Nat) (hm : (decG n a).2 ≤ m) (g : ∀ k, k < (decG n a).2 → b k = a k) (hb : ¬ ((decG n a).1 = 65533 ∧ (decG n a).2 < 2)) : decG m b = decG n a := by
  have hpos : 1 ≤ (decG n a).2 := by
    unfold decG
    dsimp only
    repeat' split
    all_goals (dsimp only; omega)
  revert hb hm g hpos
  generalize hd : decG n a = d
  intro hm g hb hpos
  have g0 := g 0 (by omega)
  unfold decG at hd ⊢
  dsimp only at hd ⊢
  rw [g0]
  by_cases c1 : a 0 < 128
  · rw [if_pos c1] at hd ⊢
    exact hd
  rw [if_neg c1] at hd ⊢
  have cont : ∀ k, k < d.2 → (decide (k < n) && a k / 64 == 2) = true → (decide (k < m) && b k / 64 == 2) = true ∧ b k = a k := fun k hkd hk => by
    rw [Bool.and_eq_true, decide_eq_true_eq] at hk
    rw [g k hkd, Bool.and_eq_true, decide_eq_true_eq]
    exact ⟨⟨by omega, hk.2⟩, rfl⟩
  have bad : d = (65533, 1) → False := fun e => hb (by rw [e]; decide)
  by_cases c2 : (a 0 / 32 == 6) = true
  · have hb2 : a 0 / 32 = 6 := eq_of_beq c2
    have n3 : (a 0 / 16 == 14) = false := by rw [beq_eq_false_iff_ne]; omega
    have n4 : (a 0 / 8 == 30) = false := by rw [beq_eq_false_iff_ne]; omega
    by_cases k1 : (decide (1 < n) && a 1 / 64 == 2) = true
    · rw [if_pos (by rw [c2, k1]; rfl)] at hd
      have h2 : d.2 = 2 := by
        split at hd
        · rw [← hd]
        · exact (bad hd.symm).elim
      obtain ⟨e1, e2⟩ := cont 1 (by omega) k1
      rw [if_pos (by rw [c2, e1]; rfl), e2]
      exact hd
    · rw [if_neg (by rw [c2]; simpa using k1), if_neg (by simp [n3]), if_neg (by simp [n4])] at hd
      exact (bad hd.symm).elim
  by_cases c3 : (a 0 / 16 == 14) = true
  · have hb3 : a 0 / 16 = 14 := eq_of_beq c3
    have n2 : (a 0 / 32 == 6) = false := by rw [beq_eq_false_iff_ne]; omega
    have n4 : (a 0 / 8 == 30) = false := by rw [beq_eq_false_iff_ne]; omega
    by_cases k1 : (decide (1 < n) && a 1 / 64 == 2) = true ∧ (decide (2 < n) && a 2 / 64 == 2) = true
    · rw [if_neg (by simp [n2]), if_pos (by rw [c3, k1.1, k1.2]; rfl)] at hd
      have h2 : d.2 = 3 := by
        split at hd
        · rw [← hd]
        · exact (bad hd.symm).elim
      obtain ⟨e1, e2⟩ := cont 1 (by omega) k1.1
      obtain ⟨e3, e4⟩ := cont 2 (by omega) k1.2
      rw [if_neg (by simp [n2]), if_pos (by rw [c3, e1, e3]; rfl), e2, e4]
      exact hd
    · rw [if_neg (by simp [n2]), if_neg (by rw [c3]; simpa using k1), if_neg (by simp [n4])] at hd
      exact (bad hd.symm).elim
  by_cases c4 : (a 0 / 8 == 30) = true
  · have hb4 : a 0 / 8 = 30 := eq_of_beq c4
    have n2 : (a 0 / 32 == 6) = false := by rw [beq_eq_false_iff_ne]; omega
    have n3 : (a 0 / 16 == 14) = false := by rw [beq_eq_false_iff_ne]; omega
    by_cases k1 : ((decide (1 < n) && a 1 / 64 == 2) = true ∧ (decide (2 < n) && a 2 / 64 == 2) = true) ∧ (decide (3 < n) && a 3 / 64 == 2) = true
    · rw [if_neg (by simp [n2]), if_neg (by simp [n3]), if_pos (by rw [c4, k1.1.1, k1.1.2, k1.2]; rfl)] at hd
      have h2 : d.2 = 4 := by
        split at hd
        · rw [← hd]
        · exact (bad hd.symm).elim
      obtain ⟨e1, e2⟩ := cont 1 (by omega) k1.1.1
      obtain ⟨e3, e4⟩ := cont 2 (by omega) k1.1.2
      obtain ⟨e5, e6⟩ := cont 3 (by omega) k1.2
      rw [if_neg (by simp [n2]), if_neg (by simp [n3]), if_pos (by rw [c4, e1, e3, e5]; rfl), e2, e4, e6]
      exact hd
    · rw [if_neg (by simp [n2]), if_neg (by simp [n3]), if_neg (by rw [c4]; simpa [and_assoc] using k1)] at hd
      exact (bad hd.symm).elim
  have n2 : (a 0 / 32 == 6) = false := by simpa using c2
  have n3 : (a 0 / 16 == 14) = false := by simpa using c3
  have n4 : (a 0 / 8 == 30) = false := by simpa using c4
  rw [if_neg (by simp [n2]), if_neg (by simp [n3]), if_neg (by simp [n4])] at hd ⊢
  exact hd
theorem dec_take (l : List UInt8) (h : l ≠ []) (hb : ¬ ((dec l).1 = 65533 ∧ (dec l).2 < 2)) : dec (l.take (dec l).2) = dec l := by
  have hle := dec_le l h
  refine decG_any l.length _ _ _ ?_ (fun k hk => ?_) hb
  · rw [List.length_take]
    exact Nat.le_min.2 ⟨Nat.le_refl _, hle⟩
  · have hk2 : k < (dec l).2 := hk
    rw [List.getD_eq_getElem?_getD, List.getD_eq_getElem?_getD, List.getElem?_take_of_lt hk2]
/-- A rune that stands for itself: its bytes are just its own. -/
def Snd (r : Ru) : Prop := r.2 ≠ [] ∧ dec r.2 = (r.1, r.2.length) ∧ ¬ (r.1 = 65533 ∧ r.2.length < 2)
theorem each_snd : ∀ l, ∀ r ∈ (each l).1, Snd r := by
  refine each_ind (by simp [each_nil]) (fun l hn hb => by simp [each_bad hn hb]) ?_
  intro l hn hb ih r hr
  rw [each_step hn hb] at hr
  rcases List.mem_cons.1 hr with rfl | hr
  · have h1 := dec_pos l
    have h2 := dec_le l hn
    have hl : (l.take (dec l).2).length = (dec l).2 := by rw [List.length_take]; omega
    refine ⟨fun e => ?_, ?_, ?_⟩
    · have := congrArg List.length e
      simp only [hl, List.length_nil] at this
      omega
    · simp only
      rw [dec_take l hn hb, hl]
    · simp only [hl]
      exact hb
  · exact ih r hr
theorem each_one {r : Ru} (h : Snd r) : each r.2 = ([r], false) := by
  obtain ⟨h1, h2, h3⟩ := h
  rw [each_step h1 (by rw [h2]; exact h3), h2]
  simp only [List.take_length, List.drop_length, each_nil]
theorem each_seg : ∀ R : List Ru, (∀ r ∈ R, Snd r) → each (flat R) = (R, false)
  | [], _ => rfl
  | r :: R, h => by
    have h1 := each_one (h r List.mem_cons_self)
    have h2 := each_seg R (fun x hx => h x (List.mem_cons_of_mem _ hx))
    rw [flat_cons, each_app _ _ (by rw [h1]), h1, h2]
    rfl
theorem snd_len : ∀ R : List Ru, (∀ r ∈ R, Snd r) → R.length ≤ (flat R).length
  | [], _ => by simp
  | r :: R, h => by
    have h1 := (h r List.mem_cons_self).1
    have h2 := snd_len R (fun x hx => h x (List.mem_cons_of_mem _ hx))
    have h3 : 1 ≤ r.2.length := by
      cases e : r.2 with
      | nil => exact absurd e h1
      | cons => simp
    rw [flat_cons, List.length_append, List.length_cons]
    omega
end Go.Proofs.YteikakoheibnjaaGreatDoor
namespace Go.Proofs.YteikakoheibnjaaGreatDoor
open Go

theorem dec_big (l : List UInt8) (h : ¬ (l.getD 0 0).toNat < 128) : 128 ≤ (dec l).1 := by
  unfold dec decG
  dsimp only
  rw [if_neg h]
  repeat' split
  all_goals simp only [Bool.and_eq_true, decide_eq_true_eq] at *
  all_goals omega
theorem snd_head {r : Ru} (h : Snd r) : ∃ b t, r.2 = b :: t ∧ ((b.toNat < 128 ∧ t = [] ∧ r.1 = b.toNat) ∨ (128 ≤ b.toNat ∧ 128 ≤ r.1)) := by
  obtain ⟨h1, h2, h3⟩ := h
  cases e : r.2 with
  | nil => exact absurd e h1
  | cons b t =>
    refine ⟨b, t, rfl, ?_⟩
    by_cases hb : b.toNat < 128
    · have h4 := dec_ascii b t hb
      rw [e, h4] at h2
      injection h2 with h5 h6
      simp at h6
      exact Or.inl ⟨hb, by simpa using h6, h5.symm⟩
    · have h4 := dec_big r.2 (by rw [e]; exact hb)
      rw [h2] at h4
      exact Or.inr ⟨by omega, h4⟩
theorem pre_iff : ∀ (s : List UInt8) (_ : ∀ c ∈ s, c.toNat < 128) (R : List Ru) (_ : ∀ r ∈ R, Snd r) (rest : List UInt8) (_ : rest = [] ∨ 128 ≤ (rest.getD 0 0).toNat), s.isPrefixOf (flat R ++ rest) = isPre s R
  | [], _, R, _, rest, _ => by simp [isPre]
  | c :: s, hs, [], _, rest, hr => by
    have hc := hs c List.mem_cons_self
    rw [flat_nil, List.nil_append]
    cases rest with
    | nil => rfl
    | cons x t =>
      have hx : 128 ≤ x.toNat := by
        rcases hr with hr | hr
        · cases hr
        · exact hr
      show ((c == x) && _) = false
      rw [beq_false_of_ne (by rintro rfl; omega)]
      rfl
  | c :: s, hs, r :: R, hR, rest, hr => by
    have hc := hs c List.mem_cons_self
    obtain ⟨b, t, e, h⟩ := snd_head (hR r List.mem_cons_self)
    have ih := pre_iff s (fun x hx => hs x (List.mem_cons_of_mem _ hx)) R (fun x hx => hR x (List.mem_cons_of_mem _ hx)) rest hr
    rw [flat_cons, e]
    unfold isPre
    rcases h with ⟨h1, rfl, h3⟩ | ⟨h1, h2⟩
    · show ((c == b) && s.isPrefixOf (flat R ++ rest)) = _
      rw [ih, h3]
      congr 1
      rw [Bool.eq_iff_iff, beq_iff_eq, beq_iff_eq]
      exact ⟨fun h => by rw [h], fun h => (UInt8.toNat_inj.1 h).symm⟩
    · show ((c == b) && _) = _
      rw [beq_false_of_ne (by rintro rfl; omega), beq_false_of_ne (a := r.1) (by omega)]
      rfl
end Go.Proofs.YteikakoheibnjaaGreatDoor
namespace Go.Proofs.YteikakoheibnjaaGreatDoor
open Go Go.RowKit

theorem isDig_iff (c : UInt8) : isDig c = true ↔ 48 ≤ c.toNat ∧ c.toNat ≤ 57 := by
  unfold isDig
  rw [Bool.and_eq_true, decide_eq_true_eq, decide_eq_true_eq]
theorem numberF_take (l : List UInt8) (k : Nat) (h : k < l.length) : numberF (l.take (k + 1)) = numberF (l.take k) * 10 + (l[k].toNat - 48) := by
  unfold numberF
  rw [List.take_succ_eq_append_getElem h, List.foldl_append]
  rfl
theorem numberF_lt : ∀ (k : Nat) (l : List UInt8), (l.take k).all isDig = true → k ≤ l.length → numberF (l.take k) < 10 ^ k
  | 0, _, _, _ => by simp [numberF]
  | k + 1, l, h, hk => by
    rw [numberF_take l k (by omega)]
    rw [List.take_succ_eq_append_getElem (show k < l.length by omega), List.all_append, Bool.and_eq_true] at h
    have h1 := numberF_lt k l h.1 (by omega)
    have h2 : isDig l[k] = true := by simpa using h.2
    have h3 := (isDig_iff _).1 h2
    rw [Nat.pow_succ]
    omega
theorem digs_take (l : List UInt8) (k : Nat) (h : k < l.length) : (l.take (k + 1)).all isDig = ((l.take k).all isDig && isDig l[k]) := by
  rw [List.take_succ_eq_append_getElem h, List.all_append]
  simp
theorem number_no {l : List UInt8} {k : Nat} (h : k < l.length) (hd : isDig l[k] = false) : number l = -1 := by
  unfold number
  rw [if_neg]
  rw [Bool.and_eq_true, List.all_eq_true]
  rintro ⟨h1, _⟩
  rw [h1 _ (List.getElem_mem h)] at hd
  cases hd
theorem number_long {l : List UInt8} (h : 4 < l.length) : number l = -1 := by
  unfold number
  rw [if_neg]
  rw [Bool.and_eq_true, decide_eq_true_eq]
  omega
theorem number_yes {l : List UInt8} (h : l.all isDig = true) (hl : l.length ≤ 4) : number l = (numberF l : Nat) := by
  unfold number
  rw [if_pos (by rw [Bool.and_eq_true, decide_eq_true_eq]; exact ⟨h, hl⟩)]
set_option maxRecDepth 100000 in
set_option maxHeartbeats 4000000 in
theorem tnumber_any (l : List UInt8) (hl : l.length ≤ 4294967281) (w : World) : Calls Tryz.prog 26 #[.string ⟨l.toArray⟩] w fun e w' => e = .returned (.int .i64 (number l)) ∧ Below w.heap.size w w' := by
  generalize hS : (⟨l.toArray⟩ : ByteArray) = S
  have HSS := Lib.hid hS.symm
  have hsz : S.size = l.length := by rw [← hS]; show l.toArray.size = _; simp
  have HSZ := Lib.hid hsz
  clear hsz hS
  go_enter Tryz.func26, Tryz.ntmps26
  go_wp2_with fail
  go_loopg [3] l.length (fun q v wr => ∃ k : Nat, k ≤ l.length ∧ k ≤ 4 ∧ q = l.length - k ∧ v = .int .i64 (numberF (l.take k) : Nat) ∧ Hid ((l.take k).all isDig = true) ∧ Hid (wr.heap[w.heap.size]? = some (.stringIter S k)) ∧ Hid (Below w.heap.size w wr))
  case atStart => exact ⟨0, Nat.zero_le _, by omega, rfl, rfl, Lib.hid rfl, Lib.hid (World.iter_heap w S 0), Lib.hid ((Below.refl _ w).alloc (Nat.le_refl _) _)⟩
  case round =>
    obtain ⟨k, hk, hk4, hq, rfl, HD, HIT, HB⟩ := hrel
    have HQ := Lib.hid hq
    have hws := HB.out.size
    have hnl := numberF_lt k l HD.out hk
    have hbn : numberF (l.take k) < 10000 := Nat.lt_of_lt_of_le hnl (Nat.pow_le_pow_right (n := 10) (by decide) hk4)
    have hkw : w.heap.size < wr.heap.size := (Array.getElem?_eq_some_iff.1 HIT.out).1
    clear hq
    by_cases hlt : k < l.length
    · have HC := Lib.hid (digs_take l k hlt)
      have HN := Lib.hid (numberF_take l k hlt)
      have HNO := Lib.hid (fun h => number_no (l := l) hlt h)
      have HLO := Lib.hid (fun h => number_long (l := l) h)
      have hdec : Utf8.decode S k = dec (l.drop k) := by rw [HSS.out, decode_drop]
      have hdrop : l.drop k = l[k] :: l.drop (k + 1) := List.drop_eq_getElem_cons hlt
      have hc256 := (l[k]).toNat_lt
      have HDG := Lib.hid (isDig_iff l[k])
      have hnx : ∀ ty, (Instr.next (.pointer (some ⟨w.heap.size, 0, none⟩)) true ty).run Tryz.prog wr = .ok (.tuple #[.bool true, .int .i64 (k : Nat), .int .i32 ((dec (l.drop k)).1 : Nat)]) (wr.iterAt w.heap.size S (k + (dec (l.drop k)).2)) := fun ty => by
        have := Lib.run_next_any_at (P := Tryz.prog) wr w.heap.size S k ty HIT.out (by have := HSZ.out; omega)
        rw [hdec] at this
        exact this
      by_cases hhi : l[k].toNat < 128
      · have hd1 : dec (l.drop k) = (l[k].toNat, 1) := by rw [hdrop]; exact dec_ascii _ _ hhi
        rw [hd1] at hnx
        have HIT1 := Lib.hid (Lib.iterAt_heap wr w.heap.size S k (k + 1) HIT.out)
        have HB1 := Lib.hid (Lib.below_iterAt HB.out (Nat.le_refl _) S (k + 1))
        clear hd1 hdrop hdec HSS HSZ HIT HB
        simp only at hnx
        generalize wr.iterAt w.heap.size S (k + 1) = W1 at *
        generalize l[k] = ch at *
        generalize hc : ch.toNat = c at *
        by_cases h0 : c < 48
        · have t1 : decide ((c : Int) < 48) = true := decide_eq_true (by omega)
          have t1' : decide (c < 48) = true := decide_eq_true (by omega)
          have HF := Lib.hid (HNO.out (by cases hh : isDig ch with | false => rfl | true => have := HDG.out.1 hh; omega))
          clear HDG HNO HC HN hc
          go_wp2_with fail
          go_ret
          exact ⟨congrArg (fun x : Int => Ending.returned (.int .i64 x)) HF.out.symm, HB1.out⟩
        have t1 : decide ((c : Int) < 48) = false := decide_eq_false (by omega)
        have t1' : decide (c < 48) = false := decide_eq_false (by omega)
        by_cases h9 : 57 < c
        · have t2 : decide ((57 : Int) < (c : Int)) = true := decide_eq_true (by omega)
          have t2' : decide (57 < c) = true := decide_eq_true (by omega)
          have HF := Lib.hid (HNO.out (by cases hh : isDig ch with | false => rfl | true => have := HDG.out.1 hh; omega))
          clear HDG HNO HC HN hc
          go_wp2_with fail
          go_ret
          exact ⟨congrArg (fun x : Int => Ending.returned (.int .i64 x)) HF.out.symm, HB1.out⟩
        have t2 : decide ((57 : Int) < (c : Int)) = false := decide_eq_false (by omega)
        have t2' : decide (57 < c) = false := decide_eq_false (by omega)
        by_cases h3 : 3 < k
        · have t3 : decide ((3 : Int) < (k : Int)) = true := decide_eq_true (by omega)
          have t3' : decide (3 < k) = true := decide_eq_true (by omega)
          have HF := Lib.hid (HLO.out (by omega))
          clear HDG HNO HC HN hc
          go_wp2_with fail
          go_ret
          exact ⟨congrArg (fun x : Int => Ending.returned (.int .i64 x)) HF.out.symm, HB1.out⟩
        have t3 : decide ((3 : Int) < (k : Int)) = false := decide_eq_false (by omega)
        have t3' : decide (3 < k) = false := decide_eq_false (by omega)
        have HT := Lib.hid (show (l.take (k + 1)).all isDig = true by rw [HC.out, HD.out, HDG.out.2 (by omega)]; rfl)
        have HN2 := Lib.hid (show ((numberF (l.take (k + 1)) : Nat) : Int) = (numberF (l.take k) : Int) * 10 + ((c : Int) - 48) by rw [HN.out]; omega)
        clear HDG HNO HC HN HLO hc hnl
        generalize numberF (l.take k) = n at *
        have q1 : IntKind.i32.wrap ((c : Int) - 48) = (c : Int) - 48 := IntWalk.i32_in _ ⟨by omega, by omega⟩
        go_wp2_with fail
        go_roundg (l.length - (k + 1))
        case measure => have := HQ.out; omega
        case rel => exact ⟨k + 1, by omega, by omega, rfl, by rw [HN2.out], HT, HIT1, HB1⟩
      · have hbig := dec_big (l.drop k) (by rw [hdrop]; exact hhi)
        have HF := Lib.hid (HNO.out (by cases hh : isDig l[k] with | false => rfl | true => have := HDG.out.1 hh; omega))
        have HB1 := Lib.hid (Lib.below_iterAt HB.out (Nat.le_refl _) S (k + (dec (l.drop k)).2))
        clear hdrop hdec HSS HSZ HIT HB HDG HNO HC HN
        generalize wr.iterAt w.heap.size S (k + (dec (l.drop k)).2) = W1 at *
        generalize (dec (l.drop k)).1 = c at *
        have t1 : decide ((c : Int) < 48) = false := decide_eq_false (by omega)
        have t1' : decide (c < 48) = false := decide_eq_false (by omega)
        have t2 : decide ((57 : Int) < (c : Int)) = true := decide_eq_true (by omega)
        have t2' : decide (57 < c) = true := decide_eq_true (by omega)
        go_wp2_with fail
        go_ret
        exact ⟨congrArg (fun x : Int => Ending.returned (.int .i64 x)) HF.out.symm, HB1.out⟩
    · have HF := Lib.hid (show number l = (numberF (l.take k) : Nat) by
        have e : l.take k = l := List.take_of_length_le (by omega)
        have h1 := HD.out
        rw [e] at h1 ⊢
        exact number_yes h1 (by omega))
      have hnx : ∀ ty, (Instr.next (.pointer (some ⟨w.heap.size, 0, none⟩)) true ty).run Tryz.prog wr = .ok (.tuple #[.bool false]) wr := fun ty => Lib.run_next_end_at wr w.heap.size S k ty HIT.out (by have := HSZ.out; omega)
      go_wp2_with fail
      go_ret
      exact ⟨congrArg (fun x : Int => Ending.returned (.int .i64 x)) HF.out.symm, HB.out⟩
end Go.Proofs.YteikakoheibnjaaGreatDoor
