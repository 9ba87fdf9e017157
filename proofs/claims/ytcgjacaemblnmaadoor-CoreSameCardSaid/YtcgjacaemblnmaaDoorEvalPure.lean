/- Plain: what holds of sets that are numbers, by the program's words and by the reference's. -/
import Derived.Test.YtcgjacaemblnmaaDoorTree
import Derived.Test.YtcgjacaemblnmaaDoorPop
namespace Go.Proofs.YtcgjacaemblnmaaDoor

def getS (s : List Nat) (v : Int) : Nat := s.getD v.toNat 0
/-- What x has and y has not. -/
def bnot (x y : Nat) : Nat := x ^^^ (x &&& y)
def oneB (s : Nat) : Bool := bc 64 s == 1
def lowN (s : Nat) : Int := (Lib.ctz 64 s : Int)
def singB (s : Nat) : Bool := decide (0 < s) && (s &&& (s - 1) == 0)

/-- The program's atoms. -/
def atomE (o : List UInt8) (a b c n : Int) (s : List Nat) : Bool :=
  if o = oTrue then true
  else if o = oSub then bnot (getS s a) (getS s b) == 0
  else if o = oSing then oneB (getS s a)
  else if o = oFlag then getS s a % 2 == 1
  else if o = oNone then getS s a == 0
  else if o = oLess then (oneB (getS s a) && oneB (getS s b)) && decide (0 < lowN (getS s b) - lowN (getS s a))
  else if o = oPlus then (oneB (getS s a) && oneB (getS s b)) && decide (lowN (getS s b) - lowN (getS s a) = n)
  else if o = oNum then oneB (getS s a) && decide (lowN (getS s a) = n)
  else if o = oUnion then decide (getS s c = getS s a ||| getS s b)
  else if o = oInter then decide (getS s c = getS s a &&& getS s b)
  else decide (getS s c = bnot (getS s a) (getS s b))
/-- The reference's. -/
def atomR (o : List UInt8) (a b c n : Int) (s : List Nat) : Bool :=
  if o = oTrue then true
  else if o = oSub then bnot (getS s a) (getS s b) == 0
  else if o = oSing then singB (getS s a)
  else if o = oFlag then getS s a % 2 == 1
  else if o = oNone then getS s a == 0
  else if o = oLess then singB (getS s a) && singB (getS s b) && decide (getS s a < getS s b)
  else if o = oPlus then singB (getS s a) && decide (getS s a * 2 ^ n.toNat = getS s b)
  else if o = oNum then decide (getS s a = 2 ^ n.toNat)
  else if o = oUnion then decide (getS s c = getS s a ||| getS s b)
  else if o = oInter then decide (getS s c = getS s a &&& getS s b)
  else decide (getS s c = bnot (getS s a) (getS s b))

abbrev Atom := List UInt8 → Int → Int → Int → Int → List Nat → Bool
mutual
def evalG (at_ : Atom) (bound : Nat) : Core → List Nat → Bool
  | .node o a b c n k => fun s =>
    let fs := evalL at_ bound k
    if o = oNot then !(fs.getD 0 (fun _ => false) s)
    else if o = oAnd then fs.getD 0 (fun _ => false) s && fs.getD 1 (fun _ => false) s
    else if o = oEx then (List.range (2 ^ bound)).any fun v => fs.getD 0 (fun _ => false) (s ++ [v])
    else at_ o a b c n s
def evalL (at_ : Atom) (bound : Nat) : List Core → List (List Nat → Bool)
  | [] => []
  | x :: r => (fun s => evalG at_ bound x s) :: evalL at_ bound r
end
theorem evalL_getD (at_ : Atom) (bound : Nat) : ∀ (k : List Core) (i : Nat) (h : i < k.length), (evalL at_ bound k).getD i (fun _ => false) = evalG at_ bound k[i]
  | x :: r, 0, _ => by simp [evalL]
  | x :: r, i + 1, h => by
    have := evalL_getD at_ bound r i (by simpa using h)
    simpa [evalL] using this
theorem evalG_node (at_ : Atom) (bound : Nat) (o : List UInt8) (a b c n : Int) (k : List Core) (s : List Nat) : evalG at_ bound (.node o a b c n k) s =
    if o = oNot then !((evalL at_ bound k).getD 0 (fun _ => false) s)
    else if o = oAnd then (evalL at_ bound k).getD 0 (fun _ => false) s && (evalL at_ bound k).getD 1 (fun _ => false) s
    else if o = oEx then (List.range (2 ^ bound)).any fun v => (evalL at_ bound k).getD 0 (fun _ => false) (s ++ [v])
    else at_ o a b c n s := by
  rw [evalG]
theorem evalG_not (at_ : Atom) (bound : Nat) (a b c n : Int) (k : List Core) (s : List Nat) (h : 0 < k.length) : evalG at_ bound (.node oNot a b c n k) s = !(evalG at_ bound k[0] s) := by
  rw [evalG_node, if_pos rfl, evalL_getD at_ bound k 0 h]
theorem evalG_and (at_ : Atom) (bound : Nat) (a b c n : Int) (k : List Core) (s : List Nat) (h : 1 < k.length) : evalG at_ bound (.node oAnd a b c n k) s = (evalG at_ bound k[0] s && evalG at_ bound k[1] s) := by
  rw [evalG_node, if_neg (by decide), if_pos rfl, evalL_getD at_ bound k 0 (by omega), evalL_getD at_ bound k 1 h]
theorem evalG_ex (at_ : Atom) (bound : Nat) (a b c n : Int) (k : List Core) (s : List Nat) (h : 0 < k.length) : evalG at_ bound (.node oEx a b c n k) s = (List.range (2 ^ bound)).any fun v => evalG at_ bound k[0] (s ++ [v]) := by
  rw [evalG_node, if_neg (by decide), if_neg (by decide), if_pos rfl, evalL_getD at_ bound k 0 h]
theorem evalG_atom (at_ : Atom) (bound : Nat) (o : List UInt8) (a b c n : Int) (k : List Core) (s : List Nat) (h1 : o ≠ oNot) (h2 : o ≠ oAnd) (h3 : o ≠ oEx) : evalG at_ bound (.node o a b c n k) s = at_ o a b c n s := by
  rw [evalG_node, if_neg h1, if_neg h2, if_neg h3]

/-- A set of one number. -/
theorem one_iff (s : Nat) (hs : s < 18446744073709551616) : bc 64 s = 1 ↔ s = 2 ^ Lib.ctz 64 s := by
  by_cases h0 : s = 0
  · subst h0
    constructor
    · intro h; revert h; decide
    · intro h; revert h; decide
  · have hl := bitsOf_low 64 0 s h0 hs
    have he : Lib.ctz 64 s = Lib.ctzFrom 64 s := by simp [Lib.ctz, h0]
    obtain ⟨m, hm, hk⟩ := Lib.ctzFrom_spec 64 s (by omega) hs
    have hlen := congrArg List.length hl
    rw [bitsOf_length, List.length_cons, bitsOf_length] at hlen
    rw [he]
    constructor
    · intro h
      have hz : bc 64 (s &&& (s - 1)) = 0 := by omega
      have h1 : (bitsOf 64 0 (s &&& (s - 1))) = [] := List.eq_nil_of_length_eq_zero (by rw [bitsOf_length]; exact hz)
      have h2 : s &&& (s - 1) = 0 := by
        apply Nat.eq_of_testBit_eq
        intro i
        rw [Nat.zero_testBit]
        rcases hb : (s &&& (s - 1)).testBit i with _ | _
        · rfl
        · exfalso
          have hi : i < 64 := by
            rcases Nat.lt_or_ge i 64 with h | h
            · exact h
            · have hlt : s &&& (s - 1) < 2 ^ i := Nat.lt_of_le_of_lt Nat.and_le_left (Nat.lt_of_lt_of_le (show s < 2 ^ 64 from hs) (Nat.pow_le_pow_right (by decide) h))
              rw [Nat.testBit_lt_two_pow hlt] at hb
              cases hb
          have : i ∈ bitsOf 64 0 (s &&& (s - 1)) := (bitsOf_mem _ _ _ _).2 ⟨Nat.zero_le _, by omega, by simpa using hb⟩
          rw [h1] at this
          simp at this
      have h3 := Lib.lowest_bit 64 s h0 hs
      rw [he] at h3
      have h4 : s = 2 ^ Lib.ctzFrom 64 s := by
        have hbit : ∀ i, s.testBit i = decide (i = Lib.ctzFrom 64 s) := by
          intro i
          have hb : (List.length (bitsOf 64 0 s)) = 1 := by rw [bitsOf_length]; exact h
          have hl2 : bitsOf 64 0 s = [Lib.ctzFrom 64 s] := by rw [hl, h1, Nat.zero_add]
          rcases hi : s.testBit i with _ | _
          · symm
            rw [decide_eq_false_iff_not]
            rintro rfl
            have : Lib.ctzFrom 64 s ∈ bitsOf 64 0 s := by rw [hl2]; simp
            have := ((bitsOf_mem _ _ _ _).1 this).2.2
            rw [Nat.sub_zero, hi] at this
            cases this
          · symm
            rw [decide_eq_true_iff]
            have hi64 : i < 64 := by
              rcases Nat.lt_or_ge i 64 with h | h
              · exact h
              · rw [Nat.testBit_lt_two_pow (Nat.lt_of_lt_of_le (show s < 2 ^ 64 from hs) (Nat.pow_le_pow_right (by decide) h))] at hi
                cases hi
            have : i ∈ bitsOf 64 0 s := (bitsOf_mem _ _ _ _).2 ⟨Nat.zero_le _, by omega, by simpa using hi⟩
            rw [hl2] at this
            simpa using this
        apply Nat.eq_of_testBit_eq
        intro i
        rw [hbit, Nat.testBit_two_pow]
        rw [Bool.eq_iff_iff]
        simp [eq_comm]
      exact h4
    · intro h
      have hp : ∀ k, k < 64 → bc 64 (2 ^ k) = 1 := by decide +kernel
      have e : bc 64 s = bc 64 (2 ^ Lib.ctzFrom 64 s) := by rw [← h]
      rw [e]
      exact hp _ hk
theorem ctz_pow : ∀ k, k < 64 → Lib.ctz 64 (2 ^ k) = k := by decide +kernel
theorem one_pow (s : Nat) (hs : s < 65536) : oneB s = true ↔ ∃ k, k < 16 ∧ s = 2 ^ k := by
  unfold oneB
  rw [beq_iff_eq, one_iff s (by omega)]
  constructor
  · intro h
    refine ⟨Lib.ctz 64 s, ?_, h⟩
    rcases Nat.lt_or_ge (Lib.ctz 64 s) 16 with h1 | h1
    · exact h1
    · have : 2 ^ 16 ≤ 2 ^ Lib.ctz 64 s := Nat.pow_le_pow_right (by decide) h1
      omega
  · rintro ⟨k, hk, rfl⟩
    rw [ctz_pow k (by omega)]
theorem low_pow (k : Nat) (hk : k < 16) : lowN (2 ^ k) = k := by
  unfold lowN; rw [ctz_pow k (by omega)]
theorem sing_eq (s : Nat) (hs : s < 65536) : singB s = oneB s := by
  rw [Bool.eq_iff_iff, one_pow s hs]
  unfold singB
  simp only [Bool.and_eq_true, decide_eq_true_eq, beq_iff_eq]
  constructor
  · rintro ⟨h0, h1⟩
    have hl := bitsOf_low 64 0 s (by omega) (by omega)
    rw [h1, bitsOf_zero] at hl
    have hb : bc 64 s = 1 := by
      have := congrArg List.length hl
      rwa [bitsOf_length] at this
    exact (one_pow s hs).1 (by unfold oneB; rw [hb]; rfl)
  · rintro ⟨k, hk, rfl⟩
    have hp : ∀ k, k < 16 → 0 < 2 ^ k ∧ 2 ^ k &&& (2 ^ k - 1) = 0 := by decide
    exact hp k hk
theorem pow_inj {j k : Nat} (h : 2 ^ j = 2 ^ k) : j = k := by
  rcases Nat.lt_trichotomy j k with h1 | h1 | h1
  · have := (Nat.pow_lt_pow_iff_right (a := 2) (by decide)).2 h1; omega
  · exact h1
  · have := (Nat.pow_lt_pow_iff_right (a := 2) (by decide)).2 h1; omega
theorem pow_lt_iff (j k : Nat) : 2 ^ j < 2 ^ k ↔ j < k := Nat.pow_lt_pow_iff_right (by decide)

theorem less_eq (x y : Nat) (hx : x < 65536) (hy : y < 65536) : ((oneB x && oneB y) && decide (0 < lowN y - lowN x)) = (oneB x && oneB y && decide (x < y)) := by
  rcases h1 : oneB x with _ | _
  · rfl
  · rcases h2 : oneB y with _ | _
    · rfl
    · obtain ⟨j, hj, rfl⟩ := (one_pow x hx).1 h1
      obtain ⟨k, hk, rfl⟩ := (one_pow y hy).1 h2
      simp only [low_pow j hj, low_pow k hk, Bool.true_and]
      rw [decide_eq_decide, pow_lt_iff]
      omega
theorem pow_small {j : Nat} {x : Nat} (h : x = 2 ^ j) (hx : x < 65536) : j < 16 := by
  rcases Nat.lt_or_ge j 16 with h1 | h1
  · exact h1
  · have : 2 ^ 16 ≤ 2 ^ j := Nat.pow_le_pow_right (by decide) h1
    have e : (2 : Nat) ^ 16 = 65536 := by decide
    omega
theorem plus_eq (x y : Nat) (n : Int) (hn : 0 ≤ n) (hx : x < 65536) (hy : y < 65536) : ((oneB x && oneB y) && decide (lowN y - lowN x = n)) = (oneB x && decide (x * 2 ^ n.toNat = y)) := by
  rcases h1 : oneB x with _ | _
  · rfl
  · obtain ⟨j, hj, rfl⟩ := (one_pow x hx).1 h1
    rw [low_pow j hj]
    rcases h2 : oneB y with _ | _
    · rw [Bool.and_false, Bool.false_and, Bool.true_and]
      symm
      rw [decide_eq_false_iff_not]
      intro h
      have e : y = 2 ^ (j + n.toNat) := by rw [Nat.pow_add]; exact h.symm
      have : oneB y = true := (one_pow y hy).2 ⟨j + n.toNat, pow_small e hy, e⟩
      rw [h2] at this; cases this
    · obtain ⟨k, hk, rfl⟩ := (one_pow y hy).1 h2
      simp only [low_pow k hk, Bool.true_and]
      rw [decide_eq_decide, ← Nat.pow_add]
      constructor
      · intro h
        have : j + n.toNat = k := by omega
        rw [this]
      · intro h
        have := pow_inj h
        omega
theorem num_eq (x : Nat) (n : Int) (hn : 0 ≤ n) (hx : x < 65536) : (oneB x && decide (lowN x = n)) = decide (x = 2 ^ n.toNat) := by
  rcases h1 : oneB x with _ | _
  · rw [Bool.false_and]
    symm
    rw [decide_eq_false_iff_not]
    intro h
    have : oneB x = true := (one_pow x hx).2 ⟨n.toNat, pow_small h hx, h⟩
    rw [h1] at this; cases this
  · obtain ⟨j, hj, rfl⟩ := (one_pow x hx).1 h1
    rw [low_pow j hj, Bool.true_and, decide_eq_decide]
    constructor
    · intro h
      have : j = n.toNat := by omega
      rw [this]
    · intro h
      have := pow_inj h
      omega
theorem getS_lt (s : List Nat) (hs : ∀ x ∈ s, x < 65536) (v : Int) : getS s v < 65536 := by
  unfold getS
  by_cases h : v.toNat < s.length
  · rw [List.getD_eq_getElem?_getD, List.getElem?_eq_getElem h]
    exact hs _ (List.getElem_mem h)
  · rw [List.getD_eq_getElem?_getD, List.getElem?_eq_none (by omega)]
    decide
theorem atoms_eq (o : List UInt8) (a b c n : Int) (s : List Nat) (hs : ∀ x ∈ s, x < 65536) (hn : 0 ≤ n) : atomE o a b c n s = atomR o a b c n s := by
  have hx := getS_lt s hs a
  have hy := getS_lt s hs b
  unfold atomE atomR
  rw [sing_eq _ hx, sing_eq _ hy, less_eq _ _ hx hy, plus_eq _ _ n hn hx hy, num_eq _ n hn hx]
/-- Of what may be both hold the same. -/
theorem evals_eq : ∀ (t : Core) (s : List Nat) (bound : Nat) (m : Int), (∀ x ∈ s, x < 65536) → bound ≤ 8 → isB t m = true → evalG atomE bound t s = evalG atomR bound t s := by
  intro t
  induction t using Core.ind with
  | h o a b c n ks ih =>
    intro s bound m hs hb hv
    unfold isB at hv
    rw [Bool.and_eq_true] at hv
    obtain ⟨hf, hk⟩ := hv
    have hkk : ∀ k ∈ ks, isB k (under o m) = true := by
      clear ih hf
      induction ks with
      | nil => intro k h; simp at h
      | cons x r ihr =>
        unfold isL at hk
        rw [Bool.and_eq_true] at hk
        intro k h
        rcases List.mem_cons.1 h with rfl | h
        · exact hk.1
        · exact ihr hk.2 k h
    have hlen : ∀ v b' k', shapeOf o = some (v, b', k') → ks.length = k' := by
      intro v b' k' h
      unfold fieldsB at hf
      rw [show (Core.node o a b c n ks).op = o from rfl, h] at hf
      simp only [Bool.and_eq_true, decide_eq_true_eq] at hf
      exact hf.1.1.1.1.1
    have hnn : 0 ≤ n := by
      unfold fieldsB at hf
      split at hf
      · cases hf
      · simp only [Bool.and_eq_true, decide_eq_true_eq] at hf
        have := hf.1.1.1.1.2
        split at this
        · simp at this; exact this.1
        · simp at this; rw [show n = 0 from this]; decide
    by_cases h1 : o = oNot
    · subst h1
      have hl := hlen 0 false 1 (by decide)
      rw [evalG_not _ _ _ _ _ _ _ _ (by omega), evalG_not _ _ _ _ _ _ _ _ (by omega), ih _ (List.getElem_mem _) s bound _ hs hb (hkk _ (List.getElem_mem _))]
    by_cases h2 : o = oAnd
    · subst h2
      have hl := hlen 0 false 2 (by decide)
      rw [evalG_and _ _ _ _ _ _ _ _ (by omega), evalG_and _ _ _ _ _ _ _ _ (by omega), ih _ (List.getElem_mem _) s bound _ hs hb (hkk _ (List.getElem_mem _)), ih _ (List.getElem_mem _) s bound _ hs hb (hkk _ (List.getElem_mem _))]
    by_cases h3 : o = oEx
    · subst h3
      have hl := hlen 1 false 1 (by decide)
      rw [evalG_ex _ _ _ _ _ _ _ _ (by omega), evalG_ex _ _ _ _ _ _ _ _ (by omega)]
      have hp : 2 ^ bound ≤ 256 := Nat.pow_le_pow_right (n := 2) (j := 8) (by decide) hb
      rw [Bool.eq_iff_iff, List.any_eq_true, List.any_eq_true]
      have step : ∀ v, v ∈ List.range (2 ^ bound) → evalG atomE bound ks[0] (s ++ [v]) = evalG atomR bound ks[0] (s ++ [v]) := by
        intro v hv
        rw [List.mem_range] at hv
        refine ih _ (List.getElem_mem _) _ bound _ ?_ hb (hkk _ (List.getElem_mem _))
        intro x hx
        rw [List.mem_append] at hx
        rcases hx with hx | hx
        · exact hs x hx
        · simp at hx; omega
      constructor
      · rintro ⟨v, hv, h⟩; exact ⟨v, hv, by rw [← step v hv]; exact h⟩
      · rintro ⟨v, hv, h⟩; exact ⟨v, hv, by rw [step v hv]; exact h⟩
    · rw [evalG_atom _ _ _ _ _ _ _ _ _ h1 h2 h3, evalG_atom _ _ _ _ _ _ _ _ _ h1 h2 h3]
      exact atoms_eq o a b c n s hs hnn
/-- Where nothing is bound the bound does not matter. -/
theorem eval_free (at_ : Atom) : ∀ (t : Core) (s : List Nat) (x y : Nat), freeB t = true → evalG at_ x t s = evalG at_ y t s := by
  intro t
  induction t using Core.ind with
  | h o a b c n ks ih =>
    intro s x y hf
    unfold freeB at hf
    rw [Bool.and_eq_true] at hf
    obtain ⟨hk, ho⟩ := hf
    have hkk : ∀ k ∈ ks, freeB k = true := by
      clear ih
      induction ks with
      | nil => intro k h; simp at h
      | cons z r ihr =>
        unfold freeL at hk
        rw [Bool.and_eq_true] at hk
        intro k h
        rcases List.mem_cons.1 h with rfl | h
        · exact hk.1
        · exact ihr hk.2 k h
    have he : ∀ i, (evalL at_ x ks).getD i (fun _ => false) s = (evalL at_ y ks).getD i (fun _ => false) s := by
      intro i
      by_cases hi : i < ks.length
      · rw [evalL_getD at_ x ks i hi, evalL_getD at_ y ks i hi]
        exact ih _ (List.getElem_mem hi) s x y (hkk _ (List.getElem_mem hi))
      · have hl : ∀ z (k : List Core), (evalL at_ z k).length = k.length := by
          intro z k
          induction k with
          | nil => simp [evalL]
          | cons q r ihr => simp [evalL, ihr]
        rw [List.getD_eq_getElem?_getD, List.getD_eq_getElem?_getD, List.getElem?_eq_none (by rw [hl]; omega), List.getElem?_eq_none (by rw [hl]; omega)]
    have ho2 : ¬ o = oEx := by simpa using ho
    rw [evalG_node, evalG_node, he 0, he 1, if_neg ho2, if_neg ho2]
end Go.Proofs.YtcgjacaemblnmaaDoor
