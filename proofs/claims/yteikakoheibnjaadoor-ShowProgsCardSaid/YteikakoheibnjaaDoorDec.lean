import GoSem.Core.Utf8
namespace Go.Proofs.YteikakoheibnjaaDoor
open Go

/-- A rune out of a text of n bytes, a k the k-th. -/
def decG (n : Nat) (a : Nat → Nat) : Nat × Nat :=
  let cont (k : Nat) : Bool := k < n && a k / 64 == 2
  if a 0 < 0x80 then (a 0, 1)
  else if a 0 / 32 == 6 && cont 1 then
    let c := (a 0 % 32) * 64 + a 1 % 64
    if c ≥ 0x80 then (c, 2) else (65533, 1)
  else if a 0 / 16 == 14 && cont 1 && cont 2 then
    let c := (a 0 % 16) * 4096 + (a 1 % 64) * 64 + a 2 % 64
    if c ≥ 0x800 && Utf8.valid c then (c, 3) else (65533, 1)
  else if a 0 / 8 == 30 && cont 1 && cont 2 && cont 3 then
    let c := (a 0 % 8) * 262144 + (a 1 % 64) * 4096 + (a 2 % 64) * 64 + a 3 % 64
    if c ≥ 0x10000 && Utf8.valid c then (c, 4) else (65533, 1)
  else (65533, 1)
def dec (l : List UInt8) : Nat × Nat := decG l.length fun k => (l.getD k 0).toNat

theorem get_list (l : List UInt8) (i k : Nat) : (ByteArray.get! ⟨l.toArray⟩ (i + k)) = (l.drop i).getD k 0 := by
  unfold ByteArray.get!
  rw [List.getD_eq_getElem?_getD, List.getElem?_drop]
  simp [getElem!_def]
  cases l[i + k]? <;> rfl
theorem decode_drop (l : List UInt8) (i : Nat) : Utf8.decode ⟨l.toArray⟩ i = dec (l.drop i) := by
  have hs : ∀ k, decide (i + k < ByteArray.size ⟨l.toArray⟩) = decide (k < (l.drop i).length) := fun k => by
    rw [decide_eq_decide, List.length_drop]
    show i + k < l.toArray.size ↔ _
    simp
    omega
  unfold Utf8.decode dec decG
  simp only [get_list, hs, Utf8.runeError]
theorem dec_pos (l : List UInt8) : 1 ≤ (dec l).2 ∧ (dec l).2 ≤ 4 := by
  unfold dec decG
  dsimp only
  repeat' split
  all_goals (dsimp only; omega)
/-- A rune's bytes lie in the text. -/
theorem dec_le (l : List UInt8) (h : l ≠ []) : (dec l).2 ≤ l.length := by
  have h1 : 1 ≤ l.length := by cases l with | nil => exact absurd rfl h | cons => simp
  unfold dec decG
  dsimp only
  repeat' split
  all_goals simp only [Bool.and_eq_true, decide_eq_true_eq] at *
  all_goals omega
theorem dec_ascii (c : UInt8) (t : List UInt8) (h : c.toNat < 128) : dec (c :: t) = (c.toNat, 1) := by
  unfold dec decG
  exact if_pos h
theorem getD_app (l r : List UInt8) (k : Nat) (h : k < l.length) : (l ++ r).getD k 0 = l.getD k 0 := by
  rw [List.getD_eq_getElem?_getD, List.getD_eq_getElem?_getD, List.getElem?_append_left h]
theorem decG_app (n m : Nat) (a b : Nat → Nat) (h1 : 1 ≤ n) (hm : n ≤ m) (g : ∀ k, k < n → b k = a k) (hb : ¬ ((decG n a).1 = 65533 ∧ (decG n a).2 < 2)) : decG m b = decG n a := by
  have g0 := g 0 (by omega)
  revert hb
  generalize hd : decG n a = d
  intro hb
  unfold decG at hd ⊢
  dsimp only at hd ⊢
  rw [g0]
  by_cases c1 : a 0 < 128
  · rw [if_pos c1] at hd ⊢
    exact hd
  rw [if_neg c1] at hd ⊢
  have cont : ∀ k, (decide (k < n) && a k / 64 == 2) = true → (decide (k < m) && b k / 64 == 2) = true ∧ b k = a k := fun k hk => by
    rw [Bool.and_eq_true, decide_eq_true_eq] at hk
    rw [g k hk.1, Bool.and_eq_true, decide_eq_true_eq]
    exact ⟨⟨by omega, hk.2⟩, rfl⟩
  have bad : d = (65533, 1) → False := fun e => hb (by rw [e]; decide)
  by_cases c2 : (a 0 / 32 == 6) = true
  · have hb2 : a 0 / 32 = 6 := eq_of_beq c2
    have n3 : (a 0 / 16 == 14) = false := by rw [beq_eq_false_iff_ne]; omega
    have n4 : (a 0 / 8 == 30) = false := by rw [beq_eq_false_iff_ne]; omega
    by_cases k1 : (decide (1 < n) && a 1 / 64 == 2) = true
    · obtain ⟨e1, e2⟩ := cont 1 k1
      rw [if_pos (by rw [c2, k1]; rfl)] at hd
      rw [if_pos (by rw [c2, e1]; rfl), e2]
      exact hd
    · rw [if_neg (by rw [c2]; simpa using k1), if_neg (by simp [n3]), if_neg (by simp [n4])] at hd
      exact (bad hd.symm).elim
  by_cases c3 : (a 0 / 16 == 14) = true
  · have hb3 : a 0 / 16 = 14 := eq_of_beq c3
    have n2 : (a 0 / 32 == 6) = false := by rw [beq_eq_false_iff_ne]; omega
    have n4 : (a 0 / 8 == 30) = false := by rw [beq_eq_false_iff_ne]; omega
    by_cases k1 : (decide (1 < n) && a 1 / 64 == 2) = true ∧ (decide (2 < n) && a 2 / 64 == 2) = true
    · obtain ⟨e1, e2⟩ := cont 1 k1.1
      obtain ⟨e3, e4⟩ := cont 2 k1.2
      rw [if_neg (by simp [n2]), if_pos (by rw [c3, k1.1, k1.2]; rfl)] at hd
      rw [if_neg (by simp [n2]), if_pos (by rw [c3, e1, e3]; rfl), e2, e4]
      exact hd
    · rw [if_neg (by simp [n2]), if_neg (by rw [c3]; simpa using k1), if_neg (by simp [n4])] at hd
      exact (bad hd.symm).elim
  by_cases c4 : (a 0 / 8 == 30) = true
  · have hb4 : a 0 / 8 = 30 := eq_of_beq c4
    have n2 : (a 0 / 32 == 6) = false := by rw [beq_eq_false_iff_ne]; omega
    have n3 : (a 0 / 16 == 14) = false := by rw [beq_eq_false_iff_ne]; omega
    by_cases k1 : ((decide (1 < n) && a 1 / 64 == 2) = true ∧ (decide (2 < n) && a 2 / 64 == 2) = true) ∧ (decide (3 < n) && a 3 / 64 == 2) = true
    · obtain ⟨e1, e2⟩ := cont 1 k1.1.1
      obtain ⟨e3, e4⟩ := cont 2 k1.1.2
      obtain ⟨e5, e6⟩ := cont 3 k1.2
      rw [if_neg (by simp [n2]), if_neg (by simp [n3]), if_pos (by rw [c4, k1.1.1, k1.1.2, k1.2]; rfl)] at hd
      rw [if_neg (by simp [n2]), if_neg (by simp [n3]), if_pos (by rw [c4, e1, e3, e5]; rfl), e2, e4, e6]
      exact hd
    · rw [if_neg (by simp [n2]), if_neg (by simp [n3]), if_neg (by rw [c4]; simpa [and_assoc] using k1)] at hd
      exact (bad hd.symm).elim
  have n2 : (a 0 / 32 == 6) = false := by simpa using c2
  have n3 : (a 0 / 16 == 14) = false := by simpa using c3
  have n4 : (a 0 / 8 == 30) = false := by simpa using c4
  rw [if_neg (by simp [n2]), if_neg (by simp [n3]), if_neg (by simp [n4])] at hd ⊢
  exact hd
/-- What begins a rune begins the same one with more behind. -/
theorem dec_app (l r : List UInt8) (h : l ≠ []) (hb : ¬ ((dec l).1 = 65533 ∧ (dec l).2 < 2)) : dec (l ++ r) = dec l := by
  have h1 : 1 ≤ l.length := by cases l with | nil => exact absurd rfl h | cons => simp
  exact decG_app l.length (l ++ r).length _ _ h1 (by simp) (fun k hk => by rw [getD_app l r k hk]) hb
end Go.Proofs.YteikakoheibnjaaDoor
