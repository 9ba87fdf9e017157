/- Parts of the proof: Dec, LexPure. -/
import GoSem.Core.Utf8
namespace Go.Proofs.YteikakoheibnjaaGreatDoor
open Go

/-- A rune out of a text of n bytes, a k the k-th. -/
def decG (n : Nat) (a : Nat → Nat) : Nat × Nat :=
  let cont (k : Nat) : Bool := k < n && a k / 64 == 2
  if a 0 < 0x80 then (a 0, 1)
  else if a 0 / 32 == 6 && cont 1 then
    let c := (a 0 % 32) * 64 + a 1 % 64
    if c ≥ 0x80 then (c, 2) else (65533, 1)
  else if a 0 / 16 == 14 && cont 1 && cont 2 then
    let c := (a 0 % 16) * 4096 + (a 1 % 64) * 64 + a 2 % 64
    if c ≥ 0x800 && Utf8.valid c then (c, 3) else (65533, 1)
  else if a 0 / 8 == 30 && cont 1 && cont 2 && cont 3 then
    let c := (a 0 % 8) * 262144 + (a 1 % 64) * 4096 + (a 2 % 64) * 64 + a 3 % 64
    if c ≥ 0x10000 && Utf8.valid c then (c, 4) else (65533, 1)
  else (65533, 1)
def dec (l : List UInt8) : Nat × Nat := decG l.length fun k => (l.getD k 0).toNat

theorem get_list (l : List UInt8) (i k : Nat) : (ByteArray.get! ⟨l.toArray⟩ (i + k)) = (l.drop i).getD k 0 := by
  unfold ByteArray.get!
  rw [List.getD_eq_getElem?_getD, List.getElem?_drop]
  simp [getElem!_def]
  cases l[i + k]? <;> rfl
theorem decode_drop (l : List UInt8) (i : Nat) : Utf8.decode ⟨l.toArray⟩ i = dec (l.drop i) := by
  have hs : ∀ k, decide (i + k < ByteArray.size ⟨l.toArray⟩) = decide (k < (l.drop i).length) := fun k => by
    rw [decide_eq_decide, List.length_drop]
    show i + k < l.toArray.size ↔ _
    simp
    omega
  unfold Utf8.decode dec decG
  simp only [get_list, hs, Utf8.runeError]
theorem dec_pos (l : List UInt8) : 1 ≤ (dec l).2 ∧ (dec l).2 ≤ 4 := by
  unfold dec decG
  dsimp only
  repeat' split
  all_goals (dsimp only; omega)
/-- A rune's bytes lie in the text. -/
theorem dec_le (l : List UInt8) (h : l ≠ []) : (dec l).2 ≤ l.length := by
  have h1 : 1 ≤ l.length := by cases l with | nil => exact absurd rfl h | cons => simp
  unfold dec decG
  dsimp only
  repeat' split
  all_goals simp only [Bool.and_eq_true, decide_eq_true_eq] at *
  all_goals omega
theorem dec_ascii (c : UInt8) (t : List UInt8) (h : c.toNat < 128) : dec (c :: t) = (c.toNat, 1) := by
  unfold dec decG
  exact if_pos h
theorem getD_app (l r : List UInt8) (k : Nat) (h : k < l.length) : (l ++ r).getD k 0 = l.getD k 0 := by
  rw [List.getD_eq_getElem?_getD, List.getD_eq_getElem?_getD, List.getElem?_append_left h]
theorem decG_app (n m : Nat) (a b : Nat → Nat) (h1 : 1 ≤ n) (hm : n ≤ m) (g : ∀ k, k < n → b k = a k) (hb : ¬ ((decG n a).1 = 65533 ∧ (decG n a).2 < 2)) : decG m b = decG n a := by
  have g0 := g 0 (by omega)
  revert hb
  generalize hd : decG n a = d
  intro hb
  unfold decG at hd ⊢
  dsimp only at hd ⊢
  rw [g0]
  by_cases c1 : a 0 < 128
  · rw [if_pos c1] at hd ⊢
    exact hd
  rw [if_neg c1] at hd ⊢
  have cont : ∀ k, (decide (k < n) && a k / 64 == 2) = true → (decide (k < m) && b k / 64 == 2) = true ∧ b k = a k := fun k hk => by
    rw [Bool.and_eq_true, decide_eq_true_eq] at hk
    rw [g k hk.1, Bool.and_eq_true, decide_eq_true_eq]
    exact ⟨⟨by omega, hk.2⟩, rfl⟩
  have bad : d = (65533, 1) → False := fun e => hb (by rw [e]; decide)
  by_cases c2 : (a 0 / 32 == 6) = true
  · have hb2 : a 0 / 32 = 6 := eq_of_beq c2
    have n3 : (a 0 / 16 == 14) = false := by rw [beq_eq_false_iff_ne]; omega
    have n4 : (a 0 / 8 == 30) = false := by rw [beq_eq_false_iff_ne]; omega
    by_cases k1 : (decide (1 < n) && a 1 / 64 == 2) = true
    · obtain ⟨e1, e2⟩ := cont 1 k1
      rw [if_pos (by rw [c2, k1]; rfl)] at hd
      rw [if_pos (by rw [c2, e1]; rfl), e2]
      exact hd
    · rw [if_neg (by rw [c2]; simpa using k1), if_neg (by simp [n3]), if_neg (by simp [n4])] at hd
      exact (bad hd.symm).elim
  by_cases c3 : (a 0 / 16 == 14) = true
  · have hb3 : a 0 / 16 = 14 := eq_of_beq c3
    have n2 : (a 0 / 32 == 6) = false := by rw [beq_eq_false_iff_ne]; omega
    have n4 : (a 0 / 8 == 30) = false := by rw [beq_eq_false_iff_ne]; omega
    by_cases k1 : (decide (1 < n) && a 1 / 64 == 2) = true ∧ (decide (2 < n) && a 2 / 64 == 2) = true
    · obtain ⟨e1, e2⟩ := cont 1 k1.1
      obtain ⟨e3, e4⟩ := cont 2 k1.2
      rw [if_neg (by simp [n2]), if_pos (by rw [c3, k1.1, k1.2]; rfl)] at hd
      rw [if_neg (by simp [n2]), if_pos (by rw [c3, e1, e3]; rfl), e2, e4]
      exact hd
    · rw [if_neg (by simp [n2]), if_neg (by rw [c3]; simpa using k1), if_neg (by simp [n4])] at hd
      exact (bad hd.symm).elim
  by_cases c4 : (a 0 / 8 == 30) = true
  · have hb4 : a 0 / 8 = 30 := eq_of_beq c4
    have n2 : (a 0 / 32 == 6) = false := by rw [beq_eq_false_iff_ne]; omega
    have n3 : (a 0 / 16 == 14) = false := by rw [beq_eq_false_iff_ne]; omega
    by_cases k1 : ((decide (1 < n) && a 1 / 64 == 2) = true ∧ (decide (2 < n) && a 2 / 64 == 2) = true) ∧ (decide (3 < n) && a 3 / 64 == 2) = true
    · obtain ⟨e1, e2⟩ := cont 1 k1.1.1
      obtain ⟨e3, e4⟩ := cont 2 k1.1.2
      obtain ⟨e5, e6⟩ := cont 3 k1.2
      rw [if_neg (by simp [n2]), if_neg (by simp [n3]), if_pos (by rw [c4, k1.1.1, k1.1.2, k1.2]; rfl)] at hd
      rw [if_neg (by simp [n2]), if_neg (by simp [n3]), if_pos (by rw [c4, e1, e3, e5]; rfl), e2, e4, e6]
      exact hd
    · rw [if_neg (by simp [n2]), if_neg (by simp [n3]), if_neg (by rw [c4]; simpa [and_assoc] using k1)] at hd
      exact (bad hd.symm).elim
  have n2 : (a 0 / 32 == 6) = false := by simpa using c2
  have n3 : (a 0 / 16 == 14) = false := by simpa using c3
  have n4 : (a 0 / 8 == 30) = false := by simpa using c4
  rw [if_neg (by simp [n2]), if_neg (by simp [n3]), if_neg (by simp [n4])] at hd ⊢
  exact hd
/-- What begins a rune begins the same one with more behind. -/
theorem dec_app (l r : List UInt8) (h : l ≠ []) (hb : ¬ ((dec l).1 = 65533 ∧ (dec l).2 < 2)) : dec (l ++ r) = dec l := by
  have h1 : 1 ≤ l.length := by cases l with | nil => exact absurd rfl h | cons => simp
  exact decG_app l.length (l ++ r).length _ _ h1 (by simp) (fun k hk => by rw [getD_app l r k hk]) hb
end Go.Proofs.YteikakoheibnjaaGreatDoor
namespace Go.Proofs.YteikakoheibnjaaGreatDoor
open Go

/-- A rune: its number, its bytes. -/
abbrev Ru := Nat × List UInt8
def flat (R : List Ru) : List UInt8 := R.flatMap (·.2)
theorem flat_nil : flat [] = [] := rfl
theorem flat_cons (r : Ru) (R : List Ru) : flat (r :: R) = r.2 ++ flat R := by simp [flat]
theorem flat_app (R S : List Ru) : flat (R ++ S) = flat R ++ flat S := by simp [flat]
def eachF : Nat → List UInt8 → List Ru × Bool
  | 0, _ => ([], false)
  | _ + 1, [] => ([], false)
  | f + 1, c :: t =>
    if (dec (c :: t)).1 = 65533 ∧ (dec (c :: t)).2 < 2 then ([], true)
    else (((dec (c :: t)).1, (c :: t).take (dec (c :: t)).2) :: (eachF f ((c :: t).drop (dec (c :: t)).2)).1, (eachF f ((c :: t).drop (dec (c :: t)).2)).2)
/-- A text's runes; does something in it begin none? -/
def each (l : List UInt8) : List Ru × Bool := eachF l.length l
theorem eachF_fuel : ∀ (n f g : Nat) (l : List UInt8), l.length ≤ n → l.length ≤ f → l.length ≤ g → eachF f l = eachF g l := by
  intro n
  induction n with
  | zero =>
    intro f g l h _ _
    have : l = [] := List.eq_nil_of_length_eq_zero (by omega)
    subst this
    cases f <;> cases g <;> rfl
  | succ n ih =>
    intro f g l h hf hg
    cases l with
    | nil => cases f <;> cases g <;> rfl
    | cons c t =>
      cases f with
      | zero => simp at hf
      | succ f =>
        cases g with
        | zero => simp at hg
        | succ g =>
          have h1 := dec_pos (c :: t)
          have e := ih f g ((c :: t).drop (dec (c :: t)).2) (by simp at h ⊢; omega) (by simp at hf ⊢; omega) (by simp at hg ⊢; omega)
          unfold eachF
          rw [e]
theorem each_nil : each [] = ([], false) := rfl
theorem each_cons (l : List UInt8) (h : l ≠ []) : each l = if (dec l).1 = 65533 ∧ (dec l).2 < 2 then ([], true) else (((dec l).1, l.take (dec l).2) :: (each (l.drop (dec l).2)).1, (each (l.drop (dec l).2)).2) := by
  cases l with
  | nil => exact absurd rfl h
  | cons c t =>
    have h1 := dec_pos (c :: t)
    have e := eachF_fuel (c :: t).length t.length ((c :: t).drop (dec (c :: t)).2).length ((c :: t).drop (dec (c :: t)).2) (by simp) (by simp; omega) (by simp)
    show eachF (t.length + 1) (c :: t) = _
    unfold eachF
    rw [e]
    rfl
theorem each_step {l : List UInt8} (h : l ≠ []) (hb : ¬ ((dec l).1 = 65533 ∧ (dec l).2 < 2)) : each l = (((dec l).1, l.take (dec l).2) :: (each (l.drop (dec l).2)).1, (each (l.drop (dec l).2)).2) := by
  rw [each_cons l h, if_neg hb]
theorem each_bad {l : List UInt8} (h : l ≠ []) (hb : (dec l).1 = 65533 ∧ (dec l).2 < 2) : each l = ([], true) := by
  rw [each_cons l h, if_pos hb]
/-- An induction along a text's runes. -/
theorem each_ind {P : List UInt8 → Prop} (h0 : P []) (hb : ∀ l, l ≠ [] → (dec l).1 = 65533 ∧ (dec l).2 < 2 → P l) (hs : ∀ l, l ≠ [] → ¬ ((dec l).1 = 65533 ∧ (dec l).2 < 2) → P (l.drop (dec l).2) → P l) : ∀ l, P l := by
  intro l
  suffices H : ∀ n l, l.length ≤ n → P l from H _ l (Nat.le_refl _)
  intro n
  induction n with
  | zero =>
    intro l h
    have : l = [] := List.eq_nil_of_length_eq_zero (by omega)
    rw [this]; exact h0
  | succ n ih =>
    intro l h
    by_cases hn : l = []
    · rw [hn]; exact h0
    by_cases hbd : (dec l).1 = 65533 ∧ (dec l).2 < 2
    · exact hb l hn hbd
    · refine hs l hn hbd (ih _ ?_)
      have := dec_pos l
      have : 1 ≤ l.length := by cases l with | nil => exact absurd rfl hn | cons => simp
      simp
      omega
theorem each_flat : ∀ l, ∃ rest, l = flat (each l).1 ++ rest ∧ ((each l).2 = false → rest = []) ∧ ((each l).2 = true → rest ≠ []) := by
  refine each_ind ⟨[], by simp [each_nil, flat], fun _ => rfl, fun h => by simp [each_nil] at h⟩ (fun l hn hb => ⟨l, by simp [each_bad hn hb, flat], fun h => by simp [each_bad hn hb] at h, fun _ => hn⟩) ?_
  intro l hn hb ⟨rest, e, h1, h2⟩
  refine ⟨rest, ?_, ?_, ?_⟩
  · rw [each_step hn hb, flat_cons, List.append_assoc, ← e, List.take_append_drop]
  · rw [each_step hn hb]; exact h1
  · rw [each_step hn hb]; exact h2
theorem each_app (r : List UInt8) : ∀ l, (each l).2 = false → each (l ++ r) = ((each l).1 ++ (each r).1, (each r).2) := by
  refine each_ind (fun _ => by simp [each_nil]) (fun l hn hb h => by simp [each_bad hn hb] at h) ?_
  intro l hn hb ih h
  rw [each_step hn hb] at h ⊢
  have ih := ih h
  have e := dec_app l r hn hb
  have hle := dec_le l hn
  rw [each_step (l := l ++ r) (by simp [hn]) (by rw [e]; exact hb), e, List.take_append_of_le_length hle, List.drop_append_of_le_length hle, ih]
  rfl
/-- Each rune has one to four bytes; its number fits. -/
theorem dec_lt (l : List UInt8) : (dec l).1 < 2097152 := by
  unfold dec decG
  dsimp only
  have h (k : Nat) : (l.getD k 0).toNat < 256 := (l.getD k 0).toNat_lt
  have h0 := h 0
  have h1 := h 1
  have h2 := h 2
  have h3 := h 3
  repeat' split
  all_goals (dsimp only; omega)
theorem each_mem : ∀ l, ∀ r ∈ (each l).1, r.1 < 2097152 ∧ 1 ≤ r.2.length := by
  refine each_ind (by simp [each_nil]) (fun l hn hb => by simp [each_bad hn hb]) ?_
  intro l hn hb ih r hr
  rw [each_step hn hb] at hr
  rcases List.mem_cons.1 hr with rfl | hr
  · have h1 : 1 ≤ l.length := by cases l with | nil => exact absurd rfl hn | cons => simp
    have := dec_pos l
    exact ⟨dec_lt l, by simp; omega⟩
  · exact ih r hr
theorem each_len : ∀ l, (each l).1.length ≤ l.length := by
  refine each_ind (by simp [each_nil]) (fun l hn hb => by simp [each_bad hn hb]) ?_
  intro l hn hb ih
  have h1 := dec_le l hn
  have h2 := dec_pos l
  rw [each_step hn hb]
  simp at ih ⊢
  omega

/-- A rune's class: 1 a letter, 2 a digit, 3 a space, 4 a sign, 0 another. -/
def signs : List Nat := [61, 126, 60, 62, 38, 124, 40, 41, 123, 125, 44, 59, 58, 43, 92, 35, 39]
def cls (r : Nat) : Nat :=
  if (97 ≤ r ∧ r ≤ 122) ∨ (65 ≤ r ∧ r ≤ 90) ∨ r = 95 ∨ (945 ≤ r ∧ r ≤ 969) then 1
  else if 48 ≤ r ∧ r ≤ 57 then 2
  else if r = 32 ∨ r = 9 ∨ r = 10 ∨ r = 13 then 3
  else if r ∈ signs then 4 else 0

structure Tok where
  kind : Nat
  text : List UInt8
  n : Nat
  at_ : Nat
deriving DecidableEq

def wordL : List (List UInt8) :=
  [[116, 114, 117, 101], [102, 97, 108, 115, 101], [101, 120, 48], [101, 120, 49], [101, 120, 50], [97, 108, 108, 48], [97, 108, 108, 49], [97, 108, 108, 50], [118, 97, 114, 48], [118, 97, 114, 49], [118, 97, 114, 50], [112, 114, 101, 100], [105, 110], [110, 111, 116, 105, 110], [115, 117, 98], [117, 110, 105, 111, 110], [105, 110, 116, 101, 114]]
def signL : List (List UInt8) :=
  [[60, 61, 62], [61, 62], [60, 61], [126, 61], [61], [126], [60], [38], [124], [40], [41], [123], [125], [44], [59], [58], [43], [92]]
def more (r : Ru) : Bool := cls r.1 == 1 || cls r.1 == 2 || r.1 == 39
def digit (r : Ru) : Bool := cls r.1 == 2
def nameLen : List Ru → Nat
  | [] => 0
  | _ :: t => (t.takeWhile more).length + 1
def numStep (a : Nat) (r : Ru) : Nat := min (10 * a + (r.1 - 48)) 1000
def numVal (R : List Ru) : Nat := R.foldl numStep 0
def isPre : List UInt8 → List Ru → Bool
  | [], _ => true
  | _ :: _, [] => false
  | c :: s, r :: R => r.1 == c.toNat && isPre s R
/-- The token that these runes begin with, at p; how many runes it takes. -/
def tokR (p : Nat) (R : List Ru) : Option (Tok × Nat) :=
  match R with
  | [] => none
  | r :: _ =>
    if cls r.1 = 1 then
      if nameLen R ≤ 12 then some (⟨if flat (R.take (nameLen R)) ∈ wordL then 3 else 1, flat (R.take (nameLen R)), 0, p⟩, nameLen R) else none
    else if cls r.1 = 2 then
      if numVal (R.takeWhile digit) ≤ 99 ∧ ¬ (r.1 = 48 ∧ 1 < (R.takeWhile digit).length) then some (⟨2, [], numVal (R.takeWhile digit), p⟩, (R.takeWhile digit).length) else none
    else match signL.find? (isPre · R) with
      | some s => some (⟨3, s, 0, p⟩, s.length)
      | none => none
/-- How many runes are left out: spaces and comments; b: within a comment. -/
def skipM : Bool → List Ru → Nat
  | _, [] => 0
  | true, r :: t => if r.1 = 10 then skipM false t + 1 else skipM true t + 1
  | false, r :: t => if cls r.1 = 3 then skipM false t + 1 else if r.1 = 35 then skipM true t + 1 else 0
theorem skipM_le : ∀ (R : List Ru) (b : Bool), skipM b R ≤ R.length := by
  intro R
  induction R with
  | nil => intro b; cases b <;> simp [skipM]
  | cons r t ih =>
    intro b
    have h1 := ih true
    have h2 := ih false
    cases b <;> unfold skipM <;> (repeat' split) <;> simp <;> omega
/-- Tokens; the place where none begins, if there is one. -/
def toksF : Nat → List Ru → Nat → List Tok × Option Nat
  | 0, _, _ => ([], none)
  | f + 1, R, p =>
    if R.drop (skipM false R) = [] then ([], none)
    else match tokR (p + (flat (R.take (skipM false R))).length) (R.drop (skipM false R)) with
      | none => ([], some (p + (flat (R.take (skipM false R))).length))
      | some (t, n) => (t :: (toksF f ((R.drop (skipM false R)).drop n) (p + (flat (R.take (skipM false R))).length + (flat ((R.drop (skipM false R)).take n)).length)).1,
          (toksF f ((R.drop (skipM false R)).drop n) (p + (flat (R.take (skipM false R))).length + (flat ((R.drop (skipM false R)).take n)).length)).2)
theorem isPre_len : ∀ (s : List UInt8) (R : List Ru), isPre s R = true → s.length ≤ R.length
  | [], _, _ => by simp
  | _ :: _, [], h => by simp [isPre] at h
  | c :: s, r :: R, h => by
    unfold isPre at h
    rw [Bool.and_eq_true] at h
    have := isPre_len s R h.2
    simp
    exact this
theorem takeWhile_le {α : Type} (p : α → Bool) (l : List α) : (l.takeWhile p).length ≤ l.length := (List.takeWhile_sublist p).length_le
theorem sign_pos {s : List UInt8} (h : s ∈ signL) : 1 ≤ s.length ∧ s.length ≤ 3 := by
  revert s
  decide
theorem tokR_len {p : Nat} {R : List Ru} {t : Tok} {n : Nat} (h : tokR p R = some (t, n)) : 1 ≤ n ∧ n ≤ R.length := by
  cases R with
  | nil => simp [tokR] at h
  | cons r R =>
    unfold tokR at h
    dsimp only at h
    split at h
    · split at h
      · injection h with h
        injection h with _ h
        have := takeWhile_le more R
        have e : nameLen (r :: R) = (R.takeWhile more).length + 1 := rfl
        simp
        omega
      · cases h
    · split at h
      · split at h
        · next h2 _ =>
          injection h with h
          injection h with _ h
          have h3 := takeWhile_le digit (r :: R)
          have : 1 ≤ ((r :: R).takeWhile digit).length := by
            rw [List.takeWhile_cons, if_pos (by unfold digit; rw [h2]; rfl)]
            simp
          omega
        · cases h
      · split at h
        · next s hs =>
          injection h with h
          injection h with _ h
          have h1 := sign_pos (List.mem_of_find?_eq_some hs)
          have h2 := isPre_len s (r :: R) (by simpa using List.find?_some hs)
          omega
        · cases h
theorem toksF_fuel : ∀ (n f g : Nat) (R : List Ru) (p : Nat), R.length ≤ n → R.length < f → R.length < g → toksF f R p = toksF g R p := by
  intro n
  induction n with
  | zero =>
    intro f g R p h hf hg
    have : R = [] := List.eq_nil_of_length_eq_zero (by omega)
    subst this
    cases f with
    | zero => simp at hf
    | succ f =>
      cases g with
      | zero => simp at hg
      | succ g => simp [toksF]
  | succ n ih =>
    intro f g R p h hf hg
    cases f with
    | zero => simp at hf
    | succ f =>
      cases g with
      | zero => simp at hg
      | succ g =>
        unfold toksF
        split
        · rfl
        · split
          · rfl
          · next t k hk =>
            have h1 := tokR_len hk
            have h2 := skipM_le R false
            rw [List.length_drop] at h1
            rw [ih f g ((R.drop (skipM false R)).drop k) _ (by simp; omega) (by simp; omega) (by simp; omega)]
def toks (R : List Ru) (p : Nat) : List Tok × Option Nat := toksF (R.length + 1) R p
theorem toks_eq (R : List Ru) (p : Nat) : toks R p =
    if R.drop (skipM false R) = [] then ([], none)
    else match tokR (p + (flat (R.take (skipM false R))).length) (R.drop (skipM false R)) with
      | none => ([], some (p + (flat (R.take (skipM false R))).length))
      | some (t, n) => (t :: (toks ((R.drop (skipM false R)).drop n) (p + (flat (R.take (skipM false R))).length + (flat ((R.drop (skipM false R)).take n)).length)).1,
          (toks ((R.drop (skipM false R)).drop n) (p + (flat (R.take (skipM false R))).length + (flat ((R.drop (skipM false R)).take n)).length)).2) := by
  conv => lhs; unfold toks toksF
  split
  · rfl
  · split
    · rfl
    · next t k hk =>
      have h1 := tokR_len hk
      have h2 := skipM_le R false
      rw [List.length_drop] at h1
      unfold toks
      rw [toksF_fuel _ R.length (((R.drop (skipM false R)).drop k).length + 1) _ _ (Nat.le_refl _) (by simp; omega) (by simp)]
/-- A text's tokens: the row, a place, an error (0: none). -/
def tokens (s : List UInt8) : List Tok × Nat × Nat :=
  if 2000 < s.length then ([], 0, 3)
  else match (toks (each s).1 0).2 with
    | some p => ([], p, 2)
    | none => if (each s).2 = true then ([], (flat (each s).1).length, 2) else ((toks (each s).1 0).1 ++ [⟨4, [], 0, s.length⟩], s.length, 0)
/-- Is it one whole name? -/
def nameB (s : List UInt8) : Bool :=
  match tokens s with
  | (l, _, e) => e == 0 && (match l with | [t, _] => t.kind == 1 && t.text == s | _ => false)
theorem nameB_len {s : List UInt8} (h : nameB s = true) : s.length ≤ 2000 := by
  rcases Nat.lt_or_ge 2000 s.length with h1 | h1
  · exfalso
    unfold nameB tokens at h
    rw [if_pos h1] at h
    simp at h
  · exact h1
end Go.Proofs.YteikakoheibnjaaGreatDoor
