/- Plain arithmetic: the count of a word's bits as math/bits reckons it; the row of a word's bits. -/

import Derived.Lib.TrailingZeros
namespace Go.Proofs.YtcgjacaemblnmaaDoor

/-- How many of the n low bits of x are 1. -/
def bc : Nat → Nat → Nat
  | 0, _ => 0
  | n + 1, x => x % 2 + bc n (x / 2)
/-- The places of those bits, rising, counted from b. -/
def bitsOf : Nat → Nat → Nat → List Nat
  | 0, _, _ => []
  | n + 1, b, x => (if x % 2 = 1 then [b] else []) ++ bitsOf n (b + 1) (x / 2)

theorem bitsOf_length : ∀ (n b x : Nat), (bitsOf n b x).length = bc n x
  | 0, _, _ => rfl
  | n + 1, b, x => by
    simp only [bitsOf, bc, List.length_append, bitsOf_length n]
    split
    · simp; omega
    · simp; omega
theorem bitsOf_mem : ∀ (n b x k : Nat), k ∈ bitsOf n b x ↔ b ≤ k ∧ k < b + n ∧ x.testBit (k - b) = true
  | 0, b, x, k => by simp [bitsOf]; omega
  | n + 1, b, x, k => by
    simp only [bitsOf, List.mem_append, bitsOf_mem n (b + 1)]
    by_cases hk : k = b
    · subst hk
      by_cases hx : x % 2 = 1
      · simp [Nat.testBit_zero, hx]
      · simp [Nat.testBit_zero, hx]
        omega
    · have h1 : ¬ (k ∈ if x % 2 = 1 then [b] else []) := by split <;> simp [hk]
      by_cases hb : b + 1 ≤ k
      · have e : (x / 2).testBit (k - (b + 1)) = x.testBit (k - b) := by
          rw [show k - b = (k - (b + 1)) + 1 by omega, Nat.testBit_succ]
        rw [e]
        constructor
        · rintro (h | ⟨_, h2, h3⟩)
          · exact absurd h h1
          · exact ⟨by omega, by omega, h3⟩
        · rintro ⟨_, h2, h3⟩
          exact .inr ⟨hb, by omega, h3⟩
      · constructor
        · rintro (h | ⟨h2, _⟩)
          · exact absurd h h1
          · omega
        · rintro ⟨h2, _⟩
          omega
theorem bitsOf_sorted : ∀ (n b x : Nat), (bitsOf n b x).Pairwise (· < ·)
  | 0, _, _ => List.Pairwise.nil
  | n + 1, b, x => by
    simp only [bitsOf]
    rw [List.pairwise_append]
    refine ⟨?_, bitsOf_sorted n _ _, ?_⟩
    · split <;> simp
    · intro a ha c hc
      have := (bitsOf_mem n (b + 1) (x / 2) c).1 hc
      split at ha
      · simp at ha; omega
      · simp at ha

theorem and_split (k a b c d : Nat) (ha : a < 2 ^ k) (hc : c < 2 ^ k) : (a + 2 ^ k * b) &&& (c + 2 ^ k * d) = (a &&& c) + 2 ^ k * (b &&& d) := by
  have hp : 0 < 2 ^ k := Nat.two_pow_pos k
  rw [← Nat.mod_add_div ((a + 2 ^ k * b) &&& (c + 2 ^ k * d)) (2 ^ k), Nat.and_mod_two_pow, Nat.and_div_two_pow]
  rw [Nat.add_mul_mod_self_left, Nat.add_mul_mod_self_left, Nat.mod_eq_of_lt ha, Nat.mod_eq_of_lt hc, Nat.add_mul_div_left _ _ hp, Nat.add_mul_div_left _ _ hp, Nat.div_eq_of_lt ha, Nat.div_eq_of_lt hc, Nat.zero_add, Nat.zero_add]

theorem and_one (x : Nat) : x &&& 1 = x % 2 := Nat.and_two_pow_sub_one_eq_mod x 1
theorem and_three (x : Nat) : x &&& 3 = x % 4 := Nat.and_two_pow_sub_one_eq_mod x 2
theorem and_15 (x : Nat) : x &&& 15 = x % 16 := Nat.and_two_pow_sub_one_eq_mod x 4
theorem and_127 (x : Nat) : x &&& 127 = x % 128 := Nat.and_two_pow_sub_one_eq_mod x 7

/-- The mask of n digits m in base 2^k. -/
def mask (k m : Nat) : Nat → Nat
  | 0 => 0
  | n + 1 => m + 2 ^ k * mask k m n

def s1 : Nat → Nat → Nat
  | 0, _ => 0
  | n + 1, x => (x / 2 % 2 + x % 2) + 4 * s1 n (x / 4)
theorem and_mask_step (k m n x : Nat) (hm : m < 2 ^ k) : x &&& mask k m (n + 1) = (x % 2 ^ k &&& m) + 2 ^ k * (x / 2 ^ k &&& mask k m n) := by
  conv => lhs; rw [← Nat.mod_add_div x (2 ^ k)]
  exact and_split k _ _ _ _ (Nat.mod_lt _ (Nat.two_pow_pos k)) hm
theorem step1 : ∀ (n x : Nat), ((x / 2) &&& mask 2 1 n) + (x &&& mask 2 1 n) = s1 n x
  | 0, x => by simp [mask, s1]
  | n + 1, x => by
    rw [and_mask_step 2 1 n _ (by decide), and_mask_step 2 1 n _ (by decide), and_one, and_one]
    have ih := step1 n (x / 4)
    have e : x / 2 / 2 ^ 2 = x / 4 / 2 := by omega
    rw [e, show (2 : Nat) ^ 2 = 4 from rfl]
    simp only [s1]
    omega
def s2 : Nat → Nat → Nat
  | 0, _ => 0
  | n + 1, x => (x / 4 % 4 + x % 4) + 16 * s2 n (x / 16)
theorem step2 : ∀ (n x : Nat), ((x / 4) &&& mask 4 3 n) + (x &&& mask 4 3 n) = s2 n x
  | 0, x => by simp [mask, s2]
  | n + 1, x => by
    rw [and_mask_step 4 3 n _ (by decide), and_mask_step 4 3 n _ (by decide), and_three, and_three]
    have ih := step2 n (x / 16)
    have e : x / 4 / 2 ^ 4 = x / 16 / 4 := by omega
    rw [e, show (2 : Nat) ^ 4 = 16 from rfl]
    simp only [s2]
    omega
/-- n nibbles, each at most 4. -/
def nib : Nat → Nat → Prop
  | 0, x => x = 0
  | n + 1, x => x % 16 ≤ 4 ∧ nib n (x / 16)
def s3 : Nat → Nat → Nat
  | 0, _ => 0
  | n + 1, x => (x / 16 % 16 + x % 16) + 256 * s3 n (x / 256)
theorem s1_at (n a b t : Nat) (ha : a < 2) (hb : b < 2) : s1 (n + 1) (a + 2 * (b + 2 * t)) = (b + a) + 4 * s1 n t := by
  have e1 : (a + 2 * (b + 2 * t)) / 2 % 2 = b := by omega
  have e2 : (a + 2 * (b + 2 * t)) % 2 = a := by omega
  have e3 : (a + 2 * (b + 2 * t)) / 4 = t := by omega
  simp only [s1, e1, e2, e3]
theorem s2_at (n a b t : Nat) (ha : a < 4) (hb : b < 4) : s2 (n + 1) (a + 4 * (b + 4 * t)) = (b + a) + 16 * s2 n t := by
  have e1 : (a + 4 * (b + 4 * t)) / 4 % 4 = b := by omega
  have e2 : (a + 4 * (b + 4 * t)) % 4 = a := by omega
  have e3 : (a + 4 * (b + 4 * t)) / 16 = t := by omega
  simp only [s2, e1, e2, e3]
theorem s3_at (n a b t : Nat) (ha : a < 16) (hb : b < 16) : s3 (n + 1) (a + 16 * (b + 16 * t)) = (b + a) + 256 * s3 n t := by
  have e1 : (a + 16 * (b + 16 * t)) / 16 % 16 = b := by omega
  have e2 : (a + 16 * (b + 16 * t)) % 16 = a := by omega
  have e3 : (a + 16 * (b + 16 * t)) / 256 = t := by omega
  simp only [s3, e1, e2, e3]
theorem nib_at (n a t : Nat) (ha : a < 16) : nib (n + 1) (a + 16 * t) ↔ a ≤ 4 ∧ nib n t := by
  have e1 : (a + 16 * t) % 16 = a := by omega
  have e2 : (a + 16 * t) / 16 = t := by omega
  simp only [nib, e1, e2]
theorem bc_at (n a t : Nat) (ha : a < 2) : bc (n + 1) (a + 2 * t) = a + bc n t := by
  have e1 : (a + 2 * t) % 2 = a := by omega
  have e2 : (a + 2 * t) / 2 = t := by omega
  simp only [bc, e1, e2]
theorem part (m x : Nat) (hm : 0 < m) : ∃ a t, a < m ∧ x = a + m * t := ⟨x % m, x / m, Nat.mod_lt _ hm, (Nat.mod_add_div x m).symm⟩

theorem step3 : ∀ (n x : Nat), nib (2 * n) x → ((x / 16 + x) &&& mask 8 15 n) = s3 n x
  | 0, x, _ => by simp [mask, s3]
  | n + 1, x, h => by
    obtain ⟨a, t0, ha, rfl⟩ := part 16 x (by decide)
    obtain ⟨b, t, hb, rfl⟩ := part 16 t0 (by decide)
    obtain ⟨h0, h⟩ := (nib_at (2 * n + 1) a _ ha).1 h
    obtain ⟨h1, h2⟩ := (nib_at (2 * n) b _ hb).1 h
    have ih := step3 n t h2
    rw [s3_at n a b t ha hb, and_mask_step 8 15 n _ (by decide), ← ih, and_15, show (2 : Nat) ^ 8 = 256 from rfl]
    obtain ⟨c, u, hc, rfl⟩ := part 16 t (by decide)
    have h3 : c ≤ 4 := by
      cases n with
      | zero => have : c + 16 * u = 0 := h2; omega
      | succ m => exact ((nib_at (2 * m + 1) c u hc).1 h2).1
    have e0 : (a + 16 * (b + 16 * (c + 16 * u))) / 16 = b + 16 * (c + 16 * u) := by omega
    have e3 : (c + 16 * u) / 16 = u := by omega
    rw [e0, e3]
    have e1 : (b + 16 * (c + 16 * u) + (a + 16 * (b + 16 * (c + 16 * u)))) / 256 = u + (c + 16 * u) := by omega
    have e2 : (b + 16 * (c + 16 * u) + (a + 16 * (b + 16 * (c + 16 * u)))) % 256 % 16 = b + a := by omega
    rw [e1, e2]
/-- The sum of n bytes. -/
def sum8 : Nat → Nat → Nat
  | 0, _ => 0
  | n + 1, x => x % 256 + sum8 n (x / 256)
theorem sum8_at (n a t : Nat) (ha : a < 256) : sum8 (n + 1) (a + 256 * t) = a + sum8 n t := by
  have e1 : (a + 256 * t) % 256 = a := by omega
  have e2 : (a + 256 * t) / 256 = t := by omega
  simp only [sum8, e1, e2]
theorem s2_nib : ∀ (n x : Nat), nib n (s2 n (s1 (2 * n) x))
  | 0, _ => rfl
  | n + 1, x => by
    obtain ⟨a, t0, ha, rfl⟩ := part 2 x (by decide)
    obtain ⟨b, t1, hb, rfl⟩ := part 2 t0 (by decide)
    obtain ⟨c, t2, hc, rfl⟩ := part 2 t1 (by decide)
    obtain ⟨d, t, hd, rfl⟩ := part 2 t2 (by decide)
    have ih := s2_nib n t
    rw [show 2 * (n + 1) = (2 * n + 1) + 1 from rfl, s1_at _ a b _ ha hb, s1_at _ c d _ hc hd, s2_at _ _ _ _ (by omega) (by omega), nib_at _ _ _ (by omega)]
    exact ⟨by omega, ih⟩
/-- The bytes' sum behind the third step: the bits' count. -/
theorem all_steps : ∀ (n x : Nat), sum8 n (s3 n (s2 (2 * n) (s1 (2 * (2 * n)) x))) = bc (8 * n) x
  | 0, _ => rfl
  | n + 1, x => by
    obtain ⟨a, t0, ha, rfl⟩ := part 2 x (by decide)
    obtain ⟨b, t1, hb, rfl⟩ := part 2 t0 (by decide)
    obtain ⟨c, t2, hc, rfl⟩ := part 2 t1 (by decide)
    obtain ⟨d, t3, hd, rfl⟩ := part 2 t2 (by decide)
    obtain ⟨e, t4, he, rfl⟩ := part 2 t3 (by decide)
    obtain ⟨f, t5, hf, rfl⟩ := part 2 t4 (by decide)
    obtain ⟨g, t6, hg, rfl⟩ := part 2 t5 (by decide)
    obtain ⟨h, t, hh, rfl⟩ := part 2 t6 (by decide)
    have ih := all_steps n t
    rw [show 2 * (2 * (n + 1)) = (2 * (2 * n) + 1 + 1 + 1) + 1 from rfl, s1_at _ a b _ ha hb, s1_at _ c d _ hc hd, s1_at _ e f _ he hf, s1_at _ g h _ hg hh]
    rw [show 2 * (n + 1) = (2 * n + 1) + 1 from rfl, s2_at _ _ _ _ (by omega) (by omega), s2_at _ _ _ _ (by omega) (by omega), s3_at _ _ _ _ (by omega) (by omega), sum8_at _ _ _ (by omega), ih]
    rw [show 8 * (n + 1) = 8 * n + 1 + 1 + 1 + 1 + 1 + 1 + 1 + 1 from rfl, bc_at _ a _ ha, bc_at _ b _ hb, bc_at _ c _ hc, bc_at _ d _ hd, bc_at _ e _ he, bc_at _ f _ hf, bc_at _ g _ hg, bc_at _ h _ hh]
    omega
/-- n bytes, each at most 8. -/
def byt : Nat → Nat → Prop
  | 0, x => x = 0
  | n + 1, x => x % 256 ≤ 8 ∧ byt n (x / 256)
theorem byt_at (n a t : Nat) (ha : a < 256) : byt (n + 1) (a + 256 * t) ↔ a ≤ 8 ∧ byt n t := by
  have e1 : (a + 256 * t) % 256 = a := by omega
  have e2 : (a + 256 * t) / 256 = t := by omega
  simp only [byt, e1, e2]
theorem s3_byt : ∀ (n x : Nat), nib (2 * n) x → byt n (s3 n x)
  | 0, _, _ => rfl
  | n + 1, x, h => by
    obtain ⟨a, t0, ha, rfl⟩ := part 16 x (by decide)
    obtain ⟨b, t, hb, rfl⟩ := part 16 t0 (by decide)
    obtain ⟨h0, h⟩ := (nib_at (2 * n + 1) a _ ha).1 h
    obtain ⟨h1, h2⟩ := (nib_at (2 * n) b _ hb).1 h
    rw [s3_at n a b t ha hb, byt_at _ _ _ (by omega)]
    exact ⟨by omega, s3_byt n t h2⟩
theorem d8 (a t : Nat) (ha : a < 256) : (a + 256 * t) / 256 = t := by omega
theorem d16 (a b t : Nat) (ha : a < 256) (hb : b < 256) : (a + 256 * (b + 256 * t)) / 65536 = t := by omega
theorem d32 (a b c d t : Nat) (ha : a < 256) (hb : b < 256) (hc : c < 256) (hd : d < 256) : (a + 256 * (b + 256 * (c + 256 * (d + 256 * t)))) / 4294967296 = t := by omega
theorem hb1 (a t K : Nat) (ha : a ≤ 64) (ht : t ≤ K) : a + 256 * t ≤ 64 + 256 * K := by omega
theorem hb8 (a b c d e f g i : Nat) (ha : a ≤ 64) (hb : b ≤ 64) (hc : c ≤ 64) (hd : d ≤ 64) (he : e ≤ 64) (hf : f ≤ 64) (hg : g ≤ 64) (hi : i ≤ 64) :
    a + 256 * (b + 256 * (c + 256 * (d + 256 * (e + 256 * (f + 256 * (g + 256 * i)))))) < 9223372036854775808 :=
  Nat.lt_of_le_of_lt (hb1 _ _ _ ha (hb1 _ _ _ hb (hb1 _ _ _ hc (hb1 _ _ _ hd (hb1 _ _ _ he (hb1 _ _ _ hf (hb1 _ _ _ hg hi))))))) (by decide)
theorem m7 (a t : Nat) (ha : a < 128) : (a + 256 * t) % 128 = a := by omega
/-- The last three sums. -/
theorem last_steps (x : Nat) (h : byt 8 x) : x < 9223372036854775808 ∧ x + x / 256 < 9223372036854775808 ∧ (x + x / 256) + (x + x / 256) / 65536 < 9223372036854775808 ∧
    ((x + x / 256) + (x + x / 256) / 65536) + ((x + x / 256) + (x + x / 256) / 65536) / 4294967296 < 9223372036854775808 ∧
    (((x + x / 256) + (x + x / 256) / 65536) + ((x + x / 256) + (x + x / 256) / 65536) / 4294967296) % 128 = sum8 8 x := by
  obtain ⟨a, t0, ha, rfl⟩ := part 256 x (by decide)
  obtain ⟨a1, h⟩ := (byt_at _ a _ ha).1 h
  obtain ⟨b, t1, hb, rfl⟩ := part 256 t0 (by decide)
  obtain ⟨b1, h⟩ := (byt_at _ b _ hb).1 h
  obtain ⟨c, t2, hc, rfl⟩ := part 256 t1 (by decide)
  obtain ⟨c1, h⟩ := (byt_at _ c _ hc).1 h
  obtain ⟨d, t3, hd, rfl⟩ := part 256 t2 (by decide)
  obtain ⟨d1, h⟩ := (byt_at _ d _ hd).1 h
  obtain ⟨e, t4, he, rfl⟩ := part 256 t3 (by decide)
  obtain ⟨e1, h⟩ := (byt_at _ e _ he).1 h
  obtain ⟨f, t5, hf, rfl⟩ := part 256 t4 (by decide)
  obtain ⟨f1, h⟩ := (byt_at _ f _ hf).1 h
  obtain ⟨g, t6, hg, rfl⟩ := part 256 t5 (by decide)
  obtain ⟨g1, h⟩ := (byt_at _ g _ hg).1 h
  obtain ⟨i, t7, hi, rfl⟩ := part 256 t6 (by decide)
  obtain ⟨i1, h⟩ := (byt_at _ i _ hi).1 h
  have h : t7 = 0 := h
  subst h
  rw [sum8_at _ a _ ha, sum8_at _ b _ hb, sum8_at _ c _ hc, sum8_at _ d _ hd, sum8_at _ e _ he, sum8_at _ f _ hf, sum8_at _ g _ hg, sum8_at _ i _ hi]
  rw [show sum8 0 0 = 0 from rfl, d8 a _ ha, Nat.mul_zero, Nat.add_zero]
  clear ha hb hc hd he hf hg hi h
  have y : a + 256 * (b + 256 * (c + 256 * (d + 256 * (e + 256 * (f + 256 * (g + 256 * i)))))) + (b + 256 * (c + 256 * (d + 256 * (e + 256 * (f + 256 * (g + 256 * i))))))
    = (a + b) + 256 * ((b + c) + 256 * ((c + d) + 256 * ((d + e) + 256 * ((e + f) + 256 * ((f + g) + 256 * ((g + i) + 256 * i)))))) := by omega
  rw [y]
  clear y
  refine ⟨hb8 _ _ _ _ _ _ _ _ (by omega) (by omega) (by omega) (by omega) (by omega) (by omega) (by omega) (by omega), hb8 _ _ _ _ _ _ _ _ (by omega) (by omega) (by omega) (by omega) (by omega) (by omega) (by omega) (by omega), ?_⟩
  rw [d16 (a + b) (b + c) _ (by omega) (by omega)]
  have z : (a + b) + 256 * ((b + c) + 256 * ((c + d) + 256 * ((d + e) + 256 * ((e + f) + 256 * ((f + g) + 256 * ((g + i) + 256 * i)))))) + (c + d + 256 * ((d + e) + 256 * ((e + f) + 256 * ((f + g) + 256 * ((g + i) + 256 * i)))))
    = (a + b + c + d) + 256 * ((b + c + d + e) + 256 * ((c + d + e + f) + 256 * ((d + e + f + g) + 256 * ((e + f + g + i) + 256 * ((f + g + i) + 256 * ((g + i) + 256 * i)))))) := by omega
  rw [z]
  clear z
  refine ⟨hb8 _ _ _ _ _ _ _ _ (by omega) (by omega) (by omega) (by omega) (by omega) (by omega) (by omega) (by omega), ?_⟩
  rw [d32 (a + b + c + d) (b + c + d + e) (c + d + e + f) (d + e + f + g) _ (by omega) (by omega) (by omega) (by omega)]
  have w : (a + b + c + d) + 256 * ((b + c + d + e) + 256 * ((c + d + e + f) + 256 * ((d + e + f + g) + 256 * ((e + f + g + i) + 256 * ((f + g + i) + 256 * ((g + i) + 256 * i)))))) + (e + f + g + i + 256 * ((f + g + i) + 256 * ((g + i) + 256 * i)))
    = (a + b + c + d + (e + f + g + i)) + 256 * ((b + c + d + e + (f + g + i)) + 256 * ((c + d + e + f + (g + i)) + 256 * ((d + e + f + g + i) + 256 * ((e + f + g + i) + 256 * ((f + g + i) + 256 * ((g + i) + 256 * i)))))) := by omega
  rw [w]
  clear w
  refine ⟨hb8 _ _ _ _ _ _ _ _ (by omega) (by omega) (by omega) (by omega) (by omega) (by omega) (by omega) (by omega), ?_⟩
  rw [m7 _ _ (by omega)]
  omega
theorem s1_lt : ∀ (n x : Nat), s1 n x < 4 ^ n
  | 0, _ => by simp [s1]
  | n + 1, x => by
    have ih := s1_lt n (x / 4)
    rw [Nat.pow_succ]
    simp only [s1]
    omega
theorem s2_lt : ∀ (n x : Nat), s2 n x < 16 ^ n
  | 0, _ => by simp [s2]
  | n + 1, x => by
    have ih := s2_lt n (x / 16)
    rw [Nat.pow_succ]
    simp only [s2]
    omega
theorem bc_le : ∀ (n x : Nat), bc n x ≤ n
  | 0, _ => Nat.le_refl _
  | n + 1, x => by
    have := bc_le n (x / 2)
    simp only [bc]
    omega
/-- Behind the lowest bit of 1 comes the row of the rest. -/
theorem two_and (a b : Nat) : (2 * a) &&& (2 * b + 1) = 2 * (a &&& b) := by
  have := and_split 1 0 a 1 b (by decide) (by decide)
  simp only [Nat.zero_add, Nat.zero_and] at this
  rw [Nat.add_comm (2 * b) 1]
  exact this
theorem one_and (a : Nat) : (1 + 2 * a) &&& (2 * a) = 2 * a := by
  have := and_split 1 1 a 0 a (by decide) (by decide)
  simp only [Nat.zero_add, Nat.and_zero, Nat.and_self] at this
  exact this
theorem bitsOf_low : ∀ (n b x : Nat), x ≠ 0 → x < 2 ^ n → bitsOf n b x = (b + Lib.ctzFrom n x) :: bitsOf n b (x &&& (x - 1))
  | 0, _, x, h0, h => by simp at h; omega
  | n + 1, b, x, h0, h => by
    obtain ⟨a, t, ha, rfl⟩ := part 2 x (by decide)
    have e1 : (a + 2 * t) % 2 = a := by omega
    have e2 : (a + 2 * t) / 2 = t := by omega
    by_cases h1 : a = 1
    · subst h1
      have e3 : 1 + 2 * t - 1 = 2 * t := by omega
      have e4 : 2 * t % 2 = 0 := by omega
      have e5 : 2 * t / 2 = t := by omega
      rw [e3, one_and]
      simp only [bitsOf, Lib.ctzFrom, e1, e2, e4, e5]
      simp
    · have h2 : a = 0 := by omega
      subst h2
      have ht : t ≠ 0 := by omega
      obtain ⟨s, rfl⟩ : ∃ s, t = s + 1 := ⟨t - 1, by omega⟩
      have ih := bitsOf_low n (b + 1) (s + 1) ht (by rw [Nat.pow_succ] at h; omega)
      have e3 : 0 + 2 * (s + 1) - 1 = 2 * s + 1 := by omega
      rw [e3, Nat.zero_add, two_and]
      rw [Nat.zero_add] at e1 e2
      have e4 : 2 * ((s + 1) &&& s) % 2 = 0 := by omega
      have e5 : 2 * ((s + 1) &&& s) / 2 = (s + 1) &&& s := by omega
      simp only [bitsOf, Lib.ctzFrom, e1, e2, e4, e5]
      rw [ih]
      simp
      omega
theorem bitsOf_zero : ∀ (n b : Nat), bitsOf n b 0 = []
  | 0, _ => rfl
  | n + 1, b => by simp [bitsOf, bitsOf_zero n]
end Go.Proofs.YtcgjacaemblnmaaDoor
