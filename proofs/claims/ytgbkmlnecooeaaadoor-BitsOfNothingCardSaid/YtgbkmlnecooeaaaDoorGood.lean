/- The plain law: words and rising lists say the same of a set. -/
import Derived.Test.YtgbkmlnecooeaaaDoorPop
import Derived.Test.YtgbkmlnecooeaaaDoorRefPure
namespace Go.Proofs.YtgbkmlnecooeaaaDoor

def norm (ws : List Nat) : Prop := 0 < ws.length → ws.getD (ws.length - 1) 0 ≠ 0
structure Good (ws : List Nat) (xs : List Int) : Prop where
  ok : wOk ws
  norm : norm ws
  sorted : xs.Pairwise (· < ·)
  mem : ∀ n : Int, n ∈ xs ↔ hasI ws n = true
  small : ∀ n ∈ xs, 0 ≤ n ∧ n ≤ 100000

theorem wHas_at (ws : List Nat) (i j : Nat) (hj : j < 64) : wHas ws (64 * i + j) = (ws.getD i 0).testBit j := by
  unfold wHas
  rw [show (64 * i + j) / 64 = i by omega, show (64 * i + j) % 64 = j by omega]
theorem testBit_big (x j : Nat) (hx : x < 18446744073709551616) (hj : 64 ≤ j) : x.testBit j = false := by
  apply Nat.testBit_lt_two_pow
  exact Nat.lt_of_lt_of_le (show x < 2 ^ 64 from hx) (Nat.pow_le_pow_right (by decide) hj)
theorem getD_ext (a b : List Nat) (hl : a.length = b.length) (h : ∀ i, a.getD i 0 = b.getD i 0) : a = b := by
  apply List.ext_getElem hl
  intro i h1 h2
  have := h i
  rwa [getD_in _ _ h1, getD_in _ _ h2] at this
theorem words_ext (a b : List Nat) (ha : wOk a) (hb : wOk b) (h : ∀ n, wHas a n = wHas b n) (i : Nat) : a.getD i 0 = b.getD i 0 := by
  apply Nat.eq_of_testBit_eq
  intro j
  by_cases hj : j < 64
  · rw [← wHas_at a i j hj, ← wHas_at b i j hj, h]
  · rw [testBit_big _ _ (wOk_getD a ha i) (by omega), testBit_big _ _ (wOk_getD b hb i) (by omega)]
theorem norm_ext (a b : List Nat) (ha : wOk a) (hb : wOk b) (na : norm a) (nb : norm b) (h : ∀ n, wHas a n = wHas b n) : a = b := by
  have he := words_ext a b ha hb h
  refine getD_ext a b ?_ he
  rcases Nat.lt_trichotomy a.length b.length with hl | hl | hl
  · exact absurd (by rw [← he]; exact getD_out a _ (by omega)) (nb (by omega))
  · exact hl
  · exact absurd (by rw [he]; exact getD_out b _ (by omega)) (na (by omega))

theorem allTo_mem (ws : List Nat) (k n : Nat) : n ∈ allTo ws k ↔ n / 64 < k ∧ wHas ws n = true := by
  unfold allTo wHas
  simp only [List.mem_flatMap, List.mem_range, bitsOf_mem]
  constructor
  · rintro ⟨i, hi, h1, h2, h3⟩
    have e : n / 64 = i := by omega
    have e2 : n % 64 = n - 64 * i := by omega
    rw [e, e2]
    exact ⟨hi, h3⟩
  · rintro ⟨h1, h2⟩
    refine ⟨n / 64, h1, by omega, by omega, ?_⟩
    rw [show n - 64 * (n / 64) = n % 64 by omega]
    exact h2
theorem allTo_lt (ws : List Nat) (k n : Nat) (h : n ∈ allTo ws k) : n < 64 * k := by
  have := ((allTo_mem ws k n).1 h).1
  omega
theorem allTo_sorted (ws : List Nat) : ∀ k, (allTo ws k).Pairwise (· < ·)
  | 0 => by simp [allTo]
  | k + 1 => by
    rw [allTo_succ, List.pairwise_append]
    refine ⟨allTo_sorted ws k, bitsOf_sorted _ _ _, ?_⟩
    intro a ha b hb
    have h1 := allTo_lt ws k a ha
    have h2 := (bitsOf_mem _ _ _ _).1 hb
    omega

theorem sorted_ext : ∀ (xs ys : List Int), xs.Pairwise (· < ·) → ys.Pairwise (· < ·) → (∀ n, n ∈ xs ↔ n ∈ ys) → xs = ys
  | [], [], _, _, _ => rfl
  | [], y :: r, _, _, h => by have := (h y).2 (by simp); simp at this
  | x :: r, [], _, _, h => by have := (h x).1 (by simp); simp at this
  | x :: r, y :: s, hx, hy, h => by
    rw [List.pairwise_cons] at hx hy
    have e : x = y := by
      have h1 := (h x).1 (by simp)
      have h2 := (h y).2 (by simp)
      simp only [List.mem_cons] at h1 h2
      rcases h1 with h1 | h1
      · exact h1
      · rcases h2 with h2 | h2
        · exact h2.symm
        · have := hx.1 y h2; have := hy.1 x h1; omega
    subst e
    congr 1
    apply sorted_ext r s hx.2 hy.2
    intro n
    constructor
    · intro hn
      have := (h n).1 (by simp [hn])
      simp only [List.mem_cons] at this
      rcases this with h1 | h1
      · have := hx.1 n hn; omega
      · exact h1
    · intro hn
      have := (h n).2 (by simp [hn])
      simp only [List.mem_cons] at this
      rcases this with h1 | h1
      · have := hy.1 n hn; omega
      · exact h1

theorem hasI_iff (ws : List Nat) (n : Int) : hasI ws n = true ↔ ∃ k : Nat, n = k ∧ wHas ws k = true := by
  unfold hasI
  simp only [Bool.and_eq_true, decide_eq_true_eq]
  constructor
  · rintro ⟨h0, h1⟩
    exact ⟨n.toNat, by omega, h1⟩
  · rintro ⟨k, rfl, h⟩
    exact ⟨by omega, by simpa using h⟩

theorem Good.all {ws : List Nat} {xs : List Int} (h : Good ws xs) : (allTo ws ws.length).map (fun n : Nat => (n : Int)) = xs := by
  apply sorted_ext _ _ _ h.sorted
  · intro n
    rw [h.mem, hasI_iff]
    simp only [List.mem_map]
    constructor
    · rintro ⟨k, hk, rfl⟩
      exact ⟨k, rfl, ((allTo_mem _ _ _).1 hk).2⟩
    · rintro ⟨k, rfl, hk⟩
      refine ⟨k, (allTo_mem _ _ _).2 ⟨?_, hk⟩, rfl⟩
      rcases Nat.lt_or_ge (k / 64) ws.length with h1 | h1
      · exact h1
      · rw [wHas_out _ _ h1] at hk; cases hk
  · rw [List.pairwise_map]
    exact (allTo_sorted ws ws.length).imp (fun h => by omega)
theorem Good.len {ws : List Nat} {xs : List Int} (h : Good ws xs) : lenTo ws ws.length = xs.length := by
  rw [← h.all, List.length_map, allTo_length]
theorem Good.has {ws : List Nat} {xs : List Int} (h : Good ws xs) (n : Int) : decide (n ∈ xs) = hasI ws n := by
  rw [Bool.eq_iff_iff, decide_eq_true_iff]
  exact h.mem n
theorem Good.nil : Good [] [] := ⟨by intro u hu; simp at hu, by intro h; simp at h, List.Pairwise.nil, by intro n; unfold hasI wHas; simp, by simp⟩
theorem Good.same {ws vs : List Nat} {xs ys : List Int} (h : Good ws xs) (k : Good vs ys) : decide (ws = vs) = decide (xs = ys) := by
  rw [Bool.eq_iff_iff, decide_eq_true_iff, decide_eq_true_iff]
  constructor
  · rintro rfl
    exact sorted_ext _ _ h.sorted k.sorted (fun n => by rw [h.mem, k.mem])
  · rintro rfl
    refine norm_ext _ _ h.ok k.ok h.norm k.norm fun n => ?_
    have := (h.mem (n : Int)).symm.trans (k.mem (n : Int))
    rw [hasI_nat, hasI_nat] at this
    exact Bool.eq_iff_iff.2 this

theorem wHas_wSet (ws : List Nat) (x y : Nat) : wHas (wSet ws x) y = (wHas ws y || decide (y = x)) := by
  unfold wHas wSet
  have hl : x / 64 < (wPad ws (x / 64 + 1)).length := by rw [wPad_length]; omega
  by_cases he : y / 64 = x / 64
  · have e : ((wPad ws (x / 64 + 1)).set (x / 64) ((wPad ws (x / 64 + 1)).getD (x / 64) 0 ||| 2 ^ (x % 64))).getD (y / 64) 0 = ws.getD (y / 64) 0 ||| 2 ^ (x % 64) := by
      rw [he, getD_in _ _ (by simpa using hl), List.getElem_set_self, wPad_getD]
    rw [e, Nat.testBit_or, Nat.testBit_two_pow]
    congr 1
    rw [Bool.eq_iff_iff]
    simp
    omega
  · have e : ((wPad ws (x / 64 + 1)).set (x / 64) ((wPad ws (x / 64 + 1)).getD (x / 64) 0 ||| 2 ^ (x % 64))).getD (y / 64) 0 = ws.getD (y / 64) 0 := by
      rw [List.getD_eq_getElem?_getD, List.getElem?_set_ne (fun h => he h.symm), ← List.getD_eq_getElem?_getD, wPad_getD]
    rw [e]
    have : decide (y = x) = false := by simp; intro h; exact he (by rw [h])
    rw [this, Bool.or_false]
theorem norm_wSet (ws : List Nat) (x : Nat) (h : norm ws) : norm (wSet ws x) := by
  intro _
  have hl := wSet_length ws x
  by_cases hc : ws.length ≤ x / 64 + 1
  · have e : (wSet ws x).length - 1 = x / 64 := by omega
    intro h0
    rw [e] at h0
    have := wHas_wSet ws x x
    unfold wHas at this
    rw [h0] at this
    simp at this
  · have e : (wSet ws x).length - 1 = ws.length - 1 := by omega
    rw [e]
    have e2 : (wSet ws x).getD (ws.length - 1) 0 = ws.getD (ws.length - 1) 0 := by
      unfold wSet
      rw [List.getD_eq_getElem?_getD, List.getElem?_set_ne (by omega), ← List.getD_eq_getElem?_getD, wPad_getD]
    rw [e2]
    exact h (by omega)

/-- In a rising list the number stands at its place, or not at all. -/
theorem at_low (xs : List Int) (n : Int) (hs : xs.Pairwise (· < ·)) : xs[lowN xs n]? = some n ↔ n ∈ xs := by
  constructor
  · intro h; exact List.mem_of_getElem? h
  · intro hm
    obtain ⟨i, hi, he⟩ := List.getElem_of_mem hm
    have : i = lowN xs n := by
      apply lowN_eq xs n i (by omega)
      · intro j hj hjl
        have := List.pairwise_iff_getElem.1 hs j i hjl hi hj
        omega
      · intro h; omega
    rw [← this, List.getElem?_eq_getElem hi, he]
theorem refAdd_mem (xs : List Int) (n m : Int) (h0 : 0 ≤ n) (h1 : n ≤ 100000) : m ∈ (refAdd xs n).1 ↔ m ∈ xs ∨ m = n := by
  unfold refAdd
  rw [if_neg (by omega)]
  split
  · rename_i h
    have := List.mem_of_getElem? h
    simp only
    constructor
    · exact .inl
    · rintro (h | rfl)
      · exact h
      · exact this
  · simp only [List.mem_append, List.mem_singleton]
    have : m ∈ xs ↔ m ∈ xs.take (lowN xs n) ∨ m ∈ xs.drop (lowN xs n) := by
      rw [← List.mem_append, List.take_append_drop]
    rw [this]
    constructor
    · rintro ((h | h) | h)
      · exact .inl (.inl h)
      · exact .inr h
      · exact .inl (.inr h)
    · rintro ((h | h) | h)
      · exact .inl (.inl h)
      · exact .inr h
      · exact .inl (.inr h)
theorem refAdd_sorted (xs : List Int) (n : Int) (hs : xs.Pairwise (· < ·)) : (refAdd xs n).1.Pairwise (· < ·) := by
  unfold refAdd
  split
  · exact hs
  · split
    · exact hs
    · rename_i h
      have hlow : ∀ a ∈ xs.take (lowN xs n), a < n := by
        intro a ha
        obtain ⟨i, hi, he⟩ := List.getElem_of_mem ha
        rw [List.length_take] at hi
        rw [List.getElem_take] at he
        rw [← he]
        exact lowN_lt xs n i (by omega) (by omega)
      have hhigh : ∀ b ∈ xs.drop (lowN xs n), n < b := by
        intro b hb
        obtain ⟨i, hi, he⟩ := List.getElem_of_mem hb
        rw [List.length_drop] at hi
        rw [List.getElem_drop] at he
        have hl : lowN xs n < xs.length := by omega
        have hge := lowN_ge xs n hl
        have hne : xs[lowN xs n] ≠ n := fun e => h (by rw [List.getElem?_eq_getElem hl, e])
        rcases Nat.eq_zero_or_pos i with h0 | h0
        · subst h0
          simp only [Nat.add_zero] at he
          omega
        · have := List.pairwise_iff_getElem.1 hs (lowN xs n) (lowN xs n + i) hl (by omega) (by omega)
          omega
      simp only
      rw [List.pairwise_append, List.pairwise_append]
      refine ⟨⟨hs.take, by simp, ?_⟩, hs.drop, ?_⟩
      · intro a ha b hb
        simp at hb; subst hb
        exact hlow a ha
      · intro a ha b hb
        simp only [List.mem_append, List.mem_singleton] at ha
        have := hhigh b hb
        rcases ha with ha | ha
        · have := hlow a ha; omega
        · omega
theorem Good.add {ws : List Nat} {xs : List Int} (h : Good ws xs) (n : Int) : Good (addI ws n).1 (refAdd xs n).1 ∧ (addI ws n).2 = (refAdd xs n).2 := by
  by_cases h0 : n < 0 ∨ 100000 < n
  · have e1 : addI ws n = (ws, false) := addI_no ws n (by omega)
    have e2 : refAdd xs n = (xs, false) := by unfold refAdd; rw [if_pos h0]
    rw [e1, e2]
    exact ⟨h, rfl⟩
  · by_cases hm : n ∈ xs
    · have hh := (h.mem n).1 hm
      have e1 : addI ws n = (ws, false) := addI_no ws n (.inr (.inr hh))
      have e2 : refAdd xs n = (xs, false) := by unfold refAdd; rw [if_neg h0, if_pos ((at_low xs n h.sorted).2 hm)]
      rw [e1, e2]
      exact ⟨h, rfl⟩
    · have hh : hasI ws n = false := by
        rw [Bool.eq_false_iff]
        exact fun e => hm ((h.mem n).2 e)
      have e1 := addI_eq ws n (by omega) (by omega) hh
      have e2 : (refAdd xs n).2 = true := by unfold refAdd; rw [if_neg h0, if_neg (fun e => hm ((at_low xs n h.sorted).1 e))]
      rw [e1, e2]
      refine ⟨⟨wOk_wSet ws h.ok _, norm_wSet ws _ h.norm, refAdd_sorted xs n h.sorted, ?_, ?_⟩, rfl⟩
      · intro m
        rw [refAdd_mem xs n m (by omega) (by omega), h.mem]
        simp only [hasI_iff]
        constructor
        · rintro (⟨k, rfl, hk⟩ | rfl)
          · exact ⟨k, rfl, by rw [wHas_wSet, hk]; rfl⟩
          · exact ⟨m.toNat, by omega, by rw [wHas_wSet]; simp⟩
        · rintro ⟨k, rfl, hk⟩
          rw [wHas_wSet, Bool.or_eq_true] at hk
          rcases hk with hk | hk
          · exact .inl ⟨k, rfl, hk⟩
          · right
            simp at hk
            omega
      · intro m hmm
        rw [refAdd_mem xs n m (by omega) (by omega)] at hmm
        rcases hmm with h1 | h1
        · exact h.small m h1
        · omega
theorem Good.adds {l : List Int} : ∀ {ws : List Nat} {xs : List Int}, Good ws xs → Good (l.foldl (fun ws x => (addI ws x).1) ws) (l.foldl (fun xs n => (refAdd xs n).1) xs) := by
  induction l with
  | nil => intro ws xs h; exact h
  | cons n r ih => intro ws xs h; exact ih (h.add n).1
theorem Good.new (l : List Int) : Good (newI l) (refNew l) := Good.adds Good.nil

theorem refNew_mem (l : List Int) (n : Int) : n ∈ refNew l ↔ n ∈ l ∧ 0 ≤ n ∧ n ≤ 100000 := by
  have : ∀ (l xs : List Int), (n ∈ l.foldl (fun xs n => (refAdd xs n).1) xs ↔ n ∈ xs ∨ (n ∈ l ∧ 0 ≤ n ∧ n ≤ 100000)) := by
    intro l
    induction l with
    | nil => intro xs; simp
    | cons m r ih =>
      intro xs
      rw [List.foldl_cons, ih]
      by_cases hm : m < 0 ∨ 100000 < m
      · have e : refAdd xs m = (xs, false) := by unfold refAdd; rw [if_pos hm]
        rw [e]
        simp only [List.mem_cons]
        constructor
        · rintro (h | h)
          · exact .inl h
          · exact .inr ⟨.inr h.1, h.2⟩
        · rintro (h | ⟨h | h, h2⟩)
          · exact .inl h
          · omega
          · exact .inr ⟨h, h2⟩
      · rw [refAdd_mem xs m n (by omega) (by omega)]
        simp only [List.mem_cons]
        constructor
        · rintro ((h | h) | h)
          · exact .inl h
          · exact .inr ⟨.inl h, by omega⟩
          · exact .inr ⟨.inr h.1, h.2⟩
        · rintro (h | ⟨h | h, h2⟩)
          · exact .inl (.inl h)
          · exact .inl (.inr h)
          · exact .inr ⟨h, h2⟩
  have := this l []
  simp only [List.not_mem_nil, false_or] at this
  exact this

theorem wHas_orW (a b : List Nat) (n : Nat) : wHas (orW a b) n = (wHas a n || wHas b n) := by
  unfold wHas
  by_cases hl : n / 64 < max a.length b.length
  · have e : (orW a b).getD (n / 64) 0 = a.getD (n / 64) 0 ||| b.getD (n / 64) 0 := by
      rw [getD_in _ _ (by simpa using hl)]
      simp [orW]
    rw [e, Nat.testBit_or]
  · rw [getD_out (orW a b) _ (by rw [orW_length]; omega), getD_out a _ (by omega), getD_out b _ (by omega)]
    simp
theorem norm_orW (a b : List Nat) (ha : norm a) (hb : norm b) : norm (orW a b) := by
  intro h0
  rw [orW_length] at h0 ⊢
  have e : (orW a b).getD (max a.length b.length - 1) 0 = a.getD (max a.length b.length - 1) 0 ||| b.getD (max a.length b.length - 1) 0 := by
    rw [getD_in _ _ (by simp; omega)]
    simp [orW]
  rw [e]
  intro hz
  have hz' := Nat.or_eq_zero_iff.1 hz
  rcases Nat.le_total a.length b.length with h | h
  · rw [show max a.length b.length = b.length by omega] at hz' h0
    exact hb h0 hz'.2
  · rw [show max a.length b.length = a.length by omega] at hz' h0
    exact ha h0 hz'.1
theorem Good.or {ws vs : List Nat} {xs ys : List Int} (h : Good ws xs) (k : Good vs ys) : Good (orW ws vs) (refNew (xs ++ ys)) := by
  have hn := Good.new (xs ++ ys)
  refine ⟨wOk_orW ws vs h.ok k.ok, norm_orW ws vs h.norm k.norm, hn.sorted, ?_, hn.small⟩
  intro n
  rw [refNew_mem]
  simp only [List.mem_append]
  have e : hasI (orW ws vs) n = (hasI ws n || hasI vs n) := by
    unfold hasI
    rw [wHas_orW, Bool.and_or_distrib_left]
  rw [e, Bool.or_eq_true, ← h.mem, ← k.mem]
  constructor
  · exact fun h => h.1
  · rintro (h1 | h1)
    · exact ⟨.inl h1, h.small n h1⟩
    · exact ⟨.inr h1, k.small n h1⟩

theorem trimN_get (l : List Nat) : ∀ (k i : Nat), trimN l k ≤ i → i < k → l.getD i 0 = 0
  | 0, i, _, h => by omega
  | k + 1, i, h1, h2 => by
    unfold trimN at h1
    split at h1
    · rename_i hz
      by_cases hi : i = k
      · subst hi; exact hz
      · exact trimN_get l k i h1 (by omega)
    · omega
theorem trimN_norm (l : List Nat) : ∀ (k : Nat), 0 < trimN l k → l.getD (trimN l k - 1) 0 ≠ 0
  | 0, h => by simp [trimN] at h
  | k + 1, h => by
    unfold trimN at h ⊢
    split
    · rename_i hz
      rw [if_pos hz] at h
      exact trimN_norm l k h
    · rename_i hz
      simpa using hz
theorem trimW_getD (l : List Nat) (i : Nat) : (trimW l).getD i 0 = l.getD i 0 := by
  unfold trimW
  have hle := trimN_le l l.length
  by_cases h : i < trimN l l.length
  · rw [getD_in _ _ (by rw [List.length_take]; omega), getD_in l i (by omega), List.getElem_take]
  · rw [getD_out _ _ (by rw [List.length_take]; omega)]
    by_cases h2 : i < l.length
    · exact (trimN_get l l.length i (by omega) h2).symm
    · exact (getD_out l i (by omega)).symm
theorem norm_trimW (l : List Nat) : norm (trimW l) := by
  intro h
  have hle := trimN_le l l.length
  have e : (trimW l).length = trimN l l.length := by unfold trimW; rw [List.length_take]; omega
  rw [e] at h ⊢
  rw [trimW_getD]
  exact trimN_norm l _ h
theorem andW_getD (a b : List Nat) (i : Nat) : (andW a b).getD i 0 = a.getD i 0 &&& b.getD i 0 := by
  unfold andW
  rw [trimW_getD]
  by_cases h : i < min a.length b.length
  · rw [getD_in _ _ (by simpa using h)]
    simp [andTo]
  · rw [getD_out _ _ (by rw [andTo_length]; omega)]
    rcases Nat.le_total a.length b.length with h1 | h1
    · rw [getD_out a i (by omega), Nat.zero_and]
    · rw [getD_out b i (by omega), Nat.and_zero]
theorem wHas_andW (a b : List Nat) (n : Nat) : wHas (andW a b) n = (wHas a n && wHas b n) := by
  unfold wHas
  rw [andW_getD, Nat.testBit_and]
theorem Good.and {ws vs : List Nat} {xs ys : List Int} (h : Good ws xs) (k : Good vs ys) : Good (andW ws vs) (refAnd xs ys) := by
  refine ⟨wOk_take _ (wOk_andTo ws vs h.ok _) _, norm_trimW _, h.sorted.filter _, ?_, ?_⟩
  · intro n
    unfold refAnd
    rw [List.mem_filter, decide_eq_true_iff, h.mem, k.mem]
    have e : hasI (andW ws vs) n = (hasI ws n && hasI vs n) := by
      unfold hasI
      rw [wHas_andW]
      cases decide (0 ≤ n) <;> simp
    rw [e, Bool.and_eq_true]
  · intro n hn
    unfold refAnd at hn
    exact h.small n (List.mem_filter.1 hn).1
end Go.Proofs.YtgbkmlnecooeaaaDoor
