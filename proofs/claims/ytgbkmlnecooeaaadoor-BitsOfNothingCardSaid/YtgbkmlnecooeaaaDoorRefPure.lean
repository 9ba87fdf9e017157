/- Plain functions on rising lists of numbers: what the reference computes. -/
namespace Go.Proofs.YtgbkmlnecooeaaaDoor
/-- How many of the first numbers are below n. -/
def lowN : List Int → Int → Nat
  | [], _ => 0
  | x :: r, n => if x < n then lowN r n + 1 else 0
def refAdd (xs : List Int) (n : Int) : List Int × Bool :=
  if n < 0 ∨ 100000 < n then (xs, false) else if xs[lowN xs n]? = some n then (xs, false) else (xs.take (lowN xs n) ++ [n] ++ xs.drop (lowN xs n), true)
def refNew (l : List Int) : List Int := l.foldl (fun xs n => (refAdd xs n).1) []
def refAnd (a b : List Int) : List Int := a.filter fun n => decide (n ∈ b)
theorem lowN_le : ∀ (xs : List Int) (n : Int), lowN xs n ≤ xs.length
  | [], _ => Nat.le_refl _
  | x :: r, n => by
    have := lowN_le r n
    simp only [lowN, List.length_cons]
    split <;> omega
theorem lowN_lt : ∀ (xs : List Int) (n : Int) (k : Nat), k < lowN xs n → (hk : k < xs.length) → xs[k] < n
  | [], _, _, _, hk => by simp at hk
  | x :: r, n, k, h, hk => by
    unfold lowN at h
    split at h
    · rename_i hx
      rcases k with _ | k
      · exact hx
      · exact lowN_lt r n k (by omega) (by simpa using hk)
    · omega
theorem lowN_ge (xs : List Int) (n : Int) (h : lowN xs n < xs.length) : ¬ xs[lowN xs n] < n := by
  induction xs with
  | nil => simp at h
  | cons x r ih =>
    by_cases hx : x < n
    · have e : lowN (x :: r) n = lowN r n + 1 := by simp [lowN, hx]
      simp only [e] at h ⊢
      simp only [List.getElem_cons_succ]
      exact ih (by simpa using h)
    · have e : lowN (x :: r) n = 0 := by simp [lowN, hx]
      simp only [e, List.getElem_cons_zero]
      exact hx
/-- The place is found by going up. -/
theorem lowN_eq (xs : List Int) (n : Int) (k : Nat) (hk : k ≤ xs.length) (h1 : ∀ j, j < k → (h : j < xs.length) → xs[j] < n) (h2 : ∀ h : k < xs.length, ¬ xs[k] < n) : k = lowN xs n := by
  rcases Nat.lt_trichotomy k (lowN xs n) with h | h | h
  · have hl := lowN_le xs n
    exact absurd (lowN_lt xs n k h (by omega)) (h2 (by omega))
  · exact h
  · exact absurd (h1 _ h (by omega)) (lowN_ge xs n (by omega))
theorem refAdd_length (xs : List Int) (n : Int) : (refAdd xs n).1.length ≤ xs.length + 1 := by
  unfold refAdd
  split
  · simp
  · split
    · simp
    · simp; omega
theorem refNew_snoc (l : List Int) (n : Int) : refNew (l ++ [n]) = (refAdd (refNew l) n).1 := by
  unfold refNew; rw [List.foldl_append]; rfl
theorem refNew_length (l : List Int) : (refNew l).length ≤ l.length := by
  have : ∀ (l xs : List Int), (l.foldl (fun xs n => (refAdd xs n).1) xs).length ≤ xs.length + l.length := by
    intro l
    induction l with
    | nil => intro xs; simp
    | cons n r ih =>
      intro xs
      have h1 := refAdd_length xs n
      have h2 := ih (refAdd xs n).1
      simp only [List.foldl_cons, List.length_cons]
      omega
  have := this l []
  simp only [List.length_nil, Nat.zero_add] at this
  exact this
end Go.Proofs.YtgbkmlnecooeaaaDoor
