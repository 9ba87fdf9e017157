/- Plain functions on lists: sets of small numbers as words, and as rising lists. -/
namespace Go.Proofs.YtgbkmlnecooeaaaDoor

def wHas (ws : List Nat) (x : Nat) : Bool := (ws.getD (x / 64) 0).testBit (x % 64)
def hasI (ws : List Nat) (x : Int) : Bool := decide (0 ≤ x) && wHas ws x.toNat
def wPad (ws : List Nat) (k : Nat) : List Nat := ws ++ List.replicate (k - ws.length) 0
def wSet (ws : List Nat) (x : Nat) : List Nat := (wPad ws (x / 64 + 1)).set (x / 64) ((wPad ws (x / 64 + 1)).getD (x / 64) 0 ||| 2 ^ (x % 64))
def addI (ws : List Nat) (x : Int) : List Nat × Bool := if x < 0 ∨ 100000 < x ∨ hasI ws x = true then (ws, false) else (wSet ws x.toNat, true)
def wOk (ws : List Nat) : Prop := ∀ u ∈ ws, u < 18446744073709551616

theorem getD_out (l : List Nat) (i : Nat) (h : l.length ≤ i) : l.getD i 0 = 0 := by
  rw [List.getD_eq_getElem?_getD, List.getElem?_eq_none h]; rfl
theorem getD_in (l : List Nat) (i : Nat) (h : i < l.length) : l.getD i 0 = l[i] := by
  rw [List.getD_eq_getElem?_getD, List.getElem?_eq_getElem h]; rfl
theorem wHas_out (ws : List Nat) (x : Nat) (h : ws.length ≤ x / 64) : wHas ws x = false := by
  unfold wHas; rw [getD_out _ _ h]; simp
theorem hasI_neg (ws : List Nat) (x : Int) (h : x < 0) : hasI ws x = false := by
  unfold hasI; simp; omega
theorem hasI_nat (ws : List Nat) (x : Nat) : hasI ws (x : Int) = wHas ws x := by
  unfold hasI; simp
theorem wPad_length (ws : List Nat) (k : Nat) : (wPad ws k).length = max ws.length k := by
  unfold wPad; simp; omega
theorem wSet_length (ws : List Nat) (x : Nat) : (wSet ws x).length = max ws.length (x / 64 + 1) := by
  unfold wSet; simp [wPad_length]
theorem two_pow_lt (x : Nat) : 2 ^ (x % 64) < 18446744073709551616 := by
  have : 2 ^ (x % 64) < 2 ^ 64 := Nat.pow_lt_pow_right (by decide) (by omega)
  simpa using this
theorem wPad_getD (ws : List Nat) (k i : Nat) : (wPad ws k).getD i 0 = ws.getD i 0 := by
  unfold wPad
  rw [List.getD_eq_getElem?_getD, List.getD_eq_getElem?_getD, List.getElem?_append]
  split
  · rfl
  · rename_i h
    rw [List.getElem?_eq_none (by omega : ws.length ≤ i)]
    by_cases h2 : i - ws.length < k - ws.length
    · simp [h2]
    · simp [h2]
theorem wOk_getD (ws : List Nat) (h : wOk ws) (i : Nat) : ws.getD i 0 < 18446744073709551616 := by
  by_cases hi : i < ws.length
  · rw [getD_in _ _ hi]
    exact h _ (List.getElem_mem hi)
  · rw [getD_out _ _ (by omega)]; decide
theorem wOk_pad (ws : List Nat) (h : wOk ws) (k : Nat) : wOk (wPad ws k) := by
  intro u hu
  unfold wPad at hu
  rw [List.mem_append] at hu
  rcases hu with hu | hu
  · exact h u hu
  · rw [List.mem_replicate] at hu; omega
theorem wOk_wSet (ws : List Nat) (h : wOk ws) (x : Nat) : wOk (wSet ws x) := by
  intro u hu
  unfold wSet at hu
  rcases List.mem_or_eq_of_mem_set hu with hu | hu
  · exact wOk_pad ws h _ u hu
  · subst hu
    rw [wPad_getD]
    have h1 := wOk_getD ws h (x / 64)
    have h2 := two_pow_lt x
    have : ws.getD (x / 64) 0 ||| 2 ^ (x % 64) < 2 ^ 64 := Nat.or_lt_two_pow (by simpa using h1) (by simpa using h2)
    simpa using this
theorem wOk_addI (ws : List Nat) (h : wOk ws) (x : Int) : wOk (addI ws x).1 := by
  unfold addI; split
  · exact h
  · exact wOk_wSet ws h _
theorem addI_length (ws : List Nat) (x : Int) (h : ws.length ≤ 1563) : (addI ws x).1.length ≤ 1563 := by
  unfold addI; split
  · exact h
  · rename_i hc
    simp only [wSet_length]
    have : x.toNat ≤ 100000 := by omega
    omega
theorem addI_eq (ws : List Nat) (x : Int) (h0 : 0 ≤ x) (h1 : x ≤ 100000) (h : hasI ws x = false) : addI ws x = (wSet ws x.toNat, true) := by
  unfold addI; rw [if_neg]; simp [h]; omega
theorem addI_no (ws : List Nat) (x : Int) (h : x < 0 ∨ 100000 < x ∨ hasI ws x = true) : addI ws x = (ws, false) := by
  unfold addI; rw [if_pos h]
def newI (xs : List Int) : List Nat := xs.foldl (fun ws x => (addI ws x).1) []
theorem newI_snoc (xs : List Int) (x : Int) : newI (xs ++ [x]) = (addI (newI xs) x).1 := by
  unfold newI; rw [List.foldl_append]; rfl
theorem take_snoc {α : Type} (xs : List α) (k : Nat) (h : k < xs.length) : xs.take (k + 1) = xs.take k ++ [xs[k]] := by
  rw [List.take_succ_eq_append_getElem h]
/-- The first k words joined. -/
def orTo (a b : List Nat) (k : Nat) : List Nat := (List.range a.length).map fun i => if i < k then a.getD i 0 ||| b.getD i 0 else a.getD i 0
def orW (a b : List Nat) : List Nat := (List.range (max a.length b.length)).map fun i => a.getD i 0 ||| b.getD i 0
theorem orTo_zero (a b : List Nat) : orTo a b 0 = a := by
  apply List.ext_getElem
  · simp [orTo]
  · intro i h1 h2
    simp [orTo, List.getD, h2]
@[simp] theorem orTo_length (a b : List Nat) (k : Nat) : (orTo a b k).length = a.length := by simp [orTo]
theorem orTo_succ (a b : List Nat) (k : Nat) : (orTo a b k).set k (a.getD k 0 ||| b.getD k 0) = orTo a b (k + 1) := by
  apply List.ext_getElem
  · simp
  · intro i h1 h2
    rw [List.getElem_set]
    simp only [orTo, List.getElem_map, List.getElem_range]
    by_cases hik : k = i
    · subst hik; simp
    · rw [if_neg hik]
      by_cases h : i < k
      · rw [if_pos h, if_pos (by omega)]
      · rw [if_neg h, if_neg (by omega)]
theorem orTo_getD (a b : List Nat) (k : Nat) (h : k < a.length) : (orTo a b k).getD k 0 = a.getD k 0 := by
  rw [getD_in _ _ (by simpa using h)]
  simp [orTo]
theorem orTo_end (a b : List Nat) (h : b.length ≤ a.length) : orTo a b b.length = orW a b := by
  unfold orTo orW
  rw [Nat.max_eq_left h]
  apply List.map_congr_left
  intro i _
  by_cases h2 : i < b.length
  · rw [if_pos h2]
  · rw [if_neg h2, getD_out b i (by omega), Nat.or_zero]
theorem orW_comm (a b : List Nat) : orW a b = orW b a := by
  unfold orW
  rw [Nat.max_comm]
  apply List.map_congr_left
  intro i _
  exact Nat.or_comm _ _
@[simp] theorem orW_length (a b : List Nat) : (orW a b).length = max a.length b.length := by simp [orW]
theorem or_lt64 (x y : Nat) (hx : x < 18446744073709551616) (hy : y < 18446744073709551616) : x ||| y < 18446744073709551616 :=
  Nat.or_lt_two_pow (n := 64) hx hy
theorem wOk_orW (a b : List Nat) (ha : wOk a) (hb : wOk b) : wOk (orW a b) := by
  intro u hu
  simp only [orW, List.mem_map] at hu
  obtain ⟨i, _, rfl⟩ := hu
  exact or_lt64 _ _ (wOk_getD a ha i) (wOk_getD b hb i)
/-- What the first k words have in common; without the words of 0 behind. -/
def andTo (a b : List Nat) (k : Nat) : List Nat := (List.range k).map fun i => a.getD i 0 &&& b.getD i 0
def trimN (l : List Nat) : Nat → Nat
  | 0 => 0
  | k + 1 => if l.getD k 0 = 0 then trimN l k else k + 1
def trimW (l : List Nat) : List Nat := l.take (trimN l l.length)
def andW (a b : List Nat) : List Nat := trimW (andTo a b (min a.length b.length))
@[simp] theorem andTo_length (a b : List Nat) (k : Nat) : (andTo a b k).length = k := by simp [andTo]
theorem andTo_succ (a b : List Nat) (k : Nat) : andTo a b (k + 1) = andTo a b k ++ [a.getD k 0 &&& b.getD k 0] := by
  unfold andTo; rw [List.range_succ, List.map_append]; rfl
theorem trimN_le (l : List Nat) : ∀ k, trimN l k ≤ k
  | 0 => Nat.le_refl _
  | k + 1 => by
    have := trimN_le l k
    unfold trimN; split <;> omega
theorem wOk_andTo (a b : List Nat) (ha : wOk a) (k : Nat) : wOk (andTo a b k) := by
  intro u hu
  simp only [andTo, List.mem_map] at hu
  obtain ⟨i, _, rfl⟩ := hu
  exact Nat.lt_of_le_of_lt Nat.and_le_left (wOk_getD a ha i)
theorem wOk_take (a : List Nat) (ha : wOk a) (k : Nat) : wOk (a.take k) := fun u hu => ha u (List.mem_of_mem_take hu)
theorem trimW_of (l : List Nat) (k : Nat) (h : trimN l l.length = trimN l k) (hk : k ≤ l.length) (hz : k = 0 ∨ l.getD (k - 1) 0 ≠ 0) : trimW l = l.take k := by
  unfold trimW
  rw [h]
  rcases k with _ | k
  · rfl
  · simp only [Nat.add_sub_cancel] at hz
    have hz : l.getD k 0 ≠ 0 := by rcases hz with h | h; omega; exact h
    unfold trimN
    rw [if_neg hz]
end Go.Proofs.YtgbkmlnecooeaaaDoor
