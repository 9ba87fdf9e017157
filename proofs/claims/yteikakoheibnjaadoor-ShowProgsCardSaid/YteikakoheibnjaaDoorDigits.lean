/- The walk over sibylref5.Digits; two texts, one behind the other. -/
import Derived.Test.YteikakoheibnjaaDoorAt
import Derived.Laws.IdiomStrings
namespace Go.Proofs.YteikakoheibnjaaDoor
open Go Go.RowKit

theorem size_of {T : ByteArray} {X : List UInt8} (h : T.data.toList = X) : T.size = X.length := by
  rw [← h, Array.length_toList]
  rfl
theorem bytes_of {T : ByteArray} {X : List UInt8} (h : T.data.toList = X) : T = ⟨X.toArray⟩ := by
  subst h
  cases T with
  | mk d => exact congrArg ByteArray.mk (by rw [Array.toArray_toList])
/-- Two texts, one behind the other, where the lengths allow. -/
theorem add_ex (a b : ByteArray) {X Y : List UInt8} (ha : a.data.toList = X) (hb : b.data.toList = Y) (h : X.length + Y.length ≤ 100000000) :
    ∃ T : ByteArray, (∀ w : World, (Op.stringOp .add a b).run Tryd.prog w = .ok (.string T) w) ∧ T.data.toList = X ++ Y := by
  refine ⟨a ++ b, fun w => run_string_add_sum w a b ?_, ?_⟩
  · rw [size_of ha, size_of hb]
    omega
  · rw [ByteArray.data_append, Array.toList_append, ha, hb]


theorem dig_nat : ∀ d : Fin 10, (UInt8.ofNat (48 + d.val)).toNat = 48 + d.val := by decide
theorem digF_more : ∀ (f n : Nat), n < 10 ^ (f + 1) → digF (f + 2) n = digF (f + 1) n
  | 0, n, h => by
    have : n < 10 := by simpa using h
    simp [digF, this]
  | f + 1, n, h => by
    have ih := digF_more f (n / 10) (by
      rw [Nat.pow_succ] at h
      omega)
    conv => lhs; unfold digF
    conv => rhs; unfold digF
    rw [ih]
theorem digF_up : ∀ (d n : Nat), n < 1000000 → digF (6 + d) n = digF 6 n
  | 0, _, _ => rfl
  | d + 1, n, h => by
    rw [← digF_up d n h]
    have h1 := digF_more (5 + d) n (Nat.lt_of_lt_of_le (show n < 10 ^ 6 from h) (Nat.pow_le_pow_right (by decide) (by omega)))
    rw [show 6 + (d + 1) = 5 + d + 2 by omega, show 6 + d = 5 + d + 1 by omega]
    exact h1
theorem dig_step (n : Nat) (h : 10 ≤ n) (h2 : n < 1000000) : dig n = dig (n / 10) ++ [UInt8.ofNat (48 + n % 10)] := by
  unfold dig
  rw [digF_up 14 n h2, digF_up 14 (n / 10) (by omega), ← digF_up 1 n h2]
  conv => lhs; unfold digF
  rw [if_neg (by omega)]
theorem dig_small (n : Nat) (h : n < 10) : dig n = [UInt8.ofNat (48 + n % 10)] := by
  unfold dig digF
  rw [if_pos h, Nat.mod_eq_of_lt h]
theorem dig_len6 : ∀ n, n < 1000000 → (dig n).length ≤ 6 := by
  have step : ∀ k n, n < 10 ^ k → k ≤ 6 → (dig n).length ≤ max k 1 := by
    intro k
    induction k with
    | zero =>
      intro n h _
      rw [dig_small n (by simp at h; omega)]
      simp
    | succ k ih =>
      intro n h hk
      by_cases h10 : n < 10
      · rw [dig_small n h10]
        exact Nat.le_max_right _ _
      · have h3 : n < 10 ^ 6 := Nat.lt_of_lt_of_le h (Nat.pow_le_pow_right (by decide) hk)
        rw [dig_step n (by omega) h3]
        have := ih (n / 10) (by rw [Nat.pow_succ] at h; omega) (by omega)
        cases k with
        | zero => simp at h; omega
        | succ k =>
          simp
          omega
  intro n h
  have := step 6 n h (Nat.le_refl _)
  omega
/-- One byte as a text. -/
theorem conv_one (w : World) (i : Nat) : (convert 56 9 (.slice (some ⟨w.heap.size, 0, none⟩) 1 1)).run Tryd.prog (w.alloc (.cells #[.int .u8 (48 + (i : Int) % 10)] 5)) = .ok (.string ⟨[UInt8.ofNat (48 + i % 10)].toArray⟩) (w.alloc (.cells #[.int .u8 (48 + (i : Int) % 10)] 5)) := by
  refine run_convert_bytes_back _ 56 9 5 ⟨w.heap.size, 0, none⟩ 1 [UInt8.ofNat (48 + i % 10)] Tryd.underlying56 Tryd.underlying5 Tryd.underlying9 fun j hj => ?_
  have h0 : j = 0 := by simpa using hj
  subst h0
  have e := dig_nat ⟨i % 10, Nat.mod_lt _ (by decide)⟩
  simp only at e
  simp only [List.getElem_cons_zero]
  rw [e]
  have e2 : ((48 + i % 10 : Nat) : Int) = 48 + (i : Int) % 10 := by omega
  rw [e2]
  exact (cell_of_row _ w.heap.size 0 _ 5 (0, 0) (heap_alloc_new w _)).trans rfl

theorem digit_any (i : Nat) (h10 : i < 10) (w : World) : Calls Tryd.prog 30 #[.int .i64 i] w fun e w' => e = .returned (.string ⟨(dig i).toArray⟩) ∧ Below w.heap.size w w' := by
  have g : decide ((i : Int) < 10) = true := decide_eq_true (by omega)
  have hconv := conv_one w i
  rw [dig_small i h10]
  generalize UInt8.ofNat (48 + i % 10) = B at *
  go_enter Tryd.func30, Tryd.ntmps30
  go_wp2_with fail
  go_ret
  exact ⟨rfl, (Below.refl _ _).alloc (Nat.le_refl _) _⟩
/-- A number from 0 to 999999 in digits. -/
theorem digits_any : ∀ (n i : Nat), i ≤ n → i < 1000000 → ∀ (w : World), Calls Tryd.prog 30 #[.int .i64 i] w fun e w' => e = .returned (.string ⟨(dig i).toArray⟩) ∧ Below w.heap.size w w' := by
  intro n
  induction n with
  | zero =>
    intro i hin hi w
    exact digit_any i (by omega) w
  | succ n ih =>
    intro i hin hi w
    by_cases h10 : i < 10
    · exact digit_any i h10 w
    · have g : decide ((i : Int) < 10) = false := decide_eq_false (by omega)
      have hconv := conv_one w i
      rw [dig_step i (by omega) hi]
      have HH : Hid (∀ W, Calls Tryd.prog 30 #[.int .i64 ((i : Int) / 10)] W fun e w' => e = .returned (.string ⟨(dig (i / 10)).toArray⟩) ∧ Below W.heap.size W w') := Lib.hid (fun W => by
        have := ih (i / 10) (by omega) (by omega) W
        rw [show ((i / 10 : Nat) : Int) = (i : Int) / 10 by omega] at this
        exact this)
      have hl : (dig (i / 10)).length ≤ 6 := dig_len6 _ (by omega)
      generalize UInt8.ofNat (48 + i % 10) = B at *
      generalize dig (i / 10) = D at *
      obtain ⟨T, hadd, hT⟩ := add_ex ⟨D.toArray⟩ ⟨[B].toArray⟩ (X := D) (Y := [B]) rfl rfl (by simp; omega)
      have HT := Lib.hid (bytes_of hT)
      clear hT hl ih
      go_enter Tryd.func30, Tryd.ntmps30
      go_wp2_with (
        go_at_call 30
        refine (HH.out _).mono ?_
        rintro e w2 ⟨rfl, hb2⟩)
      go_ret
      exact ⟨congrArg (fun x : ByteArray => Ending.returned (.string x)) HT.out, ((Below.refl w.heap.size w).alloc (Nat.le_refl _) _).trans (hb2.mono (by simp))⟩
end Go.Proofs.YteikakoheibnjaaDoor
