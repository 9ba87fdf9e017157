/- The walk over law12.EvalOne. -/
import Derived.Test.YtcgjacaemblnmaaDoorLawSets
import Derived.Test.YtcgjacaemblnmaaDoorLawEx
namespace Go.Proofs.YtcgjacaemblnmaaDoor
open Go Go.RowKit

section
variable (x y n : Nat) (hx : x ≤ 15) (hy : y ≤ 15) (hn : n ≤ 20)
include hx hy
theorem pows_lt : ∀ u ∈ [2 ^ x, 2 ^ y], u < 65536 := by
  have h1 := Nat.pow_lt_pow_right (show 1 < 2 by decide) (show x < 16 by omega)
  have h2 := Nat.pow_lt_pow_right (show 1 < 2 by decide) (show y < 16 by omega)
  intro u hu
  simp at hu
  rcases hu with rfl | rfl
  · simpa using h1
  · simpa using h2
theorem one_list : [wrap64 (2 ^ x), wrap64 (2 ^ y)] = natL [2 ^ x, 2 ^ y] := by
  rw [wrap_pow x (by omega), wrap_pow y (by omega)]
  rfl
theorem one_less : holdsB (.node oLess 0 1 0 0 []) [wrap64 (2 ^ x), wrap64 (2 ^ y)] 0 = decide ((x : Int) < (y : Int)) := by
  rw [one_list x y hx hy, holdsB_leaf _ _ _ _ _ _ (by decide) (by decide) (by decide) (pows_lt x y hx hy) (by show isTop _ ((2 : Nat) : Int) = true; decide)]
  have h : atomE oLess 0 1 0 0 [2 ^ x, 2 ^ y] = ((oneB (2 ^ x) && oneB (2 ^ y)) && decide (0 < lowN (2 ^ y) - lowN (2 ^ x))) := rfl
  rw [h, oneB_pow x (by omega), oneB_pow y (by omega), low_pow x (by omega), low_pow y (by omega), Bool.true_and, Bool.true_and, decide_eq_decide]
  omega
include hn
theorem one_plus : holdsB (.node oPlus 0 1 0 n []) [wrap64 (2 ^ x), wrap64 (2 ^ y)] 0 = decide ((y : Int) = (x : Int) + (n : Int)) := by
  have ht : ∀ n : Fin 21, isTop (.node oPlus 0 1 0 (n.val : Int) []) ((2 : Nat) : Int) = true := by decide
  rw [one_list x y hx hy, holdsB_leaf _ _ _ _ _ _ (by decide) (by decide) (by decide) (pows_lt x y hx hy) (ht ⟨n, by omega⟩)]
  have h : atomE oPlus 0 1 0 n [2 ^ x, 2 ^ y] = ((oneB (2 ^ x) && oneB (2 ^ y)) && decide (lowN (2 ^ y) - lowN (2 ^ x) = n)) := rfl
  rw [h, oneB_pow x (by omega), oneB_pow y (by omega), low_pow x (by omega), low_pow y (by omega), Bool.true_and, Bool.true_and, decide_eq_decide]
  omega
theorem one_num : holdsB (.node oNum 0 0 0 n []) [wrap64 (2 ^ x), wrap64 (2 ^ y)] 0 = decide ((x : Int) = (n : Int)) := by
  have ht : ∀ n : Fin 21, isTop (.node oNum 0 0 0 (n.val : Int) []) ((2 : Nat) : Int) = true := by decide
  rw [one_list x y hx hy, holdsB_leaf _ _ _ _ _ _ (by decide) (by decide) (by decide) (pows_lt x y hx hy) (ht ⟨n, by omega⟩)]
  have h : atomE oNum 0 0 0 n [2 ^ x, 2 ^ y] = (oneB (2 ^ x) && decide (lowN (2 ^ x) = n)) := rfl
  rw [h, oneB_pow x (by omega), low_pow x (by omega), Bool.true_and]
omit hn
theorem one_sing : holdsB (.node oSing 0 0 0 0 []) [wrap64 (2 ^ x), wrap64 (2 ^ y)] 0 = true := by
  rw [one_list x y hx hy, holdsB_leaf _ _ _ _ _ _ (by decide) (by decide) (by decide) (pows_lt x y hx hy) (by show isTop _ ((2 : Nat) : Int) = true; decide)]
  have h : atomE oSing 0 0 0 0 [2 ^ x, 2 ^ y] = oneB (2 ^ x) := rfl
  rw [h, oneB_pow x (by omega)]
theorem one_flag : holdsB (.node oFlag 0 0 0 0 []) [wrap64 (2 ^ x), wrap64 (2 ^ y)] 0 = decide ((x : Int) = 0) := by
  rw [one_list x y hx hy, holdsB_leaf _ _ _ _ _ _ (by decide) (by decide) (by decide) (pows_lt x y hx hy) (by show isTop _ ((2 : Nat) : Int) = true; decide)]
  have h : atomE oFlag 0 0 0 0 [2 ^ x, 2 ^ y] = (2 ^ x % 2 == 1) := rfl
  rw [h]
  cases x with
  | zero => rfl
  | succ k =>
    rw [Nat.pow_succ, Nat.mul_mod_left]
    symm
    exact decide_eq_false (by omega)
theorem one_none : holdsB (.node oNone 0 0 0 0 []) [wrap64 (2 ^ x), wrap64 (2 ^ y)] 0 = false := by
  rw [one_list x y hx hy, holdsB_leaf _ _ _ _ _ _ (by decide) (by decide) (by decide) (pows_lt x y hx hy) (by show isTop _ ((2 : Nat) : Int) = true; decide)]
  have h : atomE oNone 0 0 0 0 [2 ^ x, 2 ^ y] = (2 ^ x == 0) := rfl
  rw [h]
  have := Nat.two_pow_pos x
  exact beq_false_of_ne (by omega)
end

set_option maxHeartbeats 1000000 in
theorem lawOne_any (a b m : Int) (w : World) (hT : Tab w) : Calls Tryd.prog 5 #[.int .i64 a, .int .i64 b, .int .i64 m] w fun e w' => e = .returned (.bool true) ∧ Below w.heap.size w w' := by
  have hs2 : 2 < w.heap.size := World.block_lt_of_cell? _ _ (hT 0 (by decide))
  have HT := Lib.hid hT
  clear hT
  by_cases h0 : a < 0
  · have g0 : decide (a < 0) = true := decide_eq_true h0
    go_enter Tryd.func5, Tryd.ntmps5
    go_wp2_with fail
    go_ret
    exact ⟨rfl, Below.refl _ _⟩
  have g0 : decide (a < 0) = false := decide_eq_false h0
  by_cases h1 : 15 < a
  · have g1 : decide (15 < a) = true := decide_eq_true h1
    go_enter Tryd.func5, Tryd.ntmps5
    go_wp2_with fail
    go_ret
    exact ⟨rfl, Below.refl _ _⟩
  have g1 : decide (15 < a) = false := decide_eq_false h1
  by_cases h2 : b < 0
  · have g2 : decide (b < 0) = true := decide_eq_true h2
    go_enter Tryd.func5, Tryd.ntmps5
    go_wp2_with fail
    go_ret
    exact ⟨rfl, Below.refl _ _⟩
  have g2 : decide (b < 0) = false := decide_eq_false h2
  by_cases h3 : 15 < b
  · have g3 : decide (15 < b) = true := decide_eq_true h3
    go_enter Tryd.func5, Tryd.ntmps5
    go_wp2_with fail
    go_ret
    exact ⟨rfl, Below.refl _ _⟩
  have g3 : decide (15 < b) = false := decide_eq_false h3
  by_cases h4 : m < 0
  · have g4 : decide (m < 0) = true := decide_eq_true h4
    go_enter Tryd.func5, Tryd.ntmps5
    go_wp2_with fail
    go_ret
    exact ⟨rfl, Below.refl _ _⟩
  have g4 : decide (m < 0) = false := decide_eq_false h4
  by_cases h5 : 20 < m
  · have g5 : decide (20 < m) = true := decide_eq_true h5
    go_enter Tryd.func5, Tryd.ntmps5
    go_wp2_with fail
    go_ret
    exact ⟨rfl, Below.refl _ _⟩
  have g5 : decide (20 < m) = false := decide_eq_false h5
  obtain ⟨x, rfl⟩ := Int.eq_ofNat_of_zero_le (show 0 ≤ a by omega)
  obtain ⟨y, rfl⟩ := Int.eq_ofNat_of_zero_le (show 0 ≤ b by omega)
  obtain ⟨n, rfl⟩ := Int.eq_ofNat_of_zero_le (show 0 ≤ m by omega)
  have hx : x ≤ 15 := by omega
  have hy : y ≤ 15 := by omega
  have hn : n ≤ 20 := by omega
  clear h0 h1 h2 h3 h4 h5
  have hI := IntsAt.new w 3 [wrap64 (2 ^ x), wrap64 (2 ^ y)]
  have hI : IntsAt (w.alloc (.cells #[.int .i64 (wrap64 (2 ^ x)), .int .i64 (wrap64 (2 ^ y))] 3)) (w.heap.size + 1) (some ⟨w.heap.size, 0, none⟩) [wrap64 (2 ^ x), wrap64 (2 ^ y)] := hI
  have hbel : Below w.heap.size w (w.alloc (.cells #[.int .i64 (wrap64 (2 ^ x)), .int .i64 (wrap64 (2 ^ y))] 3)) := (Below.refl _ _).alloc (Nat.le_refl _) _
  have hsz : (w.alloc (.cells #[.int .i64 (wrap64 (2 ^ x)), .int .i64 (wrap64 (2 ^ y))] 3)).heap.size = w.heap.size + 1 := by simp
  have hTV := HT.out.below hbel hs2
  have hB : Below (w.heap.size + 1) (w.alloc (.cells #[.int .i64 (wrap64 (2 ^ x)), .int .i64 (wrap64 (2 ^ y))] 3)) (w.alloc (.cells #[.int .i64 (wrap64 (2 ^ x)), .int .i64 (wrap64 (2 ^ y))] 3)) := Below.refl _ _
  have HC1 := Lib.hid (leaf_at [108, 101, 115, 115] 0 1 0 0 _ w.heap.size 2 2 _ _ (decide ((x : Int) < (y : Int))) (by decide) hI rfl (by decide) hTV (by omega) hsz (one_less x y hx hy))
  have HC2 := Lib.hid (leaf_at [112, 108, 117, 115] 0 1 0 n _ w.heap.size 2 2 _ _ ((y : Int) == (x : Int) + (n : Int)) (by decide) hI rfl (by decide) hTV (by omega) hsz (one_plus x y n hx hy hn))
  have HC3 := Lib.hid (leaf_at [110, 117, 109] 0 0 0 n _ w.heap.size 2 2 _ _ ((x : Int) == (n : Int)) (by decide) hI rfl (by decide) hTV (by omega) hsz (one_num x y n hx hy hn))
  have HC4 := Lib.hid (leaf_at [115, 105, 110, 103] 0 0 0 0 _ w.heap.size 2 2 _ _ true (by decide) hI rfl (by decide) hTV (by omega) hsz (one_sing x y hx hy))
  have HC5 := Lib.hid (leaf_at [102, 108, 97, 103] 0 0 0 0 _ w.heap.size 2 2 _ _ ((x : Int) == 0) (by decide) hI rfl (by decide) hTV (by omega) hsz (one_flag x y hx hy))
  have HC6 := Lib.hid (leaf_at [110, 111, 110, 101] 0 0 0 0 _ w.heap.size 2 2 _ _ false (by decide) hI rfl (by decide) hTV (by omega) hsz (one_none x y hx hy))
  have HKK := Lib.hid (fun W (hW : Below (w.heap.size + 1) _ W) => known12_any W (hTV.below hW (by omega)))
  have HB := Lib.hid (fun W (hW : Below (w.heap.size + 1) _ W) => (hbel.trans (hW.mono (by omega)) : Below w.heap.size w W))
  have HQ := Lib.hid (⟨hx, hy, hn⟩ : x ≤ 15 ∧ y ≤ 15 ∧ n ≤ 20)
  clear hI hbel hsz hTV
  go_enter Tryd.func5, Tryd.ntmps5
  go_wp2_with (first
    | (go_at_call_of 13 (Value.agg #[.string ⟨#[108, 101, 115, 115]⟩, .int .i64 0, .int .i64 1, .int .i64 0, .int .i64 0, .slice none 0 0])
       refine (HC1.out _ hB).mono ?_
       rintro e w2 ⟨rfl, hb2⟩
       replace hB := hB.trans hb2
       clear hb2)
    | (go_at_call_of 13 (Value.agg #[.string ⟨#[112, 108, 117, 115]⟩, .int .i64 0, .int .i64 1, .int .i64 0, .int .i64 (n : Int), .slice none 0 0])
       refine (HC2.out _ hB).mono ?_
       rintro e w2 ⟨rfl, hb2⟩
       replace hB := hB.trans hb2
       clear hb2)
    | (go_at_call_of 13 (Value.agg #[.string ⟨#[110, 117, 109]⟩, .int .i64 0, .int .i64 0, .int .i64 0, .int .i64 (n : Int), .slice none 0 0])
       refine (HC3.out _ hB).mono ?_
       rintro e w2 ⟨rfl, hb2⟩
       replace hB := hB.trans hb2
       clear hb2)
    | (go_at_call_of 13 (Value.agg #[.string ⟨#[115, 105, 110, 103]⟩, .int .i64 0, .int .i64 0, .int .i64 0, .int .i64 0, .slice none 0 0])
       refine (HC4.out _ hB).mono ?_
       rintro e w2 ⟨rfl, hb2⟩
       replace hB := hB.trans hb2
       clear hb2)
    | (go_at_call_of 13 (Value.agg #[.string ⟨#[102, 108, 97, 103]⟩, .int .i64 0, .int .i64 0, .int .i64 0, .int .i64 0, .slice none 0 0])
       refine (HC5.out _ hB).mono ?_
       rintro e w2 ⟨rfl, hb2⟩
       replace hB := hB.trans hb2
       clear hb2)
    | (go_at_call_of 13 (Value.agg #[.string ⟨#[110, 111, 110, 101]⟩, .int .i64 0, .int .i64 0, .int .i64 0, .int .i64 0, .slice none 0 0])
       refine (HC6.out _ hB).mono ?_
       rintro e w2 ⟨rfl, hb2⟩
       replace hB := hB.trans hb2
       clear hb2)
    | (go_at_call 14
       refine (HKK.out _ hB).mono ?_
       rintro e w3 ⟨rfl, hb3⟩))
  go_ret
  exact ⟨rfl, (HB.out _ hB).trans (hb3.mono (HB.out _ hB).size)⟩
end Go.Proofs.YtcgjacaemblnmaaDoor
