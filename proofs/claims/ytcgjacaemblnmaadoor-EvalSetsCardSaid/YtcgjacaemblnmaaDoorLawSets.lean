/- The walk over law12.EvalSets. -/
import Derived.Test.YtcgjacaemblnmaaDoorLaw12P
namespace Go.Proofs.YtcgjacaemblnmaaDoor
open Go Go.RowKit

/-- A formula with no kids, of sets in a new row. -/
theorem leaf_call (o : List UInt8) (a b c n : Int) (xs : List Int) (g cap : Nat) (bound : Int) (W : World) (ho : o.length ≤ 140737488355328) (hS : IntsAt W W.heap.size (some ⟨g, 0, none⟩) xs) (hl : xs.length ≤ 140737488355328) (hT : Tab W) :
    Calls Tryd.prog 13 #[.agg #[.string ⟨o.toArray⟩, .int .i64 a, .int .i64 b, .int .i64 c, .int .i64 n, .slice none 0 0], .slice (some ⟨g, 0, none⟩) xs.length cap, .int .i64 bound] W
      fun e w' => e = .returned (.bool (holdsB (.node o a b c n []) xs bound)) ∧ Below W.heap.size W w' :=
  Holds_any (.node o a b c n []) none 0 xs (some ⟨g, 0, none⟩) cap bound W (CoreAt.leaf _ _ _ _ _ _ _ ho) hS hl hT
theorem holdsB_leaf (o : List UInt8) (a b c n : Int) (s : List Nat) (h1 : o ≠ oNot) (h2 : o ≠ oAnd) (h3 : o ≠ oEx) (hs : ∀ x ∈ s, x < 65536) (ht : isTop (.node o a b c n []) s.length = true) :
    holdsB (.node o a b c n []) (natL s) 0 = atomE o a b c n s := by
  have hany : (natL s).any oddB = false := by
    rw [List.any_eq_false]
    intro x hx
    obtain ⟨y, hy, rfl⟩ := List.mem_map.1 hx
    have := hs y hy
    simp [oddB]
    omega
  have hlen : (natL s).length = s.length := natL_length s
  have hm : (natL s).map Int.toNat = s := by
    unfold natL
    rw [List.map_map]
    conv => rhs; rw [← List.map_id s]
    exact List.map_congr_left fun x _ => by simp
  unfold holdsB
  rw [if_neg, hm, evalG_atom _ _ _ _ _ _ _ _ _ h1 h2 h3]
  rintro (h | h | h | h)
  · omega
  · omega
  · rw [hany] at h; cases h
  · rw [hlen, ht] at h; cases h

section
variable (x y : Nat) (hx : x < 65536) (hy : y < 65536)
include hx hy
theorem set3_lt (z : Nat) (hz : z < 65536) : ∀ u ∈ [x, y, z], u < 65536 := by
  intro u hu
  simp at hu
  omega
omit hy in
theorem and_lt16 : x &&& y < 65536 := Nat.lt_of_le_of_lt Nat.and_le_left hx
theorem or_lt16 : x ||| y < 65536 := Nat.or_lt_two_pow (n := 16) hx hy
theorem bnot_lt16 : bnot x y < 65536 := Nat.xor_lt_two_pow (n := 16) hx (Nat.and_lt_two_pow (n := 16) _ hy)
theorem sets_inter : holdsB (.node oInter 0 1 2 0 []) [(x : Int), y, ((x &&& y : Nat) : Int)] 0 = true := by
  rw [show [(x : Int), y, ((x &&& y : Nat) : Int)] = natL [x, y, x &&& y] from rfl, holdsB_leaf _ _ _ _ _ _ (by decide) (by decide) (by decide) (set3_lt x y hx hy _ (and_lt16 x y hx)) (by show isTop _ ((3 : Nat) : Int) = true; decide)]
  simp [atomE, getS, oInter, oTrue, oSub, oSing, oFlag, oNone, oLess, oPlus, oNum, oUnion]
theorem sets_union : holdsB (.node oUnion 0 1 2 0 []) [(x : Int), y, ((x ||| y : Nat) : Int)] 0 = true := by
  rw [show [(x : Int), y, ((x ||| y : Nat) : Int)] = natL [x, y, x ||| y] from rfl, holdsB_leaf _ _ _ _ _ _ (by decide) (by decide) (by decide) (set3_lt x y hx hy _ (or_lt16 x y hx hy)) (by show isTop _ ((3 : Nat) : Int) = true; decide)]
  simp [atomE, getS, oTrue, oSub, oSing, oFlag, oNone, oLess, oPlus, oNum, oUnion]
theorem sets_minus : holdsB (.node oMinus 0 1 2 0 []) [(x : Int), y, ((bnot x y : Nat) : Int)] 0 = true := by
  rw [show [(x : Int), y, ((bnot x y : Nat) : Int)] = natL [x, y, bnot x y] from rfl, holdsB_leaf _ _ _ _ _ _ (by decide) (by decide) (by decide) (set3_lt x y hx hy _ (bnot_lt16 x y hx hy)) (by show isTop _ ((3 : Nat) : Int) = true; decide)]
  simp [atomE, getS, oInter, oTrue, oSub, oSing, oFlag, oNone, oLess, oPlus, oNum, oUnion, oMinus]
theorem sets_sub : holdsB (.node oSub 2 0 0 0 []) [(x : Int), y, ((x &&& y : Nat) : Int)] 0 = true := by
  rw [show [(x : Int), y, ((x &&& y : Nat) : Int)] = natL [x, y, x &&& y] from rfl, holdsB_leaf _ _ _ _ _ _ (by decide) (by decide) (by decide) (set3_lt x y hx hy _ (and_lt16 x y hx)) (by show isTop _ ((3 : Nat) : Int) = true; decide)]
  simp [atomE, getS, oTrue, oSub, bnot, Nat.and_assoc, Nat.and_comm y x]
  rw [← Nat.and_assoc, Nat.and_self, Nat.xor_self]
theorem sets_sub2 : holdsB (.node oSub 0 1 0 0 []) [(x : Int), y, ((x &&& y : Nat) : Int)] 0 = (bnot x y == 0) := by
  rw [show [(x : Int), y, ((x &&& y : Nat) : Int)] = natL [x, y, x &&& y] from rfl, holdsB_leaf _ _ _ _ _ _ (by decide) (by decide) (by decide) (set3_lt x y hx hy _ (and_lt16 x y hx)) (by show isTop _ ((3 : Nat) : Int) = true; decide)]
  simp [atomE, getS, oTrue, oSub]
end

def row3 (a b c : Int) : Obj := .cells #[.int .i64 a, .int .i64 b, .int .i64 c] 3
def setsW (w : World) (a b c d e : Int) : World := ((w.alloc (.cells #[.int .i64 a, .int .i64 b, .int .i64 c] 3)).alloc (.cells #[.int .i64 a, .int .i64 b, .int .i64 d] 3)).alloc (.cells #[.int .i64 a, .int .i64 b, .int .i64 e] 3)
theorem setsW_below (w : World) (a b c d e : Int) : Below w.heap.size w (setsW w a b c d e) := (((Below.refl _ _).alloc (Nat.le_refl _) _).alloc (by simp) _).alloc (by simp; omega) _
theorem setsW_size (w : World) (a b c d e : Int) : (setsW w a b c d e).heap.size = w.heap.size + 1 + 1 + 1 := by simp [setsW]
theorem setsW_ints (w : World) (a b c d e : Int) :
    IntsAt (setsW w a b c d e) (w.heap.size + 1 + 1 + 1) (some ⟨w.heap.size, 0, none⟩) [a, b, c] ∧ IntsAt (setsW w a b c d e) (w.heap.size + 1 + 1 + 1) (some ⟨w.heap.size + 1, 0, none⟩) [a, b, d] ∧
      IntsAt (setsW w a b c d e) (w.heap.size + 1 + 1 + 1) (some ⟨w.heap.size + 1 + 1, 0, none⟩) [a, b, e] := by
  have h1 := IntsAt.new w 3 [a, b, c]
  have h2 := IntsAt.new (w.alloc (.cells (i64s [a, b, c]).toArray 3)) 3 [a, b, d]
  have h3 := IntsAt.new ((w.alloc (.cells (i64s [a, b, c]).toArray 3)).alloc (.cells (i64s [a, b, d]).toArray 3)) 3 [a, b, e]
  have s1 : (w.alloc (.cells (i64s [a, b, c]).toArray 3)).heap.size = w.heap.size + 1 := by simp
  have s2 : ((w.alloc (.cells (i64s [a, b, c]).toArray 3)).alloc (.cells (i64s [a, b, d]).toArray 3)).heap.size = w.heap.size + 1 + 1 := by simp
  rw [s1] at h2
  rw [s2] at h3
  have b2 : Below (w.heap.size + 1) (w.alloc (.cells (i64s [a, b, c]).toArray 3)) ((w.alloc (.cells (i64s [a, b, c]).toArray 3)).alloc (.cells (i64s [a, b, d]).toArray 3)) := (Below.refl _ _).alloc (Nat.le_of_eq s1.symm) _
  have b3 : Below (w.heap.size + 1 + 1) ((w.alloc (.cells (i64s [a, b, c]).toArray 3)).alloc (.cells (i64s [a, b, d]).toArray 3)) (setsW w a b c d e) := (Below.refl _ _).alloc (Nat.le_of_eq s2.symm) _
  exact ⟨((h1.below b2).below (b3.mono (by omega))).more (by omega), (h2.below b3).more (by omega), h3⟩

theorem leaf_at (o : List UInt8) (a b c n : Int) (xs : List Int) (g m cap B : Nat) (V : World) (v : Bool) (ho : o.length ≤ 140737488355328) (hS : IntsAt V B (some ⟨g, 0, none⟩) xs) (hm : xs.length = m) (hm2 : m ≤ 140737488355328) (hT : Tab V) (h2 : 2 < B)
    (hV : V.heap.size = B) (hv : holdsB (.node o a b c n []) xs 0 = v) (W : World) (hW : Below B V W) :
    Calls Tryd.prog 13 #[.agg #[.string ⟨o.toArray⟩, .int .i64 a, .int .i64 b, .int .i64 c, .int .i64 n, .slice none 0 0], .slice (some ⟨g, 0, none⟩) m cap, .int .i64 0] W
      fun e w' => e = .returned (.bool v) ∧ Below B W w' := by
  subst hm hv
  have hs : B ≤ W.heap.size := hV ▸ hW.size
  exact (leaf_call o a b c n xs g cap 0 W ho ((hS.below hW).more hs) hm2 (hT.below hW h2)).mono fun e w' ⟨h1, h2⟩ => ⟨h1, h2.mono hs⟩

set_option maxHeartbeats 1000000 in
theorem lawSets_any (a b : Int) (w : World) (hT : Tab w) : Calls Tryd.prog 4 #[.int .i64 a, .int .i64 b] w fun e w' => e = .returned (.bool true) ∧ Below w.heap.size w w' := by
  have h2 : 2 < w.heap.size := World.block_lt_of_cell? _ _ (hT 0 (by decide))
  have HK := Lib.hid known12_any
  have HT := Lib.hid hT
  clear hT
  by_cases ha0 : a < 0
  · have g0 : decide (a < 0) = true := decide_eq_true ha0
    go_enter Tryd.func4, Tryd.ntmps4
    go_wp2_with fail
    go_ret
    exact ⟨rfl, Below.refl _ _⟩
  have g0 : decide (a < 0) = false := decide_eq_false ha0
  by_cases ha1 : 65536 ≤ a
  · have g1 : decide (65536 ≤ a) = true := decide_eq_true ha1
    go_enter Tryd.func4, Tryd.ntmps4
    go_wp2_with fail
    go_ret
    exact ⟨rfl, Below.refl _ _⟩
  have g1 : decide (65536 ≤ a) = false := decide_eq_false ha1
  by_cases hb0 : b < 0
  · have g2 : decide (b < 0) = true := decide_eq_true hb0
    go_enter Tryd.func4, Tryd.ntmps4
    go_wp2_with fail
    go_ret
    exact ⟨rfl, Below.refl _ _⟩
  have g2 : decide (b < 0) = false := decide_eq_false hb0
  by_cases hb1 : 65536 ≤ b
  · have g3 : decide (65536 ≤ b) = true := decide_eq_true hb1
    go_enter Tryd.func4, Tryd.ntmps4
    go_wp2_with fail
    go_ret
    exact ⟨rfl, Below.refl _ _⟩
  have g3 : decide (65536 ≤ b) = false := decide_eq_false hb1
  obtain ⟨x, rfl⟩ := Int.eq_ofNat_of_zero_le (show 0 ≤ a by omega)
  obtain ⟨y, rfl⟩ := Int.eq_ofNat_of_zero_le (show 0 ≤ b by omega)
  have hx : x < 65536 := by omega
  have hy : y < 65536 := by omega
  clear ha0 ha1 hb0 hb1
  have e1 := i64_and_nat x y (by omega) (by omega)
  have e2 := i64_or_nat x y (by omega) (by omega)
  have e3 := i64_andNot_nat x y (by omega) (by omega)
  have hI := setsW_ints w x y (bits .and .i64 x y) (bits .or .i64 x y) (bits .andNot .i64 x y)
  have hbel := setsW_below w x y (bits .and .i64 x y) (bits .or .i64 x y) (bits .andNot .i64 x y)
  have hsz := setsW_size w x y (bits .and .i64 x y) (bits .or .i64 x y) (bits .andNot .i64 x y)
  have hTV := HT.out.below hbel h2
  have hB := Below.refl (w.heap.size + 1 + 1 + 1) (setsW w x y (bits .and .i64 x y) (bits .or .i64 x y) (bits .andNot .i64 x y))
  simp only [setsW] at hI hbel hsz hTV hB
  have HC1 := Lib.hid (leaf_at [105, 110, 116, 101, 114] 0 1 2 0 _ w.heap.size 3 3 _ _ true (by decide) hI.1 rfl (by decide) hTV (by omega) hsz (by rw [e1]; exact sets_inter x y hx hy))
  have HC2 := Lib.hid (leaf_at [117, 110, 105, 111, 110] 0 1 2 0 _ (w.heap.size + 1) 3 3 _ _ true (by decide) hI.2.1 rfl (by decide) hTV (by omega) hsz (by rw [e2]; exact sets_union x y hx hy))
  have HC3 := Lib.hid (leaf_at [109, 105, 110, 117, 115] 0 1 2 0 _ (w.heap.size + 1 + 1) 3 3 _ _ true (by decide) hI.2.2 rfl (by decide) hTV (by omega) hsz (by rw [e3]; exact sets_minus x y hx hy))
  have HC4 := Lib.hid (leaf_at [115, 117, 98] 2 0 0 0 _ w.heap.size 3 3 _ _ true (by decide) hI.1 rfl (by decide) hTV (by omega) hsz (by rw [e1]; exact sets_sub x y hx hy))
  have HC5 := Lib.hid (leaf_at [115, 117, 98] 0 1 0 0 _ w.heap.size 3 3 _ _ (bnot x y == 0) (by decide) hI.1 rfl (by decide) hTV (by omega) hsz (by rw [e1]; exact sets_sub2 x y hx hy))
  have HKK := Lib.hid (fun W (hW : Below (w.heap.size + 1 + 1 + 1) _ W) => known12_any W (hTV.below hW (by omega)))
  have HB := Lib.hid (fun W (hW : Below (w.heap.size + 1 + 1 + 1) _ W) => (hbel.trans (hW.mono (by omega)) : Below w.heap.size w W))
  have HZ := Lib.hid e3
  clear e1 e2 e3 hI hbel hsz hTV HK
  by_cases hz : bnot x y = 0
  · have HQ := Lib.hid (show bits .andNot .i64 (x : Int) (y : Int) = 0 by rw [HZ.out, hz]; rfl)
    have gz2 : (bnot x y == 0) = true := by rw [hz]; decide
    rw [gz2] at HC5
    clear hz
    go_enter Tryd.func4, Tryd.ntmps4
    go_wp2_with (first
      | (go_at_call_of 13 (Value.agg #[.string ⟨#[105, 110, 116, 101, 114]⟩, .int .i64 0, .int .i64 1, .int .i64 2, .int .i64 0, .slice none 0 0])
         refine (HC1.out _ hB).mono ?_
         rintro e w2 ⟨rfl, hb2⟩
         replace hB := hB.trans hb2
         clear hb2)
      | (go_at_call_of 13 (Value.agg #[.string ⟨#[117, 110, 105, 111, 110]⟩, .int .i64 0, .int .i64 1, .int .i64 2, .int .i64 0, .slice none 0 0])
         refine (HC2.out _ hB).mono ?_
         rintro e w2 ⟨rfl, hb2⟩
         replace hB := hB.trans hb2
         clear hb2)
      | (go_at_call_of 13 (Value.agg #[.string ⟨#[109, 105, 110, 117, 115]⟩, .int .i64 0, .int .i64 1, .int .i64 2, .int .i64 0, .slice none 0 0])
         refine (HC3.out _ hB).mono ?_
         rintro e w2 ⟨rfl, hb2⟩
         replace hB := hB.trans hb2
         clear hb2)
      | (go_at_call_of 13 (Value.agg #[.string ⟨#[115, 117, 98]⟩, .int .i64 2, .int .i64 0, .int .i64 0, .int .i64 0, .slice none 0 0])
         refine (HC4.out _ hB).mono ?_
         rintro e w2 ⟨rfl, hb2⟩
         replace hB := hB.trans hb2
         clear hb2)
      | (go_at_call_of 13 (Value.agg #[.string ⟨#[115, 117, 98]⟩, .int .i64 0, .int .i64 1, .int .i64 0, .int .i64 0, .slice none 0 0])
         refine (HC5.out _ hB).mono ?_
         rintro e w2 ⟨rfl, hb2⟩
         replace hB := hB.trans hb2
         clear hb2)
      | (go_at_call 14
         refine (HKK.out _ hB).mono ?_
         rintro e w3 ⟨rfl, hb3⟩))
    all_goals first
      | (go_ret
         exact ⟨rfl, (HB.out _ hB).trans (hb3.mono (HB.out _ hB).size)⟩)
      | (rename_i h
         first
         | exact absurd HQ.out h
         | exact absurd h HQ.out)
  · have HQ := Lib.hid (show ¬ bits .andNot .i64 (x : Int) (y : Int) = 0 by rw [HZ.out]; omega)
    have gz2 : (bnot x y == 0) = false := beq_false_of_ne hz
    rw [gz2] at HC5
    clear hz
    go_enter Tryd.func4, Tryd.ntmps4
    go_wp2_with (first
      | (go_at_call_of 13 (Value.agg #[.string ⟨#[105, 110, 116, 101, 114]⟩, .int .i64 0, .int .i64 1, .int .i64 2, .int .i64 0, .slice none 0 0])
         refine (HC1.out _ hB).mono ?_
         rintro e w2 ⟨rfl, hb2⟩
         replace hB := hB.trans hb2
         clear hb2)
      | (go_at_call_of 13 (Value.agg #[.string ⟨#[117, 110, 105, 111, 110]⟩, .int .i64 0, .int .i64 1, .int .i64 2, .int .i64 0, .slice none 0 0])
         refine (HC2.out _ hB).mono ?_
         rintro e w2 ⟨rfl, hb2⟩
         replace hB := hB.trans hb2
         clear hb2)
      | (go_at_call_of 13 (Value.agg #[.string ⟨#[109, 105, 110, 117, 115]⟩, .int .i64 0, .int .i64 1, .int .i64 2, .int .i64 0, .slice none 0 0])
         refine (HC3.out _ hB).mono ?_
         rintro e w2 ⟨rfl, hb2⟩
         replace hB := hB.trans hb2
         clear hb2)
      | (go_at_call_of 13 (Value.agg #[.string ⟨#[115, 117, 98]⟩, .int .i64 2, .int .i64 0, .int .i64 0, .int .i64 0, .slice none 0 0])
         refine (HC4.out _ hB).mono ?_
         rintro e w2 ⟨rfl, hb2⟩
         replace hB := hB.trans hb2
         clear hb2)
      | (go_at_call_of 13 (Value.agg #[.string ⟨#[115, 117, 98]⟩, .int .i64 0, .int .i64 1, .int .i64 0, .int .i64 0, .slice none 0 0])
         refine (HC5.out _ hB).mono ?_
         rintro e w2 ⟨rfl, hb2⟩
         replace hB := hB.trans hb2
         clear hb2)
      | (go_at_call 14
         refine (HKK.out _ hB).mono ?_
         rintro e w3 ⟨rfl, hb3⟩))
    go_ret
    refine ⟨?_, (HB.out _ hB).trans (hb3.mono (HB.out _ hB).size)⟩
    simp
    exact HQ.out
end Go.Proofs.YtcgjacaemblnmaaDoor
