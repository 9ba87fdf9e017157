/- The walk over law12.EvalEx. -/
import Derived.Test.YtcgjacaemblnmaaDoorLaw12P
namespace Go.Proofs.YtcgjacaemblnmaaDoor
open Go Go.RowKit

theorem ex_holds (x bound : Nat) (hx : x ≤ 15) (hb : bound ≤ 8) : holdsB exT [((2 ^ x : Nat) : Int)] bound = decide (x + 1 < bound) := by
  have hx16 : 2 ^ x < 65536 := by
    have := Nat.pow_lt_pow_right (show 1 < 2 by decide) (show x < 16 by omega)
    simpa using this
  unfold holdsB
  rw [if_neg]
  · rw [Int.toNat_natCast, ← ex_any x bound hx hb]
    show evalG atomE bound exT [2 ^ x] = _
    unfold exT
    rw [evalG_ex atomE bound 1 0 0 0 _ _ (by simp)]
    rfl
  · generalize 2 ^ x = p at *
    rintro (h | h | h | h)
    · omega
    · omega
    · simp [oddB] at h
      omega
    · revert h
      show ¬ isTop exT 1 = false
      decide
theorem CoreAt.one {W : World} {B b : Nat} {o : List UInt8} {a1 b1 c1 n1 : Int} {o' : List UInt8} {a' b' c' n' : Int} {cap : Nat} (ho : o.length ≤ 140737488355328) (ho' : o'.length ≤ 140737488355328) (hcap : 1 ≤ cap) (hcap2 : cap ≤ 140737488355328) (hb : b < B)
    (h : ∀ j u, (cellsC (.node o' a' b' c' n' []) none 0)[j]? = some u → W.cell? ⟨b, j, none⟩ = some u) : CoreAt W B (.node o a1 b1 c1 n1 [.node o' a' b' c' n' []]) (some ⟨b, 0, none⟩) cap := by
  unfold CoreAt KidsAt
  refine ⟨ho, hcap, hcap2, ⟨b, 0, none, 0, rfl, hb, fun j u hu => ?_, CoreAt.leaf _ _ _ _ _ _ _ ho'⟩, ?_⟩
  · rw [show 0 + 0 * 6 + j = j by omega]
    exact h j u hu
  · unfold KidsAt
    trivial
theorem wrap_pow (x : Nat) (hx : x ≤ 20) : wrap64 (2 ^ x) = ((2 ^ x : Nat) : Int) := by
  have h1 : 2 ^ x ≤ 2 ^ 20 := Nat.pow_le_pow_right (by decide) hx
  have h0 : ((2 : Int) ^ x) = ((2 ^ x : Nat) : Int) := by simp
  rw [h0]
  generalize 2 ^ x = N at *
  exact IntWalk.wrap64_in _ ⟨by omega, by omega⟩

/-- The world in which EvalEx calls. -/
def exW (w : World) (x : Nat) : World :=
  ((w.alloc (.cells #[.string ⟨#[108, 101, 115, 115]⟩, .int .i64 0, .int .i64 1, .int .i64 0, .int .i64 0, .slice none 0 0] 24)).alloc
    (.cells #[.string ⟨#[101, 120]⟩, .int .i64 1, .int .i64 0, .int .i64 0, .int .i64 0, .slice (some ⟨w.heap.size, 0, none⟩) 1 1] 24)).alloc (.cells #[.int .i64 (wrap64 (2 ^ x))] 3)
theorem exW_below (w : World) (x : Nat) : Below w.heap.size w (exW w x) := (((Below.refl _ _).alloc (Nat.le_refl _) _).alloc (by simp) _).alloc (by simp; omega) _
theorem exW_size (w : World) (x : Nat) : (exW w x).heap.size = w.heap.size + 1 + 1 + 1 := by simp [exW]
theorem ex_call (x b : Nat) (w : World) (hx1 : x ≤ 15) (hb1 : b ≤ 8) (hT : Tab w) (h2 : 2 < w.heap.size) :
    Calls Tryd.prog 13 #[.agg #[.string ⟨#[101, 120]⟩, .int .i64 1, .int .i64 0, .int .i64 0, .int .i64 0, .slice (some ⟨w.heap.size, 0, none⟩) 1 1], .slice (some ⟨w.heap.size + 1 + 1, 0, none⟩) 1 1, .int .i64 b] (exW w x)
      fun e w' => e = .returned (.bool (decide (x + 1 < b))) ∧ Below w.heap.size w w' := by
  have hC : CoreAt (exW w x) (exW w x).heap.size exT (some ⟨w.heap.size, 0, none⟩) 1 := by
    refine CoreAt.one (by decide) (by decide) (Nat.le_refl _) (by decide) (by rw [exW_size]; omega) fun j u hu => ?_
    have hj : j < 6 := (List.getElem?_eq_some_iff.1 hu).1
    have e : ∀ j u, (cellsC (.node oLess 0 1 0 0 []) none 0)[j]? = some u → (w.alloc (.cells #[.string ⟨#[108, 101, 115, 115]⟩, .int .i64 0, .int .i64 1, .int .i64 0, .int .i64 0, .slice none 0 0] 24)).cell? ⟨w.heap.size, j, none⟩ = some u := by
      intro j u hu
      rw [cell_of_row _ w.heap.size j _ 24 (0, 0) (heap_alloc_new w _), ← hu]
      simp [cellsC, strV, oLess, Core.op, Core.va, Core.vb, Core.vc, Core.vn, Core.kids]
    have hb := ((Below.refl (w.heap.size + 1) (w.alloc (.cells #[.string ⟨#[108, 101, 115, 115]⟩, .int .i64 0, .int .i64 1, .int .i64 0, .int .i64 0, .slice none 0 0] 24))).alloc (by simp)
      (.cells #[.string ⟨#[101, 120]⟩, .int .i64 1, .int .i64 0, .int .i64 0, .int .i64 0, .slice (some ⟨w.heap.size, 0, none⟩) 1 1] 24)).alloc (by simp) (.cells #[.int .i64 (wrap64 (2 ^ x))] 3)
    exact (hb.cell (p := ⟨w.heap.size, j, none⟩) (Nat.lt_succ_self _)).trans (e j u hu)
  have hS : IntsAt (exW w x) (exW w x).heap.size (some ⟨w.heap.size + 1 + 1, 0, none⟩) [wrap64 (2 ^ x)] := by
    have h := IntsAt.new ((w.alloc (.cells #[.string ⟨#[108, 101, 115, 115]⟩, .int .i64 0, .int .i64 1, .int .i64 0, .int .i64 0, .slice none 0 0] 24)).alloc (.cells #[.string ⟨#[101, 120]⟩, .int .i64 1, .int .i64 0, .int .i64 0, .int .i64 0, .slice (some ⟨w.heap.size, 0, none⟩) 1 1] 24)) 3 [wrap64 (2 ^ x)]
    have e : ((w.alloc (.cells #[.string ⟨#[108, 101, 115, 115]⟩, .int .i64 0, .int .i64 1, .int .i64 0, .int .i64 0, .slice none 0 0] 24)).alloc (.cells #[.string ⟨#[101, 120]⟩, .int .i64 1, .int .i64 0, .int .i64 0, .int .i64 0, .slice (some ⟨w.heap.size, 0, none⟩) 1 1] 24)).heap.size = w.heap.size + 1 + 1 := by simp
    rw [e] at h
    exact h.more (by rw [exW_size]; omega)
  have h := Holds_any exT (some ⟨w.heap.size, 0, none⟩) 1 [wrap64 (2 ^ x)] (some ⟨w.heap.size + 1 + 1, 0, none⟩) 1 b (exW w x) hC hS (by simp) (hT.below (exW_below w x) h2)
  rw [wrap_pow x (by omega), ex_holds x b hx1 hb1] at h
  exact h.mono fun e w' ⟨h1, hb⟩ => ⟨h1, (exW_below w x).trans (hb.mono (by rw [exW_size]; omega))⟩
set_option maxHeartbeats 1000000 in
theorem lawEx_any (x bound : Int) (w : World) (hT : Tab w) : Calls Tryd.prog 6 #[.int .i64 x, .int .i64 bound] w fun e w' => e = .returned (.bool true) ∧ Below w.heap.size w w' := by
  have h2 : 2 < w.heap.size := World.block_lt_of_cell? _ _ (hT 0 (by decide))
  have HK := Lib.hid known12_any
  have HT := Lib.hid hT
  clear hT
  by_cases hx : 0 ≤ x ∧ x ≤ 15 ∧ 0 ≤ bound ∧ bound ≤ 8
  · obtain ⟨x, rfl⟩ := Int.eq_ofNat_of_zero_le hx.1
    obtain ⟨b, rfl⟩ := Int.eq_ofNat_of_zero_le hx.2.2.1
    have hx1 : x ≤ 15 := by omega
    have hb1 : b ≤ 8 := by omega
    clear hx
    have HE := Lib.hid (ex_call x b w hx1 hb1 HT.out h2)
    by_cases hxb : x + 1 < b
    · have g : decide ((x : Int) + 1 < (b : Int)) = true := decide_eq_true (by omega)
      rw [decide_eq_true hxb] at HE
      go_enter Tryd.func6, Tryd.ntmps6
      go_upto_region 4 with fail
      go_wp2_with (first
        | (go_at_call 13
           refine HE.out.mono ?_
           rintro e w2 ⟨rfl, hb2⟩)
        | (go_at_call 14
           refine (HK.out _ (HT.out.below hb2 h2)).mono ?_
           rintro e w3 ⟨rfl, hb3⟩))
      go_ret
      exact ⟨rfl, hb2.trans (hb3.mono hb2.size)⟩
    · have g : decide ((x : Int) + 1 < (b : Int)) = false := decide_eq_false (by omega)
      rw [decide_eq_false hxb] at HE
      go_enter Tryd.func6, Tryd.ntmps6
      go_upto_region 4 with fail
      go_wp2_with (first
        | (go_at_call 13
           refine HE.out.mono ?_
           rintro e w2 ⟨rfl, hb2⟩)
        | (go_at_call 14
           refine (HK.out _ (HT.out.below hb2 h2)).mono ?_
           rintro e w3 ⟨rfl, hb3⟩))
      go_ret
      exact ⟨rfl, hb2.trans (hb3.mono hb2.size)⟩
  · have HQ := Lib.hid hx
    clear hx
    by_cases h0 : x < 0
    · have g0 : decide (x < 0) = true := decide_eq_true h0
      go_enter Tryd.func6, Tryd.ntmps6
      go_wp2_with fail
      go_ret
      exact ⟨rfl, Below.refl _ _⟩
    · have g0 : decide (x < 0) = false := decide_eq_false h0
      by_cases h15 : 15 < x
      · have g1 : decide (15 < x) = true := decide_eq_true h15
        go_enter Tryd.func6, Tryd.ntmps6
        go_wp2_with fail
        go_ret
        exact ⟨rfl, Below.refl _ _⟩
      · have g1 : decide (15 < x) = false := decide_eq_false h15
        by_cases hb0 : bound < 0
        · have g3 : decide (bound < 0) = true := decide_eq_true hb0
          go_enter Tryd.func6, Tryd.ntmps6
          go_wp2_with fail
          go_ret
          exact ⟨rfl, Below.refl _ _⟩
        · have g3 : decide (bound < 0) = false := decide_eq_false hb0
          have hb8 : 8 < bound := by
            have := HQ.out
            omega
          have g4 : decide (8 < bound) = true := decide_eq_true hb8
          go_enter Tryd.func6, Tryd.ntmps6
          go_wp2_with fail
          go_ret
          exact ⟨rfl, Below.refl _ _⟩
end Go.Proofs.YtcgjacaemblnmaaDoor
