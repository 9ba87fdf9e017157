/- Plain: what the laws of eval ask, of the formulas that they build. -/
import Derived.Test.YtcgjacaemblnmaaDoorKnown
namespace Go.Proofs.YtcgjacaemblnmaaDoor
open Go Go.RowKit

def exT : Core := .node oEx 1 0 0 0 [.node oLess 0 1 0 0 []]
theorem oneB_pow (k : Nat) (hk : k < 16) : oneB (2 ^ k) = true := (one_pow _ (by have := Nat.pow_lt_pow_right (show 1 < 2 by decide) hk; simpa using this)).2 ⟨k, hk, rfl⟩
theorem ex_any (x bound : Nat) (hx : x ≤ 15) (hb : bound ≤ 8) : ((List.range (2 ^ bound)).any fun v => evalG atomE bound (.node oLess 0 1 0 0 []) ([2 ^ x] ++ [v])) = decide (x + 1 < bound) := by
  have hx16 : 2 ^ x < 65536 := by
    have := Nat.pow_lt_pow_right (show 1 < 2 by decide) (show x < 16 by omega)
    simpa using this
  have hb8 : 2 ^ bound ≤ 2 ^ 8 := Nat.pow_le_pow_right (by decide) hb
  have e : ∀ v, v < 65536 → evalG atomE bound (.node oLess 0 1 0 0 []) ([2 ^ x] ++ [v]) = (oneB v && decide (2 ^ x < v)) := by
    intro v hv
    rw [evalG_atom atomE bound oLess 0 1 0 0 [] _ (by decide) (by decide) (by decide)]
    show atomE oLess 0 1 0 0 [2 ^ x, v] = _
    have h : atomE oLess 0 1 0 0 [2 ^ x, v] = ((oneB (2 ^ x) && oneB v) && decide (0 < lowN v - lowN (2 ^ x))) := rfl
    rw [h, less_eq _ _ hx16 hv, oneB_pow x (by omega)]
    simp
  rw [Bool.eq_iff_iff, List.any_eq_true, decide_eq_true_eq]
  constructor
  · rintro ⟨v, hv, h⟩
    have hv' := List.mem_range.1 hv
    rw [e v (by omega), Bool.and_eq_true, decide_eq_true_eq] at h
    obtain ⟨k, hk, rfl⟩ := (one_pow v (by omega)).1 h.1
    have h1 := (pow_lt_iff x k).1 h.2
    have h2 := (pow_lt_iff k bound).1 hv'
    omega
  · intro h
    have h1 := (pow_lt_iff (x + 1) bound).2 h
    refine ⟨2 ^ (x + 1), List.mem_range.2 h1, ?_⟩
    rw [e _ (by omega), oneB_pow (x + 1) (by omega)]
    simp
    exact (pow_lt_iff x (x + 1)).2 (by omega)
end Go.Proofs.YtcgjacaemblnmaaDoor
