/- Plain: ex in ex: what may be. -/
import Derived.Test.YtcgjacaemblnmaaDoorTree
namespace Go.Proofs.YtcgjacaemblnmaaDoor
def nestC : Nat → Int → Core
  | 0, _ => .node oTrue 0 0 0 0 []
  | d + 1, v => .node oEx v 0 0 0 [nestC d (v + 1)]
theorem nest_nodes : ∀ (d : Nat) (v : Int), nodes (nestC d v) = d + 1
  | 0, _ => by simp [nestC, nodes, nodesL]
  | d + 1, v => by simp [nestC, nodes, nodesL, nest_nodes d]
theorem shape_true : shapeOf oTrue = some (0, false, 0) := by decide
theorem shape_ex : shapeOf oEx = some (1, false, 1) := by decide
theorem shape_sing : shapeOf oSing = some (1, false, 0) := by decide
theorem nest_is : ∀ (d : Nat) (v : Int), 0 ≤ v → v ≤ 6 → isB (nestC d v) v = decide (v + d ≤ 6)
  | 0, v, h0, h6 => by
    have : isB (nestC 0 v) v = true := by
      simp only [nestC, isB, isL, fieldsB, Core.op, Core.kids, Core.vn, Core.va, Core.vb, Core.vc, shape_true]
      have e : ¬ oTrue = oEx := by decide
      simp [varB, e]
    rw [this]
    symm
    rw [decide_eq_true_iff]
    omega
  | d + 1, v, h0, h6 => by
    have e1 : isB (nestC (d + 1) v) v = (decide (v < 6) && isB (nestC d (v + 1)) (v + 1)) := by
      conv => lhs; unfold nestC
      rw [isB, isL, isL, Bool.and_true]
      have eu : under oEx v = v + 1 := by unfold under; rw [if_pos rfl]
      rw [eu]
      congr 1
      simp only [fieldsB, Core.op, Core.kids, Core.vn, Core.va, Core.vb, Core.vc, shape_ex]
      simp [varB]
    rw [e1]
    by_cases hv : v < 6
    · rw [nest_is d (v + 1) (by omega) (by omega), decide_eq_true hv, Bool.true_and, decide_eq_decide]
      omega
    · rw [decide_eq_false hv, Bool.false_and]
      symm
      rw [decide_eq_false_iff_not]
      omega
theorem one_is (v n : Int) (h0 : 0 ≤ n) (h6 : n ≤ 6) : isB (.node oEx v 0 0 0 [.node oSing n 0 0 0 []]) n = (decide (v = n) && decide (n < 6)) := by
  rw [isB, isL, isL, isB, isL, Bool.and_true, Bool.and_true]
  have eu : under oEx n = n + 1 := by unfold under; rw [if_pos rfl]
  rw [eu]
  have e : ¬ oSing = oEx := by decide
  have f1 : fieldsB (.node oEx v 0 0 0 [.node oSing n 0 0 0 []]) n = (decide (v = n) && decide (n < 6)) := by
    simp only [fieldsB, Core.op, Core.kids, Core.vn, Core.va, Core.vb, Core.vc, shape_ex]
    rw [Bool.eq_iff_iff]
    simp [varB]
    intro _
    exact decide_eq_true_iff
  have f2 : fieldsB (.node oSing n 0 0 0 []) (n + 1) = true := by
    simp only [fieldsB, Core.op, Core.kids, Core.vn, Core.va, Core.vb, Core.vc, shape_sing]
    simp [varB, e]
    omega
  rw [f1, f2, Bool.and_true]
end Go.Proofs.YtcgjacaemblnmaaDoor
