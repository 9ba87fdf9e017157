/- The walk over law9.CoreEx. -/
import Derived.Test.YtcgjacaemblnmaaDoorKnown9
import Derived.Test.YtcgjacaemblnmaaDoorNestPure
namespace Go.Proofs.YtcgjacaemblnmaaDoor
open Go Go.RowKit

/-- Formulas in formulas lie in w, each in a block of its own above lo. -/
def NestAt (w : World) (lo : Nat) : Nat → Int → Option Addr → Nat → Prop
  | 0, _, A, cap => A = none ∧ cap = 0
  | d + 1, v, A, cap => ∃ b A' cap', A = some ⟨b, 0, none⟩ ∧ cap = 1 ∧ lo < b ∧ b < w.heap.size ∧ (∀ j u, (cellsC (nestC d (v + 1)) A' cap')[j]? = some u → w.cell? ⟨b, j, none⟩ = some u) ∧ NestAt w lo d (v + 1) A' cap'
theorem NestAt.keep {w w' : World} {lo : Nat} (hk : ∀ p : Addr, lo < p.block → p.block < w.heap.size → w'.cell? p = w.cell? p) (hs : w.heap.size ≤ w'.heap.size) : ∀ (d : Nat) (v : Int) (A : Option Addr) (cap : Nat), NestAt w lo d v A cap → NestAt w' lo d v A cap
  | 0, _, _, _, h => h
  | d + 1, v, A, cap, h => by
    obtain ⟨b, A', cap', e1, e2, h1, h2, hc, hr⟩ := h
    exact ⟨b, A', cap', e1, e2, h1, by omega, fun j u hu => (hk _ h1 h2).trans (hc j u hu), NestAt.keep hk hs d (v + 1) A' cap' hr⟩
theorem NestAt.core {w : World} {lo : Nat} : ∀ (d : Nat) (v : Int) (A : Option Addr) (cap : Nat), NestAt w lo d v A cap → CoreAt w w.heap.size (nestC d v) A cap
  | 0, _, _, _, h => by
    obtain ⟨rfl, rfl⟩ := h
    exact CoreAt.leaf9 _ _ _ _ _ _ _ (by decide)
  | d + 1, v, A, cap, h => by
    obtain ⟨b, A', cap', rfl, rfl, h1, h2, hc, hr⟩ := h
    unfold nestC CoreAt KidsAt
    refine ⟨by decide, Nat.le_refl _, by omega, ⟨b, 0, A', cap', rfl, h2, fun j u hu => ?_, NestAt.core d (v + 1) A' cap' hr⟩, ?_⟩
    · rw [show 0 + 0 * 6 + j = j by omega]
      exact hc j u hu
    · unfold KidsAt
      trivial

/-- Six cells of a block laid anew. -/
def put6 (w : World) (q : Nat) (x0 x1 x2 x3 x4 x5 : Value) : World :=
  (((((w.setCell ⟨q, 0, none⟩ x0).setCell ⟨q, 1, none⟩ x1).setCell ⟨q, 2, none⟩ x2).setCell ⟨q, 3, none⟩ x3).setCell ⟨q, 4, none⟩ x4).setCell ⟨q, 5, none⟩ x5
section
variable {w : World} {q : Nat} {x0 x1 x2 x3 x4 x5 : Value}
theorem put6_other {p : Addr} (h : p.block ≠ q) : (put6 w q x0 x1 x2 x3 x4 x5).cell? p = w.cell? p := by
  have e : ∀ (j : Nat), (⟨q, j, none⟩ : Addr) ≠ p := fun j hj => h (by rw [← hj])
  unfold put6
  rw [World.cell?_setCell_other _ _ _ _ (e 5), World.cell?_setCell_other _ _ _ _ (e 4), World.cell?_setCell_other _ _ _ _ (e 3), World.cell?_setCell_other _ _ _ _ (e 2), World.cell?_setCell_other _ _ _ _ (e 1), World.cell?_setCell_other _ _ _ _ (e 0)]
theorem put6_size : (put6 w q x0 x1 x2 x3 x4 x5).heap.size = w.heap.size := by simp [put6, World.setCell]
theorem put6_below {B : Nat} {a : World} (h : Below B a w) (hq : B ≤ q) : Below B a (put6 w q x0 x1 x2 x3 x4 x5) :=
  (((((h.setCell hq _).setCell hq _).setCell hq _).setCell hq _).setCell hq _).setCell hq _
theorem put6_cell {u0 u1 u2 u3 u4 u5 : Value} (h0 : w.cell? ⟨q, 0, none⟩ = some u0) (h1 : w.cell? ⟨q, 1, none⟩ = some u1) (h2 : w.cell? ⟨q, 2, none⟩ = some u2) (h3 : w.cell? ⟨q, 3, none⟩ = some u3) (h4 : w.cell? ⟨q, 4, none⟩ = some u4) (h5 : w.cell? ⟨q, 5, none⟩ = some u5) :
    (put6 w q x0 x1 x2 x3 x4 x5).cell? ⟨q, 0, none⟩ = some x0 ∧ (put6 w q x0 x1 x2 x3 x4 x5).cell? ⟨q, 1, none⟩ = some x1 ∧ (put6 w q x0 x1 x2 x3 x4 x5).cell? ⟨q, 2, none⟩ = some x2 ∧ (put6 w q x0 x1 x2 x3 x4 x5).cell? ⟨q, 3, none⟩ = some x3 ∧ (put6 w q x0 x1 x2 x3 x4 x5).cell? ⟨q, 4, none⟩ = some x4 ∧ (put6 w q x0 x1 x2 x3 x4 x5).cell? ⟨q, 5, none⟩ = some x5 := by
  have ne : ∀ {i j : Nat}, i ≠ j → (⟨q, i, none⟩ : Addr) ≠ ⟨q, j, none⟩ := fun h e => h (by injection e)
  have set_ : ∀ (V : World) (i : Nat) (x u : Value), V.cell? ⟨q, i, none⟩ = some u → (V.setCell ⟨q, i, none⟩ x).cell? ⟨q, i, none⟩ = some x := fun V i x u h => World.cell?_setCell_same V _ x h
  have oth : ∀ (V : World) (i j : Nat) (x u : Value), i ≠ j → V.cell? ⟨q, j, none⟩ = some u → (V.setCell ⟨q, i, none⟩ x).cell? ⟨q, j, none⟩ = some u := fun V i j x u h e => (World.cell?_setCell_other V _ _ x (ne h)).trans e
  unfold put6
  exact ⟨oth _ 5 0 _ _ (by decide) (oth _ 4 0 _ _ (by decide) (oth _ 3 0 _ _ (by decide) (oth _ 2 0 _ _ (by decide) (oth _ 1 0 _ _ (by decide) (set_ _ 0 _ _ h0))))),
    oth _ 5 1 _ _ (by decide) (oth _ 4 1 _ _ (by decide) (oth _ 3 1 _ _ (by decide) (oth _ 2 1 _ _ (by decide) (set_ _ 1 _ _ (oth _ 0 1 _ _ (by decide) h1))))),
    oth _ 5 2 _ _ (by decide) (oth _ 4 2 _ _ (by decide) (oth _ 3 2 _ _ (by decide) (set_ _ 2 _ _ (oth _ 1 2 _ _ (by decide) (oth _ 0 2 _ _ (by decide) h2))))),
    oth _ 5 3 _ _ (by decide) (oth _ 4 3 _ _ (by decide) (set_ _ 3 _ _ (oth _ 2 3 _ _ (by decide) (oth _ 1 3 _ _ (by decide) (oth _ 0 3 _ _ (by decide) h3))))),
    oth _ 5 4 _ _ (by decide) (set_ _ 4 _ _ (oth _ 3 4 _ _ (by decide) (oth _ 2 4 _ _ (by decide) (oth _ 1 4 _ _ (by decide) (oth _ 0 4 _ _ (by decide) h4))))),
    set_ _ 5 _ _ (oth _ 4 5 _ _ (by decide) (oth _ 3 5 _ _ (by decide) (oth _ 2 5 _ _ (by decide) (oth _ 1 5 _ _ (by decide) (oth _ 0 5 _ _ (by decide) h5)))))⟩
theorem six_of {W : World} {b : Nat} {y0 y1 y2 y3 y4 y5 : Value} (h0 : W.cell? ⟨b, 0, none⟩ = some y0) (h1 : W.cell? ⟨b, 1, none⟩ = some y1) (h2 : W.cell? ⟨b, 2, none⟩ = some y2) (h3 : W.cell? ⟨b, 3, none⟩ = some y3) (h4 : W.cell? ⟨b, 4, none⟩ = some y4) (h5 : W.cell? ⟨b, 5, none⟩ = some y5) :
    ∀ (j : Nat) (u : Value), ([y0, y1, y2, y3, y4, y5] : List Value)[j]? = some u → W.cell? ⟨b, j, none⟩ = some u := by
  intro j u hu
  have hj : j < 6 := (List.getElem?_eq_some_iff.1 hu).1
  have : j = 0 ∨ j = 1 ∨ j = 2 ∨ j = 3 ∨ j = 4 ∨ j = 5 := by omega
  rcases this with rfl | rfl | rfl | rfl | rfl | rfl
  all_goals
    simp at hu
    subst hu
    assumption
end

theorem nest_step {wr : World} {q d : Nat} {v v' : Int} {o : List UInt8} {a b c m : Int} {ks : List Core} {A : Option Addr} {cap : Nat} {u0 u1 u2 u3 u4 u5 : Value} (hv : v + 1 = v') (hx : nestC d v' = .node o a b c m ks) (hN : NestAt wr q d v' A cap) (hs : q < wr.heap.size)
    (h0 : wr.cell? ⟨q, 0, none⟩ = some u0) (h1 : wr.cell? ⟨q, 1, none⟩ = some u1) (h2 : wr.cell? ⟨q, 2, none⟩ = some u2) (h3 : wr.cell? ⟨q, 3, none⟩ = some u3) (h4 : wr.cell? ⟨q, 4, none⟩ = some u4) (h5 : wr.cell? ⟨q, 5, none⟩ = some u5) (hf : ∀ j, wr.frozen? ⟨q, j, none⟩ = false)
    {W : World} (hW : W = (put6 wr q (.string ⟨#[101, 120]⟩) (.int .i64 v) (.int .i64 0) (.int .i64 0) (.int .i64 0) (.slice (some ⟨wr.heap.size, 0, none⟩) 1 1)).alloc (.cells #[.string ⟨o.toArray⟩, .int .i64 a, .int .i64 b, .int .i64 c, .int .i64 m, .slice A ks.length cap] 24)) :
    (∀ j u, (cellsC (nestC (d + 1) v) (some ⟨wr.heap.size, 0, none⟩) 1)[j]? = some u → W.cell? ⟨q, j, none⟩ = some u) ∧ (∀ j, W.frozen? ⟨q, j, none⟩ = false) ∧ NestAt W q (d + 1) v (some ⟨wr.heap.size, 0, none⟩) 1 ∧
      (∀ (B : Nat) (w0 : World), Below B w0 wr → B ≤ q → Below B w0 W) ∧ q < W.heap.size := by
  subst hv
  have hp := put6_cell (x0 := .string ⟨#[101, 120]⟩) (x1 := .int .i64 v) (x2 := .int .i64 0) (x3 := .int .i64 0) (x4 := .int .i64 0) (x5 := .slice (some ⟨wr.heap.size, 0, none⟩) 1 1) h0 h1 h2 h3 h4 h5
  have hz : (put6 wr q (.string ⟨#[101, 120]⟩) (.int .i64 v) (.int .i64 0) (.int .i64 0) (.int .i64 0) (.slice (some ⟨wr.heap.size, 0, none⟩) 1 1)).heap.size = wr.heap.size := put6_size
  have ho : ∀ p : Addr, p.block ≠ q → (put6 wr q (.string ⟨#[101, 120]⟩) (.int .i64 v) (.int .i64 0) (.int .i64 0) (.int .i64 0) (.slice (some ⟨wr.heap.size, 0, none⟩) 1 1)).cell? p = wr.cell? p := fun p h => put6_other h
  have hb : ∀ (B : Nat) (w0 : World), Below B w0 wr → B ≤ q → Below B w0 (put6 wr q (.string ⟨#[101, 120]⟩) (.int .i64 v) (.int .i64 0) (.int .i64 0) (.int .i64 0) (.slice (some ⟨wr.heap.size, 0, none⟩) 1 1)) := fun B w0 h hq => put6_below h hq
  have hfr : ∀ j, (put6 wr q (.string ⟨#[101, 120]⟩) (.int .i64 v) (.int .i64 0) (.int .i64 0) (.int .i64 0) (.slice (some ⟨wr.heap.size, 0, none⟩) 1 1)).frozen? ⟨q, j, none⟩ = false := fun j => by
    unfold put6
    simp only [World.frozen?_setCell]
    exact hf j
  generalize put6 wr q (.string ⟨#[101, 120]⟩) (.int .i64 v) (.int .i64 0) (.int .i64 0) (.int .i64 0) (.slice (some ⟨wr.heap.size, 0, none⟩) 1 1) = P at *
  subst hW
  have hqs : q < P.heap.size := by omega
  have al : ∀ p : Addr, p.block < P.heap.size → (P.alloc (.cells #[.string ⟨o.toArray⟩, .int .i64 a, .int .i64 b, .int .i64 c, .int .i64 m, .slice A ks.length cap] 24)).cell? p = P.cell? p := fun p h => World.cell?_alloc_lt P _ p h
  have hsz : (P.alloc (.cells #[.string ⟨o.toArray⟩, .int .i64 a, .int .i64 b, .int .i64 c, .int .i64 m, .slice A ks.length cap] 24)).heap.size = P.heap.size + 1 := by simp
  refine ⟨?_, fun j => ?_, ⟨wr.heap.size, A, cap, rfl, rfl, hs, by omega, ?_, ?_⟩, fun B w0 h hq => (hb B w0 h hq).alloc (hb B w0 h hq |>.size |> fun k => by have := h.size; omega) _, by omega⟩
  · have c := six_of ((al ⟨q, 0, none⟩ hqs).trans hp.1) ((al ⟨q, 1, none⟩ hqs).trans hp.2.1) ((al ⟨q, 2, none⟩ hqs).trans hp.2.2.1) ((al ⟨q, 3, none⟩ hqs).trans hp.2.2.2.1) ((al ⟨q, 4, none⟩ hqs).trans hp.2.2.2.2.1) ((al ⟨q, 5, none⟩ hqs).trans hp.2.2.2.2.2)
    exact fun j u hu => c j u hu
  · rw [World.frozen?_alloc_past _ _ _ hqs]
    exact hfr j
  · rw [hx]
    intro j u hu
    rw [show wr.heap.size = P.heap.size from hz.symm, cell_of_row _ P.heap.size j _ 24 (0, 0) (heap_alloc_new P _), ← hu]
    simp [cellsC, strV, Core.op, Core.va, Core.vb, Core.vc, Core.vn, Core.kids]
  · refine NestAt.keep (w := wr) (fun p p1 p2 => ?_) (by omega) d _ A cap hN
    exact (al p (by omega)).trans (ho p (by omega))

theorem CoreAt.one1 {W : World} {b : Nat} {o : List UInt8} {a1 b1 c1 n1 : Int} {o' : List UInt8} {a' b' c' n' : Int} (ho : o.length ≤ 140737488355328) (ho' : o'.length ≤ 140737488355328) (hb : b < W.heap.size)
    (h : ∀ (j : Nat) (u : Value), ([.string ⟨o'.toArray⟩, .int .i64 a', .int .i64 b', .int .i64 c', .int .i64 n', .slice none 0 0] : List Value)[j]? = some u → W.cell? ⟨b, j, none⟩ = some u) : CoreAt W W.heap.size (.node o a1 b1 c1 n1 [.node o' a' b' c' n' []]) (some ⟨b, 0, none⟩) 1 := by
  unfold CoreAt KidsAt
  refine ⟨ho, Nat.le_refl _, by omega, ⟨b, 0, none, 0, rfl, hb, fun j u hu => ?_, CoreAt.leaf9 _ _ _ _ _ _ _ ho'⟩, ?_⟩
  · rw [show 0 + 0 * 6 + j = j by omega]
    exact h j u hu
  · unfold KidsAt
    trivial
theorem nest_top (D : Nat) (n : Int) (hD : D ≤ 8) (h0 : 0 ≤ n) (h6 : n ≤ 6) : isTop (nestC D n) n = decide (n + (D : Int) ≤ 6) := by
  unfold isTop
  rw [nest_nodes, nest_is D n h0 h6, decide_eq_true h0, decide_eq_true h6, decide_eq_true (show D + 1 ≤ 2000 by omega)]
  rfl
theorem one_top (v n : Int) (h0 : 0 ≤ n) (h6 : n ≤ 6) : isTop (.node [101, 120] v 0 0 0 [.node [115, 105, 110, 103] n 0 0 0 []]) n = (decide (v = n) && decide (n < 6)) := by
  unfold isTop
  rw [decide_eq_true h0, decide_eq_true h6, show nodes (.node [101, 120] v 0 0 0 [.node [115, 105, 110, 103] n 0 0 0 []]) = 2 by simp [nodes, nodesL]]
  exact one_is v n h0 h6

/-- The world with sing and the ex over it. -/
def exW9 (wr : World) (v n : Int) : World :=
  (wr.alloc (.cells #[.string ⟨#[115, 105, 110, 103]⟩, .int .i64 n, .int .i64 0, .int .i64 0, .int .i64 0, .slice none 0 0] 24)).alloc
    (.cells #[.string ⟨#[101, 120]⟩, .int .i64 v, .int .i64 0, .int .i64 0, .int .i64 0, .slice (some ⟨wr.heap.size, 0, none⟩) 1 1] 24)
theorem exW9_below (wr : World) (v n : Int) : Below wr.heap.size wr (exW9 wr v n) := ((Below.refl _ _).alloc (Nat.le_refl _) _).alloc (by simp) _
theorem exW9_size (wr : World) (v n : Int) : (exW9 wr v n).heap.size = wr.heap.size + 1 + 1 := by simp [exW9]
theorem exW9_later {wr w2 : World} {v n : Int} (hb : Below (exW9 wr v n).heap.size (exW9 wr v n) w2) :
    w2.cell? ⟨wr.heap.size + 1, 0, none⟩ = some (.string ⟨#[101, 120]⟩) ∧ w2.cell? ⟨wr.heap.size + 1, 1, none⟩ = some (.int .i64 v) ∧ w2.cell? ⟨wr.heap.size + 1, 2, none⟩ = some (.int .i64 0) ∧ w2.cell? ⟨wr.heap.size + 1, 3, none⟩ = some (.int .i64 0) ∧
      w2.cell? ⟨wr.heap.size + 1, 4, none⟩ = some (.int .i64 0) ∧ w2.cell? ⟨wr.heap.size + 1, 5, none⟩ = some (.slice (some ⟨wr.heap.size, 0, none⟩) 1 1) ∧
      CoreAt w2 w2.heap.size (.node [101, 120] v 0 0 0 [.node [115, 105, 110, 103] n 0 0 0 []]) (some ⟨wr.heap.size, 0, none⟩) 1 ∧ Below wr.heap.size wr w2 := by
  have hz := exW9_size wr v n
  have e : ∀ (j : Nat) (u : Value), (exW9 wr v n).cell? ⟨wr.heap.size + 1, j, none⟩ = some u → w2.cell? ⟨wr.heap.size + 1, j, none⟩ = some u := fun j u h => (hb.cell (p := ⟨wr.heap.size + 1, j, none⟩) (by show wr.heap.size + 1 < _; omega)).trans h
  have f : ∀ (j : Nat) (u : Value), (exW9 wr v n).cell? ⟨wr.heap.size, j, none⟩ = some u → w2.cell? ⟨wr.heap.size, j, none⟩ = some u := fun j u h => (hb.cell (p := ⟨wr.heap.size, j, none⟩) (by show wr.heap.size < _; omega)).trans h
  have hs2 := hb.size
  refine ⟨e 0 _ (by simp [exW9]), e 1 _ (by simp [exW9]), e 2 _ (by simp [exW9]), e 3 _ (by simp [exW9]), e 4 _ (by simp [exW9]), e 5 _ (by simp [exW9]), ?_, (exW9_below wr v n).trans (hb.mono (by omega))⟩
  exact CoreAt.one1 (by decide) (by decide) (by omega) (six_of (f 0 _ (by simp [exW9])) (f 1 _ (by simp [exW9])) (f 2 _ (by simp [exW9])) (f 3 _ (by simp [exW9])) (f 4 _ (by simp [exW9])) (f 5 _ (by simp [exW9])))

set_option maxHeartbeats 2000000 in
theorem lawCoreEx_any (n deep v : Int) (w : World) : Calls Tryd.prog 9 #[.int .i64 n, .int .i64 deep, .int .i64 v] w fun e w' => e = .returned (.bool true) ∧ Below w.heap.size w w' := by
  by_cases h0 : n < 0
  · have g0 : decide (n < 0) = true := decide_eq_true h0
    go_enter Tryd.func9, Tryd.ntmps9
    go_wp2_with fail
    go_ret
    exact ⟨rfl, Below.refl _ _⟩
  have g0 : decide (n < 0) = false := decide_eq_false h0
  by_cases h1 : 6 < n
  · have g1 : decide (6 < n) = true := decide_eq_true h1
    go_enter Tryd.func9, Tryd.ntmps9
    go_wp2_with fail
    go_ret
    exact ⟨rfl, Below.refl _ _⟩
  have g1 : decide (6 < n) = false := decide_eq_false h1
  by_cases h2 : deep < 0
  · have g2 : decide (deep < 0) = true := decide_eq_true h2
    go_enter Tryd.func9, Tryd.ntmps9
    go_wp2_with fail
    go_ret
    exact ⟨rfl, Below.refl _ _⟩
  have g2 : decide (deep < 0) = false := decide_eq_false h2
  by_cases h3 : 8 < deep
  · have g3 : decide (8 < deep) = true := decide_eq_true h3
    go_enter Tryd.func9, Tryd.ntmps9
    go_wp2_with fail
    go_ret
    exact ⟨rfl, Below.refl _ _⟩
  have g3 : decide (8 < deep) = false := decide_eq_false h3
  obtain ⟨D, rfl⟩ := Int.eq_ofNat_of_zero_le (show 0 ≤ deep by omega)
  have hD : D ≤ 8 := by omega
  have hn0 : 0 ≤ n := by omega
  have hn6 : n ≤ 6 := by omega
  clear h0 h1 h2 h3
  go_enter Tryd.func9, Tryd.ntmps9
  go_wp2_with fail
  go_loopg [8] D (fun r i wr => ∃ (d : Nat) (A : Option Addr) (cap : Nat), d ≤ D ∧ r = D - d ∧ i = .int .i64 ((D : Int) - 1 - (d : Int)) ∧ (∀ j u, (cellsC (nestC d (n + (D : Int) - (d : Int))) A cap)[j]? = some u → wr.cell? ⟨w.heap.size, j, none⟩ = some u) ∧ (∀ j, wr.frozen? ⟨w.heap.size, j, none⟩ = false) ∧ NestAt wr w.heap.size d (n + (D : Int) - (d : Int)) A cap ∧ Below w.heap.size w wr ∧ w.heap.size < wr.heap.size)
  case atStart =>
    have hc : ∀ (j : Nat) (u : Value), ([.string ⟨#[116, 114, 117, 101]⟩, .int .i64 0, .int .i64 0, .int .i64 0, .int .i64 0, .slice none 0 0] : List Value)[j]? = some u → (w.alloc (.cells #[.string ⟨#[116, 114, 117, 101]⟩, .int .i64 0, .int .i64 0, .int .i64 0, .int .i64 0, .slice none 0 0] 24)).cell? ⟨w.heap.size, j, none⟩ = some u :=
      six_of (by simp) (by simp) (by simp) (by simp) (by simp) (by simp)
    exact ⟨0, none, 0, Nat.zero_le _, rfl, by go_num, fun j u hu => hc j u hu, fun j => by simp, ⟨rfl, rfl⟩, (Below.refl _ _).alloc (Nat.le_refl _) _, by simp⟩
  case round =>
    obtain ⟨d, A, cap, hd, hr, rfl, hc, hf, hN, hb, hs⟩ := hrel
    have HRr := Lib.hid hr
    have HB := Lib.hid hb
    have HN := Lib.hid hN
    have HFZ := Lib.hid hf
    have hf0 := hf 0
    have hf1 := hf 1
    have hf2 := hf 2
    have hf3 := hf 3
    have hf4 := hf 4
    have hf5 := hf 5
    clear hr hb hN hf
    by_cases hlt : d < D
    · cases hx : nestC d (n + (D : Int) - (d : Int)) with
      | node o a b c m ks =>
        have HX := Lib.hid hx
        rw [hx] at hc
        clear hx
        have hc0 := hc 0 _ rfl
        have hc1 := hc 1 _ rfl
        have hc2 := hc 2 _ rfl
        have hc3 := hc 3 _ rfl
        have hc4 := hc 4 _ rfl
        have hc5 := hc 5 _ rfl
        clear hc
        simp only [Core.op, Core.va, Core.vb, Core.vc, Core.vn, Core.kids, strV] at hc0 hc1 hc2 hc3 hc4 hc5
        have al : ∀ (j : Nat) (u : Value), wr.cell? ⟨w.heap.size, j, none⟩ = some u → (wr.alloc (.cells #[.string ⟨o.toArray⟩, .int .i64 a, .int .i64 b, .int .i64 c, .int .i64 m, .slice A ks.length cap] 24)).cell? ⟨w.heap.size, j, none⟩ = some u := fun j u h =>
          (World.cell?_alloc_lt wr _ ⟨w.heap.size, j, none⟩ hs).trans h
        have a0 := al 0 _ hc0
        have a1 := al 1 _ hc1
        have a2 := al 2 _ hc2
        have a3 := al 3 _ hc3
        have a4 := al 4 _ hc4
        have a5 := al 5 _ hc5
        clear al
        have g4 : decide (0 ≤ (D : Int) - 1 - (d : Int)) = true := decide_eq_true (by omega)
        go_wp2_with fail
        go_roundg (D - (d + 1))
        case measure => have := HRr.out; omega
        case rel =>
          have hvv : n + (D : Int) - ((d + 1 : Nat) : Int) = n + ((D : Int) - 1 - (d : Int)) := by omega
          have hvw : n + ((D : Int) - 1 - (d : Int)) + 1 = n + (D : Int) - (d : Int) := by omega
          have hS := nest_step hvw HX.out HN.out hs hc0 hc1 hc2 hc3 hc4 hc5 HFZ.out rfl
          unfold put6 at hS
          refine ⟨d + 1, some ⟨wr.heap.size, 0, none⟩, 1, by omega, rfl, by go_num, ?_, hS.2.1, ?_, hS.2.2.2.1 _ _ HB.out (Nat.le_refl _), hS.2.2.2.2⟩
          · rw [hvv]
            exact hS.1
          · rw [hvv]
            exact hS.2.2.1
    · have hdD : d = D := by omega
      subst hdD
      have hnn : n + (d : Int) - (d : Int) = n := by omega
      rw [hnn] at hc HN
      clear hnn hlt hd
      have HI1 := Lib.hid (fun W hW => Is_any (nestC d n) A cap n W hW)
      have HI2 := Lib.hid (fun W hW => Is_any (.node [101, 120] v 0 0 0 [.node [115, 105, 110, 103] n 0 0 0 []]) (some ⟨wr.heap.size, 0, none⟩) 1 n W hW)
      rw [nest_top d n hD hn0 hn6] at HI1
      rw [one_top v n hn0 hn6] at HI2
      simp only [coreW, Core.op, Core.va, Core.vb, Core.vc, Core.vn, Core.kids, List.length_cons, List.length_nil] at HI2
      have g4 : decide (0 ≤ (d : Int) - 1 - (d : Int)) = false := decide_eq_false (by omega)
      cases hx : nestC d n with
      | node o a b c m ks =>
        have hnc := HN.out.core
        rw [hx] at hc HI1 hnc
        have HNC := Lib.hid hnc
        clear hx hnc HN HFZ hf0 hf1 hf2 hf3 hf4 hf5 HRr
        have hc0 := hc 0 _ rfl
        have hc1 := hc 1 _ rfl
        have hc2 := hc 2 _ rfl
        have hc3 := hc 3 _ rfl
        have hc4 := hc 4 _ rfl
        have hc5 := hc 5 _ rfl
        clear hc
        simp only [coreW, Core.op, Core.va, Core.vb, Core.vc, Core.vn, Core.kids, strV] at hc0 hc1 hc2 hc3 hc4 hc5 HI1
        by_cases hvn : v = n
        · subst hvn
          rw [decide_eq_true (rfl : v = v), Bool.true_and] at HI2
          have HCX := Lib.hid (HNC.out.later (exW9_below wr v v) (by rw [exW9_size]; omega))
          have HLX := Lib.hid (fun w2 (hb : Below (exW9 wr v v).heap.size (exW9 wr v v) w2) => exW9_later hb)
          simp only [exW9] at HCX HLX
          go_wp2_with (first
            | (go_at_call_of 22 (Value.slice A ks.length cap)
               refine (HI1.out _ HCX.out).mono ?_
               rintro e w2 ⟨rfl, hb2⟩
               obtain ⟨X0, X1, X2, X3, X4, X5, hc2, hB2⟩ := HLX.out _ hb2
               have HC2 := Lib.hid hc2
               clear hb2 hc2)
            | (go_at_call_of 22 (Value.slice (some ⟨wr.heap.size, 0, none⟩) 1 1)
               refine (HI2.out _ HC2.out).mono ?_
               rintro e w3 ⟨rfl, hb3⟩)
            | (go_at_call 21
               refine (known9_any _).mono ?_
               rintro e w4 ⟨rfl, hb4⟩))
          go_ret
          exact ⟨rfl, HB.out.trans ((hB2.mono (Nat.le_of_lt hs)).trans ((hb3.mono (Nat.le_trans (Nat.le_of_lt hs) hB2.size)).trans (hb4.mono (Nat.le_trans (Nat.le_of_lt hs) (Nat.le_trans hB2.size hb3.size)))))⟩
        · have gvn : (v == n) = false := beq_false_of_ne hvn
          rw [decide_eq_false hvn, Bool.false_and] at HI2
          clear hvn
          have HCX := Lib.hid (HNC.out.later (exW9_below wr v n) (by rw [exW9_size]; omega))
          have HLX := Lib.hid (fun w2 (hb : Below (exW9 wr v n).heap.size (exW9 wr v n) w2) => exW9_later hb)
          simp only [exW9] at HCX HLX
          go_wp2_with (first
            | (go_at_call_of 22 (Value.slice A ks.length cap)
               refine (HI1.out _ HCX.out).mono ?_
               rintro e w2 ⟨rfl, hb2⟩
               obtain ⟨X0, X1, X2, X3, X4, X5, hc2, hB2⟩ := HLX.out _ hb2
               have HC2 := Lib.hid hc2
               clear hb2 hc2)
            | (go_at_call_of 22 (Value.slice (some ⟨wr.heap.size, 0, none⟩) 1 1)
               refine (HI2.out _ HC2.out).mono ?_
               rintro e w3 ⟨rfl, hb3⟩)
            | (go_at_call 21
               refine (known9_any _).mono ?_
               rintro e w4 ⟨rfl, hb4⟩))
          go_ret
          exact ⟨rfl, HB.out.trans ((hB2.mono (Nat.le_of_lt hs)).trans ((hb3.mono (Nat.le_trans (Nat.le_of_lt hs) hB2.size)).trans (hb4.mono (Nat.le_trans (Nat.le_of_lt hs) (Nat.le_trans hB2.size hb3.size)))))⟩
end Go.Proofs.YtcgjacaemblnmaaDoor
