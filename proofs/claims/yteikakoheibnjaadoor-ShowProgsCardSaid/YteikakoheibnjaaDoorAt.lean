/- Memory: a node as a tree of structs. -/
import Derived.Test.YteikakoheibnjaaDoorRows
import Derived.Test.YteikakoheibnjaaDoorMem
import Derived.Test.YteikakoheibnjaaDoorNodePure
import Derived.WalkLawsBesides
import Derived.Deep.LoopGhost
import Derived.Lib.Hide
import Derived.RegionTactic
import Derived.OwnWalk
namespace Go.Proofs.YteikakoheibnjaaDoor
open Go Go.RowKit

/-- A string value of these bytes. -/
abbrev strV (o : List UInt8) : Value := .string ⟨o.toArray⟩
/-- The five cells of a node whose kids lie at A. -/
def cellsN (t : Node) (A : Option Addr) (cap : Nat) : List Value :=
  [strV t.op, strV t.name, .int .i64 t.num, .int .i64 t.pos, .slice A t.kids.length cap]
mutual
/-- The node t lies in w below block B, its kids at A. -/
def NodeAt (w : World) (B : Nat) : Node → Option Addr → Nat → Prop
  | .node o s _ _ ks, A, cap => o.length ≤ 140737488355328 ∧ s.length ≤ 140737488355328 ∧ ks.length ≤ cap ∧ cap ≤ 140737488355328 ∧ KidsAt w B A 0 ks
def KidsAt (w : World) (B : Nat) (A : Option Addr) : Nat → List Node → Prop
  | _, [] => True
  | i, k :: r => (∃ b off A' cap', A = some ⟨b, off, none⟩ ∧ b < B ∧ (∀ j u, (cellsN k A' cap')[j]? = some u → w.cell? ⟨b, off + i * 5 + j, none⟩ = some u) ∧ NodeAt w B k A' cap') ∧ KidsAt w B A (i + 1) r
end
/-- A node's value, written out. -/
def nodeW (o s : List UInt8) (n p : Int) (l : Nat) (A : Option Addr) (cap : Nat) : Value :=
  .agg #[.string ⟨o.toArray⟩, .string ⟨s.toArray⟩, .int .i64 n, .int .i64 p, .slice A l cap]
/-- The value of t. -/
abbrev nodeT (t : Node) (A : Option Addr) (cap : Nat) : Value := nodeW t.op t.name t.num t.pos t.kids.length A cap

theorem NodeAt.keep {w w' : World} {B : Nat} (hk : ∀ p : Addr, p.block < B → w'.cell? p = w.cell? p) : ∀ (t : Node) (A : Option Addr) (cap : Nat), NodeAt w B t A cap → NodeAt w' B t A cap := by
  intro t
  induction t using Node.ind with
  | h o s n p ks ih =>
    intro A cap h
    unfold NodeAt at h ⊢
    refine ⟨h.1, h.2.1, h.2.2.1, h.2.2.2.1, ?_⟩
    have h3 := h.2.2.2.2
    clear h
    generalize 0 = i at *
    induction ks generalizing i with
    | nil => unfold KidsAt; trivial
    | cons x r ihr =>
      unfold KidsAt at h3 ⊢
      obtain ⟨⟨bb, off, A', cap', e, hb, hc, hx⟩, hr⟩ := h3
      refine ⟨⟨bb, off, A', cap', e, hb, fun j u hu => (hk _ hb).trans (hc j u hu), ih x (by simp) A' cap' hx⟩, ihr (fun k hk' => ih k (by simp [hk'])) _ hr⟩
theorem NodeAt.more {w : World} {B B' : Nat} (hB : B ≤ B') : ∀ (t : Node) (A : Option Addr) (cap : Nat), NodeAt w B t A cap → NodeAt w B' t A cap := by
  intro t
  induction t using Node.ind with
  | h o s n p ks ih =>
    intro A cap h
    unfold NodeAt at h ⊢
    refine ⟨h.1, h.2.1, h.2.2.1, h.2.2.2.1, ?_⟩
    have h3 := h.2.2.2.2
    clear h
    generalize 0 = i at *
    induction ks generalizing i with
    | nil => unfold KidsAt; trivial
    | cons x r ihr =>
      unfold KidsAt at h3 ⊢
      obtain ⟨⟨bb, off, A', cap', e, hb, hc, hx⟩, hr⟩ := h3
      exact ⟨⟨bb, off, A', cap', e, by omega, hc, ih x (by simp) A' cap' hx⟩, ihr (fun k hk' => ih k (by simp [hk'])) _ hr⟩
theorem NodeAt.below {w w' : World} {B : Nat} {t : Node} {A : Option Addr} {cap : Nat} (h : NodeAt w B t A cap) (hb : Below B w w') : NodeAt w' B t A cap := NodeAt.keep (fun _ hp => hb.cell hp) t A cap h
/-- The same node in a later world, below that world's end. -/
theorem NodeAt.later {w W : World} {B : Nat} {t : Node} {A : Option Addr} {cap : Nat} (h : NodeAt w B t A cap) (hb : Below B w W) (hB : B ≤ W.heap.size) : NodeAt W W.heap.size t A cap :=
  NodeAt.more hB t A cap (h.below hb)
theorem KidsAt.at_ {w : World} {B : Nat} {A : Option Addr} : ∀ (ks : List Node) (i j : Nat) (hj : j < ks.length), KidsAt w B A i ks →
    ∃ b off A' cap', A = some ⟨b, off, none⟩ ∧ b < B ∧ (∀ m u, (cellsN ks[j] A' cap')[m]? = some u → w.cell? ⟨b, off + (i + j) * 5 + m, none⟩ = some u) ∧ NodeAt w B ks[j] A' cap'
  | x :: r, i, 0, _, h => by
    unfold KidsAt at h
    exact h.1
  | x :: r, i, j + 1, hj, h => by
    unfold KidsAt at h
    obtain ⟨bb, off, A', cap', e, hb, hc, hx⟩ := KidsAt.at_ r (i + 1) j (by simpa using hj) h.2
    refine ⟨bb, off, A', cap', e, hb, ?_, hx⟩
    rw [show i + (j + 1) = i + 1 + j by omega]
    exact hc
theorem NodeAt.kid {w : World} {B : Nat} {o s : List UInt8} {n p : Int} {ks : List Node} {A : Option Addr} {cap : Nat} (h : NodeAt w B (.node o s n p ks) A cap) (j : Nat) (hj : j < ks.length) :
    ∃ b off A' cap', A = some ⟨b, off, none⟩ ∧ b < B ∧ (∀ m u, (cellsN ks[j] A' cap')[m]? = some u → w.cell? ⟨b, off + j * 5 + m, none⟩ = some u) ∧ NodeAt w B ks[j] A' cap' := by
  unfold NodeAt at h
  have := KidsAt.at_ ks 0 j hj h.2.2.2.2
  rw [Nat.zero_add] at this
  exact this
theorem NodeAt.len {w : World} {B : Nat} {o s : List UInt8} {n p : Int} {ks : List Node} {A : Option Addr} {cap : Nat} (h : NodeAt w B (.node o s n p ks) A cap) : ks.length ≤ cap ∧ cap ≤ 140737488355328 ∧ o.length ≤ 140737488355328 ∧ s.length ≤ 140737488355328 := by
  unfold NodeAt at h
  exact ⟨h.2.2.1, h.2.2.2.1, h.1, h.2.1⟩
/-- The five cells of a node, each by itself, in a later world. -/
theorem kid_cells {w wr : World} {bb q B : Nat} {o s : List UInt8} {n p : Int} {ks : List Node} {A : Option Addr} {cap : Nat} (hp : bb < B)
    (h : ∀ m u, (cellsN (.node o s n p ks) A cap)[m]? = some u → w.cell? ⟨bb, q + m, none⟩ = some u) (hb : Below B w wr) :
    wr.cell? ⟨bb, q, none⟩ = some (.string ⟨o.toArray⟩) ∧ wr.cell? ⟨bb, q + 1, none⟩ = some (.string ⟨s.toArray⟩) ∧ wr.cell? ⟨bb, q + 2, none⟩ = some (.int .i64 n) ∧ wr.cell? ⟨bb, q + 3, none⟩ = some (.int .i64 p) ∧
      wr.cell? ⟨bb, q + 4, none⟩ = some (.slice A ks.length cap) := by
  have cc : ∀ j u, (cellsN (.node o s n p ks) A cap)[j]? = some u → wr.cell? ⟨bb, q + j, none⟩ = some u := fun j u hu => (hb.cell (p := ⟨bb, q + j, none⟩) hp).trans (h j u hu)
  exact ⟨cc 0 _ rfl, cc 1 _ rfl, cc 2 _ rfl, cc 3 _ rfl, cc 4 _ rfl⟩
/-- The box of a node that the call itself lays. -/
abbrev boxN (o s : List UInt8) (n p : Int) (l : Nat) (A : Option Addr) (cap : Nat) : Obj := .cells #[.string ⟨o.toArray⟩, .string ⟨s.toArray⟩, .int .i64 n, .int .i64 p, .slice A l cap] 24
/-- Its cells, in a later world. -/
theorem box5 {w W : World} {o s : List UInt8} {n p : Int} {l : Nat} {A : Option Addr} {cap : Nat} (h : Below (w.heap.size + 1) (w.alloc (boxN o s n p l A cap)) W) :
    W.cell? ⟨w.heap.size, 0, none⟩ = some (.string ⟨o.toArray⟩) ∧ W.cell? ⟨w.heap.size, 1, none⟩ = some (.string ⟨s.toArray⟩) ∧ W.cell? ⟨w.heap.size, 2, none⟩ = some (.int .i64 n) ∧ W.cell? ⟨w.heap.size, 3, none⟩ = some (.int .i64 p) ∧
      W.cell? ⟨w.heap.size, 4, none⟩ = some (.slice A l cap) := by
  have e : ∀ j u, (#[.string ⟨o.toArray⟩, .string ⟨s.toArray⟩, .int .i64 n, .int .i64 p, .slice A l cap] : Array Value)[j]? = some u → W.cell? ⟨w.heap.size, j, none⟩ = some u := fun j u hu =>
    (h.cell (p := ⟨w.heap.size, j, none⟩) (Nat.lt_succ_self _)).trans ((cell_of_row _ w.heap.size j _ 24 (0, 0) (heap_alloc_new w _)).trans hu)
  exact ⟨e 0 _ rfl, e 1 _ rfl, e 2 _ rfl, e 3 _ rfl, e 4 _ rfl⟩
end Go.Proofs.YteikakoheibnjaaDoor
