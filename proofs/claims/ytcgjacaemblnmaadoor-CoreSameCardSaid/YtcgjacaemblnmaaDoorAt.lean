/- Memory: a formula as a tree of structs, and slices of ints. -/
import Derived.Test.YtcgjacaemblnmaaDoorRows
import Derived.Test.YtcgjacaemblnmaaDoorMem
import Derived.Test.YtcgjacaemblnmaaDoorTree
import Derived.WalkLawsBesides
import Derived.Deep.LoopGhost
import Derived.Lib.Hide
import Derived.RegionTactic
namespace Go.Proofs.YtcgjacaemblnmaaDoor
open Go Go.RowKit

/-- A string value of these bytes. -/
def strV (o : List UInt8) : Value := .string ⟨o.toArray⟩
/-- The six cells of a formula whose kids lie at A. -/
def cellsC (t : Core) (A : Option Addr) (cap : Nat) : List Value :=
  [strV t.op, .int .i64 t.va, .int .i64 t.vb, .int .i64 t.vc, .int .i64 t.vn, .slice A t.kids.length cap]
mutual
/-- The formula t lies in w below block B, its kids at A. -/
def CoreAt (w : World) (B : Nat) : Core → Option Addr → Nat → Prop
  | .node o _ _ _ _ ks, A, cap => o.length ≤ 140737488355328 ∧ ks.length ≤ cap ∧ cap ≤ 140737488355328 ∧ KidsAt w B A 0 ks
def KidsAt (w : World) (B : Nat) (A : Option Addr) : Nat → List Core → Prop
  | _, [] => True
  | i, k :: r => (∃ b off A' cap', A = some ⟨b, off, none⟩ ∧ b < B ∧ (∀ j u, (cellsC k A' cap')[j]? = some u → w.cell? ⟨b, off + i * 6 + j, none⟩ = some u) ∧ CoreAt w B k A' cap') ∧ KidsAt w B A (i + 1) r
end
/-- A formula as a value. -/
def coreV (t : Core) (A : Option Addr) (cap : Nat) : Value := .agg (cellsC t A cap).toArray

theorem CoreAt.keep {w w' : World} {B : Nat} (hk : ∀ p : Addr, p.block < B → w'.cell? p = w.cell? p) : ∀ (t : Core) (A : Option Addr) (cap : Nat), CoreAt w B t A cap → CoreAt w' B t A cap := by
  intro t
  induction t using Core.ind with
  | h o a b c n ks ih =>
    intro A cap h
    unfold CoreAt at h ⊢
    refine ⟨h.1, h.2.1, h.2.2.1, ?_⟩
    have h3 := h.2.2.2
    clear h
    generalize 0 = i at *
    induction ks generalizing i with
    | nil => unfold KidsAt; trivial
    | cons x r ihr =>
      unfold KidsAt at h3 ⊢
      obtain ⟨⟨bb, off, A', cap', e, hb, hc, hx⟩, hr⟩ := h3
      refine ⟨⟨bb, off, A', cap', e, hb, fun j u hu => (hk _ hb).trans (hc j u hu), ih x (by simp) A' cap' hx⟩, ihr (fun k hk' => ih k (by simp [hk'])) _ hr⟩
theorem CoreAt.more {w : World} {B B' : Nat} (hB : B ≤ B') : ∀ (t : Core) (A : Option Addr) (cap : Nat), CoreAt w B t A cap → CoreAt w B' t A cap := by
  intro t
  induction t using Core.ind with
  | h o a b c n ks ih =>
    intro A cap h
    unfold CoreAt at h ⊢
    refine ⟨h.1, h.2.1, h.2.2.1, ?_⟩
    have h3 := h.2.2.2
    clear h
    generalize 0 = i at *
    induction ks generalizing i with
    | nil => unfold KidsAt; trivial
    | cons x r ihr =>
      unfold KidsAt at h3 ⊢
      obtain ⟨⟨bb, off, A', cap', e, hb, hc, hx⟩, hr⟩ := h3
      exact ⟨⟨bb, off, A', cap', e, by omega, hc, ih x (by simp) A' cap' hx⟩, ihr (fun k hk' => ih k (by simp [hk'])) _ hr⟩
theorem CoreAt.below {w w' : World} {B : Nat} {t : Core} {A : Option Addr} {cap : Nat} (h : CoreAt w B t A cap) (hb : Below B w w') : CoreAt w' B t A cap := CoreAt.keep (fun _ hp => hb.cell hp) t A cap h
theorem KidsAt.at_ {w : World} {B : Nat} {A : Option Addr} : ∀ (ks : List Core) (i j : Nat) (hj : j < ks.length), KidsAt w B A i ks →
    ∃ b off A' cap', A = some ⟨b, off, none⟩ ∧ b < B ∧ (∀ m u, (cellsC ks[j] A' cap')[m]? = some u → w.cell? ⟨b, off + (i + j) * 6 + m, none⟩ = some u) ∧ CoreAt w B ks[j] A' cap'
  | x :: r, i, 0, _, h => by
    unfold KidsAt at h
    exact h.1
  | x :: r, i, j + 1, hj, h => by
    unfold KidsAt at h
    obtain ⟨bb, off, A', cap', e, hb, hc, hx⟩ := KidsAt.at_ r (i + 1) j (by simpa using hj) h.2
    refine ⟨bb, off, A', cap', e, hb, ?_, hx⟩
    rw [show i + (j + 1) = i + 1 + j by omega]
    exact hc
theorem CoreAt.kid {w : World} {B : Nat} {t : Core} {A : Option Addr} {cap : Nat} (h : CoreAt w B t A cap) (j : Nat) (hj : j < t.kids.length) :
    ∃ b off A' cap', A = some ⟨b, off, none⟩ ∧ b < B ∧ (∀ m u, (cellsC t.kids[j] A' cap')[m]? = some u → w.cell? ⟨b, off + j * 6 + m, none⟩ = some u) ∧ CoreAt w B t.kids[j] A' cap' := by
  cases t with
  | node o a b c n ks =>
    unfold CoreAt at h
    have := KidsAt.at_ ks 0 j hj h.2.2.2
    rw [Nat.zero_add] at this
    exact this
theorem CoreAt.len {w : World} {B : Nat} {t : Core} {A : Option Addr} {cap : Nat} (h : CoreAt w B t A cap) : t.kids.length ≤ cap ∧ cap ≤ 140737488355328 ∧ t.op.length ≤ 140737488355328 := by
  cases t with
  | node o a b c n ks =>
    unfold CoreAt at h
    exact ⟨h.2.1, h.2.2.1, h.1⟩
/-- The six cells of a formula, each by itself, in a later world. -/
theorem kid_cells {w wr : World} {bb q B : Nat} {o : List UInt8} {a b c n : Int} {ks : List Core} {A : Option Addr} {cap : Nat} (hp : bb < B)
    (h : ∀ m u, (cellsC (.node o a b c n ks) A cap)[m]? = some u → w.cell? ⟨bb, q + m, none⟩ = some u) (hb : Below B w wr) :
    wr.cell? ⟨bb, q, none⟩ = some (.string ⟨o.toArray⟩) ∧ wr.cell? ⟨bb, q + 1, none⟩ = some (.int .i64 a) ∧ wr.cell? ⟨bb, q + 2, none⟩ = some (.int .i64 b) ∧ wr.cell? ⟨bb, q + 3, none⟩ = some (.int .i64 c) ∧
      wr.cell? ⟨bb, q + 4, none⟩ = some (.int .i64 n) ∧ wr.cell? ⟨bb, q + 5, none⟩ = some (.slice A ks.length cap) := by
  have cc : ∀ j u, (cellsC (.node o a b c n ks) A cap)[j]? = some u → wr.cell? ⟨bb, q + j, none⟩ = some u := fun j u hu => (hb.cell (p := ⟨bb, q + j, none⟩) hp).trans (h j u hu)
  exact ⟨cc 0 _ rfl, cc 1 _ rfl, cc 2 _ rfl, cc 3 _ rfl, cc 4 _ rfl, cc 5 _ rfl⟩
end Go.Proofs.YtcgjacaemblnmaaDoor
