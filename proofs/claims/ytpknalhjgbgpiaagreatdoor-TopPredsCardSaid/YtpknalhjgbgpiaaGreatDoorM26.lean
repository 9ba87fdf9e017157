/- Parts of the proof: TopW. -/
import Derived.Deep.Cut
import Derived.Deep.CutRange
import Derived.Deep.RegionHeld3
import Derived.Deep.RegionWith
import Derived.Test.YtpknalhjgbgpiaaGreatDoorM25
namespace Go.Proofs.YtpknalhjgbgpiaaGreatDoor
open Go Go.RowKit
theorem bel_thr {B : Nat} {a W w2 : World} (hb : Below W.heap.size W w2) (h : Below B a W) (hB : B ≤ a.heap.size) : Below B a w2 := h.trans (hb.mono (Nat.le_trans hB h.size))
theorem bel_far {B g : Nat} {a w : World} (h : Below B a w) (hg : B ≤ g) (o : Nat) (u : Value) : Below B a (w.setCell ⟨g, o, none⟩ u) := Below.setCell (p := ⟨g, o, none⟩) h hg u
theorem blk_alloc {w : World} {g : Nat} {t : TypeId} {cs : Array Value} (h : Blk w g t cs) (o : Obj) : Blk (w.alloc o) g t cs := (Below.heap_alloc w o g h.lt).trans h
theorem blk_drew {w : World} {g : Nat} {t : TypeId} {cs : Array Value} (h : Blk w g t cs) : Blk w.drew g t cs := h
theorem blk_new_at {w : World} {g : Nat} {t : TypeId} {cs : Array Value} (h : g = w.heap.size) : Blk (w.alloc (.cells cs t)) g t cs := by
  subst h
  exact heap_alloc_new w _
theorem blk_bel {w w' : World} {g : Nat} {t : TypeId} {cs : Array Value} (hb : Below w.heap.size w w') (h : Blk w g t cs) : Blk w' g t cs := (hb.block g h.lt).trans h
theorem blk_other {w : World} {g g2 : Nat} {t : TypeId} {cs : Array Value} (h : Blk w g t cs) (hp : g2 ≠ g) (o : Nat) (u : Value) : Blk (w.setCell ⟨g2, o, none⟩ u) g t cs := (Below.heap_setCell w ⟨g2, o, none⟩ u g (Ne.symm hp)).trans h
theorem resZ {w : World} {g : Nat} (h : Blk w g 26 #[.int .i64 0, .int .i64 0, .int .i64 0, .slice none 0 0, .slice none 0 0]) (y0 y1 y2 y3 y4 : Value) :
    Blk (((((w.setCell ⟨g, 0, none⟩ y0).setCell ⟨g, 1, none⟩ y1).setCell ⟨g, 2, none⟩ y2).setCell ⟨g, 3, none⟩ y3).setCell ⟨g, 4, none⟩ y4) g 26 #[y0, y1, y2, y3, y4] := by
  have := ((((h.set_ 0 y0).set_ 1 y1).set_ 2 y2).set_ 3 y3).set_ 4 y4
  simpa using this
theorem have_ {P Q : Prop} (h : P) (k : P → Q) : Q := k h
abbrev zeroR : Array Value := #[.int .i64 0, .int .i64 0, .int .i64 0, .slice none 0 0, .slice none 0 0]
theorem box10 {w : World} {g : Nat} (h : Blk w g 26 zeroR) : w.cell? ⟨g, 0, none⟩ = some (.int .i64 0) ∧ w.cell? ⟨g, 1, none⟩ = some (.int .i64 0) ∧ w.cell? ⟨g, 2, none⟩ = some (.int .i64 0) ∧ w.cell? ⟨g, 3, none⟩ = some (.slice none 0 0) ∧ w.cell? ⟨g, 4, none⟩ = some (.slice none 0 0) ∧
    w.frozen? ⟨g, 0, none⟩ = false ∧ w.frozen? ⟨g, 1, none⟩ = false ∧ w.frozen? ⟨g, 2, none⟩ = false ∧ w.frozen? ⟨g, 3, none⟩ = false ∧ w.frozen? ⟨g, 4, none⟩ = false :=
  ⟨h.cell 0, h.cell 1, h.cell 2, h.cell 3, h.cell 4, h.frozen 0, h.frozen 1, h.frozen 2, h.frozen 3, h.frozen 4⟩
theorem box10a {w : World} {g : Nat} (h : Blk w g 26 zeroR) : (w.alloc (.cells #[.int .i64 0, .int .i64 0, .int .i64 0, .slice none 0 0, .slice none 0 0] 26)).cell? ⟨g, 0, none⟩ = some (.int .i64 0) ∧ (w.alloc (.cells #[.int .i64 0, .int .i64 0, .int .i64 0, .slice none 0 0, .slice none 0 0] 26)).cell? ⟨g, 1, none⟩ = some (.int .i64 0) ∧ (w.alloc (.cells #[.int .i64 0, .int .i64 0, .int .i64 0, .slice none 0 0, .slice none 0 0] 26)).cell? ⟨g, 2, none⟩ = some (.int .i64 0) ∧ (w.alloc (.cells #[.int .i64 0, .int .i64 0, .int .i64 0, .slice none 0 0, .slice none 0 0] 26)).cell? ⟨g, 3, none⟩ = some (.slice none 0 0) ∧ (w.alloc (.cells #[.int .i64 0, .int .i64 0, .int .i64 0, .slice none 0 0, .slice none 0 0] 26)).cell? ⟨g, 4, none⟩ = some (.slice none 0 0) ∧
    (w.alloc (.cells #[.int .i64 0, .int .i64 0, .int .i64 0, .slice none 0 0, .slice none 0 0] 26)).frozen? ⟨g, 0, none⟩ = false ∧ (w.alloc (.cells #[.int .i64 0, .int .i64 0, .int .i64 0, .slice none 0 0, .slice none 0 0] 26)).frozen? ⟨g, 1, none⟩ = false ∧ (w.alloc (.cells #[.int .i64 0, .int .i64 0, .int .i64 0, .slice none 0 0, .slice none 0 0] 26)).frozen? ⟨g, 2, none⟩ = false ∧ (w.alloc (.cells #[.int .i64 0, .int .i64 0, .int .i64 0, .slice none 0 0, .slice none 0 0] 26)).frozen? ⟨g, 3, none⟩ = false ∧ (w.alloc (.cells #[.int .i64 0, .int .i64 0, .int .i64 0, .slice none 0 0, .slice none 0 0] 26)).frozen? ⟨g, 4, none⟩ = false := box10 (blk_alloc h _)
theorem blk_new2 (w : World) (o : Obj) (t : TypeId) (cs : Array Value) : Blk ((w.alloc o).alloc (.cells cs t)) (w.heap.size + 1) t cs := blk_new_at (by simp)
theorem box10o {w : World} {g : Nat} (h : Blk w g 26 zeroR) (o : Obj) : (w.alloc o).cell? ⟨g, 0, none⟩ = some (.int .i64 0) ∧ (w.alloc o).cell? ⟨g, 1, none⟩ = some (.int .i64 0) ∧ (w.alloc o).cell? ⟨g, 2, none⟩ = some (.int .i64 0) ∧ (w.alloc o).cell? ⟨g, 3, none⟩ = some (.slice none 0 0) ∧ (w.alloc o).cell? ⟨g, 4, none⟩ = some (.slice none 0 0) ∧ (w.alloc o).frozen? ⟨g, 0, none⟩ = false ∧ (w.alloc o).frozen? ⟨g, 1, none⟩ = false ∧ (w.alloc o).frozen? ⟨g, 2, none⟩ = false ∧ (w.alloc o).frozen? ⟨g, 3, none⟩ = false ∧ (w.alloc o).frozen? ⟨g, 4, none⟩ = false := box10 (blk_alloc h o)
/-- Cells that P speaks of read as they did. -/
def Kp (P : Nat → Prop) (a w : World) : Prop := ∀ p : Addr, P p.block → w.cell? p = a.cell? p
theorem ValsAt.more_ {w w' : World} {P P' : Nat → Prop} {A : Option Addr} {c : Nat} {vs : List ValP} (h : ValsAt w P A c vs) (hk : Kp P w w') (hP : ∀ b, P b → P' b) : ValsAt w' P' A c vs := (h.keep hk).more hP
theorem kp_refl {P : Nat → Prop} (a : World) : Kp P a a := fun _ _ => rfl
theorem kp_alloc {P : Nat → Prop} {a w : World} (h : Kp P a w) (hP : ∀ b, P b → b < w.heap.size) (o : Obj) : Kp P a (w.alloc o) := fun p hp => (((Below.refl w.heap.size w).alloc (Nat.le_refl _) o).cell (hP _ hp)).trans (h p hp)
theorem kp_put {P : Nat → Prop} {a w : World} (h : Kp P a w) {g : Nat} (hP : ∀ b, P b → b ≠ g) (o : Nat) (u : Value) : Kp P a (w.setCell ⟨g, o, none⟩ u) := fun p hp => (World.cell?_setCell_other _ _ _ _ (fun e => hP _ hp (by rw [← e]))).trans (h p hp)
theorem kp_thr {P : Nat → Prop} {a W w : World} (hb : Below W.heap.size W w) (h : Kp P a W) (hP : ∀ b, P b → b < W.heap.size) : Kp P a w := fun p hp => (hb.cell (hP _ hp)).trans (h p hp)
/-- A decision's contract. -/
abbrev DecC (s : ByteArray) (F t : Int) (Ms Cs : List ValP) : Prop := ∀ W : World, 4 ≤ W.heap.size → Calls Tryz.prog 4 #[.string s, .int .i64 F] W fun e w' => ∃ A c A2 c2, e = .returned (resVal t A A2 Ms.length c Cs.length c2) ∧ Below W.heap.size W w' ∧ ValsAt w' (fun b => W.heap.size ≤ b ∧ b < w'.heap.size) A c Ms ∧ ValsAt w' (fun b => W.heap.size ≤ b ∧ b < w'.heap.size) A2 c2 Cs

end Go.Proofs.YtpknalhjgbgpiaaGreatDoor
