/- The walk over law12.known. -/
import Derived.Test.YtcgjacaemblnmaaDoorTop
namespace Go.Proofs.YtcgjacaemblnmaaDoor
open Go Go.RowKit

theorem CoreAt.leaf (w : World) (B : Nat) (o : List UInt8) (a b c n : Int) (ho : o.length ≤ 140737488355328) : CoreAt w B (.node o a b c n []) none 0 := by
  unfold CoreAt KidsAt
  exact ⟨ho, Nat.le_refl _, by omega, trivial⟩
theorem IntsAt.new (w : World) (t : TypeId) (xs : List Int) : IntsAt (w.alloc (.cells (i64s xs).toArray t)) (w.heap.size + 1) (some ⟨w.heap.size, 0, none⟩) xs := fun _ =>
  ⟨w.heap.size, 0, rfl, Nat.lt_succ_self _, fun j hj => by
    rw [Nat.zero_add]
    rw [cell_of_row (w.alloc (.cells (i64s xs).toArray t)) w.heap.size j (i64s xs).toArray t (0, 0) (heap_alloc_new w _)]
    simp [i64s, hj]⟩
theorem known12_any (w : World) (hT : Tab w) : Calls Tryd.prog 14 #[] w fun e w' => e = .returned (.bool true) ∧ Below w.heap.size w w' := by
  have h2 : 2 < w.heap.size := World.block_lt_of_cell? _ _ (hT 0 (by decide))
  have hB := (Below.refl w.heap.size w).alloc (Nat.le_refl _) (.cells #[.int .i64 2, .int .i64 8] 3)
  have h := Holds_any (.node oLess 0 1 0 0 []) none 0 [2, 8] (some ⟨w.heap.size, 0, none⟩) 2 0 (w.alloc (.cells #[.int .i64 2, .int .i64 8] 3)) (CoreAt.leaf _ _ _ _ _ _ _ (by decide)) ((IntsAt.new w 3 [2, 8]).more (by simp)) (by decide) (hT.below hB h2)
  rw [show holdsB (.node oLess 0 1 0 0 []) [2, 8] 0 = true by decide +kernel] at h
  simp only [coreW, Core.op, Core.va, Core.vb, Core.vc, Core.vn, Core.kids, oLess] at h
  have H := Lib.hid h
  have HB := Lib.hid hB
  clear h hB hT
  go_enter Tryd.func14, Tryd.ntmps14
  go_wp2_with (
    go_at_call 13
    refine H.out.mono ?_
    rintro e w2 ⟨rfl, hb2⟩)
  go_ret
  exact ⟨rfl, HB.out.trans (hb2.mono (by simp))⟩
end Go.Proofs.YtcgjacaemblnmaaDoor
