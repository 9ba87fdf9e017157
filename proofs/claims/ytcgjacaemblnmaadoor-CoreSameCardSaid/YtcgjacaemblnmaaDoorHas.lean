/- The walks over sibylref9.Has and field. -/
import Derived.Test.YtcgjacaemblnmaaDoorFields
import Derived.Test.YtcgjacaemblnmaaDoorAtom
import Derived.BigQuiet
import Derived.Deep.QuietTactic
namespace Go.Proofs.YtcgjacaemblnmaaDoor
open Go Go.RowKit

/-- Which letters an op has. -/
def hasL (v : Nat) (num : Bool) : List UInt8 := [65, 66, 67].take v ++ if num then [78] else []
def hasS (o : List UInt8) : List UInt8 := hasL (shapeD o).1 (shapeD o).2.1
theorem find_at {l : List (List UInt8 × (Nat × Bool × Nat))} {o : List UInt8} : ∀ (k : Nat) (hk : k < l.length), (∀ j (hj : j < k), (l[j]'(by omega)).1 ≠ o) → l[k].1 = o → l.find? (fun e => e.1 == o) = some l[k] := by
  induction l with
  | nil => intro k hk; simp at hk
  | cons x r ih =>
    intro k hk h e
    cases k with
    | zero =>
      have : (x.1 == o) = true := by rw [show x.1 = o from e]; exact beq_self_eq_true o
      simp [List.find?, this]
    | succ k =>
      have h0 : (x.1 == o) = false := beq_false_of_ne (h 0 (by omega))
      have := ih k (by simpa using hk) (fun j hj => h (j + 1) (by omega)) e
      simp [List.find?, h0, this]
theorem shapeD_at {o : List UInt8} (k : Nat) (hk : k < shapes.length) (h : ∀ j (hj : j < k), (shapes[j]'(by omega)).1 ≠ o) (e : shapes[k].1 = o) : shapeOf o = some shapes[k].2 := by
  unfold shapeOf
  rw [find_at k hk h e]
  rfl
theorem shapeD_no {o : List UInt8} (h : ∀ j (hj : j < shapes.length), shapes[j].1 ≠ o) : shapeOf o = none := by
  unfold shapeOf
  have : shapes.find? (fun e => e.1 == o) = none := by
    rw [List.find?_eq_none]
    intro e he
    obtain ⟨j, hj, rfl⟩ := List.getElem_of_mem he
    simp only [beq_iff_eq]
    exact h j hj
  rw [this]
  rfl

theorem three_cells (w : World) (A B C : Array Value) (ta tb tc : TypeId) (k : Nat) : (((w.alloc (.cells A ta)).alloc (.cells B tb)).alloc (.cells C tc)).cell? ⟨w.heap.size, k, none⟩ = A[k]? ∧
    (((w.alloc (.cells A ta)).alloc (.cells B tb)).alloc (.cells C tc)).cell? ⟨w.heap.size + 1, k, none⟩ = B[k]? ∧ (((w.alloc (.cells A ta)).alloc (.cells B tb)).alloc (.cells C tc)).cell? ⟨w.heap.size + 1 + 1, k, none⟩ = C[k]? := by
  have s1 : (w.alloc (.cells A ta)).heap.size = w.heap.size + 1 := by simp
  have s2 : ((w.alloc (.cells A ta)).alloc (.cells B tb)).heap.size = w.heap.size + 1 + 1 := by simp
  have a1 := cell_of_row (w.alloc (.cells A ta)) w.heap.size k A ta (0, 0) (heap_alloc_new w _)
  have b1 := cell_of_row ((w.alloc (.cells A ta)).alloc (.cells B tb)) (w.alloc (.cells A ta)).heap.size k B tb (0, 0) (heap_alloc_new _ _)
  have c1 := cell_of_row (((w.alloc (.cells A ta)).alloc (.cells B tb)).alloc (.cells C tc)) ((w.alloc (.cells A ta)).alloc (.cells B tb)).heap.size k C tc (0, 0) (heap_alloc_new _ _)
  rw [s1] at b1
  rw [s2] at c1
  refine ⟨?_, ?_, c1⟩
  · rw [World.cell?_alloc_lt _ _ ⟨w.heap.size, k, none⟩ (by show w.heap.size < _; omega), World.cell?_alloc_lt _ _ ⟨w.heap.size, k, none⟩ (by show w.heap.size < _; omega)]
    exact a1
  · rw [World.cell?_alloc_lt _ _ ⟨w.heap.size + 1, k, none⟩ (by show w.heap.size + 1 < _; omega)]
    exact b1
/-- The world in which Has looks. -/
def hasW (w : World) : World := ((w.alloc (.cells #[.string ⟨#[116, 114, 117, 101]⟩, .string ⟨#[115, 117, 98]⟩, .string ⟨#[115, 105, 110, 103]⟩, .string ⟨#[102, 108, 97, 103]⟩, .string ⟨#[110, 111, 110, 101]⟩, .string ⟨#[108, 101, 115, 115]⟩, .string ⟨#[112, 108, 117, 115]⟩, .string ⟨#[110, 117, 109]⟩, .string ⟨#[117, 110, 105, 111, 110]⟩, .string ⟨#[105, 110, 116, 101, 114]⟩, .string ⟨#[109, 105, 110, 117, 115]⟩, .string ⟨#[110, 111, 116]⟩, .string ⟨#[97, 110, 100]⟩, .string ⟨#[101, 120]⟩] 9)).alloc (.cells #[.string ⟨#[]⟩, .string ⟨#[65, 66]⟩, .string ⟨#[65]⟩, .string ⟨#[65]⟩, .string ⟨#[65]⟩, .string ⟨#[65, 66]⟩, .string ⟨#[65, 66, 78]⟩, .string ⟨#[65, 78]⟩, .string ⟨#[65, 66, 67]⟩, .string ⟨#[65, 66, 67]⟩, .string ⟨#[65, 66, 67]⟩, .string ⟨#[]⟩, .string ⟨#[]⟩, .string ⟨#[65]⟩] 9)).alloc (.cells #[.int .i64 0, .int .i64 0, .int .i64 0, .int .i64 0, .int .i64 0, .int .i64 0, .int .i64 0, .int .i64 0, .int .i64 0, .int .i64 0, .int .i64 0, .int .i64 1, .int .i64 2, .int .i64 1] 3)
theorem hasW_below (w : World) : Below w.heap.size w (hasW w) := (((Below.refl _ _).alloc (Nat.le_refl _) _).alloc (by simp) _).alloc (by simp; omega) _
theorem hasW_cells (w : World) (k : Nat) (hk : k < shapes.length) : (hasW w).cell? ⟨w.heap.size, k, none⟩ = some (.string ⟨shapes[k].1.toArray⟩) ∧ (hasW w).cell? ⟨w.heap.size + 1, k, none⟩ = some (.string ⟨(hasL shapes[k].2.1 shapes[k].2.2.1).toArray⟩) ∧
    (hasW w).cell? ⟨w.heap.size + 1 + 1, k, none⟩ = some (.int .i64 (shapes[k].2.2.2 : Nat)) := by
  obtain ⟨h1, h2, h3⟩ := three_cells w (shapes.map fun e => Value.string ⟨e.1.toArray⟩).toArray (shapes.map fun e => Value.string ⟨(hasL e.2.1 e.2.2.1).toArray⟩).toArray (shapes.map fun e => Value.int .i64 (e.2.2.2 : Nat)).toArray 9 9 3 k
  refine ⟨h1.trans ?_, h2.trans ?_, h3.trans ?_⟩ <;> simp [hk]

set_option maxHeartbeats 1000000 in
theorem has_any (o : List UInt8) (w : World) : Calls Tryd.prog 37 #[.string ⟨o.toArray⟩] w fun e w' => e = .returned (.tuple #[.string ⟨(hasS o).toArray⟩, .int .i64 ((shapeD o).2.2 : Nat), .bool (shapeOf o).isSome]) ∧ Below w.heap.size w w' := by
  have HB := Lib.hid (hasW_below w)
  have HCC := Lib.hid (hasW_cells w)
  have h14 : shapes.length = 14 := rfl
  have HV : Hid (∀ v num k, shapeOf o = some (v, num, k) → hasS o = hasL v num ∧ (shapeD o).2.2 = k ∧ (shapeOf o).isSome = true) := Lib.hid (fun v num k h => by
    unfold hasS shapeD
    rw [h]
    exact ⟨rfl, rfl, rfl⟩)
  have HN : Hid (shapeOf o = none → hasS o = [] ∧ (shapeD o).2.2 = 0 ∧ (shapeOf o).isSome = false) := Lib.hid (fun h => by
    unfold hasS shapeD
    rw [h]
    exact ⟨rfl, rfl, rfl⟩)
  generalize hasS o = HS at *
  generalize (shapeD o).2.2 = KS at *
  go_enter Tryd.func37, Tryd.ntmps37
  go_wp2_with fail
  go_loopg [8] 14 (fun r i wr => ∃ k : Nat, k ≤ 14 ∧ r = 14 - k ∧ i = .int .i64 (k : Int) ∧ Hid (∀ j (_ : j < k) (hl : j < shapes.length), shapes[j].1 ≠ o) ∧ wr = hasW w)
  case atStart => exact ⟨0, by omega, rfl, rfl, Lib.hid (fun j hj => absurd hj (by omega)), rfl⟩
  case round =>
    obtain ⟨k, hk, hr, rfl, HF, rfl⟩ := hrel
    have HRr := Lib.hid hr
    clear hr
    by_cases hlt : k < 14
    · obtain ⟨c0, c1, c2⟩ := HCC.out k (by omega)
      have HAT := Lib.hid (fun (e : (shapes[k]'(by omega)).1 = o) => shapeD_at (o := o) k (by omega) (fun j hj => HF.out j hj (by omega)) e)
      have HNX := Lib.hid (fun (e : (shapes[k]'(by omega)).1 ≠ o) => (fun j (hj : j < k + 1) (hl : j < shapes.length) => by
        by_cases hjk : j < k
        · exact HF.out j hjk hl
        · have : j = k := by omega
          subst this
          exact e : ∀ j (_ : j < k + 1) (hl : j < shapes.length), shapes[j].1 ≠ o))
      generalize shapes[k]'(by omega) = en at *
      obtain ⟨q, v, num, kk⟩ := en
      simp only at c0 c1 c2 HAT HNX
      have g1 : decide ((k : Int) < 14) = true := decide_eq_true (by omega)
      have g3 : (k : Int) < 14 := by omega
      by_cases hq : q = o
      · subst hq
        have HE := Lib.hid (HV.out v num kk (HAT.out rfl))
        clear HAT HNX HCC HV HN
        go_upto_region 8 with fail
        go_quiet (fail)
        go_wp2_with fail
        go_ret3
        obtain ⟨e1, e2, e3⟩ := HE.out
        refine ⟨?_, Below.drewN_ HB.out _⟩
        rw [e1, e2, e3]
        rfl
      · have g2 : (q == o) = false := beq_false_of_ne hq
        have HE := Lib.hid (HNX.out hq)
        clear HAT HNX hq
        go_wp2_with fail
        go_roundg (14 - (k + 1))
        case measure => have := HRr.out; omega
        case rel => exact ⟨k + 1, by omega, rfl, by go_num, HE, rfl⟩
    · have g1 : decide ((k : Int) < 14) = false := decide_eq_false (by omega)
      have HE := Lib.hid (HN.out (shapeD_no fun j hj => HF.out j (by omega) hj))
      go_wp2_with fail
      go_ret3
      obtain ⟨e1, e2, e3⟩ := HE.out
      refine ⟨?_, HB.out⟩
      rw [e1, e2, e3]
      rfl
end Go.Proofs.YtcgjacaemblnmaaDoor
