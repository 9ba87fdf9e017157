/- The walk over sibylref5.sign (printed by mkrsign.py). -/
import Derived.Test.YteikakoheibnjaaDoorRTerm
namespace Go.Proofs.YteikakoheibnjaaDoor
open Go Go.RowKit

theorem two_rows {w W : World} {r1 r2 : Array Value} (hW : (w.alloc (.cells r1 9)).alloc (.cells r2 9) = W) :
    (∀ i u, r1[i]? = some u → W.cell? ⟨w.heap.size, i, none⟩ = some u) ∧ (∀ i u, r2[i]? = some u → W.cell? ⟨w.heap.size + 1, i, none⟩ = some u) := by
  subst hW
  constructor
  · intro i u hu
    have hb : Below (w.heap.size + 1) (w.alloc (.cells r1 9)) ((w.alloc (.cells r1 9)).alloc (.cells r2 9)) := (Below.refl _ _).alloc (by simp) _
    exact (hb.cell (p := ⟨w.heap.size, i, none⟩) (Nat.lt_succ_self _)).trans ((cell_of_row _ w.heap.size i _ 9 (0, 0) (heap_alloc_new w _)).trans hu)
  · intro i u hu
    have hz : (w.alloc (.cells r1 9)).heap.size = w.heap.size + 1 := by simp
    rw [← hz]
    exact (cell_of_row _ _ i _ 9 (0, 0) (heap_alloc_new _ _)).trans hu
set_option maxHeartbeats 4000000 in
theorem rsign_any (o : List UInt8) (ho : ¬ o = nMinus) (w : World) :
    Calls Tryd.prog 32 #[.string ⟨o.toArray⟩] w fun e w' => e = .returned (.string ⟨(signOf o).toArray⟩) ∧ Below w.heap.size w w' := by
  have HV := Lib.hid (show ∀ k : Nat, k = 8 → (∀ j, j < k → ∀ x, [[97, 110, 100], [111, 114], [105, 109, 112], [105, 102, 102], [101, 113], [110, 101], [108, 116], [108, 101]][j]? = some x → ¬ x = o) → o = signOf o by
    intro k hk h
    subst hk
    unfold signOf
    rw [if_neg (fun e => h 0 (by omega) _ rfl e.symm), if_neg (fun e => h 1 (by omega) _ rfl e.symm), if_neg (fun e => h 2 (by omega) _ rfl e.symm), if_neg (fun e => h 3 (by omega) _ rfl e.symm), if_neg (fun e => h 4 (by omega) _ rfl e.symm), if_neg (fun e => h 5 (by omega) _ rfl e.symm), if_neg (fun e => h 6 (by omega) _ rfl e.symm), if_neg (fun e => h 7 (by omega) _ rfl e.symm), if_neg ho])
  go_enter Tryd.func32, Tryd.ntmps32
  go_wp2_with fail
  generalize hW : World.alloc (World.alloc w _) _ = W
  have c0 : W.cell? ⟨w.heap.size, 0, none⟩ = some (.string ⟨#[97, 110, 100]⟩) := (two_rows hW).1 0 _ rfl
  have c1 : W.cell? ⟨w.heap.size, 1, none⟩ = some (.string ⟨#[111, 114]⟩) := (two_rows hW).1 1 _ rfl
  have c2 : W.cell? ⟨w.heap.size, 2, none⟩ = some (.string ⟨#[105, 109, 112]⟩) := (two_rows hW).1 2 _ rfl
  have c3 : W.cell? ⟨w.heap.size, 3, none⟩ = some (.string ⟨#[105, 102, 102]⟩) := (two_rows hW).1 3 _ rfl
  have c4 : W.cell? ⟨w.heap.size, 4, none⟩ = some (.string ⟨#[101, 113]⟩) := (two_rows hW).1 4 _ rfl
  have c5 : W.cell? ⟨w.heap.size, 5, none⟩ = some (.string ⟨#[110, 101]⟩) := (two_rows hW).1 5 _ rfl
  have c6 : W.cell? ⟨w.heap.size, 6, none⟩ = some (.string ⟨#[108, 116]⟩) := (two_rows hW).1 6 _ rfl
  have c7 : W.cell? ⟨w.heap.size, 7, none⟩ = some (.string ⟨#[108, 101]⟩) := (two_rows hW).1 7 _ rfl
  have d0 : W.cell? ⟨w.heap.size + 1, 0, none⟩ = some (.string ⟨#[38]⟩) := (two_rows hW).2 0 _ rfl
  have d1 : W.cell? ⟨w.heap.size + 1, 1, none⟩ = some (.string ⟨#[124]⟩) := (two_rows hW).2 1 _ rfl
  have d2 : W.cell? ⟨w.heap.size + 1, 2, none⟩ = some (.string ⟨#[61, 62]⟩) := (two_rows hW).2 2 _ rfl
  have d3 : W.cell? ⟨w.heap.size + 1, 3, none⟩ = some (.string ⟨#[60, 61, 62]⟩) := (two_rows hW).2 3 _ rfl
  have d4 : W.cell? ⟨w.heap.size + 1, 4, none⟩ = some (.string ⟨#[61]⟩) := (two_rows hW).2 4 _ rfl
  have d5 : W.cell? ⟨w.heap.size + 1, 5, none⟩ = some (.string ⟨#[126, 61]⟩) := (two_rows hW).2 5 _ rfl
  have d6 : W.cell? ⟨w.heap.size + 1, 6, none⟩ = some (.string ⟨#[60]⟩) := (two_rows hW).2 6 _ rfl
  have d7 : W.cell? ⟨w.heap.size + 1, 7, none⟩ = some (.string ⟨#[60, 61]⟩) := (two_rows hW).2 7 _ rfl
  have HB := Lib.hid (show Below w.heap.size w W by rw [← hW]; exact ((Below.refl w.heap.size w).alloc (Nat.le_refl _) _).alloc (by simp) _)
  clear hW
  go_loopg [5] 8 (fun r i wr => ∃ k : Nat, k ≤ 8 ∧ r = 8 - k ∧ i = .int .i64 (k : Int) ∧ wr = W ∧ Hid (∀ j, j < k → ∀ x, [[97, 110, 100], [111, 114], [105, 109, 112], [105, 102, 102], [101, 113], [110, 101], [108, 116], [108, 101]][j]? = some x → ¬ x = o))
  case atStart => exact ⟨0, by omega, rfl, rfl, rfl, Lib.hid (fun j hj => absurd hj (by omega))⟩
  case round =>
    obtain ⟨k, hk, hr, rfl, rfl, HN⟩ := hrel
    have HRr := Lib.hid hr
    clear hr
    have h9 : k = 0 ∨ k = 1 ∨ k = 2 ∨ k = 3 ∨ k = 4 ∨ k = 5 ∨ k = 6 ∨ k = 7 ∨ k = 8 := by omega
    rcases h9 with rfl | rfl | rfl | rfl | rfl | rfl | rfl | rfl | rfl
    · by_cases h : [97, 110, 100] = o
      · have g : ([97, 110, 100] == o) = true := by rw [← h]; rfl
        have HF := Lib.hid (show [38] = signOf o by rw [← h]; decide)
        clear h
        go_wp2_with fail
        go_ret
        exact ⟨congrArg (fun x : List UInt8 => Ending.returned (.string ⟨x.toArray⟩)) HF.out, HB.out⟩
      · have g : ([97, 110, 100] == o) = false := beq_false_of_ne h
        have HN2 := Lib.hid (show ∀ j, j < 1 → ∀ x, [[97, 110, 100], [111, 114], [105, 109, 112], [105, 102, 102], [101, 113], [110, 101], [108, 116], [108, 101]][j]? = some x → ¬ x = o by
          intro j hj x hx
          rcases Nat.lt_or_ge j 0 with h1 | h1
          · exact HN.out j h1 x hx
          · have : j = 0 := by omega
            subst this
            injection hx with hx
            rw [← hx]
            exact h)
        clear h
        go_wp2_with fail
        go_roundg (8 - 1)
        case measure => have := HRr.out; omega
        case rel => exact ⟨1, by omega, rfl, rfl, rfl, HN2⟩
    · by_cases h : [111, 114] = o
      · have g : ([111, 114] == o) = true := by rw [← h]; rfl
        have HF := Lib.hid (show [124] = signOf o by rw [← h]; decide)
        clear h
        go_wp2_with fail
        go_ret
        exact ⟨congrArg (fun x : List UInt8 => Ending.returned (.string ⟨x.toArray⟩)) HF.out, HB.out⟩
      · have g : ([111, 114] == o) = false := beq_false_of_ne h
        have HN2 := Lib.hid (show ∀ j, j < 2 → ∀ x, [[97, 110, 100], [111, 114], [105, 109, 112], [105, 102, 102], [101, 113], [110, 101], [108, 116], [108, 101]][j]? = some x → ¬ x = o by
          intro j hj x hx
          rcases Nat.lt_or_ge j 1 with h1 | h1
          · exact HN.out j h1 x hx
          · have : j = 1 := by omega
            subst this
            injection hx with hx
            rw [← hx]
            exact h)
        clear h
        go_wp2_with fail
        go_roundg (8 - 2)
        case measure => have := HRr.out; omega
        case rel => exact ⟨2, by omega, rfl, rfl, rfl, HN2⟩
    · by_cases h : [105, 109, 112] = o
      · have g : ([105, 109, 112] == o) = true := by rw [← h]; rfl
        have HF := Lib.hid (show [61, 62] = signOf o by rw [← h]; decide)
        clear h
        go_wp2_with fail
        go_ret
        exact ⟨congrArg (fun x : List UInt8 => Ending.returned (.string ⟨x.toArray⟩)) HF.out, HB.out⟩
      · have g : ([105, 109, 112] == o) = false := beq_false_of_ne h
        have HN2 := Lib.hid (show ∀ j, j < 3 → ∀ x, [[97, 110, 100], [111, 114], [105, 109, 112], [105, 102, 102], [101, 113], [110, 101], [108, 116], [108, 101]][j]? = some x → ¬ x = o by
          intro j hj x hx
          rcases Nat.lt_or_ge j 2 with h1 | h1
          · exact HN.out j h1 x hx
          · have : j = 2 := by omega
            subst this
            injection hx with hx
            rw [← hx]
            exact h)
        clear h
        go_wp2_with fail
        go_roundg (8 - 3)
        case measure => have := HRr.out; omega
        case rel => exact ⟨3, by omega, rfl, rfl, rfl, HN2⟩
    · by_cases h : [105, 102, 102] = o
      · have g : ([105, 102, 102] == o) = true := by rw [← h]; rfl
        have HF := Lib.hid (show [60, 61, 62] = signOf o by rw [← h]; decide)
        clear h
        go_wp2_with fail
        go_ret
        exact ⟨congrArg (fun x : List UInt8 => Ending.returned (.string ⟨x.toArray⟩)) HF.out, HB.out⟩
      · have g : ([105, 102, 102] == o) = false := beq_false_of_ne h
        have HN2 := Lib.hid (show ∀ j, j < 4 → ∀ x, [[97, 110, 100], [111, 114], [105, 109, 112], [105, 102, 102], [101, 113], [110, 101], [108, 116], [108, 101]][j]? = some x → ¬ x = o by
          intro j hj x hx
          rcases Nat.lt_or_ge j 3 with h1 | h1
          · exact HN.out j h1 x hx
          · have : j = 3 := by omega
            subst this
            injection hx with hx
            rw [← hx]
            exact h)
        clear h
        go_wp2_with fail
        go_roundg (8 - 4)
        case measure => have := HRr.out; omega
        case rel => exact ⟨4, by omega, rfl, rfl, rfl, HN2⟩
    · by_cases h : [101, 113] = o
      · have g : ([101, 113] == o) = true := by rw [← h]; rfl
        have HF := Lib.hid (show [61] = signOf o by rw [← h]; decide)
        clear h
        go_wp2_with fail
        go_ret
        exact ⟨congrArg (fun x : List UInt8 => Ending.returned (.string ⟨x.toArray⟩)) HF.out, HB.out⟩
      · have g : ([101, 113] == o) = false := beq_false_of_ne h
        have HN2 := Lib.hid (show ∀ j, j < 5 → ∀ x, [[97, 110, 100], [111, 114], [105, 109, 112], [105, 102, 102], [101, 113], [110, 101], [108, 116], [108, 101]][j]? = some x → ¬ x = o by
          intro j hj x hx
          rcases Nat.lt_or_ge j 4 with h1 | h1
          · exact HN.out j h1 x hx
          · have : j = 4 := by omega
            subst this
            injection hx with hx
            rw [← hx]
            exact h)
        clear h
        go_wp2_with fail
        go_roundg (8 - 5)
        case measure => have := HRr.out; omega
        case rel => exact ⟨5, by omega, rfl, rfl, rfl, HN2⟩
    · by_cases h : [110, 101] = o
      · have g : ([110, 101] == o) = true := by rw [← h]; rfl
        have HF := Lib.hid (show [126, 61] = signOf o by rw [← h]; decide)
        clear h
        go_wp2_with fail
        go_ret
        exact ⟨congrArg (fun x : List UInt8 => Ending.returned (.string ⟨x.toArray⟩)) HF.out, HB.out⟩
      · have g : ([110, 101] == o) = false := beq_false_of_ne h
        have HN2 := Lib.hid (show ∀ j, j < 6 → ∀ x, [[97, 110, 100], [111, 114], [105, 109, 112], [105, 102, 102], [101, 113], [110, 101], [108, 116], [108, 101]][j]? = some x → ¬ x = o by
          intro j hj x hx
          rcases Nat.lt_or_ge j 5 with h1 | h1
          · exact HN.out j h1 x hx
          · have : j = 5 := by omega
            subst this
            injection hx with hx
            rw [← hx]
            exact h)
        clear h
        go_wp2_with fail
        go_roundg (8 - 6)
        case measure => have := HRr.out; omega
        case rel => exact ⟨6, by omega, rfl, rfl, rfl, HN2⟩
    · by_cases h : [108, 116] = o
      · have g : ([108, 116] == o) = true := by rw [← h]; rfl
        have HF := Lib.hid (show [60] = signOf o by rw [← h]; decide)
        clear h
        go_wp2_with fail
        go_ret
        exact ⟨congrArg (fun x : List UInt8 => Ending.returned (.string ⟨x.toArray⟩)) HF.out, HB.out⟩
      · have g : ([108, 116] == o) = false := beq_false_of_ne h
        have HN2 := Lib.hid (show ∀ j, j < 7 → ∀ x, [[97, 110, 100], [111, 114], [105, 109, 112], [105, 102, 102], [101, 113], [110, 101], [108, 116], [108, 101]][j]? = some x → ¬ x = o by
          intro j hj x hx
          rcases Nat.lt_or_ge j 6 with h1 | h1
          · exact HN.out j h1 x hx
          · have : j = 6 := by omega
            subst this
            injection hx with hx
            rw [← hx]
            exact h)
        clear h
        go_wp2_with fail
        go_roundg (8 - 7)
        case measure => have := HRr.out; omega
        case rel => exact ⟨7, by omega, rfl, rfl, rfl, HN2⟩
    · by_cases h : [108, 101] = o
      · have g : ([108, 101] == o) = true := by rw [← h]; rfl
        have HF := Lib.hid (show [60, 61] = signOf o by rw [← h]; decide)
        clear h
        go_wp2_with fail
        go_ret
        exact ⟨congrArg (fun x : List UInt8 => Ending.returned (.string ⟨x.toArray⟩)) HF.out, HB.out⟩
      · have g : ([108, 101] == o) = false := beq_false_of_ne h
        have HN2 := Lib.hid (show ∀ j, j < 8 → ∀ x, [[97, 110, 100], [111, 114], [105, 109, 112], [105, 102, 102], [101, 113], [110, 101], [108, 116], [108, 101]][j]? = some x → ¬ x = o by
          intro j hj x hx
          rcases Nat.lt_or_ge j 7 with h1 | h1
          · exact HN.out j h1 x hx
          · have : j = 7 := by omega
            subst this
            injection hx with hx
            rw [← hx]
            exact h)
        clear h
        go_wp2_with fail
        go_roundg (8 - 8)
        case measure => have := HRr.out; omega
        case rel => exact ⟨8, by omega, rfl, rfl, rfl, HN2⟩
    · have HF := Lib.hid (HV.out 8 rfl HN.out)
      go_wp2_with fail
      go_ret
      exact ⟨congrArg (fun x : List UInt8 => Ending.returned (.string ⟨x.toArray⟩)) HF.out, HB.out⟩
end Go.Proofs.YteikakoheibnjaaDoor
