/- The walks over sibylref2.Words and word. -/
import Derived.Test.YteikakoheibnjaaDoorAt
namespace Go.Proofs.YteikakoheibnjaaDoor
open Go Go.RowKit

/-- Texts as cells. -/
def strVs (l : List (List UInt8)) : List Value := l.map fun x => .string ⟨x.toArray⟩
theorem strVs_at (l : List (List UInt8)) (k : Nat) (hk : k < l.length) : (strVs l)[k]? = some (.string ⟨(l[k]).toArray⟩) := by simp [strVs, hk]
theorem words_any (w : World) : Calls Tryd.prog 138 #[] w fun e w' => e = .returned (.slice (some ⟨w.heap.size, 0, none⟩) 17 17) ∧ w' = w.alloc (.cells (strVs wordL).toArray 9) := by
  go_enter Tryd.func138, Tryd.ntmps138
  go_wp2_with fail
  go_ret
  exact ⟨rfl, rfl⟩
set_option maxHeartbeats 1000000 in
theorem word_any (l : List UInt8) (w : World) : Calls Tryd.prog 118 #[.string ⟨l.toArray⟩] w fun e w' => e = .returned (.bool (decide (l ∈ wordL))) ∧ Below w.heap.size w w' := by
  have HB := Lib.hid ((Below.refl w.heap.size w).alloc (Nat.le_refl _) (.cells (strVs wordL).toArray 9))
  have HC := Lib.hid (fun k (hk : k < wordL.length) => (show (w.alloc (.cells (strVs wordL).toArray 9)).cell? ⟨w.heap.size, k, none⟩ = some (.string ⟨(wordL[k]).toArray⟩) by
    rw [cell_of_row (w.alloc (.cells (strVs wordL).toArray 9)) w.heap.size k _ 9 (0, 0) (heap_alloc_new w _), List.getElem?_toArray]
    exact strVs_at wordL k hk))
  have HW := Lib.hid (fun W => words_any W)
  have h17 : wordL.length = 17 := rfl
  have HL := Lib.hid h17
  clear h17
  go_enter Tryd.func118, Tryd.ntmps118
  go_wp2_with (
    go_at_call 138
    refine (HW.out _).mono ?_
    rintro e w2 ⟨rfl, rfl⟩)
  generalize w.alloc (.cells (strVs wordL).toArray 9) = W at *
  go_loopg [4] 17 (fun g i wr => ∃ k : Nat, k ≤ 17 ∧ g = 17 - k ∧ i = .int .i64 (k : Int) ∧ Hid (¬ l ∈ wordL.take k) ∧ wr = W)
  case atStart => exact ⟨0, Nat.zero_le _, rfl, rfl, Lib.hid (by simp), rfl⟩
  case round =>
    obtain ⟨k, hk, hg, rfl, HN, rfl⟩ := hrel
    have HG := Lib.hid hg
    clear hg
    by_cases hlt : k < 17
    · have hkl : k < wordL.length := by rw [HL.out]; exact hlt
      have c0 := HC.out k hkl
      have HT := Lib.hid (List.take_succ_eq_append_getElem hkl)
      have HM := Lib.hid (List.getElem_mem hkl)
      generalize wordL[k]'hkl = x at *
      have g1 : decide ((k : Int) < 17) = true := decide_eq_true (by omega)
      by_cases hx : x = l
      · have HF := Lib.hid (show true = decide (l ∈ wordL) by rw [← hx]; exact (decide_eq_true HM.out).symm)
        have g2 : (x == l) = true := by rw [hx]; exact beq_self_eq_true _
        clear hx
        go_wp2_with fail
        go_ret
        exact ⟨congrArg (fun x : Bool => Ending.returned (.bool x)) HF.out, HB.out⟩
      · have g2 : (x == l) = false := beq_false_of_ne hx
        have HX := Lib.hid hx
        clear hx
        go_wp2_with fail
        go_roundg (17 - (k + 1))
        case measure => have := HG.out; omega
        case rel => exact ⟨k + 1, by omega, rfl, by go_num, Lib.hid (by
          rw [HT.out, List.mem_append, List.mem_singleton]
          rintro (h | h)
          · exact HN.out h
          · exact HX.out h.symm), rfl⟩
    · have g1 : decide ((k : Int) < 17) = false := decide_eq_false (by omega)
      have HF := Lib.hid (show false = decide (l ∈ wordL) by
        symm
        rw [decide_eq_false_iff_not]
        have := HN.out
        rw [List.take_of_length_le (by rw [HL.out]; omega)] at this
        exact this)
      go_wp2_with fail
      go_ret
      exact ⟨congrArg (fun x : Bool => Ending.returned (.bool x)) HF.out, HB.out⟩
end Go.Proofs.YteikakoheibnjaaDoor
