/- The walks over sibylref5.Digits, at 0 .. 20. -/
import Derived.Test.YtcgjacaemblnmaaDoorShow
import Derived.Laws.IdiomStrings
namespace Go.Proofs.YtcgjacaemblnmaaDoor
open Go Go.RowKit

theorem dig_nat : ∀ d : Fin 10, (UInt8.ofNat (48 + d.val)).toNat = 48 + d.val := by decide
theorem dec_one : ∀ i : Fin 10, dec i.val = [UInt8.ofNat (48 + i.val % 10)] := by decide
theorem dec_two : ∀ i : Fin 21, 10 ≤ i.val → dec i.val = dec (i.val / 10) ++ [UInt8.ofNat (48 + i.val % 10)] := by decide
/-- One byte as a text. -/
theorem conv_one (w : World) (i : Nat) : (convert 58 9 (.slice (some ⟨w.heap.size, 0, none⟩) 1 1)).run Tryd.prog (w.alloc (.cells #[.int .u8 (48 + (i : Int) % 10)] 5)) = .ok (.string ⟨[UInt8.ofNat (48 + i % 10)].toArray⟩) (w.alloc (.cells #[.int .u8 (48 + (i : Int) % 10)] 5)) := by
  refine run_convert_bytes_back _ 58 9 5 ⟨w.heap.size, 0, none⟩ 1 [UInt8.ofNat (48 + i % 10)] Tryd.underlying58 Tryd.underlying5 Tryd.underlying9 fun j hj => ?_
  have h0 : j = 0 := by simpa using hj
  subst h0
  have e := dig_nat ⟨i % 10, Nat.mod_lt _ (by decide)⟩
  simp only at e
  simp only [List.getElem_cons_zero]
  rw [e]
  have e2 : ((48 + i % 10 : Nat) : Int) = 48 + (i : Int) % 10 := by omega
  rw [e2]
  exact (cell_of_row _ w.heap.size 0 _ 5 (0, 0) (heap_alloc_new w _)).trans rfl

theorem digit_any (i : Nat) (hi : i < 10) (w : World) : Calls Tryd.prog 38 #[.int .i64 i] w fun e w' => e = .returned (.string ⟨(dec i).toArray⟩) ∧ Below w.heap.size w w' := by
  have g : decide ((i : Int) < 10) = true := decide_eq_true (by omega)
  have hconv := conv_one w i
  have hd := dec_one ⟨i, hi⟩
  simp only at hd
  rw [hd]
  clear hd
  generalize UInt8.ofNat (48 + i % 10) = B at *
  go_enter Tryd.func38, Tryd.ntmps38
  go_wp2_with fail
  go_ret
  exact ⟨rfl, (Below.refl _ _).alloc (Nat.le_refl _) _⟩
theorem digits_any (i : Nat) (hi : i < 21) (w : World) : Calls Tryd.prog 38 #[.int .i64 i] w fun e w' => e = .returned (.string ⟨(dec i).toArray⟩) ∧ Below w.heap.size w w' := by
  by_cases h10 : i < 10
  · exact digit_any i h10 w
  · have g : decide ((i : Int) < 10) = false := decide_eq_false (by omega)
    have hconv := conv_one w i
    have hd := dec_two ⟨i, hi⟩ (by show 10 ≤ i; omega)
    simp only at hd
    rw [hd]
    clear hd
    generalize UInt8.ofNat (48 + i % 10) = B at *
    have HH : Hid (∀ W, Calls Tryd.prog 38 #[.int .i64 ((i : Int) / 10)] W fun e w' => e = .returned (.string ⟨(dec (i / 10)).toArray⟩) ∧ Below W.heap.size W w') := Lib.hid (fun W => by
      have := digit_any (i / 10) (by omega) W
      rw [show ((i / 10 : Nat) : Int) = (i : Int) / 10 by omega] at this
      exact this)
    have hl : (dec (i / 10)).length ≤ 2 := dec_len ⟨i / 10, by omega⟩
    generalize dec (i / 10) = D at *
    obtain ⟨T, hadd, hT⟩ := add_ex ⟨D.toArray⟩ ⟨[B].toArray⟩ (X := D) (Y := [B]) rfl rfl (by simp; omega)
    have HT := Lib.hid (bytes_of hT)
    clear hT hl
    go_enter Tryd.func38, Tryd.ntmps38
    go_wp2_with (
      go_at_call 38
      refine (HH.out _).mono ?_
      rintro e w2 ⟨rfl, hb2⟩)
    go_ret
    exact ⟨congrArg (fun x : ByteArray => Ending.returned (.string x)) HT.out, ((Below.refl w.heap.size w).alloc (Nat.le_refl _) _).trans (hb2.mono (by simp))⟩
end Go.Proofs.YtcgjacaemblnmaaDoor
