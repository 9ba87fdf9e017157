/- The walk over sibylref9.field. -/
import Derived.Test.YtcgjacaemblnmaaDoorAt
namespace Go.Proofs.YtcgjacaemblnmaaDoor
open Go Go.RowKit

def fieldR (s : List UInt8) (k : Nat) (v n : Int) : Bool := if s.any (fun b => b.toNat == k) then decide (0 ≤ v) && decide (v < n) else v == 0

set_option maxHeartbeats 1000000 in
theorem field_any (s : List UInt8) (k : Nat) (v n : Int) (w : World) (hl : s.length ≤ 4) : Calls Tryd.prog 47 #[.string ⟨s.toArray⟩, .int .u8 k, .int .i64 v, .int .i64 n] w fun e w' => e = .returned (.bool (fieldR s k v n)) ∧ w = w' := by
  have hss : (⟨s.toArray⟩ : ByteArray).size = s.length := by simp [ByteArray.size]
  go_enter Tryd.func47, Tryd.ntmps47
  go_wp2_with fail
  go_loopg [9] s.length (fun r i wr => ∃ j : Nat, j ≤ s.length ∧ r = s.length - j ∧ i = .int .i64 (j : Int) ∧ Hid (∀ m (_ : m < j) (h : m < s.length), s[m].toNat ≠ k) ∧ wr = w)
  case atStart => exact ⟨0, by omega, rfl, rfl, Lib.hid (fun m hm => absurd hm (by omega)), rfl⟩
  case round =>
    obtain ⟨j, hj, hr, rfl, HF, rfl⟩ := hrel
    have HRr := Lib.hid hr
    clear hr
    by_cases hlt : j < s.length
    · have g1 : decide ((j : Int) < (s.length : Int)) = true := decide_eq_true (by omega)
      have g3 : (j : Int) < (s.length : Int) := by omega
      have hsz : j < (⟨s.toArray⟩ : ByteArray).size := by omega
      by_cases hb : s[j].toNat = k
      · have gb : (((((⟨s.toArray⟩ : ByteArray)[j]'hsz).toNat : Nat) : Int) == (k : Int)) = true := by
          show (((s[j].toNat : Nat) : Int) == (k : Int)) = true
          rw [hb]
          exact beq_self_eq_true _
        have HV := Lib.hid (show fieldR s k v n = (decide (0 ≤ v) && decide (v < n)) by
          unfold fieldR
          rw [if_pos (List.any_eq_true.2 ⟨s[j], List.getElem_mem hlt, by rw [hb]; exact beq_self_eq_true k⟩)])
        clear hb
        by_cases hv : 0 ≤ v
        · have gv : decide (0 ≤ v) = true := decide_eq_true hv
          rw [gv, Bool.true_and] at HV
          go_wp2_with fail
          go_ret
          exact ⟨congrArg (fun x : Bool => Ending.returned (.bool x)) HV.out.symm, rfl⟩
        · have gv : decide (0 ≤ v) = false := decide_eq_false hv
          rw [gv, Bool.false_and] at HV
          go_wp2_with fail
          go_ret
          exact ⟨congrArg (fun x : Bool => Ending.returned (.bool x)) HV.out.symm, rfl⟩
      · have gb : (((((⟨s.toArray⟩ : ByteArray)[j]'hsz).toNat : Nat) : Int) == (k : Int)) = false := by
          show (((s[j].toNat : Nat) : Int) == (k : Int)) = false
          exact beq_false_of_ne (by omega)
        have HE := Lib.hid (fun m (hm : m < j + 1) (h : m < s.length) => by
          by_cases hmj : m < j
          · exact HF.out m hmj h
          · have : m = j := by omega
            subst this
            exact hb : ∀ m (_ : m < j + 1) (h : m < s.length), s[m].toNat ≠ k)
        clear hb
        go_wp2_with fail
        go_roundg (s.length - (j + 1))
        case measure => have := HRr.out; omega
        case rel => exact ⟨j + 1, by omega, rfl, by go_num, HE, rfl⟩
    · have g1 : decide ((j : Int) < (s.length : Int)) = false := decide_eq_false (by omega)
      have HV := Lib.hid (show fieldR s k v n = (v == 0) by
        unfold fieldR
        rw [if_neg]
        intro h
        obtain ⟨b, hb, e⟩ := List.any_eq_true.1 h
        obtain ⟨m, hm, rfl⟩ := List.getElem_of_mem hb
        exact HF.out m (by omega) hm (by simpa using e))
      go_wp2_with fail
      go_ret
      exact ⟨congrArg (fun x : Bool => Ending.returned (.bool x)) HV.out.symm, rfl⟩
end Go.Proofs.YtcgjacaemblnmaaDoor
