/- The walk over eval.Free, by slices.ContainsFunc at its closure (32). -/
import Derived.Test.YtcgjacaemblnmaaDoorAnyK
namespace Go.Proofs.YtcgjacaemblnmaaDoor
open Go Go.RowKit

set_option maxHeartbeats 1000000 in
theorem index32 (P : Core → Bool) (o : List UInt8) (a b c n : Int) (ks : List Core) (A : Option Addr) (cap : Nat) (w : World) (h : CoreAt w w.heap.size (.node o a b c n ks) A cap)
    (hf : ∀ k ∈ ks, ∀ (A : Option Addr) (cap : Nat) (W : World), CoreAt W W.heap.size k A cap →
      Calls Tryd.prog 32 #[coreW k.op k.va k.vb k.vc k.vn k.kids.length A cap] W fun e w' => e = .returned (.bool (P k)) ∧ Below W.heap.size W w') :
    Calls Tryd.prog 46 #[.slice A ks.length cap, .func (.func 32) #[] #[]] w fun e w' => ∃ i : Int, e = .returned (.int .i64 i) ∧ decide (0 ≤ i) = ks.any P ∧ Below w.heap.size w w' := by
  have HC := Lib.hid h
  have HF := Lib.hid hf
  have hl := h.len
  simp only [Core.kids] at hl
  obtain ⟨hl1, hl2, _⟩ := hl
  clear h hf
  go_enter Tryd.func46, Tryd.ntmps46
  go_wp2_with fail
  go_loopg [8] ks.length (fun r i wr => ∃ k : Nat, k ≤ ks.length ∧ r = ks.length - k ∧ i = .int .i64 (k : Int) ∧ (ks.take k).any P = false ∧ Below w.heap.size w wr)
  case atStart => exact ⟨0, Nat.zero_le _, rfl, rfl, by simp, Below.refl _ _⟩
  case round =>
    obtain ⟨k, hk, hr, rfl, hp, hb⟩ := hrel
    have HRr := Lib.hid hr
    have HP := Lib.hid hp
    have HB := Lib.hid hb
    have hs1 := hb.size
    clear hr hb hp
    by_cases hlt : k < ks.length
    · obtain ⟨bb, off, A', cap', rfl, hlo, hcells, hkid⟩ := HC.out.kid k hlt
      simp only [Core.kids] at hcells hkid
      have HS := Lib.hid (any_take P ks k hlt)
      have HI := Lib.hid (HF.out ks[k] (List.getElem_mem hlt))
      have HM := Lib.hid (fun hp => any_mem (P := P) hlt hp)
      generalize hx : ks[k] = x at *
      clear hx
      have g1 : decide ((k : Int) < (ks.length : Int)) = true := decide_eq_true (by omega)
      cases x with
      | node o' a' b' c' n' ks' =>
        obtain ⟨c0, c1, c2, c3, c4, c5⟩ := kid_cells hlo hcells HB.out
        have HK := Lib.hid hkid
        clear hcells hkid HF
        cases hpv : P (.node o' a' b' c' n' ks') with
        | true =>
          rw [hpv] at HI
          go_wp2_with (
            go_at_call 32
            refine (HI.out A' cap' _ (HK.out.later HB.out hs1)).mono ?_
            rintro e w2 ⟨rfl, hb2⟩
            have HB2 := Lib.hid (HB.out.trans (hb2.mono hs1))
            clear hb2)
          go_ret
          refine ⟨_, rfl, ?_, HB2.out⟩
          rw [HM.out hpv, decide_eq_true (by omega : (0 : Int) ≤ (k : Int))]
        | false =>
          rw [hpv] at HI
          go_wp2_with (
            go_at_call 32
            refine (HI.out A' cap' _ (HK.out.later HB.out hs1)).mono ?_
            rintro e w2 ⟨rfl, hb2⟩
            have HB2 := Lib.hid (HB.out.trans (hb2.mono hs1))
            clear hb2)
          go_roundg (ks.length - (k + 1))
          case measure => have := HRr.out; omega
          case rel => exact ⟨k + 1, by omega, rfl, by go_num, by rw [HS.out, HP.out, hpv]; rfl, HB2.out⟩
    · have g1 : decide ((k : Int) < (ks.length : Int)) = false := decide_eq_false (by omega)
      go_wp2_with fail
      go_ret
      have hkk : k = ks.length := by omega
      refine ⟨_, rfl, ?_, HB.out⟩
      have := HP.out
      rw [hkk, List.take_length] at this
      rw [this]
      rfl

theorem contains32 (P : Core → Bool) (o : List UInt8) (a b c n : Int) (ks : List Core) (A : Option Addr) (cap : Nat) (w : World) (h : CoreAt w w.heap.size (.node o a b c n ks) A cap)
    (hf : ∀ k ∈ ks, ∀ (A : Option Addr) (cap : Nat) (W : World), CoreAt W W.heap.size k A cap →
      Calls Tryd.prog 32 #[coreW k.op k.va k.vb k.vc k.vn k.kids.length A cap] W fun e w' => e = .returned (.bool (P k)) ∧ Below W.heap.size W w') :
    Calls Tryd.prog 31 #[.slice A ks.length cap, .func (.func 32) #[] #[]] w fun e w' => e = .returned (.bool (ks.any P)) ∧ Below w.heap.size w w' := by
  have HI := Lib.hid (index32 P o a b c n ks A cap w h hf)
  clear h hf
  generalize ks.any P = r at *
  go_enter Tryd.func31, Tryd.ntmps31
  go_wp2_with (
    go_at_call 46
    refine HI.out.mono ?_
    rintro e w2 ⟨i, rfl, hi, hb⟩)
  go_ret
  exact ⟨rfl, hb⟩

theorem not_any (P : Core → Bool) : ∀ ks : List Core, (!ks.any fun k => !P k) = ks.all P
  | [] => rfl
  | x :: r => by
    have := not_any P r
    simp only [List.any_cons, List.all_cons, Bool.not_or, Bool.not_not]
    rw [this]
theorem freeL_all : ∀ ks : List Core, freeL ks = ks.all freeB
  | [] => by simp [freeL]
  | x :: r => by
    unfold freeL
    rw [freeL_all r, List.all_cons]

theorem cl32 (k : Core) (hk : ∀ (A : Option Addr) (cap : Nat) (W : World), CoreAt W W.heap.size k A cap →
      Calls Tryd.prog 17 #[coreW k.op k.va k.vb k.vc k.vn k.kids.length A cap] W fun e w' => e = .returned (.bool (freeB k)) ∧ Below W.heap.size W w') (A : Option Addr) (cap : Nat) (w : World) (h : CoreAt w w.heap.size k A cap) :
    Calls Tryd.prog 32 #[coreW k.op k.va k.vb k.vc k.vn k.kids.length A cap] w fun e w' => e = .returned (.bool (!freeB k)) ∧ Below w.heap.size w w' := by
  have HI := Lib.hid hk
  have HC := Lib.hid h
  clear hk h
  cases k with
  | node o a b c n ks =>
    simp only [coreW, Core.op, Core.va, Core.vb, Core.vc, Core.vn, Core.kids] at HI ⊢
    have HB1 := Lib.hid ((Below.refl w.heap.size w).alloc (Nat.le_refl _) (.cells #[.string ⟨o.toArray⟩, .int .i64 a, .int .i64 b, .int .i64 c, .int .i64 n, .slice A ks.length cap] 24))
    generalize freeB (.node o a b c n ks) = R at *
    go_enter Tryd.func32, Tryd.ntmps32
    go_wp2_with (
      go_at_call 17
      refine (HI.out A cap _ (HC.out.later HB1.out (by simp))).mono ?_
      rintro e w2 ⟨rfl, hb2⟩)
    go_ret
    exact ⟨rfl, HB1.out.trans (hb2.mono (by simp))⟩

set_option maxHeartbeats 1000000 in
theorem Free_any : ∀ (t : Core) (A : Option Addr) (cap : Nat) (w : World), CoreAt w w.heap.size t A cap →
    Calls Tryd.prog 17 #[coreW t.op t.va t.vb t.vc t.vn t.kids.length A cap] w fun e w' => e = .returned (.bool (freeB t)) ∧ Below w.heap.size w w' := by
  intro t
  induction t using Core.ind with
  | h o a b c n ks ih =>
    intro A cap w h
    have HC := Lib.hid h
    have HV := Lib.hid (show freeB (.node o a b c n ks) = (freeL ks && !decide (o = oEx)) by rw [freeB])
    have HB1 := Lib.hid ((Below.refl w.heap.size w).alloc (Nat.le_refl _) (.cells #[.string ⟨o.toArray⟩, .int .i64 a, .int .i64 b, .int .i64 c, .int .i64 n, .slice A ks.length cap] 24))
    have HA := Lib.hid (fun W (hW : CoreAt W W.heap.size (.node o a b c n ks) A cap) => contains32 (fun k => !freeB k) o a b c n ks A cap W hW (fun k hk A cap W hW => cl32 k (fun A cap W hW => ih k hk A cap W hW) A cap W hW))
    clear h ih
    generalize freeB (.node o a b c n ks) = R at *
    simp only [coreW, Core.op, Core.va, Core.vb, Core.vc, Core.vn, Core.kids]
    by_cases ho : o = [101, 120]
    · subst ho
      have HR := Lib.hid (show false = R by rw [HV.out]; simp [oEx])
      go_enter Tryd.func17, Tryd.ntmps17
      go_wp2_with fail
      go_ret
      exact ⟨congrArg (fun x : Bool => Ending.returned (.bool x)) HR.out, HB1.out⟩
    · have HR := Lib.hid (show (!ks.any fun k => !freeB k) = R by rw [HV.out, decide_eq_false (show ¬ o = oEx from ho), not_any, freeL_all, Bool.not_false, Bool.and_true])
      generalize (ks.any fun k => !freeB k) = Y at *
      have g1 : (o == [101, 120]) = false := beq_false_of_ne ho
      have g2 : (!o == [101, 120]) = true := by rw [g1]; rfl
      clear ho
      go_enter Tryd.func17, Tryd.ntmps17
      go_wp2_with (
        go_at_call 31
        refine (HA.out _ (HC.out.later HB1.out (by simp))).mono ?_
        rintro e w2 ⟨rfl, hb2⟩)
      go_ret
      exact ⟨congrArg (fun x : Bool => Ending.returned (.bool x)) HR.out, HB1.out.trans (hb2.mono (by simp))⟩
end Go.Proofs.YtcgjacaemblnmaaDoor
