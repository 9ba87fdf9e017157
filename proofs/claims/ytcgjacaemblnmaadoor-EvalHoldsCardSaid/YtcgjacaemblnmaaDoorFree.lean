/- The walk over sibylref12.Free. -/
import Derived.Test.YtcgjacaemblnmaaDoorCount
namespace Go.Proofs.YtcgjacaemblnmaaDoor
open Go Go.RowKit

theorem freeL_take : ∀ (ks : List Core) (k : Nat) (hk : k < ks.length), freeL (ks.take (k + 1)) = (freeL (ks.take k) && freeB ks[k])
  | x :: r, 0, _ => by simp [freeL]
  | x :: r, k + 1, hk => by
    have h := freeL_take r k (by simpa using hk)
    simp only [List.take_succ_cons, freeL, List.getElem_cons_succ] at h ⊢
    rw [h, Bool.and_assoc]
theorem freeL_false : ∀ (ks : List Core) (k : Nat) (hk : k < ks.length), freeB ks[k] = false → freeL ks = false
  | x :: r, 0, _, h => by
    unfold freeL
    rw [show freeB x = false from h]
    rfl
  | x :: r, k + 1, hk, h => by
    unfold freeL
    rw [freeL_false r k (by simpa using hk) h, Bool.and_false]

set_option maxHeartbeats 1000000 in
theorem rFree_any : ∀ (t : Core) (A : Option Addr) (cap : Nat) (w : World), CoreAt w w.heap.size t A cap →
    Calls Tryd.prog 12 #[coreW t.op t.va t.vb t.vc t.vn t.kids.length A cap] w fun e w' => e = .returned (.bool (freeB t)) ∧ Below w.heap.size w w' := by
  intro t
  induction t using Core.ind with
  | h o a b c n ks ih =>
    intro A cap w h
    have HC := Lib.hid h
    have IH := Lib.hid ih
    have hl := h.len
    simp only [Core.kids] at hl
    obtain ⟨hl1, hl2, _⟩ := hl
    clear h ih
    have HV := Lib.hid (show freeB (.node o a b c n ks) = (freeL ks && !decide (o = oEx)) by rw [freeB])
    generalize freeB (.node o a b c n ks) = R at *
    simp only [coreW, Core.op, Core.va, Core.vb, Core.vc, Core.vn, Core.kids]
    go_enter Tryd.func12, Tryd.ntmps12
    go_wp2_with fail
    go_loopg [3] ks.length (fun r i wr => ∃ k : Nat, k ≤ ks.length ∧ r = ks.length - k ∧ i = .int .i64 (k : Int) ∧ Hid (freeL (ks.take k) = true) ∧ Below w.heap.size w wr ∧ wr.cell? ⟨w.heap.size, 5, none⟩ = some (.slice A ks.length cap) ∧ wr.cell? ⟨w.heap.size, 0, none⟩ = some (.string ⟨o.toArray⟩))
    case atStart => exact ⟨0, Nat.zero_le _, rfl, rfl, Lib.hid (by simp [freeL]), (Below.refl _ _).alloc (Nat.le_refl _) _, (by go_keep), (by go_keep)⟩
    case round =>
      obtain ⟨k, hk, hr, rfl, HF, hb, hc5, hc0⟩ := hrel
      have HRr := Lib.hid hr
      have HB := Lib.hid hb
      have hs1 := hb.size
      clear hr hb
      by_cases hlt : k < ks.length
      · obtain ⟨bb, off, A', cap', rfl, hlo, hcells, hkid⟩ := HC.out.kid k hlt
        simp only [Core.kids] at hcells hkid
        have HI := Lib.hid (IH.out ks[k] (List.getElem_mem hlt))
        have HT := Lib.hid (freeL_take ks k hlt)
        have HN := Lib.hid (freeL_false ks k hlt)
        generalize ks[k] = x at *
        cases x with
        | node o' a' b' c' n' ks' =>
          obtain ⟨c0, c1, c2, c3, c4, c5⟩ := kid_cells hlo hcells HB.out
          have HK := Lib.hid hkid
          clear hcells hkid IH
          have g1 : decide ((k : Int) < (ks.length : Int)) = true := decide_eq_true (by omega)
          go_wp2_with fail
          refine (HI.out A' cap' _ (HK.out.later HB.out (by omega))).mono ?_
          rintro e w2 ⟨rfl, hb2⟩
          have HB2 := Lib.hid (HB.out.trans (hb2.mono hs1))
          have hc6 := (hb2.cell (p := ⟨w.heap.size, 5, none⟩) (World.block_lt_of_cell? _ _ hc5)).trans hc5
          have hc7 := (hb2.cell (p := ⟨w.heap.size, 0, none⟩) (World.block_lt_of_cell? _ _ hc0)).trans hc0
          clear hb2
          cases hfk : freeB (.node o' a' b' c' n' ks') with
          | false =>
            have HQ := Lib.hid hfk
            clear hfk
            go_wp2_with fail
            go_ret
            exact ⟨by rw [HV.out, HN.out HQ.out]; rfl, HB2.out⟩
          | true =>
            have HQ := Lib.hid hfk
            clear hfk
            go_wp2_with fail
            go_roundg (ks.length - (k + 1))
            case measure => have := HRr.out; omega
            case rel => exact ⟨k + 1, by omega, rfl, by go_num, Lib.hid (by rw [HT.out, HF.out, HQ.out]; rfl), HB2.out, hc6, hc7⟩
      · have g1 : decide ((k : Int) < (ks.length : Int)) = false := decide_eq_false (by omega)
        have HG := Lib.hid (show freeL ks = true by
          have := HF.out
          rw [List.take_of_length_le (by omega)] at this
          exact this)
        by_cases ho : o = [101, 120]
        · subst ho
          go_wp2_with fail
          go_ret
          exact ⟨by rw [HV.out, HG.out]; rfl, HB.out⟩
        · have g2 : (o == [101, 120]) = false := beq_false_of_ne ho
          have HO := Lib.hid ho
          clear ho
          go_wp2_with fail
          go_ret
          refine ⟨?_, HB.out⟩
          rw [HV.out, HG.out, decide_eq_false (show ¬ o = oEx from HO.out)]
          rfl
end Go.Proofs.YtcgjacaemblnmaaDoor
