/- The walks over slices.IndexFunc and slices.ContainsFunc on formulas, the predicate by its contract: the closure of core.is (51, it has captured a pointer), that of eval.Free (32). -/
import Derived.Test.YtcgjacaemblnmaaDoorSize
import Derived.Deep.RegionHeld
namespace Go.Proofs.YtcgjacaemblnmaaDoor
open Go Go.RowKit

theorem any_take (P : Core → Bool) (ks : List Core) (k : Nat) (h : k < ks.length) : (ks.take (k + 1)).any P = ((ks.take k).any P || P ks[k]) := by
  induction ks generalizing k with
  | nil => simp at h
  | cons x r ih =>
    cases k with
    | zero => simp
    | succ k =>
      simp only [List.take_succ_cons, List.any_cons, List.getElem_cons_succ]
      rw [ih k (by simpa using h), Bool.or_assoc]
theorem any_mem {P : Core → Bool} {ks : List Core} {k : Nat} (h : k < ks.length) (hp : P ks[k] = true) : ks.any P = true := by
  rw [List.any_eq_true]
  exact ⟨_, List.getElem_mem h, hp⟩

set_option maxHeartbeats 1000000 in
theorem index51 (P : Core → Bool) (o : List UInt8) (a b c n : Int) (ks : List Core) (A : Option Addr) (cap q : Nat) (v : Value) (w : World) (h : CoreAt w w.heap.size (.node o a b c n ks) A cap) (hq : w.cell? ⟨q, 0, none⟩ = some v)
    (hf : ∀ k ∈ ks, ∀ (A : Option Addr) (cap : Nat) (W : World), CoreAt W W.heap.size k A cap → W.cell? ⟨q, 0, none⟩ = some v →
      Calls Tryd.prog 51 #[coreW k.op k.va k.vb k.vc k.vn k.kids.length A cap, .pointer (some ⟨q, 0, none⟩)] W fun e w' => e = .returned (.bool (P k)) ∧ Below W.heap.size W w') :
    Calls Tryd.prog 46 #[.slice A ks.length cap, .func (.func 51) #[] #[.pointer (some ⟨q, 0, none⟩)]] w fun e w' => ∃ i : Int, e = .returned (.int .i64 i) ∧ decide (0 ≤ i) = ks.any P ∧ Below w.heap.size w w' := by
  have HC := Lib.hid h
  have HF := Lib.hid hf
  have HQ := Lib.hid hq
  have hl := h.len
  simp only [Core.kids] at hl
  obtain ⟨hl1, hl2, _⟩ := hl
  clear h hf hq
  go_enter Tryd.func46, Tryd.ntmps46
  go_wp2_with fail
  go_loopg [8] ks.length (fun r i wr => ∃ k : Nat, k ≤ ks.length ∧ r = ks.length - k ∧ i = .int .i64 (k : Int) ∧ (ks.take k).any P = false ∧ Below w.heap.size w wr)
  case atStart => exact ⟨0, Nat.zero_le _, rfl, rfl, by simp, Below.refl _ _⟩
  case round =>
    obtain ⟨k, hk, hr, rfl, hp, hb⟩ := hrel
    have HRr := Lib.hid hr
    have HP := Lib.hid hp
    have HB := Lib.hid hb
    have hs1 := hb.size
    clear hr hb hp
    by_cases hlt : k < ks.length
    · obtain ⟨bb, off, A', cap', rfl, hlo, hcells, hkid⟩ := HC.out.kid k hlt
      simp only [Core.kids] at hcells hkid
      have HS := Lib.hid (any_take P ks k hlt)
      have HI := Lib.hid (HF.out ks[k] (List.getElem_mem hlt))
      have HM := Lib.hid (fun hp => any_mem (P := P) hlt hp)
      generalize hx : ks[k] = x at *
      clear hx
      have g1 : decide ((k : Int) < (ks.length : Int)) = true := decide_eq_true (by omega)
      cases x with
      | node o' a' b' c' n' ks' =>
        obtain ⟨c0, c1, c2, c3, c4, c5⟩ := kid_cells hlo hcells HB.out
        have HK := Lib.hid hkid
        clear hcells hkid HF
        cases hpv : P (.node o' a' b' c' n' ks') with
        | true =>
          rw [hpv] at HI
          go_wp2_with (
            go_at_call 51
            refine (HI.out A' cap' _ (HK.out.later HB.out hs1) ((HB.out.cell (p := ⟨q, 0, none⟩) (World.block_lt_of_cell? _ _ HQ.out)).trans HQ.out)).mono ?_
            rintro e w2 ⟨rfl, hb2⟩
            have HB2 := Lib.hid (HB.out.trans (hb2.mono hs1))
            clear hb2)
          go_ret
          refine ⟨_, rfl, ?_, HB2.out⟩
          rw [HM.out hpv, decide_eq_true (by omega : (0 : Int) ≤ (k : Int))]
        | false =>
          rw [hpv] at HI
          go_wp2_with (
            go_at_call 51
            refine (HI.out A' cap' _ (HK.out.later HB.out hs1) ((HB.out.cell (p := ⟨q, 0, none⟩) (World.block_lt_of_cell? _ _ HQ.out)).trans HQ.out)).mono ?_
            rintro e w2 ⟨rfl, hb2⟩
            have HB2 := Lib.hid (HB.out.trans (hb2.mono hs1))
            clear hb2)
          go_roundg (ks.length - (k + 1))
          case measure => have := HRr.out; omega
          case rel => exact ⟨k + 1, by omega, rfl, by go_num, by rw [HS.out, HP.out, hpv]; rfl, HB2.out⟩
    · have g1 : decide ((k : Int) < (ks.length : Int)) = false := decide_eq_false (by omega)
      go_wp2_with fail
      go_ret
      have hkk : k = ks.length := by omega
      refine ⟨_, rfl, ?_, HB.out⟩
      have := HP.out
      rw [hkk, List.take_length] at this
      rw [this]
      rfl

theorem contains51 (P : Core → Bool) (o : List UInt8) (a b c n : Int) (ks : List Core) (A : Option Addr) (cap q : Nat) (v : Value) (w : World) (h : CoreAt w w.heap.size (.node o a b c n ks) A cap) (hq : w.cell? ⟨q, 0, none⟩ = some v)
    (hf : ∀ k ∈ ks, ∀ (A : Option Addr) (cap : Nat) (W : World), CoreAt W W.heap.size k A cap → W.cell? ⟨q, 0, none⟩ = some v →
      Calls Tryd.prog 51 #[coreW k.op k.va k.vb k.vc k.vn k.kids.length A cap, .pointer (some ⟨q, 0, none⟩)] W fun e w' => e = .returned (.bool (P k)) ∧ Below W.heap.size W w') :
    Calls Tryd.prog 31 #[.slice A ks.length cap, .func (.func 51) #[] #[.pointer (some ⟨q, 0, none⟩)]] w fun e w' => e = .returned (.bool (ks.any P)) ∧ Below w.heap.size w w' := by
  have HI := Lib.hid (index51 P o a b c n ks A cap q v w h hq hf)
  clear h hq hf
  generalize ks.any P = r at *
  go_enter Tryd.func31, Tryd.ntmps31
  go_wp2_with (
    go_at_call 46
    refine HI.out.mono ?_
    rintro e w2 ⟨i, rfl, hi, hb⟩)
  go_ret
  exact ⟨rfl, hb⟩
end Go.Proofs.YtcgjacaemblnmaaDoor
