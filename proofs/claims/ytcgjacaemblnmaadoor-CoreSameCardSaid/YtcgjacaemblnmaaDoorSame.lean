/- The walks over core.Same and slices.EqualFunc. -/
import Derived.Test.YtcgjacaemblnmaaDoorFields
import Derived.Deep.RegionWith
namespace Go.Proofs.YtcgjacaemblnmaaDoor
open Go Go.RowKit

theorem sameL_len : ∀ (ks ls : List Core), ks.length ≠ ls.length → sameL ks ls = false
  | [], [], h => absurd rfl h
  | [], _ :: _, _ => by simp [sameL]
  | _ :: _, [], _ => by simp [sameL]
  | x :: r, y :: s, h => by
    unfold sameL
    rw [sameL_len r s (by simpa using h), Bool.and_false]
theorem sameL_take : ∀ (ks ls : List Core) (k : Nat) (h1 : k < ks.length) (h2 : k < ls.length), sameL (ks.take (k + 1)) (ls.take (k + 1)) = (sameL (ks.take k) (ls.take k) && sameB ks[k] ls[k])
  | x :: r, y :: s, 0, _, _ => by simp [sameL]
  | x :: r, y :: s, k + 1, h1, h2 => by
    have h := sameL_take r s k (by simpa using h1) (by simpa using h2)
    simp only [List.take_succ_cons, sameL, List.getElem_cons_succ] at h ⊢
    rw [h, Bool.and_assoc]
theorem sameL_false : ∀ (ks ls : List Core) (k : Nat) (h1 : k < ks.length) (h2 : k < ls.length), sameB ks[k] ls[k] = false → sameL ks ls = false
  | x :: r, y :: s, 0, _, _, h => by
    unfold sameL
    rw [show sameB x y = false from h]
    rfl
  | x :: r, y :: s, k + 1, h1, h2, h => by
    unfold sameL
    rw [sameL_false r s k (by simpa using h1) (by simpa using h2) h, Bool.and_false]

set_option maxHeartbeats 2000000 in
theorem eqf_any (ks ls : List Core) (o o2 : List UInt8) (a b c n a2 b2 c2 n2 : Int) (A B : Option Addr) (cap cap2 : Nat) (w : World) (h : CoreAt w w.heap.size (.node o a b c n ks) A cap) (h2 : CoreAt w w.heap.size (.node o2 a2 b2 c2 n2 ls) B cap2)
    (hf : ∀ k ∈ ks, ∀ (t : Core) (A B : Option Addr) (cap cap2 : Nat) (W : World), CoreAt W W.heap.size k A cap → CoreAt W W.heap.size t B cap2 →
      Calls Tryd.prog 23 #[coreW k.op k.va k.vb k.vc k.vn k.kids.length A cap, coreW t.op t.va t.vb t.vc t.vn t.kids.length B cap2] W fun e w' => e = .returned (.bool (sameB k t)) ∧ Below W.heap.size W w') :
    Calls Tryd.prog 41 #[.slice A ks.length cap, .slice B ls.length cap2, .func (.func 23) #[] #[]] w fun e w' => e = .returned (.bool (sameL ks ls)) ∧ Below w.heap.size w w' := by
  have HC := Lib.hid h
  have HC2 := Lib.hid h2
  have HF := Lib.hid hf
  have hl := h.len
  have hl' := h2.len
  simp only [Core.kids] at hl hl'
  obtain ⟨hl1, hl2, _⟩ := hl
  obtain ⟨hl3, hl4, _⟩ := hl'
  clear h h2 hf
  by_cases hlen : ks.length = ls.length
  · have HV : Hid (∀ R, R = sameL ks ls → R = sameL ks ls) := Lib.hid (fun _ h => h)
    have gl : ((ks.length : Int) != (ls.length : Int)) = false := by rw [hlen]; simp
    have HL := Lib.hid hlen
    clear hlen HV
    go_enter Tryd.func41, Tryd.ntmps41
    go_wp2_with fail
    go_loopg [17] ks.length (fun r i wr => ∃ k : Nat, k ≤ ks.length ∧ r = ks.length - k ∧ i = .int .i64 (k : Int) ∧ Hid (sameL (ks.take k) (ls.take k) = true) ∧ Below w.heap.size w wr)
    case atStart => exact ⟨0, Nat.zero_le _, rfl, rfl, Lib.hid (by simp [sameL]), Below.refl _ _⟩
    case round =>
      obtain ⟨k, hk, hr, rfl, HS, hb⟩ := hrel
      have HRr := Lib.hid hr
      have HB := Lib.hid hb
      have hs1 := hb.size
      clear hr hb
      by_cases hlt : k < ks.length
      · have hlt2 : k < ls.length := by have := HL.out; omega
        have hlt3 : (k : Int) < (ls.length : Int) := by omega
        obtain ⟨bb, off, A', cap', rfl, hlo, hcells, hkid⟩ := HC.out.kid k hlt
        obtain ⟨bb2, off2, B', cap2', rfl, hlo2, hcells2, hkid2⟩ := HC2.out.kid k hlt2
        simp only [Core.kids] at hcells hkid hcells2 hkid2
        have HT := Lib.hid (sameL_take ks ls k hlt hlt2)
        have HNN := Lib.hid (sameL_false ks ls k hlt hlt2)
        have HI := Lib.hid (fun A B cap cap2 W => HF.out (ks[k]'hlt) (List.getElem_mem hlt) (ls[k]'hlt2) A B cap cap2 W)
        generalize ks[k]'hlt = x at *
        generalize ls[k]'hlt2 = y at *
        cases x with
        | node o' a' b' c' n' ks' =>
          cases y with
          | node p' d' e' f' g' ms' =>
            obtain ⟨c0, c1, c2, c3, c4, c5⟩ := kid_cells hlo hcells HB.out
            obtain ⟨d0, d1, d2, d3, d4, d5⟩ := kid_cells hlo2 hcells2 (HB.out.alloc hs1 (.cells #[.string ⟨o'.toArray⟩, .int .i64 a', .int .i64 b', .int .i64 c', .int .i64 n', .slice A' ks'.length cap'] 24))
            have HK := Lib.hid hkid
            have HK2 := Lib.hid hkid2
            have HBB := Lib.hid ((HB.out.alloc hs1 (.cells #[.string ⟨o'.toArray⟩, .int .i64 a', .int .i64 b', .int .i64 c', .int .i64 n', .slice A' ks'.length cap'] 24)).alloc (Nat.le_trans hs1 (by simp)) (.cells #[.string ⟨p'.toArray⟩, .int .i64 d', .int .i64 e', .int .i64 f', .int .i64 g', .slice B' ms'.length cap2'] 24))
            have HKK := Lib.hid (And.intro (HK.out.later HBB.out HBB.out.size) (HK2.out.later HBB.out HBB.out.size))
            clear hcells hkid hcells2 hkid2 HF
            have g1 : decide ((k : Int) < (ks.length : Int)) = true := decide_eq_true (by omega)
            cases hsv : sameB (.node o' a' b' c' n' ks') (.node p' d' e' f' g' ms') with
            | true =>
              rw [hsv] at HI HT
              clear hsv
              go_wp2_with (
                go_at_call 23
                refine (HI.out A' B' cap' cap2' _ HKK.out.1 HKK.out.2).mono ?_
                rintro e w2 ⟨rfl, hb2⟩
                have HB2 := Lib.hid (HBB.out.trans (hb2.mono HBB.out.size))
                clear hb2)
              go_roundg (ks.length - (k + 1))
              case measure => have := HRr.out; omega
              case rel => exact ⟨k + 1, by omega, rfl, by go_num, Lib.hid (by rw [HT.out, HS.out]; rfl), HB2.out⟩
            | false =>
              have HR := Lib.hid (HNN.out hsv)
              rw [hsv] at HI
              clear hsv
              go_wp2_with (
                go_at_call 23
                refine (HI.out A' B' cap' cap2' _ HKK.out.1 HKK.out.2).mono ?_
                rintro e w2 ⟨rfl, hb2⟩
                have HB2 := Lib.hid (HBB.out.trans (hb2.mono HBB.out.size))
                clear hb2)
              go_ret
              exact ⟨by rw [HR.out]; rfl, HB2.out⟩
      · have g1 : decide ((k : Int) < (ks.length : Int)) = false := decide_eq_false (by omega)
        have HR := Lib.hid (show sameL ks ls = true by
          have h1 := HS.out
          have h2 := HL.out
          rw [List.take_of_length_le (by omega), List.take_of_length_le (by omega)] at h1
          exact h1)
        go_wp2_with fail
        go_ret
        exact ⟨by rw [HR.out]; rfl, HB.out⟩
  · have HR := Lib.hid (sameL_len ks ls hlen)
    have hlen' : ¬ (ks.length : Int) = (ls.length : Int) := by omega
    go_enter Tryd.func41, Tryd.ntmps41
    go_wp2_with fail
    go_ret
    exact ⟨by rw [HR.out]; rfl, Below.refl _ _⟩
end Go.Proofs.YtcgjacaemblnmaaDoor
