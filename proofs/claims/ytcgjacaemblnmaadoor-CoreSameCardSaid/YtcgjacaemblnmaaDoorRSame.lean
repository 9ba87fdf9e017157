/- The walk over sibylref9.Same. -/
import Derived.Test.YtcgjacaemblnmaaDoorSame2
import Derived.Handy
namespace Go.Proofs.YtcgjacaemblnmaaDoor
open Go Go.RowKit

set_option maxHeartbeats 8000000 in
theorem rsame_any : ∀ (s t : Core) (A B : Option Addr) (cap cap2 : Nat) (w : World), CoreAt w w.heap.size s A cap → CoreAt w w.heap.size t B cap2 →
    Calls Tryd.prog 24 #[coreW s.op s.va s.vb s.vc s.vn s.kids.length A cap, coreW t.op t.va t.vb t.vc t.vn t.kids.length B cap2] w fun e w' => e = .returned (.bool (sameB s t)) ∧ Below w.heap.size w w' := by
  intro s
  induction s using Core.ind with
  | h o a b c m ks ih =>
    intro t A B cap cap2 w h h2
    cases t with
    | node o2 a2 b2 c2 m2 ls =>
      have HC := Lib.hid h
      have HC2 := Lib.hid h2
      have IH := Lib.hid ih
      have hl := h.len
      have hl' := h2.len
      simp only [Core.kids] at hl hl'
      obtain ⟨hl1, hl2, _⟩ := hl
      obtain ⟨hl3, hl4, _⟩ := hl'
      have HR := Lib.hid (show sameB (.node o a b c m ks) (.node o2 a2 b2 c2 m2 ls) = (decide (o = o2) && decide (a = a2) && decide (b = b2) && decide (c = c2) && decide (m = m2) && sameL ks ls) by rw [sameB])
      clear h h2 ih
      generalize sameB (.node o a b c m ks) (.node o2 a2 b2 c2 m2 ls) = R at *
      simp only [coreW, Core.op, Core.va, Core.vb, Core.vc, Core.vn, Core.kids]
      by_cases hne : o = o2
      case neg =>
        have HF := Lib.hid (show false = R by rw [HR.out, decide_eq_false hne]; simp)
        have gO : (o == o2) = false := beq_false_of_ne hne
        have gO2 : (!o == o2) = true := by rw [gO]; rfl
        clear hne HR
        go_enter Tryd.func24, Tryd.ntmps24
        go_wp2_with fail
        go_ret
        exact ⟨congrArg (fun x : Bool => Ending.returned (.bool x)) HF.out, ((Below.refl _ _).alloc (Nat.le_refl _) _).alloc (by simp) _⟩
      subst hne
      by_cases hne : a = a2
      case neg =>
        have HF := Lib.hid (show false = R by rw [HR.out, decide_eq_false hne]; simp)
        have gx : (a == a2) = false := beq_false_of_ne hne
        have gx2 : (a != a2) = true := by rw [bne, gx]; rfl
        clear hne HR
        go_enter Tryd.func24, Tryd.ntmps24
        go_wp2_with fail
        go_ret
        exact ⟨congrArg (fun x : Bool => Ending.returned (.bool x)) HF.out, ((Below.refl _ _).alloc (Nat.le_refl _) _).alloc (by simp) _⟩
      subst hne
      by_cases hne : b = b2
      case neg =>
        have HF := Lib.hid (show false = R by rw [HR.out, decide_eq_false hne]; simp)
        have gx : (b == b2) = false := beq_false_of_ne hne
        have gx2 : (b != b2) = true := by rw [bne, gx]; rfl
        clear hne HR
        go_enter Tryd.func24, Tryd.ntmps24
        go_wp2_with fail
        go_ret
        exact ⟨congrArg (fun x : Bool => Ending.returned (.bool x)) HF.out, ((Below.refl _ _).alloc (Nat.le_refl _) _).alloc (by simp) _⟩
      subst hne
      by_cases hne : c = c2
      case neg =>
        have HF := Lib.hid (show false = R by rw [HR.out, decide_eq_false hne]; simp)
        have gx : (c == c2) = false := beq_false_of_ne hne
        have gx2 : (c != c2) = true := by rw [bne, gx]; rfl
        clear hne HR
        go_enter Tryd.func24, Tryd.ntmps24
        go_wp2_with fail
        go_ret
        exact ⟨congrArg (fun x : Bool => Ending.returned (.bool x)) HF.out, ((Below.refl _ _).alloc (Nat.le_refl _) _).alloc (by simp) _⟩
      subst hne
      by_cases hne : m = m2
      case neg =>
        have HF := Lib.hid (show false = R by rw [HR.out, decide_eq_false hne]; simp)
        have gx : (m == m2) = false := beq_false_of_ne hne
        have gx2 : (m != m2) = true := by rw [bne, gx]; rfl
        clear hne HR
        go_enter Tryd.func24, Tryd.ntmps24
        go_wp2_with fail
        go_ret
        exact ⟨congrArg (fun x : Bool => Ending.returned (.bool x)) HF.out, ((Below.refl _ _).alloc (Nat.le_refl _) _).alloc (by simp) _⟩
      subst hne
      by_cases hlen : ks.length = ls.length
      case neg =>
        have HF := Lib.hid (show false = R by rw [HR.out, sameL_len ks ls hlen]; simp)
        have hlen' : ¬ (ks.length : Int) = (ls.length : Int) := by omega
        clear HR hlen
        go_enter Tryd.func24, Tryd.ntmps24
        go_wp2_with fail
        go_ret
        exact ⟨congrArg (fun x : Bool => Ending.returned (.bool x)) HF.out, ((Below.refl _ _).alloc (Nat.le_refl _) _).alloc (by simp) _⟩
      have HF := Lib.hid (show sameL ks ls = R by rw [HR.out]; simp)
      have gl : ((ks.length : Int) != (ls.length : Int)) = false := by rw [hlen]; simp
      have HL := Lib.hid hlen
      clear HR hlen
      have HX := Lib.hid (fun W (hW : Below (w.heap.size + 1 + 1) ((w.alloc (.cells #[.string ⟨o.toArray⟩, .int .i64 a, .int .i64 b, .int .i64 c, .int .i64 m, .slice A ks.length cap] 24)).alloc (.cells #[.string ⟨o.toArray⟩, .int .i64 a, .int .i64 b, .int .i64 c, .int .i64 m, .slice B ls.length cap2] 24)) W) => two_boxes hW)
      have HW := Lib.hid (fun W (hW : Below (w.heap.size + 1 + 1) ((w.alloc (.cells #[.string ⟨o.toArray⟩, .int .i64 a, .int .i64 b, .int .i64 c, .int .i64 m, .slice A ks.length cap] 24)).alloc (.cells #[.string ⟨o.toArray⟩, .int .i64 a, .int .i64 b, .int .i64 c, .int .i64 m, .slice B ls.length cap2] 24)) W) => ((((Below.refl w.heap.size w).alloc (Nat.le_refl _) (.cells #[.string ⟨o.toArray⟩, .int .i64 a, .int .i64 b, .int .i64 c, .int .i64 m, .slice A ks.length cap] 24)).alloc (by simp) (.cells #[.string ⟨o.toArray⟩, .int .i64 a, .int .i64 b, .int .i64 c, .int .i64 m, .slice B ls.length cap2] 24)).trans (hW.mono (by omega)) : Below w.heap.size w W))
      have hZS : ((w.alloc (.cells #[.string ⟨o.toArray⟩, .int .i64 a, .int .i64 b, .int .i64 c, .int .i64 m, .slice A ks.length cap] 24)).alloc (.cells #[.string ⟨o.toArray⟩, .int .i64 a, .int .i64 b, .int .i64 c, .int .i64 m, .slice B ls.length cap2] 24)).heap.size = w.heap.size + 1 + 1 := by simp
      have HZS := Lib.hid hZS
      clear hZS
      go_enter Tryd.func24, Tryd.ntmps24
      go_wp2_with fail
      have hB0 := Below.refl (w.heap.size + 1 + 1) ((w.alloc (.cells #[.string ⟨o.toArray⟩, .int .i64 a, .int .i64 b, .int .i64 c, .int .i64 m, .slice A ks.length cap] 24)).alloc (.cells #[.string ⟨o.toArray⟩, .int .i64 a, .int .i64 b, .int .i64 c, .int .i64 m, .slice B ls.length cap2] 24))
      have HB0 := Lib.hid hB0
      clear hB0
      generalize ((w.alloc (.cells #[.string ⟨o.toArray⟩, .int .i64 a, .int .i64 b, .int .i64 c, .int .i64 m, .slice A ks.length cap] 24)).alloc (.cells #[.string ⟨o.toArray⟩, .int .i64 a, .int .i64 b, .int .i64 c, .int .i64 m, .slice B ls.length cap2] 24)) = Z at *
      go_loopg [5] ks.length (fun r i wr => ∃ k : Nat, k ≤ ks.length ∧ r = ks.length - k ∧ i = .int .i64 (k : Int) ∧ Hid (sameL (ks.take k) (ls.take k) = true) ∧ Below (w.heap.size + 1 + 1) Z wr)
      case atStart => exact ⟨0, Nat.zero_le _, rfl, rfl, Lib.hid (by simp [sameL]), HB0.out⟩
      case round =>
        obtain ⟨k, hk, hr, rfl, HS, hb⟩ := hrel
        have HRr := Lib.hid hr
        have HB := Lib.hid hb
        have hws : w.heap.size + 1 + 1 ≤ wr.heap.size := by have := hb.size; have := HZS.out; omega
        obtain ⟨⟨_, _, _, _, _, p5⟩, ⟨_, _, _, _, _, q5⟩⟩ := HX.out _ hb
        clear hr hb
        by_cases hlt : k < ks.length
        · have hlt2 : k < ls.length := by have := HL.out; omega
          have hlt3 : (k : Int) < (ls.length : Int) := by omega
          obtain ⟨bb, off, A', cap', rfl, hlo, hcells, hkid⟩ := HC.out.kid k hlt
          obtain ⟨bb2, off2, B', cap2', rfl, hlo2, hcells2, hkid2⟩ := HC2.out.kid k hlt2
          simp only [Core.kids] at hcells hkid hcells2 hkid2
          have HT := Lib.hid (sameL_take ks ls k hlt hlt2)
          have HNN := Lib.hid (sameL_false ks ls k hlt hlt2)
          have HI := Lib.hid (fun A B cap cap2 W => IH.out (ks[k]'hlt) (List.getElem_mem hlt) (ls[k]'hlt2) A B cap cap2 W)
          generalize ks[k]'hlt = x at *
          generalize ls[k]'hlt2 = y at *
          cases x with
          | node o' a' b' c' n' ks' =>
            cases y with
            | node p' d' e' f' g' ms' =>
              have HSS := Lib.hid (fun W (hW : Below wr.heap.size wr W) => (⟨(hW.cell (p := ⟨w.heap.size, 5, none⟩) (by show w.heap.size < _; omega)).trans p5, (hW.cell (p := ⟨w.heap.size + 1, 5, none⟩) (by show w.heap.size + 1 < _; omega)).trans q5,
                kid_cells hlo hcells ((HW.out _ HB.out).trans (hW.mono (HW.out _ HB.out).size)), kid_cells hlo2 hcells2 ((HW.out _ HB.out).trans (hW.mono (HW.out _ HB.out).size))⟩ :
                W.cell? ⟨w.heap.size, 5, none⟩ = some (.slice (some ⟨bb, off, none⟩) ks.length cap) ∧ W.cell? ⟨w.heap.size + 1, 5, none⟩ = some (.slice (some ⟨bb2, off2, none⟩) ls.length cap2) ∧ (W.cell? ⟨bb, off + k * 6, none⟩ = some (.string ⟨o'.toArray⟩) ∧ W.cell? ⟨bb, off + k * 6 + 1, none⟩ = some (.int .i64 a') ∧ W.cell? ⟨bb, off + k * 6 + 2, none⟩ = some (.int .i64 b') ∧ W.cell? ⟨bb, off + k * 6 + 3, none⟩ = some (.int .i64 c') ∧ W.cell? ⟨bb, off + k * 6 + 4, none⟩ = some (.int .i64 n') ∧ W.cell? ⟨bb, off + k * 6 + 5, none⟩ = some (.slice A' ks'.length cap')) ∧ (W.cell? ⟨bb2, off2 + k * 6, none⟩ = some (.string ⟨p'.toArray⟩) ∧ W.cell? ⟨bb2, off2 + k * 6 + 1, none⟩ = some (.int .i64 d') ∧ W.cell? ⟨bb2, off2 + k * 6 + 2, none⟩ = some (.int .i64 e') ∧ W.cell? ⟨bb2, off2 + k * 6 + 3, none⟩ = some (.int .i64 f') ∧ W.cell? ⟨bb2, off2 + k * 6 + 4, none⟩ = some (.int .i64 g') ∧ W.cell? ⟨bb2, off2 + k * 6 + 5, none⟩ = some (.slice B' ms'.length cap2'))))
              have HKK := Lib.hid (fun W (hW : Below wr.heap.size wr W) => And.intro ((show CoreAt w w.heap.size (.node o' a' b' c' n' ks') A' cap' from hkid).later ((HW.out _ HB.out).trans (hW.mono (HW.out _ HB.out).size)) (Nat.le_trans (HW.out _ HB.out).size hW.size)) ((show CoreAt w w.heap.size (.node p' d' e' f' g' ms') B' cap2' from hkid2).later ((HW.out _ HB.out).trans (hW.mono (HW.out _ HB.out).size)) (Nat.le_trans (HW.out _ HB.out).size hW.size)))
              have HBZ := Lib.hid (fun W (hW : Below wr.heap.size wr W) => (HB.out.trans (hW.mono hws) : Below (w.heap.size + 1 + 1) Z W))
              have HBR := Lib.hid (fun W (hW : Below wr.heap.size wr W) => ((HW.out _ HB.out).trans (hW.mono (HW.out _ HB.out).size) : Below w.heap.size w W))
              simp only [coreW, Core.op, Core.va, Core.vb, Core.vc, Core.vn, Core.kids] at HI
              clear hcells hkid hcells2 hkid2
              have g1 : decide ((k : Int) < (ks.length : Int)) = true := decide_eq_true (by omega)
              have hk0 : (0 : Int) ≤ (k : Int) := Int.natCast_nonneg _
              have hk1 : (k : Int) < (ks.length : Int) := by omega
              cases hsv : sameB (.node o' a' b' c' n' ks') (.node p' d' e' f' g' ms') with
              | true =>
                rw [hsv] at HI HT
                clear hsv HNN
                have hB0 := Below.refl wr.heap.size wr
                go_upto_region 6 with fail
                go_region_held3 (fun W => W.cell? ⟨w.heap.size, 5, none⟩ = some (.slice (some ⟨bb, off, none⟩) ks.length cap) ∧ W.cell? ⟨w.heap.size + 1, 5, none⟩ = some (.slice (some ⟨bb2, off2, none⟩) ls.length cap2) ∧ (W.cell? ⟨bb, off + k * 6, none⟩ = some (.string ⟨o'.toArray⟩) ∧ W.cell? ⟨bb, off + k * 6 + 1, none⟩ = some (.int .i64 a') ∧ W.cell? ⟨bb, off + k * 6 + 2, none⟩ = some (.int .i64 b') ∧ W.cell? ⟨bb, off + k * 6 + 3, none⟩ = some (.int .i64 c') ∧ W.cell? ⟨bb, off + k * 6 + 4, none⟩ = some (.int .i64 n') ∧ W.cell? ⟨bb, off + k * 6 + 5, none⟩ = some (.slice A' ks'.length cap')) ∧ (W.cell? ⟨bb2, off2 + k * 6, none⟩ = some (.string ⟨p'.toArray⟩) ∧ W.cell? ⟨bb2, off2 + k * 6 + 1, none⟩ = some (.int .i64 d') ∧ W.cell? ⟨bb2, off2 + k * 6 + 2, none⟩ = some (.int .i64 e') ∧ W.cell? ⟨bb2, off2 + k * 6 + 3, none⟩ = some (.int .i64 f') ∧ W.cell? ⟨bb2, off2 + k * 6 + 4, none⟩ = some (.int .i64 g') ∧ W.cell? ⟨bb2, off2 + k * 6 + 5, none⟩ = some (.slice B' ms'.length cap2'))) (first | assumption | exact HSS.out _ (by go_grown)) (first
                  | (
                   go_at_call 24
                   have hb0 : Below wr.heap.size wr wr.drew := by go_grown
                   refine (HI.out A' B' cap' cap2' _ (HKK.out _ hb0).1 (HKK.out _ hb0).2).mono ?_
                   rintro e w5 ⟨rfl, hb5⟩
                   have hb5' := hb0.trans (hb5.mono (Nat.le_refl _))))
                go_wp2_with fail
                go_roundg (ks.length - (k + 1))
                case measure => have := HRr.out; omega
                case rel => exact ⟨k + 1, by omega, rfl, by go_num, Lib.hid (by rw [HT.out, HS.out]; rfl), HBZ.out _ hb5'⟩
              | false =>
                rw [hsv] at HI HT
                have HR := Lib.hid (HNN.out hsv)
                clear hsv HNN
                have hB0 := Below.refl wr.heap.size wr
                go_upto_region 6 with fail
                go_region_held3 (fun W => W.cell? ⟨w.heap.size, 5, none⟩ = some (.slice (some ⟨bb, off, none⟩) ks.length cap) ∧ W.cell? ⟨w.heap.size + 1, 5, none⟩ = some (.slice (some ⟨bb2, off2, none⟩) ls.length cap2) ∧ (W.cell? ⟨bb, off + k * 6, none⟩ = some (.string ⟨o'.toArray⟩) ∧ W.cell? ⟨bb, off + k * 6 + 1, none⟩ = some (.int .i64 a') ∧ W.cell? ⟨bb, off + k * 6 + 2, none⟩ = some (.int .i64 b') ∧ W.cell? ⟨bb, off + k * 6 + 3, none⟩ = some (.int .i64 c') ∧ W.cell? ⟨bb, off + k * 6 + 4, none⟩ = some (.int .i64 n') ∧ W.cell? ⟨bb, off + k * 6 + 5, none⟩ = some (.slice A' ks'.length cap')) ∧ (W.cell? ⟨bb2, off2 + k * 6, none⟩ = some (.string ⟨p'.toArray⟩) ∧ W.cell? ⟨bb2, off2 + k * 6 + 1, none⟩ = some (.int .i64 d') ∧ W.cell? ⟨bb2, off2 + k * 6 + 2, none⟩ = some (.int .i64 e') ∧ W.cell? ⟨bb2, off2 + k * 6 + 3, none⟩ = some (.int .i64 f') ∧ W.cell? ⟨bb2, off2 + k * 6 + 4, none⟩ = some (.int .i64 g') ∧ W.cell? ⟨bb2, off2 + k * 6 + 5, none⟩ = some (.slice B' ms'.length cap2'))) (first | assumption | exact HSS.out _ (by go_grown)) (first
                  | (
                   go_at_call 24
                   have hb0 : Below wr.heap.size wr wr.drew := by go_grown
                   refine (HI.out A' B' cap' cap2' _ (HKK.out _ hb0).1 (HKK.out _ hb0).2).mono ?_
                   rintro e w5 ⟨rfl, hb5⟩
                   have hb5' := hb0.trans (hb5.mono (Nat.le_refl _))))
                go_wp2_with fail
                go_ret
                exact ⟨congrArg (fun x : Bool => Ending.returned (.bool x)) (by rw [← HF.out, HR.out]), HBR.out _ hb5'⟩
        · have g1 : decide ((k : Int) < (ks.length : Int)) = false := decide_eq_false (by omega)
          have HR := Lib.hid (show true = R by
            have h1 := HS.out
            have h2 := HL.out
            rw [List.take_of_length_le (by omega), List.take_of_length_le (by omega)] at h1
            rw [← HF.out, h1])
          go_wp2_with fail
          go_ret
          exact ⟨congrArg (fun x : Bool => Ending.returned (.bool x)) HR.out, HW.out _ HB.out⟩
end Go.Proofs.YtcgjacaemblnmaaDoor
