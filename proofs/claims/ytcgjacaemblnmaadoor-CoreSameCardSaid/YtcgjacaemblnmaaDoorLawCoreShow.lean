/- The walks over sibylref9.Is and the law CoreShow. -/
import Derived.Test.YtcgjacaemblnmaaDoorRshow
import Derived.Test.YtcgjacaemblnmaaDoorKnown9
import Derived.Deep.RegionWith
namespace Go.Proofs.YtcgjacaemblnmaaDoor
open Go Go.RowKit

set_option maxHeartbeats 1000000 in
theorem rIs_any (t : Core) (A : Option Addr) (cap : Nat) (n : Int) (w : World) (h : CoreAt w w.heap.size t A cap) :
    Calls Tryd.prog 18 #[coreW t.op t.va t.vb t.vc t.vn t.kids.length A cap, .int .i64 n] w fun e w' => e = .returned (.bool (isTop t n)) ∧ Below w.heap.size w w' := by
  have HC := Lib.hid (fun W (hW : Below w.heap.size w W) => h.later hW hW.size)
  have HSZ := Lib.hid (fun W hW => rSize_any t A cap W hW)
  have HRI := Lib.hid (fun (h0 : 0 ≤ n) (h6 : n ≤ 6) W hW => ris_any t A cap n W hW h0 h6)
  have HV := Lib.hid (show isTop t n = (decide (0 ≤ n) && decide (n ≤ 6) && decide (nodes t ≤ 2000) && isB t n) from rfl)
  clear h
  generalize isTop t n = R at *
  generalize nodes t = N at *
  generalize isB t n = I at *
  cases t with
  | node o a b c m ks =>
    simp only [coreW, Core.op, Core.va, Core.vb, Core.vc, Core.vn, Core.kids] at HSZ HRI HC ⊢
    have HX := Lib.hid (fun W (hW : Below (w.heap.size + 1) (w.alloc (.cells #[.string ⟨o.toArray⟩, .int .i64 a, .int .i64 b, .int .i64 c, .int .i64 m, .slice A ks.length cap] 24)) W) => box6 hW)
    have HW := Lib.hid (fun W (hW : Below (w.heap.size + 1) (w.alloc (.cells #[.string ⟨o.toArray⟩, .int .i64 a, .int .i64 b, .int .i64 c, .int .i64 m, .slice A ks.length cap] 24)) W) => (((Below.refl w.heap.size w).alloc (Nat.le_refl _) _).trans (hW.mono (Nat.le_succ _)) : Below w.heap.size w W))
    have HG := Lib.hid (fun W W' (hW : Below (w.heap.size + 1) (w.alloc (.cells #[.string ⟨o.toArray⟩, .int .i64 a, .int .i64 b, .int .i64 c, .int .i64 m, .slice A ks.length cap] 24)) W) (hb : Below W.heap.size W W') => (hW.trans (hb.mono (Nat.le_trans (by simp) hW.size)) : Below (w.heap.size + 1) (w.alloc (.cells #[.string ⟨o.toArray⟩, .int .i64 a, .int .i64 b, .int .i64 c, .int .i64 m, .slice A ks.length cap] 24)) W'))
    have hB := Below.refl (w.heap.size + 1) (w.alloc (.cells #[.string ⟨o.toArray⟩, .int .i64 a, .int .i64 b, .int .i64 c, .int .i64 m, .slice A ks.length cap] 24))
    by_cases h0 : 0 ≤ n
    · have g0 : decide (0 ≤ n) = true := decide_eq_true h0
      by_cases h6 : n ≤ 6
      · have g6 : decide (n ≤ 6) = true := decide_eq_true h6
        have HRI2 := Lib.hid (HRI.out h0 h6)
        clear HRI
        by_cases hN : N ≤ 2000
        · have gN : decide (((min N 2001 : Nat) : Int) ≤ 2000) = true := decide_eq_true (by omega)
          rw [g0, g6, decide_eq_true hN] at HV
          clear hN
          generalize min N 2001 = M at *
          have HF := Lib.hid (show R = I by rw [HV.out]; simp)
          clear HV
          go_enter Tryd.func18, Tryd.ntmps18
          go_wp2_with (first
                | (
                   go_at_call 11
                   refine (HSZ.out _ (HC.out _ (HW.out _ hB))).mono ?_
                   rintro e w2 ⟨rfl, hb2⟩
                   have hB2 := HG.out _ _ hB hb2
                   obtain ⟨c0, c1, c2, c3, c4, c5⟩ := HX.out _ hB2
                   clear hb2)
                | (
                   go_at_call 33
                   refine (HRI2.out _ (HC.out _ (HW.out _ hB2))).mono ?_
                   rintro e w3 ⟨rfl, hb3⟩
                   have hB3 := HG.out _ _ hB2 hb3))
          go_ret
          exact ⟨congrArg (fun x : Bool => Ending.returned (.bool x)) HF.out.symm, HW.out _ hB3⟩
        · have gN : decide (((min N 2001 : Nat) : Int) ≤ 2000) = false := decide_eq_false (by omega)
          rw [g0, g6, decide_eq_false hN] at HV
          clear hN
          generalize min N 2001 = M at *
          have HF := Lib.hid (show R = false by rw [HV.out]; simp)
          clear HV
          go_enter Tryd.func18, Tryd.ntmps18
          go_wp2_with (first
                | (
                   go_at_call 11
                   refine (HSZ.out _ (HC.out _ (HW.out _ hB))).mono ?_
                   rintro e w2 ⟨rfl, hb2⟩
                   have hB2 := HG.out _ _ hB hb2
                   obtain ⟨c0, c1, c2, c3, c4, c5⟩ := HX.out _ hB2
                   clear hb2)
                | (
                   go_at_call 33
                   refine (HRI2.out _ (HC.out _ (HW.out _ hB2))).mono ?_
                   rintro e w3 ⟨rfl, hb3⟩
                   have hB3 := HG.out _ _ hB2 hb3))
          go_ret
          exact ⟨congrArg (fun x : Bool => Ending.returned (.bool x)) HF.out.symm, HW.out _ hB2⟩
      · have g6 : decide (n ≤ 6) = false := decide_eq_false h6
        have HRI2 := HRI
        rw [g0, g6] at HV
        clear h6 HRI2
        have HF := Lib.hid (show R = false by rw [HV.out]; simp)
        clear HV
        go_enter Tryd.func18, Tryd.ntmps18
        go_wp2_with (first
              | (
                 go_at_call 11
                 refine (HSZ.out _ (HC.out _ (HW.out _ hB))).mono ?_
                 rintro e w2 ⟨rfl, hb2⟩
                 have hB2 := HG.out _ _ hB hb2
                 obtain ⟨c0, c1, c2, c3, c4, c5⟩ := HX.out _ hB2
                 clear hb2)
              | (
                 go_at_call 33
                 refine (HRI2.out _ (HC.out _ (HW.out _ hB2))).mono ?_
                 rintro e w3 ⟨rfl, hb3⟩
                 have hB3 := HG.out _ _ hB2 hb3))
        go_ret
        exact ⟨congrArg (fun x : Bool => Ending.returned (.bool x)) HF.out.symm, HW.out _ hB⟩
    · have g0 : decide (0 ≤ n) = false := decide_eq_false h0
      rw [g0] at HV
      clear h0
      have HF := Lib.hid (show R = false by rw [HV.out]; simp)
      clear HV
      go_enter Tryd.func18, Tryd.ntmps18
      go_wp2_with (first
            | (
               go_at_call 11
               refine (HSZ.out _ (HC.out _ (HW.out _ hB))).mono ?_
               rintro e w2 ⟨rfl, hb2⟩
               have hB2 := HG.out _ _ hB hb2
               obtain ⟨c0, c1, c2, c3, c4, c5⟩ := HX.out _ hB2
               clear hb2)
            | (
               go_at_call 33
               refine (HRI2.out _ (HC.out _ (HW.out _ hB2))).mono ?_
               rintro e w3 ⟨rfl, hb3⟩
               have hB3 := HG.out _ _ hB2 hb3))
      go_ret
      exact ⟨congrArg (fun x : Bool => Ending.returned (.bool x)) HF.out.symm, HW.out _ hB⟩


set_option maxHeartbeats 2000000 in
theorem lawShow_any (t : Core) (A : Option Addr) (cap : Nat) (n : Int) (w : World) (h : CoreAt w w.heap.size t A cap) :
    Calls Tryd.prog 8 #[coreW t.op t.va t.vb t.vc t.vn t.kids.length A cap, .int .i64 n] w fun e w' => e = .returned (.bool true) ∧ Below w.heap.size w w' := by
  have HC := Lib.hid (fun W (hW : Below w.heap.size w W) => h.later hW hW.size)
  have HSZ := Lib.hid (fun W hW => rSize_any t A cap W hW)
  have HRI := Lib.hid (fun W hW => rIs_any t A cap n W hW)
  have HTI := Lib.hid (fun (hi : isTop t n = true) => (by
    unfold isTop at hi
    simp at hi
    exact ⟨hi.1.1.1, hi.1.1.2, hi.2, hi.1.2⟩ : 0 ≤ n ∧ n ≤ 6 ∧ isB t n = true ∧ nodes t ≤ 2000))
  have HS1 := Lib.hid (fun (hi : isTop t n = true) W hW => show_any t A cap n W hW (HTI.out hi).1 (HTI.out hi).2.1 (HTI.out hi).2.2.1 (HTI.out hi).2.2.2)
  have HS2 := Lib.hid (fun (hi : isTop t n = true) W hW => rshow_any t A cap n W hW (HTI.out hi).1 (HTI.out hi).2.1 (HTI.out hi).2.2.1 (HTI.out hi).2.2.2)
  clear h HTI
  generalize showT t = Y at *
  generalize nodes t = N at *
  generalize isTop t n = I at *
  cases t with
  | node o a b c m ks =>
    simp only [coreW, Core.op, Core.va, Core.vb, Core.vc, Core.vn, Core.kids] at HSZ HRI HS1 HS2 HC ⊢
    have HX := Lib.hid (fun W (hW : Below (w.heap.size + 1) (w.alloc (.cells #[.string ⟨o.toArray⟩, .int .i64 a, .int .i64 b, .int .i64 c, .int .i64 m, .slice A ks.length cap] 24)) W) => box6 hW)
    have HW := Lib.hid (fun W (hW : Below (w.heap.size + 1) (w.alloc (.cells #[.string ⟨o.toArray⟩, .int .i64 a, .int .i64 b, .int .i64 c, .int .i64 m, .slice A ks.length cap] 24)) W) => (((Below.refl w.heap.size w).alloc (Nat.le_refl _) _).trans (hW.mono (Nat.le_succ _)) : Below w.heap.size w W))
    have HG := Lib.hid (fun W W' (hW : Below (w.heap.size + 1) (w.alloc (.cells #[.string ⟨o.toArray⟩, .int .i64 a, .int .i64 b, .int .i64 c, .int .i64 m, .slice A ks.length cap] 24)) W) (hb : Below W.heap.size W W') => (hW.trans (hb.mono (Nat.le_trans (by simp) hW.size)) : Below (w.heap.size + 1) (w.alloc (.cells #[.string ⟨o.toArray⟩, .int .i64 a, .int .i64 b, .int .i64 c, .int .i64 m, .slice A ks.length cap] 24)) W'))
    have hB := Below.refl (w.heap.size + 1) (w.alloc (.cells #[.string ⟨o.toArray⟩, .int .i64 a, .int .i64 b, .int .i64 c, .int .i64 m, .slice A ks.length cap] 24))
    by_cases hN : 200 < N
    · have gN : decide (200 < ((min N 2001 : Nat) : Int)) = true := decide_eq_true (by omega)
      clear hN
      generalize min N 2001 = M at *
      go_enter Tryd.func8, Tryd.ntmps8
      go_wp2_with (first
      | (
         go_at_call 11
         refine (HSZ.out _ (HC.out _ (HW.out _ hB))).mono ?_
         rintro e w2 ⟨rfl, hb2⟩
         have hB2 := HG.out _ _ hB hb2
         obtain ⟨c0, c1, c2, c3, c4, c5⟩ := HX.out _ hB2
         clear hb2)
      | (
         go_at_call 18
         refine (HRI.out _ (HC.out _ (HW.out _ hB2))).mono ?_
         rintro e w3 ⟨rfl, hb3⟩
         have hB3 := HG.out _ _ hB2 hb3
         obtain ⟨d0, d1, d2, d3, d4, d5⟩ := HX.out _ hB3
         clear hb3))
      go_ret
      exact ⟨rfl, HW.out _ hB2⟩
    have gN : decide (200 < ((min N 2001 : Nat) : Int)) = false := decide_eq_false (by omega)
    clear hN
    generalize min N 2001 = M at *
    cases I with
    | false =>
      go_enter Tryd.func8, Tryd.ntmps8
      go_wp2_with (first
      | (
         go_at_call 11
         refine (HSZ.out _ (HC.out _ (HW.out _ hB))).mono ?_
         rintro e w2 ⟨rfl, hb2⟩
         have hB2 := HG.out _ _ hB hb2
         obtain ⟨c0, c1, c2, c3, c4, c5⟩ := HX.out _ hB2
         clear hb2)
      | (
         go_at_call 18
         refine (HRI.out _ (HC.out _ (HW.out _ hB2))).mono ?_
         rintro e w3 ⟨rfl, hb3⟩
         have hB3 := HG.out _ _ hB2 hb3
         obtain ⟨d0, d1, d2, d3, d4, d5⟩ := HX.out _ hB3
         clear hb3))
      go_ret
      exact ⟨rfl, HW.out _ hB3⟩
    | true =>
      have HA := Lib.hid (HS1.out rfl)
      have HB := Lib.hid (HS2.out rfl)
      clear HS1 HS2
      go_enter Tryd.func8, Tryd.ntmps8
      go_upto_region 3 with (first
      | (
         go_at_call 11
         refine (HSZ.out _ (HC.out _ (HW.out _ hB))).mono ?_
         rintro e w2 ⟨rfl, hb2⟩
         have hB2 := HG.out _ _ hB hb2
         obtain ⟨c0, c1, c2, c3, c4, c5⟩ := HX.out _ hB2
         clear hb2)
      | (
         go_at_call 18
         refine (HRI.out _ (HC.out _ (HW.out _ hB2))).mono ?_
         rintro e w3 ⟨rfl, hb3⟩
         have hB3 := HG.out _ _ hB2 hb3
         obtain ⟨d0, d1, d2, d3, d4, d5⟩ := HX.out _ hB3
         clear hb3))
      clear c0 c1 c2 c3 c4 c5 hB2 hB
      have hyy : (Y == Y) = true := beq_self_eq_true Y
      · go_region_with ((first
          | (
             go_at_call 19
             first
             | refine (HA.out _ (HC.out _ (HW.out _ (hB5.drew)))).mono ?_
             | refine (HA.out _ (HC.out _ (HW.out _ (hB5)))).mono ?_
             | refine (HA.out _ (HC.out _ (HW.out _ (hB3.drew)))).mono ?_
             | refine (HA.out _ (HC.out _ (HW.out _ (hB3)))).mono ?_
             rintro e w4 ⟨rfl, hb⟩
             first
               | have hB4 := HG.out _ _ (hB5.drew) hb
               | have hB4 := HG.out _ _ (hB5) hb
               | have hB4 := HG.out _ _ (hB3.drew) hb
               | have hB4 := HG.out _ _ (hB3) hb
             obtain ⟨e0, e1, e2, e3, e4, e5⟩ := HX.out _ hB4
             clear hb)
          | (
             go_at_call 20
             first
             | refine (HB.out _ (HC.out _ (HW.out _ (hB4.drew)))).mono ?_
             | refine (HB.out _ (HC.out _ (HW.out _ (hB4)))).mono ?_
             | refine (HB.out _ (HC.out _ (HW.out _ (hB3.drew)))).mono ?_
             | refine (HB.out _ (HC.out _ (HW.out _ (hB3)))).mono ?_
             rintro e w5 ⟨rfl, hb⟩
             first
               | have hB5 := HG.out _ _ (hB4.drew) hb
               | have hB5 := HG.out _ _ (hB4) hb
               | have hB5 := HG.out _ _ (hB3.drew) hb
               | have hB5 := HG.out _ _ (hB3) hb
             obtain ⟨f0, f1, f2, f3, f4, f5⟩ := HX.out _ hB5
             clear hb)
          | (
             go_at_call 21
             refine (known9_any _).mono ?_
             rintro e w6 ⟨rfl, hb6⟩)))
        all_goals
          go_wp2_with fail
          go_ret
          first
          | exact ⟨rfl, HW.out _ (HG.out _ _ hB5.drew hb6)⟩
          | exact ⟨rfl, HW.out _ (HG.out _ _ hB5 hb6)⟩
          | exact ⟨rfl, HW.out _ (HG.out _ _ hB4.drew hb6)⟩
          | exact ⟨rfl, HW.out _ (HG.out _ _ hB4 hb6)⟩
end Go.Proofs.YtcgjacaemblnmaaDoor
