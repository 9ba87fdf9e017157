/- The walk over the law CoreSame. -/
import Derived.Test.YtcgjacaemblnmaaDoorRSame
import Derived.Test.YtcgjacaemblnmaaDoorLawCoreShow
namespace Go.Proofs.YtcgjacaemblnmaaDoor
open Go Go.RowKit


set_option maxHeartbeats 8000000 in
theorem law_eq_no (o : List UInt8) (a b c m : Int) (ks : List Core) (A : Option Addr) (cap : Nat) (B : Option Addr) (cap2 : Nat) (n : Int) (w : World) (N1 N2 : Nat) (_T1 : List UInt8) (hN1 : ¬ 200 < N1) (hN2 : ¬ 200 < N2)
    (HC : Hid (∀ W, Below w.heap.size w W → CoreAt W W.heap.size (.node o a b c m ks) A cap)) (HC2 : Hid (∀ W, Below w.heap.size w W → CoreAt W W.heap.size (.node o a b c m ks) B cap2))
    (HSZ1 : Hid (∀ W, CoreAt W W.heap.size (.node o a b c m ks) A cap → Calls Tryd.prog 11 #[.agg #[.string ⟨o.toArray⟩, .int .i64 a, .int .i64 b, .int .i64 c, .int .i64 m, .slice A ks.length cap]] W fun e w' => e = .returned (.int .i64 (N1 : Nat)) ∧ Below W.heap.size W w'))
    (HSZ2 : Hid (∀ W, CoreAt W W.heap.size (.node o a b c m ks) B cap2 → Calls Tryd.prog 11 #[.agg #[.string ⟨o.toArray⟩, .int .i64 a, .int .i64 b, .int .i64 c, .int .i64 m, .slice B ks.length cap2]] W fun e w' => e = .returned (.int .i64 (N2 : Nat)) ∧ Below W.heap.size W w'))
    (HS1 : Hid (∀ W, CoreAt W W.heap.size (.node o a b c m ks) A cap → CoreAt W W.heap.size (.node o a b c m ks) B cap2 → Calls Tryd.prog 23 #[.agg #[.string ⟨o.toArray⟩, .int .i64 a, .int .i64 b, .int .i64 c, .int .i64 m, .slice A ks.length cap], .agg #[.string ⟨o.toArray⟩, .int .i64 a, .int .i64 b, .int .i64 c, .int .i64 m, .slice B ks.length cap2]] W fun e w' => e = .returned (.bool true) ∧ Below W.heap.size W w'))
    (HR1 : Hid (∀ W, CoreAt W W.heap.size (.node o a b c m ks) A cap → CoreAt W W.heap.size (.node o a b c m ks) B cap2 → Calls Tryd.prog 24 #[.agg #[.string ⟨o.toArray⟩, .int .i64 a, .int .i64 b, .int .i64 c, .int .i64 m, .slice A ks.length cap], .agg #[.string ⟨o.toArray⟩, .int .i64 a, .int .i64 b, .int .i64 c, .int .i64 m, .slice B ks.length cap2]] W fun e w' => e = .returned (.bool true) ∧ Below W.heap.size W w'))
    (HS2 : Hid (∀ W, CoreAt W W.heap.size (.node o a b c m ks) A cap → CoreAt W W.heap.size (.node o a b c m ks) A cap → Calls Tryd.prog 23 #[.agg #[.string ⟨o.toArray⟩, .int .i64 a, .int .i64 b, .int .i64 c, .int .i64 m, .slice A ks.length cap], .agg #[.string ⟨o.toArray⟩, .int .i64 a, .int .i64 b, .int .i64 c, .int .i64 m, .slice A ks.length cap]] W fun e w' => e = .returned (.bool true) ∧ Below W.heap.size W w'))
    (HI1 : Hid (∀ W, CoreAt W W.heap.size (.node o a b c m ks) A cap → Calls Tryd.prog 18 #[.agg #[.string ⟨o.toArray⟩, .int .i64 a, .int .i64 b, .int .i64 c, .int .i64 m, .slice A ks.length cap], .int .i64 n] W fun e w' => e = .returned (.bool false) ∧ Below W.heap.size W w'))
    (_HI2 : Hid (∀ W, CoreAt W W.heap.size (.node o a b c m ks) B cap2 → Calls Tryd.prog 18 #[.agg #[.string ⟨o.toArray⟩, .int .i64 a, .int .i64 b, .int .i64 c, .int .i64 m, .slice B ks.length cap2], .int .i64 n] W fun e w' => e = .returned (.bool false) ∧ Below W.heap.size W w')) :
    Calls Tryd.prog 10 #[.agg #[.string ⟨o.toArray⟩, .int .i64 a, .int .i64 b, .int .i64 c, .int .i64 m, .slice A ks.length cap], .agg #[.string ⟨o.toArray⟩, .int .i64 a, .int .i64 b, .int .i64 c, .int .i64 m, .slice B ks.length cap2], .int .i64 n] w fun e w' => e = .returned (.bool true) ∧ Below w.heap.size w w' := by
  have g1 : decide (200 < (N1 : Int)) = false := decide_eq_false (by omega)
  have g2 : decide (200 < (N2 : Int)) = false := decide_eq_false (by omega)
  have HX := Lib.hid (fun W (hW : Below (w.heap.size + 1 + 1) ((w.alloc (.cells #[.string ⟨o.toArray⟩, .int .i64 a, .int .i64 b, .int .i64 c, .int .i64 m, .slice A ks.length cap] 24)).alloc (.cells #[.string ⟨o.toArray⟩, .int .i64 a, .int .i64 b, .int .i64 c, .int .i64 m, .slice B ks.length cap2] 24)) W) => two_boxes hW)
  have HW := Lib.hid (fun W (hW : Below (w.heap.size + 1 + 1) ((w.alloc (.cells #[.string ⟨o.toArray⟩, .int .i64 a, .int .i64 b, .int .i64 c, .int .i64 m, .slice A ks.length cap] 24)).alloc (.cells #[.string ⟨o.toArray⟩, .int .i64 a, .int .i64 b, .int .i64 c, .int .i64 m, .slice B ks.length cap2] 24)) W) => ((((Below.refl w.heap.size w).alloc (Nat.le_refl _) (.cells #[.string ⟨o.toArray⟩, .int .i64 a, .int .i64 b, .int .i64 c, .int .i64 m, .slice A ks.length cap] 24)).alloc (by simp) (.cells #[.string ⟨o.toArray⟩, .int .i64 a, .int .i64 b, .int .i64 c, .int .i64 m, .slice B ks.length cap2] 24)).trans (hW.mono (by omega)) : Below w.heap.size w W))
  have HG := Lib.hid (fun W W' (hW : Below (w.heap.size + 1 + 1) ((w.alloc (.cells #[.string ⟨o.toArray⟩, .int .i64 a, .int .i64 b, .int .i64 c, .int .i64 m, .slice A ks.length cap] 24)).alloc (.cells #[.string ⟨o.toArray⟩, .int .i64 a, .int .i64 b, .int .i64 c, .int .i64 m, .slice B ks.length cap2] 24)) W) (hb : Below W.heap.size W W') => (hW.trans (hb.mono (Nat.le_trans (by simp) hW.size)) : Below (w.heap.size + 1 + 1) ((w.alloc (.cells #[.string ⟨o.toArray⟩, .int .i64 a, .int .i64 b, .int .i64 c, .int .i64 m, .slice A ks.length cap] 24)).alloc (.cells #[.string ⟨o.toArray⟩, .int .i64 a, .int .i64 b, .int .i64 c, .int .i64 m, .slice B ks.length cap2] 24)) W'))
  have hB0 := Below.refl (w.heap.size + 1 + 1) ((w.alloc (.cells #[.string ⟨o.toArray⟩, .int .i64 a, .int .i64 b, .int .i64 c, .int .i64 m, .slice A ks.length cap] 24)).alloc (.cells #[.string ⟨o.toArray⟩, .int .i64 a, .int .i64 b, .int .i64 c, .int .i64 m, .slice B ks.length cap2] 24))
  have HSS := Lib.hid (fun W (hW : Below (w.heap.size + 1 + 1) ((w.alloc (.cells #[.string ⟨o.toArray⟩, .int .i64 a, .int .i64 b, .int .i64 c, .int .i64 m, .slice A ks.length cap] 24)).alloc (.cells #[.string ⟨o.toArray⟩, .int .i64 a, .int .i64 b, .int .i64 c, .int .i64 m, .slice B ks.length cap2] 24)) W) => (⟨hW, two_boxes hW⟩ : (fun W => Below (w.heap.size + 1 + 1) ((w.alloc (.cells #[.string ⟨o.toArray⟩, .int .i64 a, .int .i64 b, .int .i64 c, .int .i64 m, .slice A ks.length cap] 24)).alloc (.cells #[.string ⟨o.toArray⟩, .int .i64 a, .int .i64 b, .int .i64 c, .int .i64 m, .slice B ks.length cap2] 24)) W ∧ (W.cell? ⟨w.heap.size, 0, none⟩ = some (.string ⟨o.toArray⟩) ∧ W.cell? ⟨w.heap.size, 1, none⟩ = some (.int .i64 a) ∧ W.cell? ⟨w.heap.size, 2, none⟩ = some (.int .i64 b) ∧ W.cell? ⟨w.heap.size, 3, none⟩ = some (.int .i64 c) ∧ W.cell? ⟨w.heap.size, 4, none⟩ = some (.int .i64 m) ∧ W.cell? ⟨w.heap.size, 5, none⟩ = some (.slice A ks.length cap)) ∧ (W.cell? ⟨w.heap.size + 1, 0, none⟩ = some (.string ⟨o.toArray⟩) ∧ W.cell? ⟨w.heap.size + 1, 1, none⟩ = some (.int .i64 a) ∧ W.cell? ⟨w.heap.size + 1, 2, none⟩ = some (.int .i64 b) ∧ W.cell? ⟨w.heap.size + 1, 3, none⟩ = some (.int .i64 c) ∧ W.cell? ⟨w.heap.size + 1, 4, none⟩ = some (.int .i64 m) ∧ W.cell? ⟨w.heap.size + 1, 5, none⟩ = some (.slice B ks.length cap2))) W))
  have HG2 := Lib.hid (fun W W' (hS : (fun W => Below (w.heap.size + 1 + 1) ((w.alloc (.cells #[.string ⟨o.toArray⟩, .int .i64 a, .int .i64 b, .int .i64 c, .int .i64 m, .slice A ks.length cap] 24)).alloc (.cells #[.string ⟨o.toArray⟩, .int .i64 a, .int .i64 b, .int .i64 c, .int .i64 m, .slice B ks.length cap2] 24)) W ∧ (W.cell? ⟨w.heap.size, 0, none⟩ = some (.string ⟨o.toArray⟩) ∧ W.cell? ⟨w.heap.size, 1, none⟩ = some (.int .i64 a) ∧ W.cell? ⟨w.heap.size, 2, none⟩ = some (.int .i64 b) ∧ W.cell? ⟨w.heap.size, 3, none⟩ = some (.int .i64 c) ∧ W.cell? ⟨w.heap.size, 4, none⟩ = some (.int .i64 m) ∧ W.cell? ⟨w.heap.size, 5, none⟩ = some (.slice A ks.length cap)) ∧ (W.cell? ⟨w.heap.size + 1, 0, none⟩ = some (.string ⟨o.toArray⟩) ∧ W.cell? ⟨w.heap.size + 1, 1, none⟩ = some (.int .i64 a) ∧ W.cell? ⟨w.heap.size + 1, 2, none⟩ = some (.int .i64 b) ∧ W.cell? ⟨w.heap.size + 1, 3, none⟩ = some (.int .i64 c) ∧ W.cell? ⟨w.heap.size + 1, 4, none⟩ = some (.int .i64 m) ∧ W.cell? ⟨w.heap.size + 1, 5, none⟩ = some (.slice B ks.length cap2))) W) (hb : Below W.heap.size W W') => HG.out W W' hS.1 hb)
  have HWS := Lib.hid (fun W (hS : (fun W => Below (w.heap.size + 1 + 1) ((w.alloc (.cells #[.string ⟨o.toArray⟩, .int .i64 a, .int .i64 b, .int .i64 c, .int .i64 m, .slice A ks.length cap] 24)).alloc (.cells #[.string ⟨o.toArray⟩, .int .i64 a, .int .i64 b, .int .i64 c, .int .i64 m, .slice B ks.length cap2] 24)) W ∧ (W.cell? ⟨w.heap.size, 0, none⟩ = some (.string ⟨o.toArray⟩) ∧ W.cell? ⟨w.heap.size, 1, none⟩ = some (.int .i64 a) ∧ W.cell? ⟨w.heap.size, 2, none⟩ = some (.int .i64 b) ∧ W.cell? ⟨w.heap.size, 3, none⟩ = some (.int .i64 c) ∧ W.cell? ⟨w.heap.size, 4, none⟩ = some (.int .i64 m) ∧ W.cell? ⟨w.heap.size, 5, none⟩ = some (.slice A ks.length cap)) ∧ (W.cell? ⟨w.heap.size + 1, 0, none⟩ = some (.string ⟨o.toArray⟩) ∧ W.cell? ⟨w.heap.size + 1, 1, none⟩ = some (.int .i64 a) ∧ W.cell? ⟨w.heap.size + 1, 2, none⟩ = some (.int .i64 b) ∧ W.cell? ⟨w.heap.size + 1, 3, none⟩ = some (.int .i64 c) ∧ W.cell? ⟨w.heap.size + 1, 4, none⟩ = some (.int .i64 m) ∧ W.cell? ⟨w.heap.size + 1, 5, none⟩ = some (.slice B ks.length cap2))) W) => HW.out W hS.1)
  go_enter Tryd.func10, Tryd.ntmps10
  go_upto_region 3 with (first
    | (go_at_call_of 11 (Value.agg #[Value.string ⟨o.toArray⟩, Value.int IntKind.i64 a, Value.int IntKind.i64 b, Value.int IntKind.i64 c, Value.int IntKind.i64 m, Value.slice B ks.length cap2])
       have hq := HW.out _ hB2
       refine (HSZ2.out _ (HC2.out _ hq)).mono ?_
       rintro e w3 ⟨rfl, hb⟩
       have hB3 := HG.out _ _ hB2 hb
       clear hb hq)
    | (go_at_call_of 11 (Value.agg #[Value.string ⟨o.toArray⟩, Value.int IntKind.i64 a, Value.int IntKind.i64 b, Value.int IntKind.i64 c, Value.int IntKind.i64 m, Value.slice A ks.length cap])
       have hq := HW.out _ hB0
       refine (HSZ1.out _ (HC.out _ hq)).mono ?_
       rintro e w2 ⟨rfl, hb⟩
       have hB2 := HG.out _ _ hB0 hb
       obtain ⟨⟨x0, x1, x2, x3, x4, x5⟩, ⟨y0, y1, y2, y3, y4, y5⟩⟩ := HX.out _ hB2
       clear hb hq))
  have HB3 := Lib.hid hB3
  clear hB3 hB2 hB0 x0 x1 x2 x3 x4 x5 y0 y1 y2 y3 y4 y5
  generalize ((w.alloc (.cells #[.string ⟨o.toArray⟩, .int .i64 a, .int .i64 b, .int .i64 c, .int .i64 m, .slice A ks.length cap] 24)).alloc (.cells #[.string ⟨o.toArray⟩, .int .i64 a, .int .i64 b, .int .i64 c, .int .i64 m, .slice B ks.length cap2] 24)) = Z at *
  have HBZ := HB3
  go_region_held3 (fun W => Below (w.heap.size + 1 + 1) Z W ∧ (W.cell? ⟨w.heap.size, 0, none⟩ = some (.string ⟨o.toArray⟩) ∧ W.cell? ⟨w.heap.size, 1, none⟩ = some (.int .i64 a) ∧ W.cell? ⟨w.heap.size, 2, none⟩ = some (.int .i64 b) ∧ W.cell? ⟨w.heap.size, 3, none⟩ = some (.int .i64 c) ∧ W.cell? ⟨w.heap.size, 4, none⟩ = some (.int .i64 m) ∧ W.cell? ⟨w.heap.size, 5, none⟩ = some (.slice A ks.length cap)) ∧ (W.cell? ⟨w.heap.size + 1, 0, none⟩ = some (.string ⟨o.toArray⟩) ∧ W.cell? ⟨w.heap.size + 1, 1, none⟩ = some (.int .i64 a) ∧ W.cell? ⟨w.heap.size + 1, 2, none⟩ = some (.int .i64 b) ∧ W.cell? ⟨w.heap.size + 1, 3, none⟩ = some (.int .i64 c) ∧ W.cell? ⟨w.heap.size + 1, 4, none⟩ = some (.int .i64 m) ∧ W.cell? ⟨w.heap.size + 1, 5, none⟩ = some (.slice B ks.length cap2))) (first | assumption | exact HSS.out _ hB4 | exact HSS.out _ HBZ.out.drew | exact HSS.out _ HBZ.out) (first
    | (
       go_at_call_of 23 (Value.agg #[Value.string ⟨o.toArray⟩, Value.int IntKind.i64 a, Value.int IntKind.i64 b, Value.int IntKind.i64 c, Value.int IntKind.i64 m, Value.slice B ks.length cap2])
       have hq := HWS.out _ (by assumption)
       refine (HS1.out _ (HC.out _ hq) (HC2.out _ hq)).mono ?_
       rintro e w4 ⟨rfl, hb⟩
       have hB4 := HG2.out _ _ (by assumption) hb
       clear hb)
    | (
       go_at_call 23
       have hq := HWS.out _ (by assumption)
       refine (HS2.out _ (HC.out _ hq) (HC.out _ hq)).mono ?_
       rintro e w4 ⟨rfl, hb⟩
       have hB4 := HG2.out _ _ (by assumption) hb
       clear hb)
    | (
       go_at_call 24
       have hq := HWS.out _ (by assumption)
       refine (HR1.out _ (HC.out _ hq) (HC2.out _ hq)).mono ?_
       rintro e w4 ⟨rfl, hb⟩
       have hB4 := HG2.out _ _ (by assumption) hb
       clear hb))
  all_goals
    have hh := (show (fun W => Below (w.heap.size + 1 + 1) Z W ∧ (W.cell? ⟨w.heap.size, 0, none⟩ = some (.string ⟨o.toArray⟩) ∧ W.cell? ⟨w.heap.size, 1, none⟩ = some (.int .i64 a) ∧ W.cell? ⟨w.heap.size, 2, none⟩ = some (.int .i64 b) ∧ W.cell? ⟨w.heap.size, 3, none⟩ = some (.int .i64 c) ∧ W.cell? ⟨w.heap.size, 4, none⟩ = some (.int .i64 m) ∧ W.cell? ⟨w.heap.size, 5, none⟩ = some (.slice A ks.length cap)) ∧ (W.cell? ⟨w.heap.size + 1, 0, none⟩ = some (.string ⟨o.toArray⟩) ∧ W.cell? ⟨w.heap.size + 1, 1, none⟩ = some (.int .i64 a) ∧ W.cell? ⟨w.heap.size + 1, 2, none⟩ = some (.int .i64 b) ∧ W.cell? ⟨w.heap.size + 1, 3, none⟩ = some (.int .i64 c) ∧ W.cell? ⟨w.heap.size + 1, 4, none⟩ = some (.int .i64 m) ∧ W.cell? ⟨w.heap.size + 1, 5, none⟩ = some (.slice B ks.length cap2))) _ by assumption)
    have HBZ := Lib.hid hh.1
    obtain ⟨_, ⟨x0, x1, x2, x3, x4, x5⟩, ⟨y0, y1, y2, y3, y4, y5⟩⟩ := hh
    clear hB4
    go_upto_region 5 with fail
    clear x0 x1 x2 x3 x4 x5 y0 y1 y2 y3 y4 y5
    refine wp_region_noPanic ?_
    refine wp_region_held_drew (S := (fun W => Below (w.heap.size + 1 + 1) Z W ∧ (W.cell? ⟨w.heap.size, 0, none⟩ = some (.string ⟨o.toArray⟩) ∧ W.cell? ⟨w.heap.size, 1, none⟩ = some (.int .i64 a) ∧ W.cell? ⟨w.heap.size, 2, none⟩ = some (.int .i64 b) ∧ W.cell? ⟨w.heap.size, 3, none⟩ = some (.int .i64 c) ∧ W.cell? ⟨w.heap.size, 4, none⟩ = some (.int .i64 m) ∧ W.cell? ⟨w.heap.size, 5, none⟩ = some (.slice A ks.length cap)) ∧ (W.cell? ⟨w.heap.size + 1, 0, none⟩ = some (.string ⟨o.toArray⟩) ∧ W.cell? ⟨w.heap.size + 1, 1, none⟩ = some (.int .i64 a) ∧ W.cell? ⟨w.heap.size + 1, 2, none⟩ = some (.int .i64 b) ∧ W.cell? ⟨w.heap.size + 1, 3, none⟩ = some (.int .i64 c) ∧ W.cell? ⟨w.heap.size + 1, 4, none⟩ = some (.int .i64 m) ∧ W.cell? ⟨w.heap.size + 1, 5, none⟩ = some (.slice B ks.length cap2)))) (by kernel_rfl) (HSS.out _ HBZ.out.drew) (fun hHeld => ?_)
    refine wpAnyH_take (i := 0) (v := ?vve0) rfl (by kernel_rfl) (by kernel_rfl) (by kernel_rfl) (fun _ _ _ h => h) (Or.inl ⟨by rfl, ?hye0⟩) (by assumption) ?rre0
    case hye0 =>
      intro W hS
      try dsimp only at hS
      go_simp
      try with_reducible rfl
    case rre0 =>
    try simp only [Act.put, List.getElem_toArray, List.getElem_cons_zero, List.setIfInBounds_toArray, List.set_cons_zero, List.set_cons_succ]
    refine wpAnyH_take (i := 1) (v := ?vve1) rfl (by kernel_rfl) (by kernel_rfl) (by kernel_rfl) (fun _ _ _ h => h) (Or.inl ⟨by rfl, ?hye1⟩) (by assumption) ?rre1
    case hye1 =>
      intro W hS
      try dsimp only at hS
      go_simp
      try with_reducible rfl
    case rre1 =>
    try simp only [Act.put, List.getElem_toArray, List.getElem_cons_succ, List.getElem_cons_zero, List.setIfInBounds_toArray, List.set_cons_zero, List.set_cons_succ]
    refine wpAnyH_ready (rs := [2]) (by kernel_rfl) (by simp) ?_
    refine AllReadyH.cons rfl (fun K hK => ?_) AllReadyH.nil
    go_simp
    have hq := HWS.out _ (by assumption)
    refine (HI1.out _ (HC.out _ hq)).mono ?_
    rintro e w4 ⟨rfl, hb⟩
    have hB4 := HG2.out _ _ (by assumption) hb
    clear hb hq
    refine hK.out _ _ (HSS.out _ hB4) (fun hHeld => ?_)
    clear hK K
    try simp only [Act.put, List.getElem_toArray, List.getElem_cons_succ, List.getElem_cons_zero, List.setIfInBounds_toArray, List.set_cons_zero, List.set_cons_succ]
    refine wpAnyH_take (i := 3) (v := ?vve3) rfl (by kernel_rfl) (by kernel_rfl) (by kernel_rfl) (fun _ _ _ h => h) (Or.inl ⟨by rfl, ?hye3⟩) (by assumption) ?rre3
    case hye3 =>
      intro W hS
      try dsimp only at hS
      go_simp
      try with_reducible rfl
    case rre3 =>
    try simp only [Act.put, List.getElem_toArray, List.getElem_cons_succ, List.getElem_cons_zero, List.setIfInBounds_toArray, List.set_cons_zero, List.set_cons_succ]
    refine wpAnyH_take (i := 4) (v := ?vve4) rfl (by kernel_rfl) (by kernel_rfl) (by kernel_rfl) (fun _ _ _ h => h) (Or.inl ⟨by rfl, ?hye4⟩) (by assumption) ?rre4
    case hye4 =>
      intro W hS
      try dsimp only at hS
      go_simp
      try with_reducible rfl
    case rre4 =>
    try simp only [Act.put, List.getElem_toArray, List.getElem_cons_succ, List.getElem_cons_zero, List.setIfInBounds_toArray, List.set_cons_zero, List.set_cons_succ]
    refine wpAnyH_take (i := 5) rfl (by kernel_rfl) (by kernel_rfl) (by kernel_rfl) (fun _ _ _ h => h) (Or.inr ⟨by kernel_rfl, rfl⟩) (by assumption) ?_
    try simp only [Act.put, List.getElem_toArray, List.getElem_cons_succ, List.getElem_cons_zero, List.setIfInBounds_toArray, List.set_cons_zero, List.set_cons_succ]
    refine wpAnyH_take (i := 6) rfl (by kernel_rfl) (by kernel_rfl) (by kernel_rfl) (fun _ _ _ h => h) (Or.inr ⟨by kernel_rfl, rfl⟩) (by assumption) ?_
    try simp only [Act.put, List.getElem_toArray, List.getElem_cons_succ, List.getElem_cons_zero, List.setIfInBounds_toArray, List.set_cons_zero, List.set_cons_succ]
    refine wpAnyH_take (i := 7) rfl (by kernel_rfl) (by kernel_rfl) (by kernel_rfl) (fun _ _ _ h => h) (Or.inr ⟨by kernel_rfl, rfl⟩) (by assumption) ?_
    try simp only [Act.put, List.getElem_toArray, List.getElem_cons_succ, List.getElem_cons_zero, List.setIfInBounds_toArray, List.set_cons_zero, List.set_cons_succ]
    refine wpAnyH_take (i := 8) rfl (by kernel_rfl) (by kernel_rfl) (by kernel_rfl) (fun _ _ _ h => h) (Or.inr ⟨by kernel_rfl, rfl⟩) (by assumption) ?_
    try simp only [Act.put, List.getElem_toArray, List.getElem_cons_succ, List.getElem_cons_zero, List.setIfInBounds_toArray, List.set_cons_zero, List.set_cons_succ]
    refine wpAnyH_take (i := 9) (v := ?vve9) rfl (by kernel_rfl) (by kernel_rfl) (by kernel_rfl) (fun _ _ _ h => h) (Or.inl ⟨by rfl, ?hye9⟩) (by assumption) ?rre9
    case hye9 =>
      intro W hS
      try dsimp only at hS
      go_simp
      try with_reducible rfl
    case rre9 =>
    try simp only [Act.put, List.getElem_toArray, List.getElem_cons_succ, List.getElem_cons_zero, List.setIfInBounds_toArray, List.set_cons_zero, List.set_cons_succ]
    refine wpAnyH_take (i := 10) (v := ?vve10) rfl (by kernel_rfl) (by kernel_rfl) (by kernel_rfl) (fun _ _ _ h => h) (Or.inl ⟨by rfl, ?hye10⟩) (by assumption) ?rre10
    case hye10 =>
      intro W hS
      try dsimp only at hS
      go_simp
      try with_reducible rfl
    case rre10 =>
    try simp only [Act.put, List.getElem_toArray, List.getElem_cons_succ, List.getElem_cons_zero, List.setIfInBounds_toArray, List.set_cons_zero, List.set_cons_succ]
    refine wpAnyH_take (i := 11) rfl (by kernel_rfl) (by kernel_rfl) (by kernel_rfl) (fun _ _ _ h => h) (Or.inr ⟨by kernel_rfl, rfl⟩) (by assumption) ?_
    try simp only [Act.put, List.getElem_toArray, List.getElem_cons_succ, List.getElem_cons_zero, List.setIfInBounds_toArray, List.set_cons_zero, List.set_cons_succ]
    refine wpAnyH_take (i := 12) rfl (by kernel_rfl) (by kernel_rfl) (by kernel_rfl) (fun _ _ _ h => h) (Or.inr ⟨by kernel_rfl, rfl⟩) (by assumption) ?_
    try simp only [Act.put, List.getElem_toArray, List.getElem_cons_succ, List.getElem_cons_zero, List.setIfInBounds_toArray, List.set_cons_zero, List.set_cons_succ]
    refine wpAnyH_take (i := 13) rfl (by kernel_rfl) (by kernel_rfl) (by kernel_rfl) (fun _ _ _ h => h) (Or.inr ⟨by kernel_rfl, rfl⟩) (by assumption) ?_
    try simp only [Act.put, List.getElem_toArray, List.getElem_cons_succ, List.getElem_cons_zero, List.setIfInBounds_toArray, List.set_cons_zero, List.set_cons_succ]
    refine wpAnyH_take (i := 14) rfl (by kernel_rfl) (by kernel_rfl) (by kernel_rfl) (fun _ _ _ h => h) (Or.inr ⟨by kernel_rfl, rfl⟩) (by assumption) ?_
    try simp only [Act.put, List.getElem_toArray, List.getElem_cons_succ, List.getElem_cons_zero, List.setIfInBounds_toArray, List.set_cons_zero, List.set_cons_succ]
    refine wpAnyH_take (i := 15) rfl (by kernel_rfl) (by kernel_rfl) (by kernel_rfl) (fun _ _ _ h => h) (Or.inr ⟨by kernel_rfl, rfl⟩) (by assumption) ?_
    try simp only [Act.put, List.getElem_toArray, List.getElem_cons_succ, List.getElem_cons_zero, List.setIfInBounds_toArray, List.set_cons_zero, List.set_cons_succ]
    refine wpAnyH_take (i := 16) rfl (by kernel_rfl) (by kernel_rfl) (by kernel_rfl) (fun _ _ _ h => h) (Or.inr ⟨by kernel_rfl, rfl⟩) (by assumption) ?_
    try simp only [Act.put, List.getElem_toArray, List.getElem_cons_succ, List.getElem_cons_zero, List.setIfInBounds_toArray, List.set_cons_zero, List.set_cons_succ]
    refine wpAnyH_take (i := 17) rfl (by kernel_rfl) (by kernel_rfl) (by kernel_rfl) (fun _ _ _ h => h) (Or.inr ⟨by kernel_rfl, rfl⟩) (by assumption) ?_
    try simp only [Act.put, List.getElem_toArray, List.getElem_cons_succ, List.getElem_cons_zero, List.setIfInBounds_toArray, List.set_cons_zero, List.set_cons_succ]
    refine wpAnyH_take (i := 18) rfl (by kernel_rfl) (by kernel_rfl) (by kernel_rfl) (fun _ _ _ h => h) (Or.inr ⟨by kernel_rfl, rfl⟩) (by assumption) ?_
    try simp only [Act.put, List.getElem_toArray, List.getElem_cons_succ, List.getElem_cons_zero, List.setIfInBounds_toArray, List.set_cons_zero, List.set_cons_succ]
    refine wpAnyH_take (i := 19) rfl (by kernel_rfl) (by kernel_rfl) (by kernel_rfl) (fun _ _ _ h => h) (Or.inr ⟨by kernel_rfl, rfl⟩) (by assumption) ?_
    try simp only [Act.put, List.getElem_toArray, List.getElem_cons_succ, List.getElem_cons_zero, List.setIfInBounds_toArray, List.set_cons_zero, List.set_cons_succ]
    refine wpAnyH_take (i := 20) (v := ?vve20) rfl (by kernel_rfl) (by kernel_rfl) (by kernel_rfl) (fun _ _ _ h => h) (Or.inl ⟨by rfl, ?hye20⟩) (by assumption) ?rre20
    case hye20 =>
      intro W hS
      try dsimp only at hS
      go_simp
      try with_reducible rfl
    case rre20 =>
    try simp only [Act.put, List.getElem_toArray, List.getElem_cons_succ, List.getElem_cons_zero, List.setIfInBounds_toArray, List.set_cons_zero, List.set_cons_succ]
    refine wpAnyH_take (i := 21) (v := ?vve21) rfl (by kernel_rfl) (by kernel_rfl) (by kernel_rfl) (fun _ _ _ h => h) (Or.inl ⟨by rfl, ?hye21⟩) (by assumption) ?rre21
    case hye21 =>
      intro W hS
      try dsimp only at hS
      go_simp
      try with_reducible rfl
    case rre21 =>
    try simp only [Act.put, List.getElem_toArray, List.getElem_cons_succ, List.getElem_cons_zero, List.setIfInBounds_toArray, List.set_cons_zero, List.set_cons_succ]
    refine wpAnyH_ready (rs := [22]) (by kernel_rfl) (by simp) ?_
    refine AllReadyH.cons rfl (fun K hK => ?_) AllReadyH.nil
    go_simp
    have hq := HWS.out _ (by assumption)
    refine (known9_any _).mono ?_
    rintro e w4 ⟨rfl, hb⟩
    have hB4 := HG2.out _ _ (by assumption) hb
    clear hb hq
    refine hK.out _ _ (HSS.out _ hB4) (fun hHeld => ?_)
    clear hK K
    try simp only [Act.put, List.getElem_toArray, List.getElem_cons_succ, List.getElem_cons_zero, List.setIfInBounds_toArray, List.set_cons_zero, List.set_cons_succ]
    refine wpAnyH_take (i := 23) (v := ?vve23) rfl (by kernel_rfl) (by kernel_rfl) (by kernel_rfl) (fun _ _ _ h => h) (Or.inl ⟨by rfl, ?hye23⟩) (by assumption) ?rre23
    case hye23 =>
      intro W hS
      try dsimp only at hS
      go_simp
      try with_reducible rfl
    case rre23 =>
    try simp only [Act.put, List.getElem_toArray, List.getElem_cons_succ, List.getElem_cons_zero, List.setIfInBounds_toArray, List.set_cons_zero, List.set_cons_succ]
    refine wpAnyH_take (i := 24) (v := ?vve24) rfl (by kernel_rfl) (by kernel_rfl) (by kernel_rfl) (fun _ _ _ h => h) (Or.inl ⟨by rfl, ?hye24⟩) (by assumption) ?rre24
    case hye24 =>
      intro W hS
      try dsimp only at hS
      go_simp
      try with_reducible rfl
    case rre24 =>
    try simp only [Act.put, List.getElem_toArray, List.getElem_cons_succ, List.getElem_cons_zero, List.setIfInBounds_toArray, List.set_cons_zero, List.set_cons_succ]
    refine wpAnyH_done (by kernel_rfl) ?_ _
    refine NoPanic.normal ?_
    go_wp2_with fail
    go_ret
    exact ⟨rfl, HWS.out _ (by assumption)⟩

set_option maxHeartbeats 8000000 in
theorem law_eq_yes (o : List UInt8) (a b c m : Int) (ks : List Core) (A : Option Addr) (cap : Nat) (B : Option Addr) (cap2 : Nat) (n : Int) (w : World) (N1 N2 : Nat) (T1 : List UInt8) (hN1 : ¬ 200 < N1) (hN2 : ¬ 200 < N2)
    (HC : Hid (∀ W, Below w.heap.size w W → CoreAt W W.heap.size (.node o a b c m ks) A cap)) (HC2 : Hid (∀ W, Below w.heap.size w W → CoreAt W W.heap.size (.node o a b c m ks) B cap2))
    (HSZ1 : Hid (∀ W, CoreAt W W.heap.size (.node o a b c m ks) A cap → Calls Tryd.prog 11 #[.agg #[.string ⟨o.toArray⟩, .int .i64 a, .int .i64 b, .int .i64 c, .int .i64 m, .slice A ks.length cap]] W fun e w' => e = .returned (.int .i64 (N1 : Nat)) ∧ Below W.heap.size W w'))
    (HSZ2 : Hid (∀ W, CoreAt W W.heap.size (.node o a b c m ks) B cap2 → Calls Tryd.prog 11 #[.agg #[.string ⟨o.toArray⟩, .int .i64 a, .int .i64 b, .int .i64 c, .int .i64 m, .slice B ks.length cap2]] W fun e w' => e = .returned (.int .i64 (N2 : Nat)) ∧ Below W.heap.size W w'))
    (HS1 : Hid (∀ W, CoreAt W W.heap.size (.node o a b c m ks) A cap → CoreAt W W.heap.size (.node o a b c m ks) B cap2 → Calls Tryd.prog 23 #[.agg #[.string ⟨o.toArray⟩, .int .i64 a, .int .i64 b, .int .i64 c, .int .i64 m, .slice A ks.length cap], .agg #[.string ⟨o.toArray⟩, .int .i64 a, .int .i64 b, .int .i64 c, .int .i64 m, .slice B ks.length cap2]] W fun e w' => e = .returned (.bool true) ∧ Below W.heap.size W w'))
    (HR1 : Hid (∀ W, CoreAt W W.heap.size (.node o a b c m ks) A cap → CoreAt W W.heap.size (.node o a b c m ks) B cap2 → Calls Tryd.prog 24 #[.agg #[.string ⟨o.toArray⟩, .int .i64 a, .int .i64 b, .int .i64 c, .int .i64 m, .slice A ks.length cap], .agg #[.string ⟨o.toArray⟩, .int .i64 a, .int .i64 b, .int .i64 c, .int .i64 m, .slice B ks.length cap2]] W fun e w' => e = .returned (.bool true) ∧ Below W.heap.size W w'))
    (HS2 : Hid (∀ W, CoreAt W W.heap.size (.node o a b c m ks) A cap → CoreAt W W.heap.size (.node o a b c m ks) A cap → Calls Tryd.prog 23 #[.agg #[.string ⟨o.toArray⟩, .int .i64 a, .int .i64 b, .int .i64 c, .int .i64 m, .slice A ks.length cap], .agg #[.string ⟨o.toArray⟩, .int .i64 a, .int .i64 b, .int .i64 c, .int .i64 m, .slice A ks.length cap]] W fun e w' => e = .returned (.bool true) ∧ Below W.heap.size W w'))
    (HI1 : Hid (∀ W, CoreAt W W.heap.size (.node o a b c m ks) A cap → Calls Tryd.prog 18 #[.agg #[.string ⟨o.toArray⟩, .int .i64 a, .int .i64 b, .int .i64 c, .int .i64 m, .slice A ks.length cap], .int .i64 n] W fun e w' => e = .returned (.bool true) ∧ Below W.heap.size W w'))
    (HI2 : Hid (∀ W, CoreAt W W.heap.size (.node o a b c m ks) B cap2 → Calls Tryd.prog 18 #[.agg #[.string ⟨o.toArray⟩, .int .i64 a, .int .i64 b, .int .i64 c, .int .i64 m, .slice B ks.length cap2], .int .i64 n] W fun e w' => e = .returned (.bool true) ∧ Below W.heap.size W w'))
    (HT1 : Hid (∀ W, CoreAt W W.heap.size (.node o a b c m ks) A cap → Calls Tryd.prog 19 #[.agg #[.string ⟨o.toArray⟩, .int .i64 a, .int .i64 b, .int .i64 c, .int .i64 m, .slice A ks.length cap]] W fun e w' => e = .returned (.string ⟨T1.toArray⟩) ∧ Below W.heap.size W w'))
    (HT2 : Hid (∀ W, CoreAt W W.heap.size (.node o a b c m ks) B cap2 → Calls Tryd.prog 19 #[.agg #[.string ⟨o.toArray⟩, .int .i64 a, .int .i64 b, .int .i64 c, .int .i64 m, .slice B ks.length cap2]] W fun e w' => e = .returned (.string ⟨T1.toArray⟩) ∧ Below W.heap.size W w'))
    (_gT : (T1 == T1) = true) :
    Calls Tryd.prog 10 #[.agg #[.string ⟨o.toArray⟩, .int .i64 a, .int .i64 b, .int .i64 c, .int .i64 m, .slice A ks.length cap], .agg #[.string ⟨o.toArray⟩, .int .i64 a, .int .i64 b, .int .i64 c, .int .i64 m, .slice B ks.length cap2], .int .i64 n] w fun e w' => e = .returned (.bool true) ∧ Below w.heap.size w w' := by
  have g1 : decide (200 < (N1 : Int)) = false := decide_eq_false (by omega)
  have g2 : decide (200 < (N2 : Int)) = false := decide_eq_false (by omega)
  have HX := Lib.hid (fun W (hW : Below (w.heap.size + 1 + 1) ((w.alloc (.cells #[.string ⟨o.toArray⟩, .int .i64 a, .int .i64 b, .int .i64 c, .int .i64 m, .slice A ks.length cap] 24)).alloc (.cells #[.string ⟨o.toArray⟩, .int .i64 a, .int .i64 b, .int .i64 c, .int .i64 m, .slice B ks.length cap2] 24)) W) => two_boxes hW)
  have HW := Lib.hid (fun W (hW : Below (w.heap.size + 1 + 1) ((w.alloc (.cells #[.string ⟨o.toArray⟩, .int .i64 a, .int .i64 b, .int .i64 c, .int .i64 m, .slice A ks.length cap] 24)).alloc (.cells #[.string ⟨o.toArray⟩, .int .i64 a, .int .i64 b, .int .i64 c, .int .i64 m, .slice B ks.length cap2] 24)) W) => ((((Below.refl w.heap.size w).alloc (Nat.le_refl _) (.cells #[.string ⟨o.toArray⟩, .int .i64 a, .int .i64 b, .int .i64 c, .int .i64 m, .slice A ks.length cap] 24)).alloc (by simp) (.cells #[.string ⟨o.toArray⟩, .int .i64 a, .int .i64 b, .int .i64 c, .int .i64 m, .slice B ks.length cap2] 24)).trans (hW.mono (by omega)) : Below w.heap.size w W))
  have HG := Lib.hid (fun W W' (hW : Below (w.heap.size + 1 + 1) ((w.alloc (.cells #[.string ⟨o.toArray⟩, .int .i64 a, .int .i64 b, .int .i64 c, .int .i64 m, .slice A ks.length cap] 24)).alloc (.cells #[.string ⟨o.toArray⟩, .int .i64 a, .int .i64 b, .int .i64 c, .int .i64 m, .slice B ks.length cap2] 24)) W) (hb : Below W.heap.size W W') => (hW.trans (hb.mono (Nat.le_trans (by simp) hW.size)) : Below (w.heap.size + 1 + 1) ((w.alloc (.cells #[.string ⟨o.toArray⟩, .int .i64 a, .int .i64 b, .int .i64 c, .int .i64 m, .slice A ks.length cap] 24)).alloc (.cells #[.string ⟨o.toArray⟩, .int .i64 a, .int .i64 b, .int .i64 c, .int .i64 m, .slice B ks.length cap2] 24)) W'))
  have hB0 := Below.refl (w.heap.size + 1 + 1) ((w.alloc (.cells #[.string ⟨o.toArray⟩, .int .i64 a, .int .i64 b, .int .i64 c, .int .i64 m, .slice A ks.length cap] 24)).alloc (.cells #[.string ⟨o.toArray⟩, .int .i64 a, .int .i64 b, .int .i64 c, .int .i64 m, .slice B ks.length cap2] 24))
  have HSS := Lib.hid (fun W (hW : Below (w.heap.size + 1 + 1) ((w.alloc (.cells #[.string ⟨o.toArray⟩, .int .i64 a, .int .i64 b, .int .i64 c, .int .i64 m, .slice A ks.length cap] 24)).alloc (.cells #[.string ⟨o.toArray⟩, .int .i64 a, .int .i64 b, .int .i64 c, .int .i64 m, .slice B ks.length cap2] 24)) W) => (⟨hW, two_boxes hW⟩ : (fun W => Below (w.heap.size + 1 + 1) ((w.alloc (.cells #[.string ⟨o.toArray⟩, .int .i64 a, .int .i64 b, .int .i64 c, .int .i64 m, .slice A ks.length cap] 24)).alloc (.cells #[.string ⟨o.toArray⟩, .int .i64 a, .int .i64 b, .int .i64 c, .int .i64 m, .slice B ks.length cap2] 24)) W ∧ (W.cell? ⟨w.heap.size, 0, none⟩ = some (.string ⟨o.toArray⟩) ∧ W.cell? ⟨w.heap.size, 1, none⟩ = some (.int .i64 a) ∧ W.cell? ⟨w.heap.size, 2, none⟩ = some (.int .i64 b) ∧ W.cell? ⟨w.heap.size, 3, none⟩ = some (.int .i64 c) ∧ W.cell? ⟨w.heap.size, 4, none⟩ = some (.int .i64 m) ∧ W.cell? ⟨w.heap.size, 5, none⟩ = some (.slice A ks.length cap)) ∧ (W.cell? ⟨w.heap.size + 1, 0, none⟩ = some (.string ⟨o.toArray⟩) ∧ W.cell? ⟨w.heap.size + 1, 1, none⟩ = some (.int .i64 a) ∧ W.cell? ⟨w.heap.size + 1, 2, none⟩ = some (.int .i64 b) ∧ W.cell? ⟨w.heap.size + 1, 3, none⟩ = some (.int .i64 c) ∧ W.cell? ⟨w.heap.size + 1, 4, none⟩ = some (.int .i64 m) ∧ W.cell? ⟨w.heap.size + 1, 5, none⟩ = some (.slice B ks.length cap2))) W))
  have HG2 := Lib.hid (fun W W' (hS : (fun W => Below (w.heap.size + 1 + 1) ((w.alloc (.cells #[.string ⟨o.toArray⟩, .int .i64 a, .int .i64 b, .int .i64 c, .int .i64 m, .slice A ks.length cap] 24)).alloc (.cells #[.string ⟨o.toArray⟩, .int .i64 a, .int .i64 b, .int .i64 c, .int .i64 m, .slice B ks.length cap2] 24)) W ∧ (W.cell? ⟨w.heap.size, 0, none⟩ = some (.string ⟨o.toArray⟩) ∧ W.cell? ⟨w.heap.size, 1, none⟩ = some (.int .i64 a) ∧ W.cell? ⟨w.heap.size, 2, none⟩ = some (.int .i64 b) ∧ W.cell? ⟨w.heap.size, 3, none⟩ = some (.int .i64 c) ∧ W.cell? ⟨w.heap.size, 4, none⟩ = some (.int .i64 m) ∧ W.cell? ⟨w.heap.size, 5, none⟩ = some (.slice A ks.length cap)) ∧ (W.cell? ⟨w.heap.size + 1, 0, none⟩ = some (.string ⟨o.toArray⟩) ∧ W.cell? ⟨w.heap.size + 1, 1, none⟩ = some (.int .i64 a) ∧ W.cell? ⟨w.heap.size + 1, 2, none⟩ = some (.int .i64 b) ∧ W.cell? ⟨w.heap.size + 1, 3, none⟩ = some (.int .i64 c) ∧ W.cell? ⟨w.heap.size + 1, 4, none⟩ = some (.int .i64 m) ∧ W.cell? ⟨w.heap.size + 1, 5, none⟩ = some (.slice B ks.length cap2))) W) (hb : Below W.heap.size W W') => HG.out W W' hS.1 hb)
  have HWS := Lib.hid (fun W (hS : (fun W => Below (w.heap.size + 1 + 1) ((w.alloc (.cells #[.string ⟨o.toArray⟩, .int .i64 a, .int .i64 b, .int .i64 c, .int .i64 m, .slice A ks.length cap] 24)).alloc (.cells #[.string ⟨o.toArray⟩, .int .i64 a, .int .i64 b, .int .i64 c, .int .i64 m, .slice B ks.length cap2] 24)) W ∧ (W.cell? ⟨w.heap.size, 0, none⟩ = some (.string ⟨o.toArray⟩) ∧ W.cell? ⟨w.heap.size, 1, none⟩ = some (.int .i64 a) ∧ W.cell? ⟨w.heap.size, 2, none⟩ = some (.int .i64 b) ∧ W.cell? ⟨w.heap.size, 3, none⟩ = some (.int .i64 c) ∧ W.cell? ⟨w.heap.size, 4, none⟩ = some (.int .i64 m) ∧ W.cell? ⟨w.heap.size, 5, none⟩ = some (.slice A ks.length cap)) ∧ (W.cell? ⟨w.heap.size + 1, 0, none⟩ = some (.string ⟨o.toArray⟩) ∧ W.cell? ⟨w.heap.size + 1, 1, none⟩ = some (.int .i64 a) ∧ W.cell? ⟨w.heap.size + 1, 2, none⟩ = some (.int .i64 b) ∧ W.cell? ⟨w.heap.size + 1, 3, none⟩ = some (.int .i64 c) ∧ W.cell? ⟨w.heap.size + 1, 4, none⟩ = some (.int .i64 m) ∧ W.cell? ⟨w.heap.size + 1, 5, none⟩ = some (.slice B ks.length cap2))) W) => HW.out W hS.1)
  go_enter Tryd.func10, Tryd.ntmps10
  go_upto_region 3 with (first
    | (go_at_call_of 11 (Value.agg #[Value.string ⟨o.toArray⟩, Value.int IntKind.i64 a, Value.int IntKind.i64 b, Value.int IntKind.i64 c, Value.int IntKind.i64 m, Value.slice B ks.length cap2])
       have hq := HW.out _ hB2
       refine (HSZ2.out _ (HC2.out _ hq)).mono ?_
       rintro e w3 ⟨rfl, hb⟩
       have hB3 := HG.out _ _ hB2 hb
       clear hb hq)
    | (go_at_call_of 11 (Value.agg #[Value.string ⟨o.toArray⟩, Value.int IntKind.i64 a, Value.int IntKind.i64 b, Value.int IntKind.i64 c, Value.int IntKind.i64 m, Value.slice A ks.length cap])
       have hq := HW.out _ hB0
       refine (HSZ1.out _ (HC.out _ hq)).mono ?_
       rintro e w2 ⟨rfl, hb⟩
       have hB2 := HG.out _ _ hB0 hb
       obtain ⟨⟨x0, x1, x2, x3, x4, x5⟩, ⟨y0, y1, y2, y3, y4, y5⟩⟩ := HX.out _ hB2
       clear hb hq))
  have HB3 := Lib.hid hB3
  clear hB3 hB2 hB0 x0 x1 x2 x3 x4 x5 y0 y1 y2 y3 y4 y5
  generalize ((w.alloc (.cells #[.string ⟨o.toArray⟩, .int .i64 a, .int .i64 b, .int .i64 c, .int .i64 m, .slice A ks.length cap] 24)).alloc (.cells #[.string ⟨o.toArray⟩, .int .i64 a, .int .i64 b, .int .i64 c, .int .i64 m, .slice B ks.length cap2] 24)) = Z at *
  have HBZ := HB3
  go_region_held3 (fun W => Below (w.heap.size + 1 + 1) Z W ∧ (W.cell? ⟨w.heap.size, 0, none⟩ = some (.string ⟨o.toArray⟩) ∧ W.cell? ⟨w.heap.size, 1, none⟩ = some (.int .i64 a) ∧ W.cell? ⟨w.heap.size, 2, none⟩ = some (.int .i64 b) ∧ W.cell? ⟨w.heap.size, 3, none⟩ = some (.int .i64 c) ∧ W.cell? ⟨w.heap.size, 4, none⟩ = some (.int .i64 m) ∧ W.cell? ⟨w.heap.size, 5, none⟩ = some (.slice A ks.length cap)) ∧ (W.cell? ⟨w.heap.size + 1, 0, none⟩ = some (.string ⟨o.toArray⟩) ∧ W.cell? ⟨w.heap.size + 1, 1, none⟩ = some (.int .i64 a) ∧ W.cell? ⟨w.heap.size + 1, 2, none⟩ = some (.int .i64 b) ∧ W.cell? ⟨w.heap.size + 1, 3, none⟩ = some (.int .i64 c) ∧ W.cell? ⟨w.heap.size + 1, 4, none⟩ = some (.int .i64 m) ∧ W.cell? ⟨w.heap.size + 1, 5, none⟩ = some (.slice B ks.length cap2))) (first | assumption | exact HSS.out _ hB4 | exact HSS.out _ HBZ.out.drew | exact HSS.out _ HBZ.out) (first
    | (
       go_at_call_of 23 (Value.agg #[Value.string ⟨o.toArray⟩, Value.int IntKind.i64 a, Value.int IntKind.i64 b, Value.int IntKind.i64 c, Value.int IntKind.i64 m, Value.slice B ks.length cap2])
       have hq := HWS.out _ (by assumption)
       refine (HS1.out _ (HC.out _ hq) (HC2.out _ hq)).mono ?_
       rintro e w4 ⟨rfl, hb⟩
       have hB4 := HG2.out _ _ (by assumption) hb
       clear hb)
    | (
       go_at_call 23
       have hq := HWS.out _ (by assumption)
       refine (HS2.out _ (HC.out _ hq) (HC.out _ hq)).mono ?_
       rintro e w4 ⟨rfl, hb⟩
       have hB4 := HG2.out _ _ (by assumption) hb
       clear hb)
    | (
       go_at_call 24
       have hq := HWS.out _ (by assumption)
       refine (HR1.out _ (HC.out _ hq) (HC2.out _ hq)).mono ?_
       rintro e w4 ⟨rfl, hb⟩
       have hB4 := HG2.out _ _ (by assumption) hb
       clear hb))
  all_goals
    have hh := (show (fun W => Below (w.heap.size + 1 + 1) Z W ∧ (W.cell? ⟨w.heap.size, 0, none⟩ = some (.string ⟨o.toArray⟩) ∧ W.cell? ⟨w.heap.size, 1, none⟩ = some (.int .i64 a) ∧ W.cell? ⟨w.heap.size, 2, none⟩ = some (.int .i64 b) ∧ W.cell? ⟨w.heap.size, 3, none⟩ = some (.int .i64 c) ∧ W.cell? ⟨w.heap.size, 4, none⟩ = some (.int .i64 m) ∧ W.cell? ⟨w.heap.size, 5, none⟩ = some (.slice A ks.length cap)) ∧ (W.cell? ⟨w.heap.size + 1, 0, none⟩ = some (.string ⟨o.toArray⟩) ∧ W.cell? ⟨w.heap.size + 1, 1, none⟩ = some (.int .i64 a) ∧ W.cell? ⟨w.heap.size + 1, 2, none⟩ = some (.int .i64 b) ∧ W.cell? ⟨w.heap.size + 1, 3, none⟩ = some (.int .i64 c) ∧ W.cell? ⟨w.heap.size + 1, 4, none⟩ = some (.int .i64 m) ∧ W.cell? ⟨w.heap.size + 1, 5, none⟩ = some (.slice B ks.length cap2))) _ by assumption)
    have HBZ := Lib.hid hh.1
    obtain ⟨_, ⟨x0, x1, x2, x3, x4, x5⟩, ⟨y0, y1, y2, y3, y4, y5⟩⟩ := hh
    clear hB4
    go_upto_region 5 with fail
    clear x0 x1 x2 x3 x4 x5 y0 y1 y2 y3 y4 y5
    go_region_held3 (fun W => Below (w.heap.size + 1 + 1) Z W ∧ (W.cell? ⟨w.heap.size, 0, none⟩ = some (.string ⟨o.toArray⟩) ∧ W.cell? ⟨w.heap.size, 1, none⟩ = some (.int .i64 a) ∧ W.cell? ⟨w.heap.size, 2, none⟩ = some (.int .i64 b) ∧ W.cell? ⟨w.heap.size, 3, none⟩ = some (.int .i64 c) ∧ W.cell? ⟨w.heap.size, 4, none⟩ = some (.int .i64 m) ∧ W.cell? ⟨w.heap.size, 5, none⟩ = some (.slice A ks.length cap)) ∧ (W.cell? ⟨w.heap.size + 1, 0, none⟩ = some (.string ⟨o.toArray⟩) ∧ W.cell? ⟨w.heap.size + 1, 1, none⟩ = some (.int .i64 a) ∧ W.cell? ⟨w.heap.size + 1, 2, none⟩ = some (.int .i64 b) ∧ W.cell? ⟨w.heap.size + 1, 3, none⟩ = some (.int .i64 c) ∧ W.cell? ⟨w.heap.size + 1, 4, none⟩ = some (.int .i64 m) ∧ W.cell? ⟨w.heap.size + 1, 5, none⟩ = some (.slice B ks.length cap2))) (first | assumption | exact HSS.out _ hB4 | exact HSS.out _ HBZ.out.drew | exact HSS.out _ HBZ.out) (first
      | (
         go_at_call_of 18 (Value.agg #[Value.string ⟨o.toArray⟩, Value.int IntKind.i64 a, Value.int IntKind.i64 b, Value.int IntKind.i64 c, Value.int IntKind.i64 m, Value.slice B ks.length cap2])
         have hq := HWS.out _ (by assumption)
         refine (HI2.out _ (HC2.out _ hq)).mono ?_
         rintro e w4 ⟨rfl, hb⟩
         have hB4 := HG2.out _ _ (by assumption) hb
         clear hb)
      | (
         go_at_call_of 18 (Value.agg #[Value.string ⟨o.toArray⟩, Value.int IntKind.i64 a, Value.int IntKind.i64 b, Value.int IntKind.i64 c, Value.int IntKind.i64 m, Value.slice A ks.length cap])
         have hq := HWS.out _ (by assumption)
         refine (HI1.out _ (HC.out _ hq)).mono ?_
         rintro e w4 ⟨rfl, hb⟩
         have hB4 := HG2.out _ _ (by assumption) hb
         clear hb)
      | (
         go_at_call_of 19 (Value.agg #[Value.string ⟨o.toArray⟩, Value.int IntKind.i64 a, Value.int IntKind.i64 b, Value.int IntKind.i64 c, Value.int IntKind.i64 m, Value.slice B ks.length cap2])
         have hq := HWS.out _ (by assumption)
         refine (HT2.out _ (HC2.out _ hq)).mono ?_
         rintro e w4 ⟨rfl, hb⟩
         have hB4 := HG2.out _ _ (by assumption) hb
         clear hb)
      | (
         go_at_call_of 19 (Value.agg #[Value.string ⟨o.toArray⟩, Value.int IntKind.i64 a, Value.int IntKind.i64 b, Value.int IntKind.i64 c, Value.int IntKind.i64 m, Value.slice A ks.length cap])
         have hq := HWS.out _ (by assumption)
         refine (HT1.out _ (HC.out _ hq)).mono ?_
         rintro e w4 ⟨rfl, hb⟩
         have hB4 := HG2.out _ _ (by assumption) hb
         clear hb)
      | (
         go_at_call 23
         have hq := HWS.out _ (by assumption)
         refine (HS1.out _ (HC.out _ hq) (HC2.out _ hq)).mono ?_
         rintro e w4 ⟨rfl, hb⟩
         have hB4 := HG2.out _ _ (by assumption) hb
         clear hb)
      | (
         go_at_call 21
         have hq := HWS.out _ (by assumption)
         refine (known9_any _).mono ?_
         rintro e w4 ⟨rfl, hb⟩
         have hB4 := HG2.out _ _ (by assumption) hb
         clear hb))
    all_goals
      go_wp2_with fail
      go_ret
      exact ⟨rfl, HWS.out _ (by assumption)⟩

set_option maxHeartbeats 8000000 in
theorem law_ne_no (o : List UInt8) (a b c m : Int) (ks : List Core) (A : Option Addr) (cap : Nat) (B : Option Addr) (cap2 : Nat) (n : Int) (w : World) (N1 N2 : Nat) (_T1 : List UInt8) (o2 : List UInt8) (a2 b2 c2 m2 : Int) (ls : List Core) (_T2 : List UInt8) (I2 : Bool) (hN1 : ¬ 200 < N1) (hN2 : ¬ 200 < N2)
    (HC : Hid (∀ W, Below w.heap.size w W → CoreAt W W.heap.size (.node o a b c m ks) A cap)) (HC2 : Hid (∀ W, Below w.heap.size w W → CoreAt W W.heap.size (.node o2 a2 b2 c2 m2 ls) B cap2))
    (HSZ1 : Hid (∀ W, CoreAt W W.heap.size (.node o a b c m ks) A cap → Calls Tryd.prog 11 #[.agg #[.string ⟨o.toArray⟩, .int .i64 a, .int .i64 b, .int .i64 c, .int .i64 m, .slice A ks.length cap]] W fun e w' => e = .returned (.int .i64 (N1 : Nat)) ∧ Below W.heap.size W w'))
    (HSZ2 : Hid (∀ W, CoreAt W W.heap.size (.node o2 a2 b2 c2 m2 ls) B cap2 → Calls Tryd.prog 11 #[.agg #[.string ⟨o2.toArray⟩, .int .i64 a2, .int .i64 b2, .int .i64 c2, .int .i64 m2, .slice B ls.length cap2]] W fun e w' => e = .returned (.int .i64 (N2 : Nat)) ∧ Below W.heap.size W w'))
    (HS1 : Hid (∀ W, CoreAt W W.heap.size (.node o a b c m ks) A cap → CoreAt W W.heap.size (.node o2 a2 b2 c2 m2 ls) B cap2 → Calls Tryd.prog 23 #[.agg #[.string ⟨o.toArray⟩, .int .i64 a, .int .i64 b, .int .i64 c, .int .i64 m, .slice A ks.length cap], .agg #[.string ⟨o2.toArray⟩, .int .i64 a2, .int .i64 b2, .int .i64 c2, .int .i64 m2, .slice B ls.length cap2]] W fun e w' => e = .returned (.bool false) ∧ Below W.heap.size W w'))
    (HR1 : Hid (∀ W, CoreAt W W.heap.size (.node o a b c m ks) A cap → CoreAt W W.heap.size (.node o2 a2 b2 c2 m2 ls) B cap2 → Calls Tryd.prog 24 #[.agg #[.string ⟨o.toArray⟩, .int .i64 a, .int .i64 b, .int .i64 c, .int .i64 m, .slice A ks.length cap], .agg #[.string ⟨o2.toArray⟩, .int .i64 a2, .int .i64 b2, .int .i64 c2, .int .i64 m2, .slice B ls.length cap2]] W fun e w' => e = .returned (.bool false) ∧ Below W.heap.size W w'))
    (HS2 : Hid (∀ W, CoreAt W W.heap.size (.node o a b c m ks) A cap → CoreAt W W.heap.size (.node o a b c m ks) A cap → Calls Tryd.prog 23 #[.agg #[.string ⟨o.toArray⟩, .int .i64 a, .int .i64 b, .int .i64 c, .int .i64 m, .slice A ks.length cap], .agg #[.string ⟨o.toArray⟩, .int .i64 a, .int .i64 b, .int .i64 c, .int .i64 m, .slice A ks.length cap]] W fun e w' => e = .returned (.bool true) ∧ Below W.heap.size W w'))
    (HI1 : Hid (∀ W, CoreAt W W.heap.size (.node o a b c m ks) A cap → Calls Tryd.prog 18 #[.agg #[.string ⟨o.toArray⟩, .int .i64 a, .int .i64 b, .int .i64 c, .int .i64 m, .slice A ks.length cap], .int .i64 n] W fun e w' => e = .returned (.bool false) ∧ Below W.heap.size W w'))
    (_HI2 : Hid (∀ W, CoreAt W W.heap.size (.node o2 a2 b2 c2 m2 ls) B cap2 → Calls Tryd.prog 18 #[.agg #[.string ⟨o2.toArray⟩, .int .i64 a2, .int .i64 b2, .int .i64 c2, .int .i64 m2, .slice B ls.length cap2], .int .i64 n] W fun e w' => e = .returned (.bool I2) ∧ Below W.heap.size W w')) :
    Calls Tryd.prog 10 #[.agg #[.string ⟨o.toArray⟩, .int .i64 a, .int .i64 b, .int .i64 c, .int .i64 m, .slice A ks.length cap], .agg #[.string ⟨o2.toArray⟩, .int .i64 a2, .int .i64 b2, .int .i64 c2, .int .i64 m2, .slice B ls.length cap2], .int .i64 n] w fun e w' => e = .returned (.bool true) ∧ Below w.heap.size w w' := by
  have g1 : decide (200 < (N1 : Int)) = false := decide_eq_false (by omega)
  have g2 : decide (200 < (N2 : Int)) = false := decide_eq_false (by omega)
  have HX := Lib.hid (fun W (hW : Below (w.heap.size + 1 + 1) ((w.alloc (.cells #[.string ⟨o.toArray⟩, .int .i64 a, .int .i64 b, .int .i64 c, .int .i64 m, .slice A ks.length cap] 24)).alloc (.cells #[.string ⟨o2.toArray⟩, .int .i64 a2, .int .i64 b2, .int .i64 c2, .int .i64 m2, .slice B ls.length cap2] 24)) W) => two_boxes hW)
  have HW := Lib.hid (fun W (hW : Below (w.heap.size + 1 + 1) ((w.alloc (.cells #[.string ⟨o.toArray⟩, .int .i64 a, .int .i64 b, .int .i64 c, .int .i64 m, .slice A ks.length cap] 24)).alloc (.cells #[.string ⟨o2.toArray⟩, .int .i64 a2, .int .i64 b2, .int .i64 c2, .int .i64 m2, .slice B ls.length cap2] 24)) W) => ((((Below.refl w.heap.size w).alloc (Nat.le_refl _) (.cells #[.string ⟨o.toArray⟩, .int .i64 a, .int .i64 b, .int .i64 c, .int .i64 m, .slice A ks.length cap] 24)).alloc (by simp) (.cells #[.string ⟨o2.toArray⟩, .int .i64 a2, .int .i64 b2, .int .i64 c2, .int .i64 m2, .slice B ls.length cap2] 24)).trans (hW.mono (by omega)) : Below w.heap.size w W))
  have HG := Lib.hid (fun W W' (hW : Below (w.heap.size + 1 + 1) ((w.alloc (.cells #[.string ⟨o.toArray⟩, .int .i64 a, .int .i64 b, .int .i64 c, .int .i64 m, .slice A ks.length cap] 24)).alloc (.cells #[.string ⟨o2.toArray⟩, .int .i64 a2, .int .i64 b2, .int .i64 c2, .int .i64 m2, .slice B ls.length cap2] 24)) W) (hb : Below W.heap.size W W') => (hW.trans (hb.mono (Nat.le_trans (by simp) hW.size)) : Below (w.heap.size + 1 + 1) ((w.alloc (.cells #[.string ⟨o.toArray⟩, .int .i64 a, .int .i64 b, .int .i64 c, .int .i64 m, .slice A ks.length cap] 24)).alloc (.cells #[.string ⟨o2.toArray⟩, .int .i64 a2, .int .i64 b2, .int .i64 c2, .int .i64 m2, .slice B ls.length cap2] 24)) W'))
  have hB0 := Below.refl (w.heap.size + 1 + 1) ((w.alloc (.cells #[.string ⟨o.toArray⟩, .int .i64 a, .int .i64 b, .int .i64 c, .int .i64 m, .slice A ks.length cap] 24)).alloc (.cells #[.string ⟨o2.toArray⟩, .int .i64 a2, .int .i64 b2, .int .i64 c2, .int .i64 m2, .slice B ls.length cap2] 24))
  have HSS := Lib.hid (fun W (hW : Below (w.heap.size + 1 + 1) ((w.alloc (.cells #[.string ⟨o.toArray⟩, .int .i64 a, .int .i64 b, .int .i64 c, .int .i64 m, .slice A ks.length cap] 24)).alloc (.cells #[.string ⟨o2.toArray⟩, .int .i64 a2, .int .i64 b2, .int .i64 c2, .int .i64 m2, .slice B ls.length cap2] 24)) W) => (⟨hW, two_boxes hW⟩ : (fun W => Below (w.heap.size + 1 + 1) ((w.alloc (.cells #[.string ⟨o.toArray⟩, .int .i64 a, .int .i64 b, .int .i64 c, .int .i64 m, .slice A ks.length cap] 24)).alloc (.cells #[.string ⟨o2.toArray⟩, .int .i64 a2, .int .i64 b2, .int .i64 c2, .int .i64 m2, .slice B ls.length cap2] 24)) W ∧ (W.cell? ⟨w.heap.size, 0, none⟩ = some (.string ⟨o.toArray⟩) ∧ W.cell? ⟨w.heap.size, 1, none⟩ = some (.int .i64 a) ∧ W.cell? ⟨w.heap.size, 2, none⟩ = some (.int .i64 b) ∧ W.cell? ⟨w.heap.size, 3, none⟩ = some (.int .i64 c) ∧ W.cell? ⟨w.heap.size, 4, none⟩ = some (.int .i64 m) ∧ W.cell? ⟨w.heap.size, 5, none⟩ = some (.slice A ks.length cap)) ∧ (W.cell? ⟨w.heap.size + 1, 0, none⟩ = some (.string ⟨o2.toArray⟩) ∧ W.cell? ⟨w.heap.size + 1, 1, none⟩ = some (.int .i64 a2) ∧ W.cell? ⟨w.heap.size + 1, 2, none⟩ = some (.int .i64 b2) ∧ W.cell? ⟨w.heap.size + 1, 3, none⟩ = some (.int .i64 c2) ∧ W.cell? ⟨w.heap.size + 1, 4, none⟩ = some (.int .i64 m2) ∧ W.cell? ⟨w.heap.size + 1, 5, none⟩ = some (.slice B ls.length cap2))) W))
  have HG2 := Lib.hid (fun W W' (hS : (fun W => Below (w.heap.size + 1 + 1) ((w.alloc (.cells #[.string ⟨o.toArray⟩, .int .i64 a, .int .i64 b, .int .i64 c, .int .i64 m, .slice A ks.length cap] 24)).alloc (.cells #[.string ⟨o2.toArray⟩, .int .i64 a2, .int .i64 b2, .int .i64 c2, .int .i64 m2, .slice B ls.length cap2] 24)) W ∧ (W.cell? ⟨w.heap.size, 0, none⟩ = some (.string ⟨o.toArray⟩) ∧ W.cell? ⟨w.heap.size, 1, none⟩ = some (.int .i64 a) ∧ W.cell? ⟨w.heap.size, 2, none⟩ = some (.int .i64 b) ∧ W.cell? ⟨w.heap.size, 3, none⟩ = some (.int .i64 c) ∧ W.cell? ⟨w.heap.size, 4, none⟩ = some (.int .i64 m) ∧ W.cell? ⟨w.heap.size, 5, none⟩ = some (.slice A ks.length cap)) ∧ (W.cell? ⟨w.heap.size + 1, 0, none⟩ = some (.string ⟨o2.toArray⟩) ∧ W.cell? ⟨w.heap.size + 1, 1, none⟩ = some (.int .i64 a2) ∧ W.cell? ⟨w.heap.size + 1, 2, none⟩ = some (.int .i64 b2) ∧ W.cell? ⟨w.heap.size + 1, 3, none⟩ = some (.int .i64 c2) ∧ W.cell? ⟨w.heap.size + 1, 4, none⟩ = some (.int .i64 m2) ∧ W.cell? ⟨w.heap.size + 1, 5, none⟩ = some (.slice B ls.length cap2))) W) (hb : Below W.heap.size W W') => HG.out W W' hS.1 hb)
  have HWS := Lib.hid (fun W (hS : (fun W => Below (w.heap.size + 1 + 1) ((w.alloc (.cells #[.string ⟨o.toArray⟩, .int .i64 a, .int .i64 b, .int .i64 c, .int .i64 m, .slice A ks.length cap] 24)).alloc (.cells #[.string ⟨o2.toArray⟩, .int .i64 a2, .int .i64 b2, .int .i64 c2, .int .i64 m2, .slice B ls.length cap2] 24)) W ∧ (W.cell? ⟨w.heap.size, 0, none⟩ = some (.string ⟨o.toArray⟩) ∧ W.cell? ⟨w.heap.size, 1, none⟩ = some (.int .i64 a) ∧ W.cell? ⟨w.heap.size, 2, none⟩ = some (.int .i64 b) ∧ W.cell? ⟨w.heap.size, 3, none⟩ = some (.int .i64 c) ∧ W.cell? ⟨w.heap.size, 4, none⟩ = some (.int .i64 m) ∧ W.cell? ⟨w.heap.size, 5, none⟩ = some (.slice A ks.length cap)) ∧ (W.cell? ⟨w.heap.size + 1, 0, none⟩ = some (.string ⟨o2.toArray⟩) ∧ W.cell? ⟨w.heap.size + 1, 1, none⟩ = some (.int .i64 a2) ∧ W.cell? ⟨w.heap.size + 1, 2, none⟩ = some (.int .i64 b2) ∧ W.cell? ⟨w.heap.size + 1, 3, none⟩ = some (.int .i64 c2) ∧ W.cell? ⟨w.heap.size + 1, 4, none⟩ = some (.int .i64 m2) ∧ W.cell? ⟨w.heap.size + 1, 5, none⟩ = some (.slice B ls.length cap2))) W) => HW.out W hS.1)
  go_enter Tryd.func10, Tryd.ntmps10
  go_upto_region 3 with (first
    | (go_at_call_of 11 (Value.agg #[Value.string ⟨o2.toArray⟩, Value.int IntKind.i64 a2, Value.int IntKind.i64 b2, Value.int IntKind.i64 c2, Value.int IntKind.i64 m2, Value.slice B ls.length cap2])
       have hq := HW.out _ hB2
       refine (HSZ2.out _ (HC2.out _ hq)).mono ?_
       rintro e w3 ⟨rfl, hb⟩
       have hB3 := HG.out _ _ hB2 hb
       clear hb hq)
    | (go_at_call_of 11 (Value.agg #[Value.string ⟨o.toArray⟩, Value.int IntKind.i64 a, Value.int IntKind.i64 b, Value.int IntKind.i64 c, Value.int IntKind.i64 m, Value.slice A ks.length cap])
       have hq := HW.out _ hB0
       refine (HSZ1.out _ (HC.out _ hq)).mono ?_
       rintro e w2 ⟨rfl, hb⟩
       have hB2 := HG.out _ _ hB0 hb
       obtain ⟨⟨x0, x1, x2, x3, x4, x5⟩, ⟨y0, y1, y2, y3, y4, y5⟩⟩ := HX.out _ hB2
       clear hb hq))
  have HB3 := Lib.hid hB3
  clear hB3 hB2 hB0 x0 x1 x2 x3 x4 x5 y0 y1 y2 y3 y4 y5
  generalize ((w.alloc (.cells #[.string ⟨o.toArray⟩, .int .i64 a, .int .i64 b, .int .i64 c, .int .i64 m, .slice A ks.length cap] 24)).alloc (.cells #[.string ⟨o2.toArray⟩, .int .i64 a2, .int .i64 b2, .int .i64 c2, .int .i64 m2, .slice B ls.length cap2] 24)) = Z at *
  have HBZ := HB3
  go_region_held3 (fun W => Below (w.heap.size + 1 + 1) Z W ∧ (W.cell? ⟨w.heap.size, 0, none⟩ = some (.string ⟨o.toArray⟩) ∧ W.cell? ⟨w.heap.size, 1, none⟩ = some (.int .i64 a) ∧ W.cell? ⟨w.heap.size, 2, none⟩ = some (.int .i64 b) ∧ W.cell? ⟨w.heap.size, 3, none⟩ = some (.int .i64 c) ∧ W.cell? ⟨w.heap.size, 4, none⟩ = some (.int .i64 m) ∧ W.cell? ⟨w.heap.size, 5, none⟩ = some (.slice A ks.length cap)) ∧ (W.cell? ⟨w.heap.size + 1, 0, none⟩ = some (.string ⟨o2.toArray⟩) ∧ W.cell? ⟨w.heap.size + 1, 1, none⟩ = some (.int .i64 a2) ∧ W.cell? ⟨w.heap.size + 1, 2, none⟩ = some (.int .i64 b2) ∧ W.cell? ⟨w.heap.size + 1, 3, none⟩ = some (.int .i64 c2) ∧ W.cell? ⟨w.heap.size + 1, 4, none⟩ = some (.int .i64 m2) ∧ W.cell? ⟨w.heap.size + 1, 5, none⟩ = some (.slice B ls.length cap2))) (first | assumption | exact HSS.out _ hB4 | exact HSS.out _ HBZ.out.drew | exact HSS.out _ HBZ.out) (first
    | (
       go_at_call_of 23 (Value.agg #[Value.string ⟨o2.toArray⟩, Value.int IntKind.i64 a2, Value.int IntKind.i64 b2, Value.int IntKind.i64 c2, Value.int IntKind.i64 m2, Value.slice B ls.length cap2])
       have hq := HWS.out _ (by assumption)
       refine (HS1.out _ (HC.out _ hq) (HC2.out _ hq)).mono ?_
       rintro e w4 ⟨rfl, hb⟩
       have hB4 := HG2.out _ _ (by assumption) hb
       clear hb)
    | (
       go_at_call 23
       have hq := HWS.out _ (by assumption)
       refine (HS2.out _ (HC.out _ hq) (HC.out _ hq)).mono ?_
       rintro e w4 ⟨rfl, hb⟩
       have hB4 := HG2.out _ _ (by assumption) hb
       clear hb)
    | (
       go_at_call 24
       have hq := HWS.out _ (by assumption)
       refine (HR1.out _ (HC.out _ hq) (HC2.out _ hq)).mono ?_
       rintro e w4 ⟨rfl, hb⟩
       have hB4 := HG2.out _ _ (by assumption) hb
       clear hb))
  all_goals
    have hh := (show (fun W => Below (w.heap.size + 1 + 1) Z W ∧ (W.cell? ⟨w.heap.size, 0, none⟩ = some (.string ⟨o.toArray⟩) ∧ W.cell? ⟨w.heap.size, 1, none⟩ = some (.int .i64 a) ∧ W.cell? ⟨w.heap.size, 2, none⟩ = some (.int .i64 b) ∧ W.cell? ⟨w.heap.size, 3, none⟩ = some (.int .i64 c) ∧ W.cell? ⟨w.heap.size, 4, none⟩ = some (.int .i64 m) ∧ W.cell? ⟨w.heap.size, 5, none⟩ = some (.slice A ks.length cap)) ∧ (W.cell? ⟨w.heap.size + 1, 0, none⟩ = some (.string ⟨o2.toArray⟩) ∧ W.cell? ⟨w.heap.size + 1, 1, none⟩ = some (.int .i64 a2) ∧ W.cell? ⟨w.heap.size + 1, 2, none⟩ = some (.int .i64 b2) ∧ W.cell? ⟨w.heap.size + 1, 3, none⟩ = some (.int .i64 c2) ∧ W.cell? ⟨w.heap.size + 1, 4, none⟩ = some (.int .i64 m2) ∧ W.cell? ⟨w.heap.size + 1, 5, none⟩ = some (.slice B ls.length cap2))) _ by assumption)
    have HBZ := Lib.hid hh.1
    obtain ⟨_, ⟨x0, x1, x2, x3, x4, x5⟩, ⟨y0, y1, y2, y3, y4, y5⟩⟩ := hh
    clear hB4
    go_upto_region 5 with fail
    clear x0 x1 x2 x3 x4 x5 y0 y1 y2 y3 y4 y5
    refine wp_region_noPanic ?_
    refine wp_region_held_drew (S := (fun W => Below (w.heap.size + 1 + 1) Z W ∧ (W.cell? ⟨w.heap.size, 0, none⟩ = some (.string ⟨o.toArray⟩) ∧ W.cell? ⟨w.heap.size, 1, none⟩ = some (.int .i64 a) ∧ W.cell? ⟨w.heap.size, 2, none⟩ = some (.int .i64 b) ∧ W.cell? ⟨w.heap.size, 3, none⟩ = some (.int .i64 c) ∧ W.cell? ⟨w.heap.size, 4, none⟩ = some (.int .i64 m) ∧ W.cell? ⟨w.heap.size, 5, none⟩ = some (.slice A ks.length cap)) ∧ (W.cell? ⟨w.heap.size + 1, 0, none⟩ = some (.string ⟨o2.toArray⟩) ∧ W.cell? ⟨w.heap.size + 1, 1, none⟩ = some (.int .i64 a2) ∧ W.cell? ⟨w.heap.size + 1, 2, none⟩ = some (.int .i64 b2) ∧ W.cell? ⟨w.heap.size + 1, 3, none⟩ = some (.int .i64 c2) ∧ W.cell? ⟨w.heap.size + 1, 4, none⟩ = some (.int .i64 m2) ∧ W.cell? ⟨w.heap.size + 1, 5, none⟩ = some (.slice B ls.length cap2)))) (by kernel_rfl) (HSS.out _ HBZ.out.drew) (fun hHeld => ?_)
    refine wpAnyH_take (i := 0) (v := ?vvg0) rfl (by kernel_rfl) (by kernel_rfl) (by kernel_rfl) (fun _ _ _ h => h) (Or.inl ⟨by rfl, ?hyg0⟩) (by assumption) ?rrg0
    case hyg0 =>
      intro W hS
      try dsimp only at hS
      go_simp
      try with_reducible rfl
    case rrg0 =>
    try simp only [Act.put, List.getElem_toArray, List.getElem_cons_zero, List.setIfInBounds_toArray, List.set_cons_zero, List.set_cons_succ]
    refine wpAnyH_take (i := 1) (v := ?vvg1) rfl (by kernel_rfl) (by kernel_rfl) (by kernel_rfl) (fun _ _ _ h => h) (Or.inl ⟨by rfl, ?hyg1⟩) (by assumption) ?rrg1
    case hyg1 =>
      intro W hS
      try dsimp only at hS
      go_simp
      try with_reducible rfl
    case rrg1 =>
    try simp only [Act.put, List.getElem_toArray, List.getElem_cons_succ, List.getElem_cons_zero, List.setIfInBounds_toArray, List.set_cons_zero, List.set_cons_succ]
    refine wpAnyH_ready (rs := [2]) (by kernel_rfl) (by simp) ?_
    refine AllReadyH.cons rfl (fun K hK => ?_) AllReadyH.nil
    go_simp
    have hq := HWS.out _ (by assumption)
    refine (HI1.out _ (HC.out _ hq)).mono ?_
    rintro e w4 ⟨rfl, hb⟩
    have hB4 := HG2.out _ _ (by assumption) hb
    clear hb hq
    refine hK.out _ _ (HSS.out _ hB4) (fun hHeld => ?_)
    clear hK K
    try simp only [Act.put, List.getElem_toArray, List.getElem_cons_succ, List.getElem_cons_zero, List.setIfInBounds_toArray, List.set_cons_zero, List.set_cons_succ]
    refine wpAnyH_take (i := 3) (v := ?vvg3) rfl (by kernel_rfl) (by kernel_rfl) (by kernel_rfl) (fun _ _ _ h => h) (Or.inl ⟨by rfl, ?hyg3⟩) (by assumption) ?rrg3
    case hyg3 =>
      intro W hS
      try dsimp only at hS
      go_simp
      try with_reducible rfl
    case rrg3 =>
    try simp only [Act.put, List.getElem_toArray, List.getElem_cons_succ, List.getElem_cons_zero, List.setIfInBounds_toArray, List.set_cons_zero, List.set_cons_succ]
    refine wpAnyH_take (i := 4) (v := ?vvg4) rfl (by kernel_rfl) (by kernel_rfl) (by kernel_rfl) (fun _ _ _ h => h) (Or.inl ⟨by rfl, ?hyg4⟩) (by assumption) ?rrg4
    case hyg4 =>
      intro W hS
      try dsimp only at hS
      go_simp
      try with_reducible rfl
    case rrg4 =>
    try simp only [Act.put, List.getElem_toArray, List.getElem_cons_succ, List.getElem_cons_zero, List.setIfInBounds_toArray, List.set_cons_zero, List.set_cons_succ]
    refine wpAnyH_take (i := 5) rfl (by kernel_rfl) (by kernel_rfl) (by kernel_rfl) (fun _ _ _ h => h) (Or.inr ⟨by kernel_rfl, rfl⟩) (by assumption) ?_
    try simp only [Act.put, List.getElem_toArray, List.getElem_cons_succ, List.getElem_cons_zero, List.setIfInBounds_toArray, List.set_cons_zero, List.set_cons_succ]
    refine wpAnyH_take (i := 6) rfl (by kernel_rfl) (by kernel_rfl) (by kernel_rfl) (fun _ _ _ h => h) (Or.inr ⟨by kernel_rfl, rfl⟩) (by assumption) ?_
    try simp only [Act.put, List.getElem_toArray, List.getElem_cons_succ, List.getElem_cons_zero, List.setIfInBounds_toArray, List.set_cons_zero, List.set_cons_succ]
    refine wpAnyH_take (i := 7) rfl (by kernel_rfl) (by kernel_rfl) (by kernel_rfl) (fun _ _ _ h => h) (Or.inr ⟨by kernel_rfl, rfl⟩) (by assumption) ?_
    try simp only [Act.put, List.getElem_toArray, List.getElem_cons_succ, List.getElem_cons_zero, List.setIfInBounds_toArray, List.set_cons_zero, List.set_cons_succ]
    refine wpAnyH_take (i := 8) rfl (by kernel_rfl) (by kernel_rfl) (by kernel_rfl) (fun _ _ _ h => h) (Or.inr ⟨by kernel_rfl, rfl⟩) (by assumption) ?_
    try simp only [Act.put, List.getElem_toArray, List.getElem_cons_succ, List.getElem_cons_zero, List.setIfInBounds_toArray, List.set_cons_zero, List.set_cons_succ]
    refine wpAnyH_take (i := 9) (v := ?vvg9) rfl (by kernel_rfl) (by kernel_rfl) (by kernel_rfl) (fun _ _ _ h => h) (Or.inl ⟨by rfl, ?hyg9⟩) (by assumption) ?rrg9
    case hyg9 =>
      intro W hS
      try dsimp only at hS
      go_simp
      try with_reducible rfl
    case rrg9 =>
    try simp only [Act.put, List.getElem_toArray, List.getElem_cons_succ, List.getElem_cons_zero, List.setIfInBounds_toArray, List.set_cons_zero, List.set_cons_succ]
    refine wpAnyH_take (i := 10) (v := ?vvg10) rfl (by kernel_rfl) (by kernel_rfl) (by kernel_rfl) (fun _ _ _ h => h) (Or.inl ⟨by rfl, ?hyg10⟩) (by assumption) ?rrg10
    case hyg10 =>
      intro W hS
      try dsimp only at hS
      go_simp
      try with_reducible rfl
    case rrg10 =>
    try simp only [Act.put, List.getElem_toArray, List.getElem_cons_succ, List.getElem_cons_zero, List.setIfInBounds_toArray, List.set_cons_zero, List.set_cons_succ]
    refine wpAnyH_take (i := 11) rfl (by kernel_rfl) (by kernel_rfl) (by kernel_rfl) (fun _ _ _ h => h) (Or.inr ⟨by kernel_rfl, rfl⟩) (by assumption) ?_
    try simp only [Act.put, List.getElem_toArray, List.getElem_cons_succ, List.getElem_cons_zero, List.setIfInBounds_toArray, List.set_cons_zero, List.set_cons_succ]
    refine wpAnyH_take (i := 12) rfl (by kernel_rfl) (by kernel_rfl) (by kernel_rfl) (fun _ _ _ h => h) (Or.inr ⟨by kernel_rfl, rfl⟩) (by assumption) ?_
    try simp only [Act.put, List.getElem_toArray, List.getElem_cons_succ, List.getElem_cons_zero, List.setIfInBounds_toArray, List.set_cons_zero, List.set_cons_succ]
    refine wpAnyH_take (i := 13) rfl (by kernel_rfl) (by kernel_rfl) (by kernel_rfl) (fun _ _ _ h => h) (Or.inr ⟨by kernel_rfl, rfl⟩) (by assumption) ?_
    try simp only [Act.put, List.getElem_toArray, List.getElem_cons_succ, List.getElem_cons_zero, List.setIfInBounds_toArray, List.set_cons_zero, List.set_cons_succ]
    refine wpAnyH_take (i := 14) rfl (by kernel_rfl) (by kernel_rfl) (by kernel_rfl) (fun _ _ _ h => h) (Or.inr ⟨by kernel_rfl, rfl⟩) (by assumption) ?_
    try simp only [Act.put, List.getElem_toArray, List.getElem_cons_succ, List.getElem_cons_zero, List.setIfInBounds_toArray, List.set_cons_zero, List.set_cons_succ]
    refine wpAnyH_take (i := 15) rfl (by kernel_rfl) (by kernel_rfl) (by kernel_rfl) (fun _ _ _ h => h) (Or.inr ⟨by kernel_rfl, rfl⟩) (by assumption) ?_
    try simp only [Act.put, List.getElem_toArray, List.getElem_cons_succ, List.getElem_cons_zero, List.setIfInBounds_toArray, List.set_cons_zero, List.set_cons_succ]
    refine wpAnyH_take (i := 16) rfl (by kernel_rfl) (by kernel_rfl) (by kernel_rfl) (fun _ _ _ h => h) (Or.inr ⟨by kernel_rfl, rfl⟩) (by assumption) ?_
    try simp only [Act.put, List.getElem_toArray, List.getElem_cons_succ, List.getElem_cons_zero, List.setIfInBounds_toArray, List.set_cons_zero, List.set_cons_succ]
    refine wpAnyH_take (i := 17) rfl (by kernel_rfl) (by kernel_rfl) (by kernel_rfl) (fun _ _ _ h => h) (Or.inr ⟨by kernel_rfl, rfl⟩) (by assumption) ?_
    try simp only [Act.put, List.getElem_toArray, List.getElem_cons_succ, List.getElem_cons_zero, List.setIfInBounds_toArray, List.set_cons_zero, List.set_cons_succ]
    refine wpAnyH_take (i := 18) rfl (by kernel_rfl) (by kernel_rfl) (by kernel_rfl) (fun _ _ _ h => h) (Or.inr ⟨by kernel_rfl, rfl⟩) (by assumption) ?_
    try simp only [Act.put, List.getElem_toArray, List.getElem_cons_succ, List.getElem_cons_zero, List.setIfInBounds_toArray, List.set_cons_zero, List.set_cons_succ]
    refine wpAnyH_take (i := 19) rfl (by kernel_rfl) (by kernel_rfl) (by kernel_rfl) (fun _ _ _ h => h) (Or.inr ⟨by kernel_rfl, rfl⟩) (by assumption) ?_
    try simp only [Act.put, List.getElem_toArray, List.getElem_cons_succ, List.getElem_cons_zero, List.setIfInBounds_toArray, List.set_cons_zero, List.set_cons_succ]
    refine wpAnyH_take (i := 20) (v := ?vvg20) rfl (by kernel_rfl) (by kernel_rfl) (by kernel_rfl) (fun _ _ _ h => h) (Or.inl ⟨by rfl, ?hyg20⟩) (by assumption) ?rrg20
    case hyg20 =>
      intro W hS
      try dsimp only at hS
      go_simp
      try with_reducible rfl
    case rrg20 =>
    try simp only [Act.put, List.getElem_toArray, List.getElem_cons_succ, List.getElem_cons_zero, List.setIfInBounds_toArray, List.set_cons_zero, List.set_cons_succ]
    refine wpAnyH_take (i := 21) (v := ?vvg21) rfl (by kernel_rfl) (by kernel_rfl) (by kernel_rfl) (fun _ _ _ h => h) (Or.inl ⟨by rfl, ?hyg21⟩) (by assumption) ?rrg21
    case hyg21 =>
      intro W hS
      try dsimp only at hS
      go_simp
      try with_reducible rfl
    case rrg21 =>
    try simp only [Act.put, List.getElem_toArray, List.getElem_cons_succ, List.getElem_cons_zero, List.setIfInBounds_toArray, List.set_cons_zero, List.set_cons_succ]
    refine wpAnyH_ready (rs := [22]) (by kernel_rfl) (by simp) ?_
    refine AllReadyH.cons rfl (fun K hK => ?_) AllReadyH.nil
    go_simp
    have hq := HWS.out _ (by assumption)
    refine (known9_any _).mono ?_
    rintro e w4 ⟨rfl, hb⟩
    have hB4 := HG2.out _ _ (by assumption) hb
    clear hb hq
    refine hK.out _ _ (HSS.out _ hB4) (fun hHeld => ?_)
    clear hK K
    try simp only [Act.put, List.getElem_toArray, List.getElem_cons_succ, List.getElem_cons_zero, List.setIfInBounds_toArray, List.set_cons_zero, List.set_cons_succ]
    refine wpAnyH_take (i := 23) (v := ?vvg23) rfl (by kernel_rfl) (by kernel_rfl) (by kernel_rfl) (fun _ _ _ h => h) (Or.inl ⟨by rfl, ?hyg23⟩) (by assumption) ?rrg23
    case hyg23 =>
      intro W hS
      try dsimp only at hS
      go_simp
      try with_reducible rfl
    case rrg23 =>
    try simp only [Act.put, List.getElem_toArray, List.getElem_cons_succ, List.getElem_cons_zero, List.setIfInBounds_toArray, List.set_cons_zero, List.set_cons_succ]
    refine wpAnyH_take (i := 24) (v := ?vvg24) rfl (by kernel_rfl) (by kernel_rfl) (by kernel_rfl) (fun _ _ _ h => h) (Or.inl ⟨by rfl, ?hyg24⟩) (by assumption) ?rrg24
    case hyg24 =>
      intro W hS
      try dsimp only at hS
      go_simp
      try with_reducible rfl
    case rrg24 =>
    try simp only [Act.put, List.getElem_toArray, List.getElem_cons_succ, List.getElem_cons_zero, List.setIfInBounds_toArray, List.set_cons_zero, List.set_cons_succ]
    refine wpAnyH_done (by kernel_rfl) ?_ _
    refine NoPanic.normal ?_
    go_wp2_with fail
    go_ret
    exact ⟨rfl, HWS.out _ (by assumption)⟩

set_option maxHeartbeats 8000000 in
theorem law_ne_half (o : List UInt8) (a b c m : Int) (ks : List Core) (A : Option Addr) (cap : Nat) (B : Option Addr) (cap2 : Nat) (n : Int) (w : World) (N1 N2 : Nat) (_T1 : List UInt8) (o2 : List UInt8) (a2 b2 c2 m2 : Int) (ls : List Core) (_T2 : List UInt8) (hN1 : ¬ 200 < N1) (hN2 : ¬ 200 < N2)
    (HC : Hid (∀ W, Below w.heap.size w W → CoreAt W W.heap.size (.node o a b c m ks) A cap)) (HC2 : Hid (∀ W, Below w.heap.size w W → CoreAt W W.heap.size (.node o2 a2 b2 c2 m2 ls) B cap2))
    (HSZ1 : Hid (∀ W, CoreAt W W.heap.size (.node o a b c m ks) A cap → Calls Tryd.prog 11 #[.agg #[.string ⟨o.toArray⟩, .int .i64 a, .int .i64 b, .int .i64 c, .int .i64 m, .slice A ks.length cap]] W fun e w' => e = .returned (.int .i64 (N1 : Nat)) ∧ Below W.heap.size W w'))
    (HSZ2 : Hid (∀ W, CoreAt W W.heap.size (.node o2 a2 b2 c2 m2 ls) B cap2 → Calls Tryd.prog 11 #[.agg #[.string ⟨o2.toArray⟩, .int .i64 a2, .int .i64 b2, .int .i64 c2, .int .i64 m2, .slice B ls.length cap2]] W fun e w' => e = .returned (.int .i64 (N2 : Nat)) ∧ Below W.heap.size W w'))
    (HS1 : Hid (∀ W, CoreAt W W.heap.size (.node o a b c m ks) A cap → CoreAt W W.heap.size (.node o2 a2 b2 c2 m2 ls) B cap2 → Calls Tryd.prog 23 #[.agg #[.string ⟨o.toArray⟩, .int .i64 a, .int .i64 b, .int .i64 c, .int .i64 m, .slice A ks.length cap], .agg #[.string ⟨o2.toArray⟩, .int .i64 a2, .int .i64 b2, .int .i64 c2, .int .i64 m2, .slice B ls.length cap2]] W fun e w' => e = .returned (.bool false) ∧ Below W.heap.size W w'))
    (HR1 : Hid (∀ W, CoreAt W W.heap.size (.node o a b c m ks) A cap → CoreAt W W.heap.size (.node o2 a2 b2 c2 m2 ls) B cap2 → Calls Tryd.prog 24 #[.agg #[.string ⟨o.toArray⟩, .int .i64 a, .int .i64 b, .int .i64 c, .int .i64 m, .slice A ks.length cap], .agg #[.string ⟨o2.toArray⟩, .int .i64 a2, .int .i64 b2, .int .i64 c2, .int .i64 m2, .slice B ls.length cap2]] W fun e w' => e = .returned (.bool false) ∧ Below W.heap.size W w'))
    (HS2 : Hid (∀ W, CoreAt W W.heap.size (.node o a b c m ks) A cap → CoreAt W W.heap.size (.node o a b c m ks) A cap → Calls Tryd.prog 23 #[.agg #[.string ⟨o.toArray⟩, .int .i64 a, .int .i64 b, .int .i64 c, .int .i64 m, .slice A ks.length cap], .agg #[.string ⟨o.toArray⟩, .int .i64 a, .int .i64 b, .int .i64 c, .int .i64 m, .slice A ks.length cap]] W fun e w' => e = .returned (.bool true) ∧ Below W.heap.size W w'))
    (HI1 : Hid (∀ W, CoreAt W W.heap.size (.node o a b c m ks) A cap → Calls Tryd.prog 18 #[.agg #[.string ⟨o.toArray⟩, .int .i64 a, .int .i64 b, .int .i64 c, .int .i64 m, .slice A ks.length cap], .int .i64 n] W fun e w' => e = .returned (.bool true) ∧ Below W.heap.size W w'))
    (HI2 : Hid (∀ W, CoreAt W W.heap.size (.node o2 a2 b2 c2 m2 ls) B cap2 → Calls Tryd.prog 18 #[.agg #[.string ⟨o2.toArray⟩, .int .i64 a2, .int .i64 b2, .int .i64 c2, .int .i64 m2, .slice B ls.length cap2], .int .i64 n] W fun e w' => e = .returned (.bool false) ∧ Below W.heap.size W w')) :
    Calls Tryd.prog 10 #[.agg #[.string ⟨o.toArray⟩, .int .i64 a, .int .i64 b, .int .i64 c, .int .i64 m, .slice A ks.length cap], .agg #[.string ⟨o2.toArray⟩, .int .i64 a2, .int .i64 b2, .int .i64 c2, .int .i64 m2, .slice B ls.length cap2], .int .i64 n] w fun e w' => e = .returned (.bool true) ∧ Below w.heap.size w w' := by
  have g1 : decide (200 < (N1 : Int)) = false := decide_eq_false (by omega)
  have g2 : decide (200 < (N2 : Int)) = false := decide_eq_false (by omega)
  have HX := Lib.hid (fun W (hW : Below (w.heap.size + 1 + 1) ((w.alloc (.cells #[.string ⟨o.toArray⟩, .int .i64 a, .int .i64 b, .int .i64 c, .int .i64 m, .slice A ks.length cap] 24)).alloc (.cells #[.string ⟨o2.toArray⟩, .int .i64 a2, .int .i64 b2, .int .i64 c2, .int .i64 m2, .slice B ls.length cap2] 24)) W) => two_boxes hW)
  have HW := Lib.hid (fun W (hW : Below (w.heap.size + 1 + 1) ((w.alloc (.cells #[.string ⟨o.toArray⟩, .int .i64 a, .int .i64 b, .int .i64 c, .int .i64 m, .slice A ks.length cap] 24)).alloc (.cells #[.string ⟨o2.toArray⟩, .int .i64 a2, .int .i64 b2, .int .i64 c2, .int .i64 m2, .slice B ls.length cap2] 24)) W) => ((((Below.refl w.heap.size w).alloc (Nat.le_refl _) (.cells #[.string ⟨o.toArray⟩, .int .i64 a, .int .i64 b, .int .i64 c, .int .i64 m, .slice A ks.length cap] 24)).alloc (by simp) (.cells #[.string ⟨o2.toArray⟩, .int .i64 a2, .int .i64 b2, .int .i64 c2, .int .i64 m2, .slice B ls.length cap2] 24)).trans (hW.mono (by omega)) : Below w.heap.size w W))
  have HG := Lib.hid (fun W W' (hW : Below (w.heap.size + 1 + 1) ((w.alloc (.cells #[.string ⟨o.toArray⟩, .int .i64 a, .int .i64 b, .int .i64 c, .int .i64 m, .slice A ks.length cap] 24)).alloc (.cells #[.string ⟨o2.toArray⟩, .int .i64 a2, .int .i64 b2, .int .i64 c2, .int .i64 m2, .slice B ls.length cap2] 24)) W) (hb : Below W.heap.size W W') => (hW.trans (hb.mono (Nat.le_trans (by simp) hW.size)) : Below (w.heap.size + 1 + 1) ((w.alloc (.cells #[.string ⟨o.toArray⟩, .int .i64 a, .int .i64 b, .int .i64 c, .int .i64 m, .slice A ks.length cap] 24)).alloc (.cells #[.string ⟨o2.toArray⟩, .int .i64 a2, .int .i64 b2, .int .i64 c2, .int .i64 m2, .slice B ls.length cap2] 24)) W'))
  have hB0 := Below.refl (w.heap.size + 1 + 1) ((w.alloc (.cells #[.string ⟨o.toArray⟩, .int .i64 a, .int .i64 b, .int .i64 c, .int .i64 m, .slice A ks.length cap] 24)).alloc (.cells #[.string ⟨o2.toArray⟩, .int .i64 a2, .int .i64 b2, .int .i64 c2, .int .i64 m2, .slice B ls.length cap2] 24))
  have HSS := Lib.hid (fun W (hW : Below (w.heap.size + 1 + 1) ((w.alloc (.cells #[.string ⟨o.toArray⟩, .int .i64 a, .int .i64 b, .int .i64 c, .int .i64 m, .slice A ks.length cap] 24)).alloc (.cells #[.string ⟨o2.toArray⟩, .int .i64 a2, .int .i64 b2, .int .i64 c2, .int .i64 m2, .slice B ls.length cap2] 24)) W) => (⟨hW, two_boxes hW⟩ : (fun W => Below (w.heap.size + 1 + 1) ((w.alloc (.cells #[.string ⟨o.toArray⟩, .int .i64 a, .int .i64 b, .int .i64 c, .int .i64 m, .slice A ks.length cap] 24)).alloc (.cells #[.string ⟨o2.toArray⟩, .int .i64 a2, .int .i64 b2, .int .i64 c2, .int .i64 m2, .slice B ls.length cap2] 24)) W ∧ (W.cell? ⟨w.heap.size, 0, none⟩ = some (.string ⟨o.toArray⟩) ∧ W.cell? ⟨w.heap.size, 1, none⟩ = some (.int .i64 a) ∧ W.cell? ⟨w.heap.size, 2, none⟩ = some (.int .i64 b) ∧ W.cell? ⟨w.heap.size, 3, none⟩ = some (.int .i64 c) ∧ W.cell? ⟨w.heap.size, 4, none⟩ = some (.int .i64 m) ∧ W.cell? ⟨w.heap.size, 5, none⟩ = some (.slice A ks.length cap)) ∧ (W.cell? ⟨w.heap.size + 1, 0, none⟩ = some (.string ⟨o2.toArray⟩) ∧ W.cell? ⟨w.heap.size + 1, 1, none⟩ = some (.int .i64 a2) ∧ W.cell? ⟨w.heap.size + 1, 2, none⟩ = some (.int .i64 b2) ∧ W.cell? ⟨w.heap.size + 1, 3, none⟩ = some (.int .i64 c2) ∧ W.cell? ⟨w.heap.size + 1, 4, none⟩ = some (.int .i64 m2) ∧ W.cell? ⟨w.heap.size + 1, 5, none⟩ = some (.slice B ls.length cap2))) W))
  have HG2 := Lib.hid (fun W W' (hS : (fun W => Below (w.heap.size + 1 + 1) ((w.alloc (.cells #[.string ⟨o.toArray⟩, .int .i64 a, .int .i64 b, .int .i64 c, .int .i64 m, .slice A ks.length cap] 24)).alloc (.cells #[.string ⟨o2.toArray⟩, .int .i64 a2, .int .i64 b2, .int .i64 c2, .int .i64 m2, .slice B ls.length cap2] 24)) W ∧ (W.cell? ⟨w.heap.size, 0, none⟩ = some (.string ⟨o.toArray⟩) ∧ W.cell? ⟨w.heap.size, 1, none⟩ = some (.int .i64 a) ∧ W.cell? ⟨w.heap.size, 2, none⟩ = some (.int .i64 b) ∧ W.cell? ⟨w.heap.size, 3, none⟩ = some (.int .i64 c) ∧ W.cell? ⟨w.heap.size, 4, none⟩ = some (.int .i64 m) ∧ W.cell? ⟨w.heap.size, 5, none⟩ = some (.slice A ks.length cap)) ∧ (W.cell? ⟨w.heap.size + 1, 0, none⟩ = some (.string ⟨o2.toArray⟩) ∧ W.cell? ⟨w.heap.size + 1, 1, none⟩ = some (.int .i64 a2) ∧ W.cell? ⟨w.heap.size + 1, 2, none⟩ = some (.int .i64 b2) ∧ W.cell? ⟨w.heap.size + 1, 3, none⟩ = some (.int .i64 c2) ∧ W.cell? ⟨w.heap.size + 1, 4, none⟩ = some (.int .i64 m2) ∧ W.cell? ⟨w.heap.size + 1, 5, none⟩ = some (.slice B ls.length cap2))) W) (hb : Below W.heap.size W W') => HG.out W W' hS.1 hb)
  have HWS := Lib.hid (fun W (hS : (fun W => Below (w.heap.size + 1 + 1) ((w.alloc (.cells #[.string ⟨o.toArray⟩, .int .i64 a, .int .i64 b, .int .i64 c, .int .i64 m, .slice A ks.length cap] 24)).alloc (.cells #[.string ⟨o2.toArray⟩, .int .i64 a2, .int .i64 b2, .int .i64 c2, .int .i64 m2, .slice B ls.length cap2] 24)) W ∧ (W.cell? ⟨w.heap.size, 0, none⟩ = some (.string ⟨o.toArray⟩) ∧ W.cell? ⟨w.heap.size, 1, none⟩ = some (.int .i64 a) ∧ W.cell? ⟨w.heap.size, 2, none⟩ = some (.int .i64 b) ∧ W.cell? ⟨w.heap.size, 3, none⟩ = some (.int .i64 c) ∧ W.cell? ⟨w.heap.size, 4, none⟩ = some (.int .i64 m) ∧ W.cell? ⟨w.heap.size, 5, none⟩ = some (.slice A ks.length cap)) ∧ (W.cell? ⟨w.heap.size + 1, 0, none⟩ = some (.string ⟨o2.toArray⟩) ∧ W.cell? ⟨w.heap.size + 1, 1, none⟩ = some (.int .i64 a2) ∧ W.cell? ⟨w.heap.size + 1, 2, none⟩ = some (.int .i64 b2) ∧ W.cell? ⟨w.heap.size + 1, 3, none⟩ = some (.int .i64 c2) ∧ W.cell? ⟨w.heap.size + 1, 4, none⟩ = some (.int .i64 m2) ∧ W.cell? ⟨w.heap.size + 1, 5, none⟩ = some (.slice B ls.length cap2))) W) => HW.out W hS.1)
  go_enter Tryd.func10, Tryd.ntmps10
  go_upto_region 3 with (first
    | (go_at_call_of 11 (Value.agg #[Value.string ⟨o2.toArray⟩, Value.int IntKind.i64 a2, Value.int IntKind.i64 b2, Value.int IntKind.i64 c2, Value.int IntKind.i64 m2, Value.slice B ls.length cap2])
       have hq := HW.out _ hB2
       refine (HSZ2.out _ (HC2.out _ hq)).mono ?_
       rintro e w3 ⟨rfl, hb⟩
       have hB3 := HG.out _ _ hB2 hb
       clear hb hq)
    | (go_at_call_of 11 (Value.agg #[Value.string ⟨o.toArray⟩, Value.int IntKind.i64 a, Value.int IntKind.i64 b, Value.int IntKind.i64 c, Value.int IntKind.i64 m, Value.slice A ks.length cap])
       have hq := HW.out _ hB0
       refine (HSZ1.out _ (HC.out _ hq)).mono ?_
       rintro e w2 ⟨rfl, hb⟩
       have hB2 := HG.out _ _ hB0 hb
       obtain ⟨⟨x0, x1, x2, x3, x4, x5⟩, ⟨y0, y1, y2, y3, y4, y5⟩⟩ := HX.out _ hB2
       clear hb hq))
  have HB3 := Lib.hid hB3
  clear hB3 hB2 hB0 x0 x1 x2 x3 x4 x5 y0 y1 y2 y3 y4 y5
  generalize ((w.alloc (.cells #[.string ⟨o.toArray⟩, .int .i64 a, .int .i64 b, .int .i64 c, .int .i64 m, .slice A ks.length cap] 24)).alloc (.cells #[.string ⟨o2.toArray⟩, .int .i64 a2, .int .i64 b2, .int .i64 c2, .int .i64 m2, .slice B ls.length cap2] 24)) = Z at *
  have HBZ := HB3
  go_region_held3 (fun W => Below (w.heap.size + 1 + 1) Z W ∧ (W.cell? ⟨w.heap.size, 0, none⟩ = some (.string ⟨o.toArray⟩) ∧ W.cell? ⟨w.heap.size, 1, none⟩ = some (.int .i64 a) ∧ W.cell? ⟨w.heap.size, 2, none⟩ = some (.int .i64 b) ∧ W.cell? ⟨w.heap.size, 3, none⟩ = some (.int .i64 c) ∧ W.cell? ⟨w.heap.size, 4, none⟩ = some (.int .i64 m) ∧ W.cell? ⟨w.heap.size, 5, none⟩ = some (.slice A ks.length cap)) ∧ (W.cell? ⟨w.heap.size + 1, 0, none⟩ = some (.string ⟨o2.toArray⟩) ∧ W.cell? ⟨w.heap.size + 1, 1, none⟩ = some (.int .i64 a2) ∧ W.cell? ⟨w.heap.size + 1, 2, none⟩ = some (.int .i64 b2) ∧ W.cell? ⟨w.heap.size + 1, 3, none⟩ = some (.int .i64 c2) ∧ W.cell? ⟨w.heap.size + 1, 4, none⟩ = some (.int .i64 m2) ∧ W.cell? ⟨w.heap.size + 1, 5, none⟩ = some (.slice B ls.length cap2))) (first | assumption | exact HSS.out _ hB4 | exact HSS.out _ HBZ.out.drew | exact HSS.out _ HBZ.out) (first
    | (
       go_at_call_of 23 (Value.agg #[Value.string ⟨o2.toArray⟩, Value.int IntKind.i64 a2, Value.int IntKind.i64 b2, Value.int IntKind.i64 c2, Value.int IntKind.i64 m2, Value.slice B ls.length cap2])
       have hq := HWS.out _ (by assumption)
       refine (HS1.out _ (HC.out _ hq) (HC2.out _ hq)).mono ?_
       rintro e w4 ⟨rfl, hb⟩
       have hB4 := HG2.out _ _ (by assumption) hb
       clear hb)
    | (
       go_at_call 23
       have hq := HWS.out _ (by assumption)
       refine (HS2.out _ (HC.out _ hq) (HC.out _ hq)).mono ?_
       rintro e w4 ⟨rfl, hb⟩
       have hB4 := HG2.out _ _ (by assumption) hb
       clear hb)
    | (
       go_at_call 24
       have hq := HWS.out _ (by assumption)
       refine (HR1.out _ (HC.out _ hq) (HC2.out _ hq)).mono ?_
       rintro e w4 ⟨rfl, hb⟩
       have hB4 := HG2.out _ _ (by assumption) hb
       clear hb))
  all_goals
    have hh := (show (fun W => Below (w.heap.size + 1 + 1) Z W ∧ (W.cell? ⟨w.heap.size, 0, none⟩ = some (.string ⟨o.toArray⟩) ∧ W.cell? ⟨w.heap.size, 1, none⟩ = some (.int .i64 a) ∧ W.cell? ⟨w.heap.size, 2, none⟩ = some (.int .i64 b) ∧ W.cell? ⟨w.heap.size, 3, none⟩ = some (.int .i64 c) ∧ W.cell? ⟨w.heap.size, 4, none⟩ = some (.int .i64 m) ∧ W.cell? ⟨w.heap.size, 5, none⟩ = some (.slice A ks.length cap)) ∧ (W.cell? ⟨w.heap.size + 1, 0, none⟩ = some (.string ⟨o2.toArray⟩) ∧ W.cell? ⟨w.heap.size + 1, 1, none⟩ = some (.int .i64 a2) ∧ W.cell? ⟨w.heap.size + 1, 2, none⟩ = some (.int .i64 b2) ∧ W.cell? ⟨w.heap.size + 1, 3, none⟩ = some (.int .i64 c2) ∧ W.cell? ⟨w.heap.size + 1, 4, none⟩ = some (.int .i64 m2) ∧ W.cell? ⟨w.heap.size + 1, 5, none⟩ = some (.slice B ls.length cap2))) _ by assumption)
    have HBZ := Lib.hid hh.1
    obtain ⟨_, ⟨x0, x1, x2, x3, x4, x5⟩, ⟨y0, y1, y2, y3, y4, y5⟩⟩ := hh
    clear hB4
    go_upto_region 5 with fail
    clear x0 x1 x2 x3 x4 x5 y0 y1 y2 y3 y4 y5
    refine wp_region_noPanic ?_
    refine wp_region_held_drew (S := (fun W => Below (w.heap.size + 1 + 1) Z W ∧ (W.cell? ⟨w.heap.size, 0, none⟩ = some (.string ⟨o.toArray⟩) ∧ W.cell? ⟨w.heap.size, 1, none⟩ = some (.int .i64 a) ∧ W.cell? ⟨w.heap.size, 2, none⟩ = some (.int .i64 b) ∧ W.cell? ⟨w.heap.size, 3, none⟩ = some (.int .i64 c) ∧ W.cell? ⟨w.heap.size, 4, none⟩ = some (.int .i64 m) ∧ W.cell? ⟨w.heap.size, 5, none⟩ = some (.slice A ks.length cap)) ∧ (W.cell? ⟨w.heap.size + 1, 0, none⟩ = some (.string ⟨o2.toArray⟩) ∧ W.cell? ⟨w.heap.size + 1, 1, none⟩ = some (.int .i64 a2) ∧ W.cell? ⟨w.heap.size + 1, 2, none⟩ = some (.int .i64 b2) ∧ W.cell? ⟨w.heap.size + 1, 3, none⟩ = some (.int .i64 c2) ∧ W.cell? ⟨w.heap.size + 1, 4, none⟩ = some (.int .i64 m2) ∧ W.cell? ⟨w.heap.size + 1, 5, none⟩ = some (.slice B ls.length cap2)))) (by kernel_rfl) (HSS.out _ HBZ.out.drew) (fun hHeld => ?_)
    refine wpAnyH_take (i := 0) (v := ?vvh0) rfl (by kernel_rfl) (by kernel_rfl) (by kernel_rfl) (fun _ _ _ h => h) (Or.inl ⟨by rfl, ?hyh0⟩) (by assumption) ?rrh0
    case hyh0 =>
      intro W hS
      try dsimp only at hS
      go_simp
      try with_reducible rfl
    case rrh0 =>
    try simp only [Act.put, List.getElem_toArray, List.getElem_cons_zero, List.setIfInBounds_toArray, List.set_cons_zero, List.set_cons_succ]
    refine wpAnyH_take (i := 1) (v := ?vvh1) rfl (by kernel_rfl) (by kernel_rfl) (by kernel_rfl) (fun _ _ _ h => h) (Or.inl ⟨by rfl, ?hyh1⟩) (by assumption) ?rrh1
    case hyh1 =>
      intro W hS
      try dsimp only at hS
      go_simp
      try with_reducible rfl
    case rrh1 =>
    try simp only [Act.put, List.getElem_toArray, List.getElem_cons_succ, List.getElem_cons_zero, List.setIfInBounds_toArray, List.set_cons_zero, List.set_cons_succ]
    refine wpAnyH_ready (rs := [2]) (by kernel_rfl) (by simp) ?_
    refine AllReadyH.cons rfl (fun K hK => ?_) AllReadyH.nil
    go_simp
    have hq := HWS.out _ (by assumption)
    refine (HI1.out _ (HC.out _ hq)).mono ?_
    rintro e w4 ⟨rfl, hb⟩
    have hB4 := HG2.out _ _ (by assumption) hb
    clear hb hq
    refine hK.out _ _ (HSS.out _ hB4) (fun hHeld => ?_)
    clear hK K
    try simp only [Act.put, List.getElem_toArray, List.getElem_cons_succ, List.getElem_cons_zero, List.setIfInBounds_toArray, List.set_cons_zero, List.set_cons_succ]
    refine wpAnyH_take (i := 3) (v := ?vvh3) rfl (by kernel_rfl) (by kernel_rfl) (by kernel_rfl) (fun _ _ _ h => h) (Or.inl ⟨by rfl, ?hyh3⟩) (by assumption) ?rrh3
    case hyh3 =>
      intro W hS
      try dsimp only at hS
      go_simp
      try with_reducible rfl
    case rrh3 =>
    try simp only [Act.put, List.getElem_toArray, List.getElem_cons_succ, List.getElem_cons_zero, List.setIfInBounds_toArray, List.set_cons_zero, List.set_cons_succ]
    refine wpAnyH_take (i := 4) (v := ?vvh4) rfl (by kernel_rfl) (by kernel_rfl) (by kernel_rfl) (fun _ _ _ h => h) (Or.inl ⟨by rfl, ?hyh4⟩) (by assumption) ?rrh4
    case hyh4 =>
      intro W hS
      try dsimp only at hS
      go_simp
      try with_reducible rfl
    case rrh4 =>
    try simp only [Act.put, List.getElem_toArray, List.getElem_cons_succ, List.getElem_cons_zero, List.setIfInBounds_toArray, List.set_cons_zero, List.set_cons_succ]
    refine wpAnyH_take (i := 5) (v := ?vvh5) rfl (by kernel_rfl) (by kernel_rfl) (by kernel_rfl) (fun _ _ _ h => h) (Or.inl ⟨by rfl, ?hyh5⟩) (by assumption) ?rrh5
    case hyh5 =>
      intro W hS
      try dsimp only at hS
      go_simp
      try with_reducible rfl
    case rrh5 =>
    try simp only [Act.put, List.getElem_toArray, List.getElem_cons_succ, List.getElem_cons_zero, List.setIfInBounds_toArray, List.set_cons_zero, List.set_cons_succ]
    refine wpAnyH_take (i := 6) (v := ?vvh6) rfl (by kernel_rfl) (by kernel_rfl) (by kernel_rfl) (fun _ _ _ h => h) (Or.inl ⟨by rfl, ?hyh6⟩) (by assumption) ?rrh6
    case hyh6 =>
      intro W hS
      try dsimp only at hS
      go_simp
      try with_reducible rfl
    case rrh6 =>
    try simp only [Act.put, List.getElem_toArray, List.getElem_cons_succ, List.getElem_cons_zero, List.setIfInBounds_toArray, List.set_cons_zero, List.set_cons_succ]
    refine wpAnyH_ready (rs := [7]) (by kernel_rfl) (by simp) ?_
    refine AllReadyH.cons rfl (fun K hK => ?_) AllReadyH.nil
    go_simp
    have hq := HWS.out _ (by assumption)
    refine (HI2.out _ (HC2.out _ hq)).mono ?_
    rintro e w4 ⟨rfl, hb⟩
    have hB4 := HG2.out _ _ (by assumption) hb
    clear hb hq
    refine hK.out _ _ (HSS.out _ hB4) (fun hHeld => ?_)
    clear hK K
    try simp only [Act.put, List.getElem_toArray, List.getElem_cons_succ, List.getElem_cons_zero, List.setIfInBounds_toArray, List.set_cons_zero, List.set_cons_succ]
    refine wpAnyH_take (i := 8) (v := ?vvh8) rfl (by kernel_rfl) (by kernel_rfl) (by kernel_rfl) (fun _ _ _ h => h) (Or.inl ⟨by rfl, ?hyh8⟩) (by assumption) ?rrh8
    case hyh8 =>
      intro W hS
      try dsimp only at hS
      go_simp
      try with_reducible rfl
    case rrh8 =>
    try simp only [Act.put, List.getElem_toArray, List.getElem_cons_succ, List.getElem_cons_zero, List.setIfInBounds_toArray, List.set_cons_zero, List.set_cons_succ]
    refine wpAnyH_take (i := 9) (v := ?vvh9) rfl (by kernel_rfl) (by kernel_rfl) (by kernel_rfl) (fun _ _ _ h => h) (Or.inl ⟨by rfl, ?hyh9⟩) (by assumption) ?rrh9
    case hyh9 =>
      intro W hS
      try dsimp only at hS
      go_simp
      try with_reducible rfl
    case rrh9 =>
    try simp only [Act.put, List.getElem_toArray, List.getElem_cons_succ, List.getElem_cons_zero, List.setIfInBounds_toArray, List.set_cons_zero, List.set_cons_succ]
    refine wpAnyH_take (i := 10) (v := ?vvh10) rfl (by kernel_rfl) (by kernel_rfl) (by kernel_rfl) (fun _ _ _ h => h) (Or.inl ⟨by rfl, ?hyh10⟩) (by assumption) ?rrh10
    case hyh10 =>
      intro W hS
      try dsimp only at hS
      go_simp
      try with_reducible rfl
    case rrh10 =>
    try simp only [Act.put, List.getElem_toArray, List.getElem_cons_succ, List.getElem_cons_zero, List.setIfInBounds_toArray, List.set_cons_zero, List.set_cons_succ]
    refine wpAnyH_take (i := 11) rfl (by kernel_rfl) (by kernel_rfl) (by kernel_rfl) (fun _ _ _ h => h) (Or.inr ⟨by kernel_rfl, rfl⟩) (by assumption) ?_
    try simp only [Act.put, List.getElem_toArray, List.getElem_cons_succ, List.getElem_cons_zero, List.setIfInBounds_toArray, List.set_cons_zero, List.set_cons_succ]
    refine wpAnyH_take (i := 12) rfl (by kernel_rfl) (by kernel_rfl) (by kernel_rfl) (fun _ _ _ h => h) (Or.inr ⟨by kernel_rfl, rfl⟩) (by assumption) ?_
    try simp only [Act.put, List.getElem_toArray, List.getElem_cons_succ, List.getElem_cons_zero, List.setIfInBounds_toArray, List.set_cons_zero, List.set_cons_succ]
    refine wpAnyH_take (i := 13) rfl (by kernel_rfl) (by kernel_rfl) (by kernel_rfl) (fun _ _ _ h => h) (Or.inr ⟨by kernel_rfl, rfl⟩) (by assumption) ?_
    try simp only [Act.put, List.getElem_toArray, List.getElem_cons_succ, List.getElem_cons_zero, List.setIfInBounds_toArray, List.set_cons_zero, List.set_cons_succ]
    refine wpAnyH_take (i := 14) rfl (by kernel_rfl) (by kernel_rfl) (by kernel_rfl) (fun _ _ _ h => h) (Or.inr ⟨by kernel_rfl, rfl⟩) (by assumption) ?_
    try simp only [Act.put, List.getElem_toArray, List.getElem_cons_succ, List.getElem_cons_zero, List.setIfInBounds_toArray, List.set_cons_zero, List.set_cons_succ]
    refine wpAnyH_take (i := 15) rfl (by kernel_rfl) (by kernel_rfl) (by kernel_rfl) (fun _ _ _ h => h) (Or.inr ⟨by kernel_rfl, rfl⟩) (by assumption) ?_
    try simp only [Act.put, List.getElem_toArray, List.getElem_cons_succ, List.getElem_cons_zero, List.setIfInBounds_toArray, List.set_cons_zero, List.set_cons_succ]
    refine wpAnyH_take (i := 16) rfl (by kernel_rfl) (by kernel_rfl) (by kernel_rfl) (fun _ _ _ h => h) (Or.inr ⟨by kernel_rfl, rfl⟩) (by assumption) ?_
    try simp only [Act.put, List.getElem_toArray, List.getElem_cons_succ, List.getElem_cons_zero, List.setIfInBounds_toArray, List.set_cons_zero, List.set_cons_succ]
    refine wpAnyH_take (i := 17) rfl (by kernel_rfl) (by kernel_rfl) (by kernel_rfl) (fun _ _ _ h => h) (Or.inr ⟨by kernel_rfl, rfl⟩) (by assumption) ?_
    try simp only [Act.put, List.getElem_toArray, List.getElem_cons_succ, List.getElem_cons_zero, List.setIfInBounds_toArray, List.set_cons_zero, List.set_cons_succ]
    refine wpAnyH_take (i := 18) rfl (by kernel_rfl) (by kernel_rfl) (by kernel_rfl) (fun _ _ _ h => h) (Or.inr ⟨by kernel_rfl, rfl⟩) (by assumption) ?_
    try simp only [Act.put, List.getElem_toArray, List.getElem_cons_succ, List.getElem_cons_zero, List.setIfInBounds_toArray, List.set_cons_zero, List.set_cons_succ]
    refine wpAnyH_take (i := 19) rfl (by kernel_rfl) (by kernel_rfl) (by kernel_rfl) (fun _ _ _ h => h) (Or.inr ⟨by kernel_rfl, rfl⟩) (by assumption) ?_
    try simp only [Act.put, List.getElem_toArray, List.getElem_cons_succ, List.getElem_cons_zero, List.setIfInBounds_toArray, List.set_cons_zero, List.set_cons_succ]
    refine wpAnyH_take (i := 20) (v := ?vvh20) rfl (by kernel_rfl) (by kernel_rfl) (by kernel_rfl) (fun _ _ _ h => h) (Or.inl ⟨by rfl, ?hyh20⟩) (by assumption) ?rrh20
    case hyh20 =>
      intro W hS
      try dsimp only at hS
      go_simp
      try with_reducible rfl
    case rrh20 =>
    try simp only [Act.put, List.getElem_toArray, List.getElem_cons_succ, List.getElem_cons_zero, List.setIfInBounds_toArray, List.set_cons_zero, List.set_cons_succ]
    refine wpAnyH_take (i := 21) (v := ?vvh21) rfl (by kernel_rfl) (by kernel_rfl) (by kernel_rfl) (fun _ _ _ h => h) (Or.inl ⟨by rfl, ?hyh21⟩) (by assumption) ?rrh21
    case hyh21 =>
      intro W hS
      try dsimp only at hS
      go_simp
      try with_reducible rfl
    case rrh21 =>
    try simp only [Act.put, List.getElem_toArray, List.getElem_cons_succ, List.getElem_cons_zero, List.setIfInBounds_toArray, List.set_cons_zero, List.set_cons_succ]
    refine wpAnyH_ready (rs := [22]) (by kernel_rfl) (by simp) ?_
    refine AllReadyH.cons rfl (fun K hK => ?_) AllReadyH.nil
    go_simp
    have hq := HWS.out _ (by assumption)
    refine (known9_any _).mono ?_
    rintro e w4 ⟨rfl, hb⟩
    have hB4 := HG2.out _ _ (by assumption) hb
    clear hb hq
    refine hK.out _ _ (HSS.out _ hB4) (fun hHeld => ?_)
    clear hK K
    try simp only [Act.put, List.getElem_toArray, List.getElem_cons_succ, List.getElem_cons_zero, List.setIfInBounds_toArray, List.set_cons_zero, List.set_cons_succ]
    refine wpAnyH_take (i := 23) (v := ?vvh23) rfl (by kernel_rfl) (by kernel_rfl) (by kernel_rfl) (fun _ _ _ h => h) (Or.inl ⟨by rfl, ?hyh23⟩) (by assumption) ?rrh23
    case hyh23 =>
      intro W hS
      try dsimp only at hS
      go_simp
      try with_reducible rfl
    case rrh23 =>
    try simp only [Act.put, List.getElem_toArray, List.getElem_cons_succ, List.getElem_cons_zero, List.setIfInBounds_toArray, List.set_cons_zero, List.set_cons_succ]
    refine wpAnyH_take (i := 24) (v := ?vvh24) rfl (by kernel_rfl) (by kernel_rfl) (by kernel_rfl) (fun _ _ _ h => h) (Or.inl ⟨by rfl, ?hyh24⟩) (by assumption) ?rrh24
    case hyh24 =>
      intro W hS
      try dsimp only at hS
      go_simp
      try with_reducible rfl
    case rrh24 =>
    try simp only [Act.put, List.getElem_toArray, List.getElem_cons_succ, List.getElem_cons_zero, List.setIfInBounds_toArray, List.set_cons_zero, List.set_cons_succ]
    refine wpAnyH_done (by kernel_rfl) ?_ _
    refine NoPanic.normal ?_
    go_wp2_with fail
    go_ret
    exact ⟨rfl, HWS.out _ (by assumption)⟩

set_option maxHeartbeats 8000000 in
theorem law_ne_yes (o : List UInt8) (a b c m : Int) (ks : List Core) (A : Option Addr) (cap : Nat) (B : Option Addr) (cap2 : Nat) (n : Int) (w : World) (N1 N2 : Nat) (T1 : List UInt8) (o2 : List UInt8) (a2 b2 c2 m2 : Int) (ls : List Core) (T2 : List UInt8) (hN1 : ¬ 200 < N1) (hN2 : ¬ 200 < N2)
    (HC : Hid (∀ W, Below w.heap.size w W → CoreAt W W.heap.size (.node o a b c m ks) A cap)) (HC2 : Hid (∀ W, Below w.heap.size w W → CoreAt W W.heap.size (.node o2 a2 b2 c2 m2 ls) B cap2))
    (HSZ1 : Hid (∀ W, CoreAt W W.heap.size (.node o a b c m ks) A cap → Calls Tryd.prog 11 #[.agg #[.string ⟨o.toArray⟩, .int .i64 a, .int .i64 b, .int .i64 c, .int .i64 m, .slice A ks.length cap]] W fun e w' => e = .returned (.int .i64 (N1 : Nat)) ∧ Below W.heap.size W w'))
    (HSZ2 : Hid (∀ W, CoreAt W W.heap.size (.node o2 a2 b2 c2 m2 ls) B cap2 → Calls Tryd.prog 11 #[.agg #[.string ⟨o2.toArray⟩, .int .i64 a2, .int .i64 b2, .int .i64 c2, .int .i64 m2, .slice B ls.length cap2]] W fun e w' => e = .returned (.int .i64 (N2 : Nat)) ∧ Below W.heap.size W w'))
    (HS1 : Hid (∀ W, CoreAt W W.heap.size (.node o a b c m ks) A cap → CoreAt W W.heap.size (.node o2 a2 b2 c2 m2 ls) B cap2 → Calls Tryd.prog 23 #[.agg #[.string ⟨o.toArray⟩, .int .i64 a, .int .i64 b, .int .i64 c, .int .i64 m, .slice A ks.length cap], .agg #[.string ⟨o2.toArray⟩, .int .i64 a2, .int .i64 b2, .int .i64 c2, .int .i64 m2, .slice B ls.length cap2]] W fun e w' => e = .returned (.bool false) ∧ Below W.heap.size W w'))
    (HR1 : Hid (∀ W, CoreAt W W.heap.size (.node o a b c m ks) A cap → CoreAt W W.heap.size (.node o2 a2 b2 c2 m2 ls) B cap2 → Calls Tryd.prog 24 #[.agg #[.string ⟨o.toArray⟩, .int .i64 a, .int .i64 b, .int .i64 c, .int .i64 m, .slice A ks.length cap], .agg #[.string ⟨o2.toArray⟩, .int .i64 a2, .int .i64 b2, .int .i64 c2, .int .i64 m2, .slice B ls.length cap2]] W fun e w' => e = .returned (.bool false) ∧ Below W.heap.size W w'))
    (HS2 : Hid (∀ W, CoreAt W W.heap.size (.node o a b c m ks) A cap → CoreAt W W.heap.size (.node o a b c m ks) A cap → Calls Tryd.prog 23 #[.agg #[.string ⟨o.toArray⟩, .int .i64 a, .int .i64 b, .int .i64 c, .int .i64 m, .slice A ks.length cap], .agg #[.string ⟨o.toArray⟩, .int .i64 a, .int .i64 b, .int .i64 c, .int .i64 m, .slice A ks.length cap]] W fun e w' => e = .returned (.bool true) ∧ Below W.heap.size W w'))
    (HI1 : Hid (∀ W, CoreAt W W.heap.size (.node o a b c m ks) A cap → Calls Tryd.prog 18 #[.agg #[.string ⟨o.toArray⟩, .int .i64 a, .int .i64 b, .int .i64 c, .int .i64 m, .slice A ks.length cap], .int .i64 n] W fun e w' => e = .returned (.bool true) ∧ Below W.heap.size W w'))
    (HI2 : Hid (∀ W, CoreAt W W.heap.size (.node o2 a2 b2 c2 m2 ls) B cap2 → Calls Tryd.prog 18 #[.agg #[.string ⟨o2.toArray⟩, .int .i64 a2, .int .i64 b2, .int .i64 c2, .int .i64 m2, .slice B ls.length cap2], .int .i64 n] W fun e w' => e = .returned (.bool true) ∧ Below W.heap.size W w'))
    (HT1 : Hid (∀ W, CoreAt W W.heap.size (.node o a b c m ks) A cap → Calls Tryd.prog 19 #[.agg #[.string ⟨o.toArray⟩, .int .i64 a, .int .i64 b, .int .i64 c, .int .i64 m, .slice A ks.length cap]] W fun e w' => e = .returned (.string ⟨T1.toArray⟩) ∧ Below W.heap.size W w'))
    (HT2 : Hid (∀ W, CoreAt W W.heap.size (.node o2 a2 b2 c2 m2 ls) B cap2 → Calls Tryd.prog 19 #[.agg #[.string ⟨o2.toArray⟩, .int .i64 a2, .int .i64 b2, .int .i64 c2, .int .i64 m2, .slice B ls.length cap2]] W fun e w' => e = .returned (.string ⟨T2.toArray⟩) ∧ Below W.heap.size W w'))
    (gT : (T1 == T2) = false) :
    Calls Tryd.prog 10 #[.agg #[.string ⟨o.toArray⟩, .int .i64 a, .int .i64 b, .int .i64 c, .int .i64 m, .slice A ks.length cap], .agg #[.string ⟨o2.toArray⟩, .int .i64 a2, .int .i64 b2, .int .i64 c2, .int .i64 m2, .slice B ls.length cap2], .int .i64 n] w fun e w' => e = .returned (.bool true) ∧ Below w.heap.size w w' := by
  have g1 : decide (200 < (N1 : Int)) = false := decide_eq_false (by omega)
  have g2 : decide (200 < (N2 : Int)) = false := decide_eq_false (by omega)
  have HX := Lib.hid (fun W (hW : Below (w.heap.size + 1 + 1) ((w.alloc (.cells #[.string ⟨o.toArray⟩, .int .i64 a, .int .i64 b, .int .i64 c, .int .i64 m, .slice A ks.length cap] 24)).alloc (.cells #[.string ⟨o2.toArray⟩, .int .i64 a2, .int .i64 b2, .int .i64 c2, .int .i64 m2, .slice B ls.length cap2] 24)) W) => two_boxes hW)
  have HW := Lib.hid (fun W (hW : Below (w.heap.size + 1 + 1) ((w.alloc (.cells #[.string ⟨o.toArray⟩, .int .i64 a, .int .i64 b, .int .i64 c, .int .i64 m, .slice A ks.length cap] 24)).alloc (.cells #[.string ⟨o2.toArray⟩, .int .i64 a2, .int .i64 b2, .int .i64 c2, .int .i64 m2, .slice B ls.length cap2] 24)) W) => ((((Below.refl w.heap.size w).alloc (Nat.le_refl _) (.cells #[.string ⟨o.toArray⟩, .int .i64 a, .int .i64 b, .int .i64 c, .int .i64 m, .slice A ks.length cap] 24)).alloc (by simp) (.cells #[.string ⟨o2.toArray⟩, .int .i64 a2, .int .i64 b2, .int .i64 c2, .int .i64 m2, .slice B ls.length cap2] 24)).trans (hW.mono (by omega)) : Below w.heap.size w W))
  have HG := Lib.hid (fun W W' (hW : Below (w.heap.size + 1 + 1) ((w.alloc (.cells #[.string ⟨o.toArray⟩, .int .i64 a, .int .i64 b, .int .i64 c, .int .i64 m, .slice A ks.length cap] 24)).alloc (.cells #[.string ⟨o2.toArray⟩, .int .i64 a2, .int .i64 b2, .int .i64 c2, .int .i64 m2, .slice B ls.length cap2] 24)) W) (hb : Below W.heap.size W W') => (hW.trans (hb.mono (Nat.le_trans (by simp) hW.size)) : Below (w.heap.size + 1 + 1) ((w.alloc (.cells #[.string ⟨o.toArray⟩, .int .i64 a, .int .i64 b, .int .i64 c, .int .i64 m, .slice A ks.length cap] 24)).alloc (.cells #[.string ⟨o2.toArray⟩, .int .i64 a2, .int .i64 b2, .int .i64 c2, .int .i64 m2, .slice B ls.length cap2] 24)) W'))
  have hB0 := Below.refl (w.heap.size + 1 + 1) ((w.alloc (.cells #[.string ⟨o.toArray⟩, .int .i64 a, .int .i64 b, .int .i64 c, .int .i64 m, .slice A ks.length cap] 24)).alloc (.cells #[.string ⟨o2.toArray⟩, .int .i64 a2, .int .i64 b2, .int .i64 c2, .int .i64 m2, .slice B ls.length cap2] 24))
  have HSS := Lib.hid (fun W (hW : Below (w.heap.size + 1 + 1) ((w.alloc (.cells #[.string ⟨o.toArray⟩, .int .i64 a, .int .i64 b, .int .i64 c, .int .i64 m, .slice A ks.length cap] 24)).alloc (.cells #[.string ⟨o2.toArray⟩, .int .i64 a2, .int .i64 b2, .int .i64 c2, .int .i64 m2, .slice B ls.length cap2] 24)) W) => (⟨hW, two_boxes hW⟩ : (fun W => Below (w.heap.size + 1 + 1) ((w.alloc (.cells #[.string ⟨o.toArray⟩, .int .i64 a, .int .i64 b, .int .i64 c, .int .i64 m, .slice A ks.length cap] 24)).alloc (.cells #[.string ⟨o2.toArray⟩, .int .i64 a2, .int .i64 b2, .int .i64 c2, .int .i64 m2, .slice B ls.length cap2] 24)) W ∧ (W.cell? ⟨w.heap.size, 0, none⟩ = some (.string ⟨o.toArray⟩) ∧ W.cell? ⟨w.heap.size, 1, none⟩ = some (.int .i64 a) ∧ W.cell? ⟨w.heap.size, 2, none⟩ = some (.int .i64 b) ∧ W.cell? ⟨w.heap.size, 3, none⟩ = some (.int .i64 c) ∧ W.cell? ⟨w.heap.size, 4, none⟩ = some (.int .i64 m) ∧ W.cell? ⟨w.heap.size, 5, none⟩ = some (.slice A ks.length cap)) ∧ (W.cell? ⟨w.heap.size + 1, 0, none⟩ = some (.string ⟨o2.toArray⟩) ∧ W.cell? ⟨w.heap.size + 1, 1, none⟩ = some (.int .i64 a2) ∧ W.cell? ⟨w.heap.size + 1, 2, none⟩ = some (.int .i64 b2) ∧ W.cell? ⟨w.heap.size + 1, 3, none⟩ = some (.int .i64 c2) ∧ W.cell? ⟨w.heap.size + 1, 4, none⟩ = some (.int .i64 m2) ∧ W.cell? ⟨w.heap.size + 1, 5, none⟩ = some (.slice B ls.length cap2))) W))
  have HG2 := Lib.hid (fun W W' (hS : (fun W => Below (w.heap.size + 1 + 1) ((w.alloc (.cells #[.string ⟨o.toArray⟩, .int .i64 a, .int .i64 b, .int .i64 c, .int .i64 m, .slice A ks.length cap] 24)).alloc (.cells #[.string ⟨o2.toArray⟩, .int .i64 a2, .int .i64 b2, .int .i64 c2, .int .i64 m2, .slice B ls.length cap2] 24)) W ∧ (W.cell? ⟨w.heap.size, 0, none⟩ = some (.string ⟨o.toArray⟩) ∧ W.cell? ⟨w.heap.size, 1, none⟩ = some (.int .i64 a) ∧ W.cell? ⟨w.heap.size, 2, none⟩ = some (.int .i64 b) ∧ W.cell? ⟨w.heap.size, 3, none⟩ = some (.int .i64 c) ∧ W.cell? ⟨w.heap.size, 4, none⟩ = some (.int .i64 m) ∧ W.cell? ⟨w.heap.size, 5, none⟩ = some (.slice A ks.length cap)) ∧ (W.cell? ⟨w.heap.size + 1, 0, none⟩ = some (.string ⟨o2.toArray⟩) ∧ W.cell? ⟨w.heap.size + 1, 1, none⟩ = some (.int .i64 a2) ∧ W.cell? ⟨w.heap.size + 1, 2, none⟩ = some (.int .i64 b2) ∧ W.cell? ⟨w.heap.size + 1, 3, none⟩ = some (.int .i64 c2) ∧ W.cell? ⟨w.heap.size + 1, 4, none⟩ = some (.int .i64 m2) ∧ W.cell? ⟨w.heap.size + 1, 5, none⟩ = some (.slice B ls.length cap2))) W) (hb : Below W.heap.size W W') => HG.out W W' hS.1 hb)
  have HWS := Lib.hid (fun W (hS : (fun W => Below (w.heap.size + 1 + 1) ((w.alloc (.cells #[.string ⟨o.toArray⟩, .int .i64 a, .int .i64 b, .int .i64 c, .int .i64 m, .slice A ks.length cap] 24)).alloc (.cells #[.string ⟨o2.toArray⟩, .int .i64 a2, .int .i64 b2, .int .i64 c2, .int .i64 m2, .slice B ls.length cap2] 24)) W ∧ (W.cell? ⟨w.heap.size, 0, none⟩ = some (.string ⟨o.toArray⟩) ∧ W.cell? ⟨w.heap.size, 1, none⟩ = some (.int .i64 a) ∧ W.cell? ⟨w.heap.size, 2, none⟩ = some (.int .i64 b) ∧ W.cell? ⟨w.heap.size, 3, none⟩ = some (.int .i64 c) ∧ W.cell? ⟨w.heap.size, 4, none⟩ = some (.int .i64 m) ∧ W.cell? ⟨w.heap.size, 5, none⟩ = some (.slice A ks.length cap)) ∧ (W.cell? ⟨w.heap.size + 1, 0, none⟩ = some (.string ⟨o2.toArray⟩) ∧ W.cell? ⟨w.heap.size + 1, 1, none⟩ = some (.int .i64 a2) ∧ W.cell? ⟨w.heap.size + 1, 2, none⟩ = some (.int .i64 b2) ∧ W.cell? ⟨w.heap.size + 1, 3, none⟩ = some (.int .i64 c2) ∧ W.cell? ⟨w.heap.size + 1, 4, none⟩ = some (.int .i64 m2) ∧ W.cell? ⟨w.heap.size + 1, 5, none⟩ = some (.slice B ls.length cap2))) W) => HW.out W hS.1)
  go_enter Tryd.func10, Tryd.ntmps10
  go_upto_region 3 with (first
    | (go_at_call_of 11 (Value.agg #[Value.string ⟨o2.toArray⟩, Value.int IntKind.i64 a2, Value.int IntKind.i64 b2, Value.int IntKind.i64 c2, Value.int IntKind.i64 m2, Value.slice B ls.length cap2])
       have hq := HW.out _ hB2
       refine (HSZ2.out _ (HC2.out _ hq)).mono ?_
       rintro e w3 ⟨rfl, hb⟩
       have hB3 := HG.out _ _ hB2 hb
       clear hb hq)
    | (go_at_call_of 11 (Value.agg #[Value.string ⟨o.toArray⟩, Value.int IntKind.i64 a, Value.int IntKind.i64 b, Value.int IntKind.i64 c, Value.int IntKind.i64 m, Value.slice A ks.length cap])
       have hq := HW.out _ hB0
       refine (HSZ1.out _ (HC.out _ hq)).mono ?_
       rintro e w2 ⟨rfl, hb⟩
       have hB2 := HG.out _ _ hB0 hb
       obtain ⟨⟨x0, x1, x2, x3, x4, x5⟩, ⟨y0, y1, y2, y3, y4, y5⟩⟩ := HX.out _ hB2
       clear hb hq))
  have HB3 := Lib.hid hB3
  clear hB3 hB2 hB0 x0 x1 x2 x3 x4 x5 y0 y1 y2 y3 y4 y5
  generalize ((w.alloc (.cells #[.string ⟨o.toArray⟩, .int .i64 a, .int .i64 b, .int .i64 c, .int .i64 m, .slice A ks.length cap] 24)).alloc (.cells #[.string ⟨o2.toArray⟩, .int .i64 a2, .int .i64 b2, .int .i64 c2, .int .i64 m2, .slice B ls.length cap2] 24)) = Z at *
  have HBZ := HB3
  go_region_held3 (fun W => Below (w.heap.size + 1 + 1) Z W ∧ (W.cell? ⟨w.heap.size, 0, none⟩ = some (.string ⟨o.toArray⟩) ∧ W.cell? ⟨w.heap.size, 1, none⟩ = some (.int .i64 a) ∧ W.cell? ⟨w.heap.size, 2, none⟩ = some (.int .i64 b) ∧ W.cell? ⟨w.heap.size, 3, none⟩ = some (.int .i64 c) ∧ W.cell? ⟨w.heap.size, 4, none⟩ = some (.int .i64 m) ∧ W.cell? ⟨w.heap.size, 5, none⟩ = some (.slice A ks.length cap)) ∧ (W.cell? ⟨w.heap.size + 1, 0, none⟩ = some (.string ⟨o2.toArray⟩) ∧ W.cell? ⟨w.heap.size + 1, 1, none⟩ = some (.int .i64 a2) ∧ W.cell? ⟨w.heap.size + 1, 2, none⟩ = some (.int .i64 b2) ∧ W.cell? ⟨w.heap.size + 1, 3, none⟩ = some (.int .i64 c2) ∧ W.cell? ⟨w.heap.size + 1, 4, none⟩ = some (.int .i64 m2) ∧ W.cell? ⟨w.heap.size + 1, 5, none⟩ = some (.slice B ls.length cap2))) (first | assumption | exact HSS.out _ hB4 | exact HSS.out _ HBZ.out.drew | exact HSS.out _ HBZ.out) (first
    | (
       go_at_call_of 23 (Value.agg #[Value.string ⟨o2.toArray⟩, Value.int IntKind.i64 a2, Value.int IntKind.i64 b2, Value.int IntKind.i64 c2, Value.int IntKind.i64 m2, Value.slice B ls.length cap2])
       have hq := HWS.out _ (by assumption)
       refine (HS1.out _ (HC.out _ hq) (HC2.out _ hq)).mono ?_
       rintro e w4 ⟨rfl, hb⟩
       have hB4 := HG2.out _ _ (by assumption) hb
       clear hb)
    | (
       go_at_call 23
       have hq := HWS.out _ (by assumption)
       refine (HS2.out _ (HC.out _ hq) (HC.out _ hq)).mono ?_
       rintro e w4 ⟨rfl, hb⟩
       have hB4 := HG2.out _ _ (by assumption) hb
       clear hb)
    | (
       go_at_call 24
       have hq := HWS.out _ (by assumption)
       refine (HR1.out _ (HC.out _ hq) (HC2.out _ hq)).mono ?_
       rintro e w4 ⟨rfl, hb⟩
       have hB4 := HG2.out _ _ (by assumption) hb
       clear hb))
  all_goals
    have hh := (show (fun W => Below (w.heap.size + 1 + 1) Z W ∧ (W.cell? ⟨w.heap.size, 0, none⟩ = some (.string ⟨o.toArray⟩) ∧ W.cell? ⟨w.heap.size, 1, none⟩ = some (.int .i64 a) ∧ W.cell? ⟨w.heap.size, 2, none⟩ = some (.int .i64 b) ∧ W.cell? ⟨w.heap.size, 3, none⟩ = some (.int .i64 c) ∧ W.cell? ⟨w.heap.size, 4, none⟩ = some (.int .i64 m) ∧ W.cell? ⟨w.heap.size, 5, none⟩ = some (.slice A ks.length cap)) ∧ (W.cell? ⟨w.heap.size + 1, 0, none⟩ = some (.string ⟨o2.toArray⟩) ∧ W.cell? ⟨w.heap.size + 1, 1, none⟩ = some (.int .i64 a2) ∧ W.cell? ⟨w.heap.size + 1, 2, none⟩ = some (.int .i64 b2) ∧ W.cell? ⟨w.heap.size + 1, 3, none⟩ = some (.int .i64 c2) ∧ W.cell? ⟨w.heap.size + 1, 4, none⟩ = some (.int .i64 m2) ∧ W.cell? ⟨w.heap.size + 1, 5, none⟩ = some (.slice B ls.length cap2))) _ by assumption)
    have HBZ := Lib.hid hh.1
    obtain ⟨_, ⟨x0, x1, x2, x3, x4, x5⟩, ⟨y0, y1, y2, y3, y4, y5⟩⟩ := hh
    clear hB4
    go_upto_region 5 with fail
    clear x0 x1 x2 x3 x4 x5 y0 y1 y2 y3 y4 y5
    go_region_held3 (fun W => Below (w.heap.size + 1 + 1) Z W ∧ (W.cell? ⟨w.heap.size, 0, none⟩ = some (.string ⟨o.toArray⟩) ∧ W.cell? ⟨w.heap.size, 1, none⟩ = some (.int .i64 a) ∧ W.cell? ⟨w.heap.size, 2, none⟩ = some (.int .i64 b) ∧ W.cell? ⟨w.heap.size, 3, none⟩ = some (.int .i64 c) ∧ W.cell? ⟨w.heap.size, 4, none⟩ = some (.int .i64 m) ∧ W.cell? ⟨w.heap.size, 5, none⟩ = some (.slice A ks.length cap)) ∧ (W.cell? ⟨w.heap.size + 1, 0, none⟩ = some (.string ⟨o2.toArray⟩) ∧ W.cell? ⟨w.heap.size + 1, 1, none⟩ = some (.int .i64 a2) ∧ W.cell? ⟨w.heap.size + 1, 2, none⟩ = some (.int .i64 b2) ∧ W.cell? ⟨w.heap.size + 1, 3, none⟩ = some (.int .i64 c2) ∧ W.cell? ⟨w.heap.size + 1, 4, none⟩ = some (.int .i64 m2) ∧ W.cell? ⟨w.heap.size + 1, 5, none⟩ = some (.slice B ls.length cap2))) (first | assumption | exact HSS.out _ hB4 | exact HSS.out _ HBZ.out.drew | exact HSS.out _ HBZ.out) (first
      | (
         go_at_call_of 18 (Value.agg #[Value.string ⟨o2.toArray⟩, Value.int IntKind.i64 a2, Value.int IntKind.i64 b2, Value.int IntKind.i64 c2, Value.int IntKind.i64 m2, Value.slice B ls.length cap2])
         have hq := HWS.out _ (by assumption)
         refine (HI2.out _ (HC2.out _ hq)).mono ?_
         rintro e w4 ⟨rfl, hb⟩
         have hB4 := HG2.out _ _ (by assumption) hb
         clear hb)
      | (
         go_at_call_of 18 (Value.agg #[Value.string ⟨o.toArray⟩, Value.int IntKind.i64 a, Value.int IntKind.i64 b, Value.int IntKind.i64 c, Value.int IntKind.i64 m, Value.slice A ks.length cap])
         have hq := HWS.out _ (by assumption)
         refine (HI1.out _ (HC.out _ hq)).mono ?_
         rintro e w4 ⟨rfl, hb⟩
         have hB4 := HG2.out _ _ (by assumption) hb
         clear hb)
      | (
         go_at_call_of 19 (Value.agg #[Value.string ⟨o2.toArray⟩, Value.int IntKind.i64 a2, Value.int IntKind.i64 b2, Value.int IntKind.i64 c2, Value.int IntKind.i64 m2, Value.slice B ls.length cap2])
         have hq := HWS.out _ (by assumption)
         refine (HT2.out _ (HC2.out _ hq)).mono ?_
         rintro e w4 ⟨rfl, hb⟩
         have hB4 := HG2.out _ _ (by assumption) hb
         clear hb)
      | (
         go_at_call_of 19 (Value.agg #[Value.string ⟨o.toArray⟩, Value.int IntKind.i64 a, Value.int IntKind.i64 b, Value.int IntKind.i64 c, Value.int IntKind.i64 m, Value.slice A ks.length cap])
         have hq := HWS.out _ (by assumption)
         refine (HT1.out _ (HC.out _ hq)).mono ?_
         rintro e w4 ⟨rfl, hb⟩
         have hB4 := HG2.out _ _ (by assumption) hb
         clear hb)
      | (
         go_at_call 23
         have hq := HWS.out _ (by assumption)
         refine (HS1.out _ (HC.out _ hq) (HC2.out _ hq)).mono ?_
         rintro e w4 ⟨rfl, hb⟩
         have hB4 := HG2.out _ _ (by assumption) hb
         clear hb)
      | (
         go_at_call 21
         have hq := HWS.out _ (by assumption)
         refine (known9_any _).mono ?_
         rintro e w4 ⟨rfl, hb⟩
         have hB4 := HG2.out _ _ (by assumption) hb
         clear hb))
    all_goals
      go_wp2_with fail
      go_ret
      exact ⟨rfl, HWS.out _ (by assumption)⟩

set_option maxHeartbeats 2000000 in
theorem lawSame_any (s : Core) (A : Option Addr) (cap : Nat) (t : Core) (B : Option Addr) (cap2 : Nat) (n : Int) (w : World) (h : CoreAt w w.heap.size s A cap) (h2 : CoreAt w w.heap.size t B cap2) :
    Calls Tryd.prog 10 #[coreW s.op s.va s.vb s.vc s.vn s.kids.length A cap, coreW t.op t.va t.vb t.vc t.vn t.kids.length B cap2, .int .i64 n] w fun e w' => e = .returned (.bool true) ∧ Below w.heap.size w w' := by
  have HC := Lib.hid (fun W (hW : Below w.heap.size w W) => h.later hW hW.size)
  have HC2 := Lib.hid (fun W (hW : Below w.heap.size w W) => h2.later hW hW.size)
  have HSZ1 := Lib.hid (fun W hW => rSize_any s A cap W hW)
  have HSZ2 := Lib.hid (fun W hW => rSize_any t B cap2 W hW)
  have HS1 := Lib.hid (fun W hW hW2 => same_any s t A B cap cap2 W hW hW2)
  have HR1 := Lib.hid (fun W hW hW2 => rsame_any s t A B cap cap2 W hW hW2)
  have HS2 := Lib.hid (fun W hW hW2 => same_any s s A A cap cap W hW hW2)
  have HI1 := Lib.hid (fun W hW => rIs_any s A cap n W hW)
  have HI2 := Lib.hid (fun W hW => rIs_any t B cap2 n W hW)
  have top : ∀ t, isTop t n = true → 0 ≤ n ∧ n ≤ 6 ∧ isB t n = true ∧ nodes t ≤ 2000 := fun t hi => by
    unfold isTop at hi
    simp at hi
    exact ⟨hi.1.1.1, hi.1.1.2, hi.2, hi.1.2⟩
  have HT1 := Lib.hid (fun (hi : isTop s n = true) W hW => show_any s A cap n W hW (top s hi).1 (top s hi).2.1 (top s hi).2.2.1 (top s hi).2.2.2)
  have HT2 := Lib.hid (fun (hi : isTop t n = true) W hW => show_any t B cap2 n W hW (top t hi).1 (top t hi).2.1 (top t hi).2.2.1 (top t hi).2.2.2)
  have HTT := Lib.hid (fun (hi : isTop s n = true) (hj : isTop t n = true) => showT_eq s t n (top s hi).1 (top s hi).2.1 (top s hi).2.2.1 (top t hj).2.2.1)
  rw [show sameB s s = true from (sameB_iff s s).2 rfl] at HS2
  have HN1 := Lib.hid (show ∀ M, M = min (nodes s) 2001 → M = min (nodes s) 2001 from fun _ h => h)
  clear h h2 top HN1
  by_cases hst : s = t
  · subst hst
    rw [show sameB s s = true from (sameB_iff s s).2 rfl] at HS1 HR1
    generalize min (nodes s) 2001 = N1 at *
    generalize showT s = T1 at *
    generalize hI : isTop s n = I at *
    cases s with
    | node o a b c m ks =>
      simp only [coreW, Core.op, Core.va, Core.vb, Core.vc, Core.vn, Core.kids] at HSZ1 HSZ2 HS1 HR1 HS2 HI1 HI2 HT1 HT2 ⊢
      by_cases h1 : 200 < N1
      · have g1 : decide (200 < (N1 : Int)) = true := decide_eq_true (by omega)
        have HX := Lib.hid (fun W (hW : Below (w.heap.size + 1 + 1) ((w.alloc (.cells #[.string ⟨o.toArray⟩, .int .i64 a, .int .i64 b, .int .i64 c, .int .i64 m, .slice A ks.length cap] 24)).alloc (.cells #[.string ⟨o.toArray⟩, .int .i64 a, .int .i64 b, .int .i64 c, .int .i64 m, .slice B ks.length cap2] 24)) W) => two_boxes hW)
        have HW := Lib.hid (fun W (hW : Below (w.heap.size + 1 + 1) ((w.alloc (.cells #[.string ⟨o.toArray⟩, .int .i64 a, .int .i64 b, .int .i64 c, .int .i64 m, .slice A ks.length cap] 24)).alloc (.cells #[.string ⟨o.toArray⟩, .int .i64 a, .int .i64 b, .int .i64 c, .int .i64 m, .slice B ks.length cap2] 24)) W) => ((((Below.refl w.heap.size w).alloc (Nat.le_refl _) (.cells #[.string ⟨o.toArray⟩, .int .i64 a, .int .i64 b, .int .i64 c, .int .i64 m, .slice A ks.length cap] 24)).alloc (by simp) (.cells #[.string ⟨o.toArray⟩, .int .i64 a, .int .i64 b, .int .i64 c, .int .i64 m, .slice B ks.length cap2] 24)).trans (hW.mono (by omega)) : Below w.heap.size w W))
        have HG := Lib.hid (fun W W' (hW : Below (w.heap.size + 1 + 1) ((w.alloc (.cells #[.string ⟨o.toArray⟩, .int .i64 a, .int .i64 b, .int .i64 c, .int .i64 m, .slice A ks.length cap] 24)).alloc (.cells #[.string ⟨o.toArray⟩, .int .i64 a, .int .i64 b, .int .i64 c, .int .i64 m, .slice B ks.length cap2] 24)) W) (hb : Below W.heap.size W W') => (hW.trans (hb.mono (Nat.le_trans (by simp) hW.size)) : Below (w.heap.size + 1 + 1) ((w.alloc (.cells #[.string ⟨o.toArray⟩, .int .i64 a, .int .i64 b, .int .i64 c, .int .i64 m, .slice A ks.length cap] 24)).alloc (.cells #[.string ⟨o.toArray⟩, .int .i64 a, .int .i64 b, .int .i64 c, .int .i64 m, .slice B ks.length cap2] 24)) W'))
        have hB0 := Below.refl (w.heap.size + 1 + 1) ((w.alloc (.cells #[.string ⟨o.toArray⟩, .int .i64 a, .int .i64 b, .int .i64 c, .int .i64 m, .slice A ks.length cap] 24)).alloc (.cells #[.string ⟨o.toArray⟩, .int .i64 a, .int .i64 b, .int .i64 c, .int .i64 m, .slice B ks.length cap2] 24))
        have HSS := Lib.hid (fun W (hW : Below (w.heap.size + 1 + 1) ((w.alloc (.cells #[.string ⟨o.toArray⟩, .int .i64 a, .int .i64 b, .int .i64 c, .int .i64 m, .slice A ks.length cap] 24)).alloc (.cells #[.string ⟨o.toArray⟩, .int .i64 a, .int .i64 b, .int .i64 c, .int .i64 m, .slice B ks.length cap2] 24)) W) => (⟨hW, two_boxes hW⟩ : (fun W => Below (w.heap.size + 1 + 1) ((w.alloc (.cells #[.string ⟨o.toArray⟩, .int .i64 a, .int .i64 b, .int .i64 c, .int .i64 m, .slice A ks.length cap] 24)).alloc (.cells #[.string ⟨o.toArray⟩, .int .i64 a, .int .i64 b, .int .i64 c, .int .i64 m, .slice B ks.length cap2] 24)) W ∧ (W.cell? ⟨w.heap.size, 0, none⟩ = some (.string ⟨o.toArray⟩) ∧ W.cell? ⟨w.heap.size, 1, none⟩ = some (.int .i64 a) ∧ W.cell? ⟨w.heap.size, 2, none⟩ = some (.int .i64 b) ∧ W.cell? ⟨w.heap.size, 3, none⟩ = some (.int .i64 c) ∧ W.cell? ⟨w.heap.size, 4, none⟩ = some (.int .i64 m) ∧ W.cell? ⟨w.heap.size, 5, none⟩ = some (.slice A ks.length cap)) ∧ (W.cell? ⟨w.heap.size + 1, 0, none⟩ = some (.string ⟨o.toArray⟩) ∧ W.cell? ⟨w.heap.size + 1, 1, none⟩ = some (.int .i64 a) ∧ W.cell? ⟨w.heap.size + 1, 2, none⟩ = some (.int .i64 b) ∧ W.cell? ⟨w.heap.size + 1, 3, none⟩ = some (.int .i64 c) ∧ W.cell? ⟨w.heap.size + 1, 4, none⟩ = some (.int .i64 m) ∧ W.cell? ⟨w.heap.size + 1, 5, none⟩ = some (.slice B ks.length cap2))) W))
        have HG2 := Lib.hid (fun W W' (hS : (fun W => Below (w.heap.size + 1 + 1) ((w.alloc (.cells #[.string ⟨o.toArray⟩, .int .i64 a, .int .i64 b, .int .i64 c, .int .i64 m, .slice A ks.length cap] 24)).alloc (.cells #[.string ⟨o.toArray⟩, .int .i64 a, .int .i64 b, .int .i64 c, .int .i64 m, .slice B ks.length cap2] 24)) W ∧ (W.cell? ⟨w.heap.size, 0, none⟩ = some (.string ⟨o.toArray⟩) ∧ W.cell? ⟨w.heap.size, 1, none⟩ = some (.int .i64 a) ∧ W.cell? ⟨w.heap.size, 2, none⟩ = some (.int .i64 b) ∧ W.cell? ⟨w.heap.size, 3, none⟩ = some (.int .i64 c) ∧ W.cell? ⟨w.heap.size, 4, none⟩ = some (.int .i64 m) ∧ W.cell? ⟨w.heap.size, 5, none⟩ = some (.slice A ks.length cap)) ∧ (W.cell? ⟨w.heap.size + 1, 0, none⟩ = some (.string ⟨o.toArray⟩) ∧ W.cell? ⟨w.heap.size + 1, 1, none⟩ = some (.int .i64 a) ∧ W.cell? ⟨w.heap.size + 1, 2, none⟩ = some (.int .i64 b) ∧ W.cell? ⟨w.heap.size + 1, 3, none⟩ = some (.int .i64 c) ∧ W.cell? ⟨w.heap.size + 1, 4, none⟩ = some (.int .i64 m) ∧ W.cell? ⟨w.heap.size + 1, 5, none⟩ = some (.slice B ks.length cap2))) W) (hb : Below W.heap.size W W') => HG.out W W' hS.1 hb)
        have HWS := Lib.hid (fun W (hS : (fun W => Below (w.heap.size + 1 + 1) ((w.alloc (.cells #[.string ⟨o.toArray⟩, .int .i64 a, .int .i64 b, .int .i64 c, .int .i64 m, .slice A ks.length cap] 24)).alloc (.cells #[.string ⟨o.toArray⟩, .int .i64 a, .int .i64 b, .int .i64 c, .int .i64 m, .slice B ks.length cap2] 24)) W ∧ (W.cell? ⟨w.heap.size, 0, none⟩ = some (.string ⟨o.toArray⟩) ∧ W.cell? ⟨w.heap.size, 1, none⟩ = some (.int .i64 a) ∧ W.cell? ⟨w.heap.size, 2, none⟩ = some (.int .i64 b) ∧ W.cell? ⟨w.heap.size, 3, none⟩ = some (.int .i64 c) ∧ W.cell? ⟨w.heap.size, 4, none⟩ = some (.int .i64 m) ∧ W.cell? ⟨w.heap.size, 5, none⟩ = some (.slice A ks.length cap)) ∧ (W.cell? ⟨w.heap.size + 1, 0, none⟩ = some (.string ⟨o.toArray⟩) ∧ W.cell? ⟨w.heap.size + 1, 1, none⟩ = some (.int .i64 a) ∧ W.cell? ⟨w.heap.size + 1, 2, none⟩ = some (.int .i64 b) ∧ W.cell? ⟨w.heap.size + 1, 3, none⟩ = some (.int .i64 c) ∧ W.cell? ⟨w.heap.size + 1, 4, none⟩ = some (.int .i64 m) ∧ W.cell? ⟨w.heap.size + 1, 5, none⟩ = some (.slice B ks.length cap2))) W) => HW.out W hS.1)
        go_enter Tryd.func10, Tryd.ntmps10
        go_wp2_with (first
          | (go_at_call_of 11 (Value.agg #[Value.string ⟨o.toArray⟩, Value.int IntKind.i64 a, Value.int IntKind.i64 b, Value.int IntKind.i64 c, Value.int IntKind.i64 m, Value.slice B ks.length cap2])
             have hq := HW.out _ hB2
             refine (HSZ2.out _ (HC2.out _ hq)).mono ?_
             rintro e w3 ⟨rfl, hb⟩
             have hB3 := HG.out _ _ hB2 hb
             clear hb hq)
          | (go_at_call_of 11 (Value.agg #[Value.string ⟨o.toArray⟩, Value.int IntKind.i64 a, Value.int IntKind.i64 b, Value.int IntKind.i64 c, Value.int IntKind.i64 m, Value.slice A ks.length cap])
             have hq := HW.out _ hB0
             refine (HSZ1.out _ (HC.out _ hq)).mono ?_
             rintro e w2 ⟨rfl, hb⟩
             have hB2 := HG.out _ _ hB0 hb
             obtain ⟨⟨x0, x1, x2, x3, x4, x5⟩, ⟨y0, y1, y2, y3, y4, y5⟩⟩ := HX.out _ hB2
             clear hb hq))
        go_ret
        exact ⟨rfl, HW.out _ hB2⟩
      · cases I with
        | false => exact law_eq_no o a b c m ks A cap B cap2 n w N1 N1 T1 h1 h1 HC HC2 HSZ1 HSZ2 HS1 HR1 HS2 HI1 HI2
        | true => exact law_eq_yes o a b c m ks A cap B cap2 n w N1 N1 T1 h1 h1 HC HC2 HSZ1 HSZ2 HS1 HR1 HS2 HI1 HI2 (Lib.hid (HT1.out rfl)) (Lib.hid (HT2.out rfl)) (beq_self_eq_true _)
  · have hsf : sameB s t = false := by
      cases e : sameB s t with
      | false => rfl
      | true => exact absurd ((sameB_iff s t).1 e) hst
    rw [hsf] at HS1 HR1
    have HTN := Lib.hid (fun (hi : isTop s n = true) (hj : isTop t n = true) => (beq_false_of_ne (fun e => hst ((HTT.out hi hj).1 e)) : (showT s == showT t) = false))
    clear HTT hst hsf
    generalize min (nodes s) 2001 = N1 at *
    generalize min (nodes t) 2001 = N2 at *
    generalize showT s = T1 at *
    generalize showT t = T2 at *
    generalize hI : isTop s n = I at *
    generalize hJ : isTop t n = J at *
    cases s with
    | node o a b c m ks =>
    cases t with
    | node o2 a2 b2 c2 m2 ls =>
      simp only [coreW, Core.op, Core.va, Core.vb, Core.vc, Core.vn, Core.kids] at HSZ1 HSZ2 HS1 HR1 HS2 HI1 HI2 HT1 HT2 ⊢
      by_cases h1 : 200 < N1
      · have g1 : decide (200 < (N1 : Int)) = true := decide_eq_true (by omega)
        have HX := Lib.hid (fun W (hW : Below (w.heap.size + 1 + 1) ((w.alloc (.cells #[.string ⟨o.toArray⟩, .int .i64 a, .int .i64 b, .int .i64 c, .int .i64 m, .slice A ks.length cap] 24)).alloc (.cells #[.string ⟨o2.toArray⟩, .int .i64 a2, .int .i64 b2, .int .i64 c2, .int .i64 m2, .slice B ls.length cap2] 24)) W) => two_boxes hW)
        have HW := Lib.hid (fun W (hW : Below (w.heap.size + 1 + 1) ((w.alloc (.cells #[.string ⟨o.toArray⟩, .int .i64 a, .int .i64 b, .int .i64 c, .int .i64 m, .slice A ks.length cap] 24)).alloc (.cells #[.string ⟨o2.toArray⟩, .int .i64 a2, .int .i64 b2, .int .i64 c2, .int .i64 m2, .slice B ls.length cap2] 24)) W) => ((((Below.refl w.heap.size w).alloc (Nat.le_refl _) (.cells #[.string ⟨o.toArray⟩, .int .i64 a, .int .i64 b, .int .i64 c, .int .i64 m, .slice A ks.length cap] 24)).alloc (by simp) (.cells #[.string ⟨o2.toArray⟩, .int .i64 a2, .int .i64 b2, .int .i64 c2, .int .i64 m2, .slice B ls.length cap2] 24)).trans (hW.mono (by omega)) : Below w.heap.size w W))
        have HG := Lib.hid (fun W W' (hW : Below (w.heap.size + 1 + 1) ((w.alloc (.cells #[.string ⟨o.toArray⟩, .int .i64 a, .int .i64 b, .int .i64 c, .int .i64 m, .slice A ks.length cap] 24)).alloc (.cells #[.string ⟨o2.toArray⟩, .int .i64 a2, .int .i64 b2, .int .i64 c2, .int .i64 m2, .slice B ls.length cap2] 24)) W) (hb : Below W.heap.size W W') => (hW.trans (hb.mono (Nat.le_trans (by simp) hW.size)) : Below (w.heap.size + 1 + 1) ((w.alloc (.cells #[.string ⟨o.toArray⟩, .int .i64 a, .int .i64 b, .int .i64 c, .int .i64 m, .slice A ks.length cap] 24)).alloc (.cells #[.string ⟨o2.toArray⟩, .int .i64 a2, .int .i64 b2, .int .i64 c2, .int .i64 m2, .slice B ls.length cap2] 24)) W'))
        have hB0 := Below.refl (w.heap.size + 1 + 1) ((w.alloc (.cells #[.string ⟨o.toArray⟩, .int .i64 a, .int .i64 b, .int .i64 c, .int .i64 m, .slice A ks.length cap] 24)).alloc (.cells #[.string ⟨o2.toArray⟩, .int .i64 a2, .int .i64 b2, .int .i64 c2, .int .i64 m2, .slice B ls.length cap2] 24))
        have HSS := Lib.hid (fun W (hW : Below (w.heap.size + 1 + 1) ((w.alloc (.cells #[.string ⟨o.toArray⟩, .int .i64 a, .int .i64 b, .int .i64 c, .int .i64 m, .slice A ks.length cap] 24)).alloc (.cells #[.string ⟨o2.toArray⟩, .int .i64 a2, .int .i64 b2, .int .i64 c2, .int .i64 m2, .slice B ls.length cap2] 24)) W) => (⟨hW, two_boxes hW⟩ : (fun W => Below (w.heap.size + 1 + 1) ((w.alloc (.cells #[.string ⟨o.toArray⟩, .int .i64 a, .int .i64 b, .int .i64 c, .int .i64 m, .slice A ks.length cap] 24)).alloc (.cells #[.string ⟨o2.toArray⟩, .int .i64 a2, .int .i64 b2, .int .i64 c2, .int .i64 m2, .slice B ls.length cap2] 24)) W ∧ (W.cell? ⟨w.heap.size, 0, none⟩ = some (.string ⟨o.toArray⟩) ∧ W.cell? ⟨w.heap.size, 1, none⟩ = some (.int .i64 a) ∧ W.cell? ⟨w.heap.size, 2, none⟩ = some (.int .i64 b) ∧ W.cell? ⟨w.heap.size, 3, none⟩ = some (.int .i64 c) ∧ W.cell? ⟨w.heap.size, 4, none⟩ = some (.int .i64 m) ∧ W.cell? ⟨w.heap.size, 5, none⟩ = some (.slice A ks.length cap)) ∧ (W.cell? ⟨w.heap.size + 1, 0, none⟩ = some (.string ⟨o2.toArray⟩) ∧ W.cell? ⟨w.heap.size + 1, 1, none⟩ = some (.int .i64 a2) ∧ W.cell? ⟨w.heap.size + 1, 2, none⟩ = some (.int .i64 b2) ∧ W.cell? ⟨w.heap.size + 1, 3, none⟩ = some (.int .i64 c2) ∧ W.cell? ⟨w.heap.size + 1, 4, none⟩ = some (.int .i64 m2) ∧ W.cell? ⟨w.heap.size + 1, 5, none⟩ = some (.slice B ls.length cap2))) W))
        have HG2 := Lib.hid (fun W W' (hS : (fun W => Below (w.heap.size + 1 + 1) ((w.alloc (.cells #[.string ⟨o.toArray⟩, .int .i64 a, .int .i64 b, .int .i64 c, .int .i64 m, .slice A ks.length cap] 24)).alloc (.cells #[.string ⟨o2.toArray⟩, .int .i64 a2, .int .i64 b2, .int .i64 c2, .int .i64 m2, .slice B ls.length cap2] 24)) W ∧ (W.cell? ⟨w.heap.size, 0, none⟩ = some (.string ⟨o.toArray⟩) ∧ W.cell? ⟨w.heap.size, 1, none⟩ = some (.int .i64 a) ∧ W.cell? ⟨w.heap.size, 2, none⟩ = some (.int .i64 b) ∧ W.cell? ⟨w.heap.size, 3, none⟩ = some (.int .i64 c) ∧ W.cell? ⟨w.heap.size, 4, none⟩ = some (.int .i64 m) ∧ W.cell? ⟨w.heap.size, 5, none⟩ = some (.slice A ks.length cap)) ∧ (W.cell? ⟨w.heap.size + 1, 0, none⟩ = some (.string ⟨o2.toArray⟩) ∧ W.cell? ⟨w.heap.size + 1, 1, none⟩ = some (.int .i64 a2) ∧ W.cell? ⟨w.heap.size + 1, 2, none⟩ = some (.int .i64 b2) ∧ W.cell? ⟨w.heap.size + 1, 3, none⟩ = some (.int .i64 c2) ∧ W.cell? ⟨w.heap.size + 1, 4, none⟩ = some (.int .i64 m2) ∧ W.cell? ⟨w.heap.size + 1, 5, none⟩ = some (.slice B ls.length cap2))) W) (hb : Below W.heap.size W W') => HG.out W W' hS.1 hb)
        have HWS := Lib.hid (fun W (hS : (fun W => Below (w.heap.size + 1 + 1) ((w.alloc (.cells #[.string ⟨o.toArray⟩, .int .i64 a, .int .i64 b, .int .i64 c, .int .i64 m, .slice A ks.length cap] 24)).alloc (.cells #[.string ⟨o2.toArray⟩, .int .i64 a2, .int .i64 b2, .int .i64 c2, .int .i64 m2, .slice B ls.length cap2] 24)) W ∧ (W.cell? ⟨w.heap.size, 0, none⟩ = some (.string ⟨o.toArray⟩) ∧ W.cell? ⟨w.heap.size, 1, none⟩ = some (.int .i64 a) ∧ W.cell? ⟨w.heap.size, 2, none⟩ = some (.int .i64 b) ∧ W.cell? ⟨w.heap.size, 3, none⟩ = some (.int .i64 c) ∧ W.cell? ⟨w.heap.size, 4, none⟩ = some (.int .i64 m) ∧ W.cell? ⟨w.heap.size, 5, none⟩ = some (.slice A ks.length cap)) ∧ (W.cell? ⟨w.heap.size + 1, 0, none⟩ = some (.string ⟨o2.toArray⟩) ∧ W.cell? ⟨w.heap.size + 1, 1, none⟩ = some (.int .i64 a2) ∧ W.cell? ⟨w.heap.size + 1, 2, none⟩ = some (.int .i64 b2) ∧ W.cell? ⟨w.heap.size + 1, 3, none⟩ = some (.int .i64 c2) ∧ W.cell? ⟨w.heap.size + 1, 4, none⟩ = some (.int .i64 m2) ∧ W.cell? ⟨w.heap.size + 1, 5, none⟩ = some (.slice B ls.length cap2))) W) => HW.out W hS.1)
        go_enter Tryd.func10, Tryd.ntmps10
        go_wp2_with (first
          | (go_at_call_of 11 (Value.agg #[Value.string ⟨o2.toArray⟩, Value.int IntKind.i64 a2, Value.int IntKind.i64 b2, Value.int IntKind.i64 c2, Value.int IntKind.i64 m2, Value.slice B ls.length cap2])
             have hq := HW.out _ hB2
             refine (HSZ2.out _ (HC2.out _ hq)).mono ?_
             rintro e w3 ⟨rfl, hb⟩
             have hB3 := HG.out _ _ hB2 hb
             clear hb hq)
          | (go_at_call_of 11 (Value.agg #[Value.string ⟨o.toArray⟩, Value.int IntKind.i64 a, Value.int IntKind.i64 b, Value.int IntKind.i64 c, Value.int IntKind.i64 m, Value.slice A ks.length cap])
             have hq := HW.out _ hB0
             refine (HSZ1.out _ (HC.out _ hq)).mono ?_
             rintro e w2 ⟨rfl, hb⟩
             have hB2 := HG.out _ _ hB0 hb
             obtain ⟨⟨x0, x1, x2, x3, x4, x5⟩, ⟨y0, y1, y2, y3, y4, y5⟩⟩ := HX.out _ hB2
             clear hb hq))
        go_ret
        exact ⟨rfl, HW.out _ hB2⟩
      · by_cases h2 : 200 < N2
        · have g1 : decide (200 < (N1 : Int)) = false := decide_eq_false (by omega)
          have g2 : decide (200 < (N2 : Int)) = true := decide_eq_true (by omega)
          have HX := Lib.hid (fun W (hW : Below (w.heap.size + 1 + 1) ((w.alloc (.cells #[.string ⟨o.toArray⟩, .int .i64 a, .int .i64 b, .int .i64 c, .int .i64 m, .slice A ks.length cap] 24)).alloc (.cells #[.string ⟨o2.toArray⟩, .int .i64 a2, .int .i64 b2, .int .i64 c2, .int .i64 m2, .slice B ls.length cap2] 24)) W) => two_boxes hW)
          have HW := Lib.hid (fun W (hW : Below (w.heap.size + 1 + 1) ((w.alloc (.cells #[.string ⟨o.toArray⟩, .int .i64 a, .int .i64 b, .int .i64 c, .int .i64 m, .slice A ks.length cap] 24)).alloc (.cells #[.string ⟨o2.toArray⟩, .int .i64 a2, .int .i64 b2, .int .i64 c2, .int .i64 m2, .slice B ls.length cap2] 24)) W) => ((((Below.refl w.heap.size w).alloc (Nat.le_refl _) (.cells #[.string ⟨o.toArray⟩, .int .i64 a, .int .i64 b, .int .i64 c, .int .i64 m, .slice A ks.length cap] 24)).alloc (by simp) (.cells #[.string ⟨o2.toArray⟩, .int .i64 a2, .int .i64 b2, .int .i64 c2, .int .i64 m2, .slice B ls.length cap2] 24)).trans (hW.mono (by omega)) : Below w.heap.size w W))
          have HG := Lib.hid (fun W W' (hW : Below (w.heap.size + 1 + 1) ((w.alloc (.cells #[.string ⟨o.toArray⟩, .int .i64 a, .int .i64 b, .int .i64 c, .int .i64 m, .slice A ks.length cap] 24)).alloc (.cells #[.string ⟨o2.toArray⟩, .int .i64 a2, .int .i64 b2, .int .i64 c2, .int .i64 m2, .slice B ls.length cap2] 24)) W) (hb : Below W.heap.size W W') => (hW.trans (hb.mono (Nat.le_trans (by simp) hW.size)) : Below (w.heap.size + 1 + 1) ((w.alloc (.cells #[.string ⟨o.toArray⟩, .int .i64 a, .int .i64 b, .int .i64 c, .int .i64 m, .slice A ks.length cap] 24)).alloc (.cells #[.string ⟨o2.toArray⟩, .int .i64 a2, .int .i64 b2, .int .i64 c2, .int .i64 m2, .slice B ls.length cap2] 24)) W'))
          have hB0 := Below.refl (w.heap.size + 1 + 1) ((w.alloc (.cells #[.string ⟨o.toArray⟩, .int .i64 a, .int .i64 b, .int .i64 c, .int .i64 m, .slice A ks.length cap] 24)).alloc (.cells #[.string ⟨o2.toArray⟩, .int .i64 a2, .int .i64 b2, .int .i64 c2, .int .i64 m2, .slice B ls.length cap2] 24))
          have HSS := Lib.hid (fun W (hW : Below (w.heap.size + 1 + 1) ((w.alloc (.cells #[.string ⟨o.toArray⟩, .int .i64 a, .int .i64 b, .int .i64 c, .int .i64 m, .slice A ks.length cap] 24)).alloc (.cells #[.string ⟨o2.toArray⟩, .int .i64 a2, .int .i64 b2, .int .i64 c2, .int .i64 m2, .slice B ls.length cap2] 24)) W) => (⟨hW, two_boxes hW⟩ : (fun W => Below (w.heap.size + 1 + 1) ((w.alloc (.cells #[.string ⟨o.toArray⟩, .int .i64 a, .int .i64 b, .int .i64 c, .int .i64 m, .slice A ks.length cap] 24)).alloc (.cells #[.string ⟨o2.toArray⟩, .int .i64 a2, .int .i64 b2, .int .i64 c2, .int .i64 m2, .slice B ls.length cap2] 24)) W ∧ (W.cell? ⟨w.heap.size, 0, none⟩ = some (.string ⟨o.toArray⟩) ∧ W.cell? ⟨w.heap.size, 1, none⟩ = some (.int .i64 a) ∧ W.cell? ⟨w.heap.size, 2, none⟩ = some (.int .i64 b) ∧ W.cell? ⟨w.heap.size, 3, none⟩ = some (.int .i64 c) ∧ W.cell? ⟨w.heap.size, 4, none⟩ = some (.int .i64 m) ∧ W.cell? ⟨w.heap.size, 5, none⟩ = some (.slice A ks.length cap)) ∧ (W.cell? ⟨w.heap.size + 1, 0, none⟩ = some (.string ⟨o2.toArray⟩) ∧ W.cell? ⟨w.heap.size + 1, 1, none⟩ = some (.int .i64 a2) ∧ W.cell? ⟨w.heap.size + 1, 2, none⟩ = some (.int .i64 b2) ∧ W.cell? ⟨w.heap.size + 1, 3, none⟩ = some (.int .i64 c2) ∧ W.cell? ⟨w.heap.size + 1, 4, none⟩ = some (.int .i64 m2) ∧ W.cell? ⟨w.heap.size + 1, 5, none⟩ = some (.slice B ls.length cap2))) W))
          have HG2 := Lib.hid (fun W W' (hS : (fun W => Below (w.heap.size + 1 + 1) ((w.alloc (.cells #[.string ⟨o.toArray⟩, .int .i64 a, .int .i64 b, .int .i64 c, .int .i64 m, .slice A ks.length cap] 24)).alloc (.cells #[.string ⟨o2.toArray⟩, .int .i64 a2, .int .i64 b2, .int .i64 c2, .int .i64 m2, .slice B ls.length cap2] 24)) W ∧ (W.cell? ⟨w.heap.size, 0, none⟩ = some (.string ⟨o.toArray⟩) ∧ W.cell? ⟨w.heap.size, 1, none⟩ = some (.int .i64 a) ∧ W.cell? ⟨w.heap.size, 2, none⟩ = some (.int .i64 b) ∧ W.cell? ⟨w.heap.size, 3, none⟩ = some (.int .i64 c) ∧ W.cell? ⟨w.heap.size, 4, none⟩ = some (.int .i64 m) ∧ W.cell? ⟨w.heap.size, 5, none⟩ = some (.slice A ks.length cap)) ∧ (W.cell? ⟨w.heap.size + 1, 0, none⟩ = some (.string ⟨o2.toArray⟩) ∧ W.cell? ⟨w.heap.size + 1, 1, none⟩ = some (.int .i64 a2) ∧ W.cell? ⟨w.heap.size + 1, 2, none⟩ = some (.int .i64 b2) ∧ W.cell? ⟨w.heap.size + 1, 3, none⟩ = some (.int .i64 c2) ∧ W.cell? ⟨w.heap.size + 1, 4, none⟩ = some (.int .i64 m2) ∧ W.cell? ⟨w.heap.size + 1, 5, none⟩ = some (.slice B ls.length cap2))) W) (hb : Below W.heap.size W W') => HG.out W W' hS.1 hb)
          have HWS := Lib.hid (fun W (hS : (fun W => Below (w.heap.size + 1 + 1) ((w.alloc (.cells #[.string ⟨o.toArray⟩, .int .i64 a, .int .i64 b, .int .i64 c, .int .i64 m, .slice A ks.length cap] 24)).alloc (.cells #[.string ⟨o2.toArray⟩, .int .i64 a2, .int .i64 b2, .int .i64 c2, .int .i64 m2, .slice B ls.length cap2] 24)) W ∧ (W.cell? ⟨w.heap.size, 0, none⟩ = some (.string ⟨o.toArray⟩) ∧ W.cell? ⟨w.heap.size, 1, none⟩ = some (.int .i64 a) ∧ W.cell? ⟨w.heap.size, 2, none⟩ = some (.int .i64 b) ∧ W.cell? ⟨w.heap.size, 3, none⟩ = some (.int .i64 c) ∧ W.cell? ⟨w.heap.size, 4, none⟩ = some (.int .i64 m) ∧ W.cell? ⟨w.heap.size, 5, none⟩ = some (.slice A ks.length cap)) ∧ (W.cell? ⟨w.heap.size + 1, 0, none⟩ = some (.string ⟨o2.toArray⟩) ∧ W.cell? ⟨w.heap.size + 1, 1, none⟩ = some (.int .i64 a2) ∧ W.cell? ⟨w.heap.size + 1, 2, none⟩ = some (.int .i64 b2) ∧ W.cell? ⟨w.heap.size + 1, 3, none⟩ = some (.int .i64 c2) ∧ W.cell? ⟨w.heap.size + 1, 4, none⟩ = some (.int .i64 m2) ∧ W.cell? ⟨w.heap.size + 1, 5, none⟩ = some (.slice B ls.length cap2))) W) => HW.out W hS.1)
          go_enter Tryd.func10, Tryd.ntmps10
          go_wp2_with (first
            | (go_at_call_of 11 (Value.agg #[Value.string ⟨o2.toArray⟩, Value.int IntKind.i64 a2, Value.int IntKind.i64 b2, Value.int IntKind.i64 c2, Value.int IntKind.i64 m2, Value.slice B ls.length cap2])
               have hq := HW.out _ hB2
               refine (HSZ2.out _ (HC2.out _ hq)).mono ?_
               rintro e w3 ⟨rfl, hb⟩
               have hB3 := HG.out _ _ hB2 hb
               clear hb hq)
            | (go_at_call_of 11 (Value.agg #[Value.string ⟨o.toArray⟩, Value.int IntKind.i64 a, Value.int IntKind.i64 b, Value.int IntKind.i64 c, Value.int IntKind.i64 m, Value.slice A ks.length cap])
               have hq := HW.out _ hB0
               refine (HSZ1.out _ (HC.out _ hq)).mono ?_
               rintro e w2 ⟨rfl, hb⟩
               have hB2 := HG.out _ _ hB0 hb
               obtain ⟨⟨x0, x1, x2, x3, x4, x5⟩, ⟨y0, y1, y2, y3, y4, y5⟩⟩ := HX.out _ hB2
               clear hb hq))
          go_ret
          exact ⟨rfl, HW.out _ hB3⟩
        · cases I with
          | false => exact law_ne_no o a b c m ks A cap B cap2 n w N1 N2 T1 o2 a2 b2 c2 m2 ls T2 J h1 h2 HC HC2 HSZ1 HSZ2 HS1 HR1 HS2 HI1 HI2
          | true =>
            cases J with
            | false => exact law_ne_half o a b c m ks A cap B cap2 n w N1 N2 T1 o2 a2 b2 c2 m2 ls T2 h1 h2 HC HC2 HSZ1 HSZ2 HS1 HR1 HS2 HI1 HI2
            | true => exact law_ne_yes o a b c m ks A cap B cap2 n w N1 N2 T1 o2 a2 b2 c2 m2 ls T2 h1 h2 HC HC2 HSZ1 HSZ2 HS1 HR1 HS2 HI1 HI2 (Lib.hid (HT1.out rfl)) (Lib.hid (HT2.out rfl)) (HTN.out rfl rfl)
end Go.Proofs.YtcgjacaemblnmaaDoor