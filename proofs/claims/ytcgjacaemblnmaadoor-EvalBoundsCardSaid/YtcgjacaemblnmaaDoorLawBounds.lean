/- The walk over law12.EvalBounds. -/
import Derived.Test.YtcgjacaemblnmaaDoorKnown
import Derived.Test.YtcgjacaemblnmaaDoorFree
import Derived.Deep.RegionWith
namespace Go.Proofs.YtcgjacaemblnmaaDoor
open Go Go.RowKit

theorem holdsB_free (t : Core) (xs : List Int) (a b : Int) (ha : ¬ a < 0) (ha8 : ¬ 8 < a) (hb : ¬ b < 0) (hb8 : ¬ 8 < b) (hf : freeB t = true) : holdsB t xs a = holdsB t xs b := by
  unfold holdsB
  simp only [ha, ha8, hb, hb8, false_or]
  rw [eval_free atomE t (xs.map Int.toNat) a.toNat b.toNat hf]

/-- The six cells of a box. -/
theorem box_cells {B : Nat} {w W0 W : World} {o : List UInt8} {a b c m : Int} {l : Nat} {A : Option Addr} {cap : Nat} (h0 : W0 = w.alloc (.cells #[.string ⟨o.toArray⟩, .int .i64 a, .int .i64 b, .int .i64 c, .int .i64 m, .slice A l cap] 24)) (hB : w.heap.size < B) (h : Below B W0 W) :
    W.cell? ⟨w.heap.size, 0, none⟩ = some (.string ⟨o.toArray⟩) ∧ W.cell? ⟨w.heap.size, 1, none⟩ = some (.int .i64 a) ∧ W.cell? ⟨w.heap.size, 2, none⟩ = some (.int .i64 b) ∧ W.cell? ⟨w.heap.size, 3, none⟩ = some (.int .i64 c) ∧
      W.cell? ⟨w.heap.size, 4, none⟩ = some (.int .i64 m) ∧ W.cell? ⟨w.heap.size, 5, none⟩ = some (.slice A l cap) := by
  subst h0
  have e : ∀ j u, (#[.string ⟨o.toArray⟩, .int .i64 a, .int .i64 b, .int .i64 c, .int .i64 m, .slice A l cap] : Array Value)[j]? = some u → W.cell? ⟨w.heap.size, j, none⟩ = some u := fun j u hu =>
    (h.cell (p := ⟨w.heap.size, j, none⟩) hB).trans ((cell_of_row _ w.heap.size j _ 24 (0, 0) (heap_alloc_new w _)).trans hu)
  exact ⟨e 0 _ rfl, e 1 _ rfl, e 2 _ rfl, e 3 _ rfl, e 4 _ rfl, e 5 _ rfl⟩

set_option maxHeartbeats 2000000 in
theorem lawBounds_any (t : Core) (A : Option Addr) (cap : Nat) (xs : List Int) (S : Option Addr) (scap : Nat) (x y : Int) (w : World) (h : CoreAt w w.heap.size t A cap) (hS : IntsAt w w.heap.size S xs) (hl : xs.length ≤ 140737488355328) (hT : Tab w) :
    Calls Tryd.prog 3 #[coreW t.op t.va t.vb t.vc t.vn t.kids.length A cap, .slice S xs.length scap, .int .i64 x, .int .i64 y] w fun e w' => e = .returned (.bool true) ∧ Below w.heap.size w w' := by
  have h2 : 2 < w.heap.size := World.block_lt_of_cell? _ _ (hT 0 (by decide))
  have HP := Lib.hid (holdsB_free t xs x y)
  have HSZ := Lib.hid (fun W hW => rSize_any t A cap W hW)
  have HFR := Lib.hid (fun W hW => rFree_any t A cap W hW)
  have HHX := Lib.hid (fun W hC hS hT => Holds_any t A cap xs S scap x W hC hS hl hT)
  have HHY := Lib.hid (fun W hC hS hT => Holds_any t A cap xs S scap y W hC hS hl hT)
  have HC := Lib.hid (fun W (hW : Below w.heap.size w W) => h.later hW hW.size)
  have HS := Lib.hid (fun W (hW : Below w.heap.size w W) => hS.later hW hW.size)
  have HT := Lib.hid (fun W (hW : Below w.heap.size w W) => hT.below hW h2)
  have HK := Lib.hid known12_any
  clear h hS hT hl
  generalize nodes t = N at *
  generalize freeB t = F at *
  cases t with
  | node o a b c m ks =>
    simp only [coreW, Core.op, Core.va, Core.vb, Core.vc, Core.vn, Core.kids] at HSZ HFR HHX HHY HC ⊢
    generalize hW0 : w.alloc (.cells #[.string ⟨o.toArray⟩, .int .i64 a, .int .i64 b, .int .i64 c, .int .i64 m, .slice A ks.length cap] 24) = W0
    have hw0 : Below w.heap.size w W0 := hW0 ▸ (Below.refl _ _).alloc (Nat.le_refl _) _
    have hs0 : W0.heap.size = w.heap.size + 1 := by rw [← hW0]; simp
    have HW := Lib.hid (fun W (hW : Below (w.heap.size + 1) W0 W) => (hw0.trans (hW.mono (by omega)) : Below w.heap.size w W))
    have HX := Lib.hid (fun W (hW : Below (w.heap.size + 1) W0 W) => box_cells hW0.symm (Nat.lt_succ_self _) hW)
    have HG := Lib.hid (fun W W' (hW : Below (w.heap.size + 1) W0 W) (hb : Below W.heap.size W W') => (hW.trans (hb.mono (by have := hW.size; omega)) : Below (w.heap.size + 1) W0 W'))
    have hB := Below.refl (w.heap.size + 1) W0
    subst hW0
    clear hw0 hs0
    by_cases h6 : 6 < xs.length
    · have g6 : decide (6 < (xs.length : Int)) = true := decide_eq_true (by omega)
      go_enter Tryd.func3, Tryd.ntmps3
      go_wp2_with fail
      go_ret
      exact ⟨rfl, HW.out _ hB⟩
    have g6 : decide (6 < (xs.length : Int)) = false := decide_eq_false (by omega)
    by_cases hx0 : x < 0
    · have g0 : decide (x < 0) = true := decide_eq_true hx0
      go_enter Tryd.func3, Tryd.ntmps3
      go_wp2_with fail
      go_ret
      exact ⟨rfl, HW.out _ hB⟩
    have g0 : decide (x < 0) = false := decide_eq_false hx0
    by_cases hx8 : 8 < x
    · have g1 : decide (8 < x) = true := decide_eq_true hx8
      go_enter Tryd.func3, Tryd.ntmps3
      go_wp2_with fail
      go_ret
      exact ⟨rfl, HW.out _ hB⟩
    have g1 : decide (8 < x) = false := decide_eq_false hx8
    by_cases hy0 : y < 0
    · have g2 : decide (y < 0) = true := decide_eq_true hy0
      go_enter Tryd.func3, Tryd.ntmps3
      go_wp2_with fail
      go_ret
      exact ⟨rfl, HW.out _ hB⟩
    have g2 : decide (y < 0) = false := decide_eq_false hy0
    by_cases hy8 : 8 < y
    · have g3 : decide (8 < y) = true := decide_eq_true hy8
      go_enter Tryd.func3, Tryd.ntmps3
      go_wp2_with fail
      go_ret
      exact ⟨rfl, HW.out _ hB⟩
    have g3 : decide (8 < y) = false := decide_eq_false hy8
    have HPP := Lib.hid (HP.out hx0 hx8 hy0 hy8)
    clear HP hx0 hx8 hy0 hy8 h6
    by_cases hN : 60 < N
    · have g4 : decide (60 < ((min N 2001 : Nat) : Int)) = true := decide_eq_true (by omega)
      clear hN
      generalize min N 2001 = N2 at *
      go_enter Tryd.func3, Tryd.ntmps3
      go_wp2_with (
        go_at_call 11
        refine (HSZ.out _ (HC.out _ (HW.out _ hB))).mono ?_
        rintro e w2 ⟨rfl, hb2⟩
        have hB2 := HG.out _ _ hB hb2)
      go_ret
      exact ⟨rfl, HW.out _ hB2⟩
    have g4 : decide (60 < ((min N 2001 : Nat) : Int)) = false := decide_eq_false (by omega)
    clear hN
    generalize min N 2001 = N2 at *
    cases F with
    | false =>
      go_enter Tryd.func3, Tryd.ntmps3
      go_wp2_with (first
        | (go_at_call 11
           refine (HSZ.out _ (HC.out _ (HW.out _ hB))).mono ?_
           rintro e w2 ⟨rfl, hb2⟩
           have hB2 := HG.out _ _ hB hb2
           obtain ⟨c0, c1, c2, c3, c4, c5⟩ := HX.out _ hB2
           clear hb2)
        | (go_at_call 12
           refine (HFR.out _ (HC.out _ (HW.out _ hB2))).mono ?_
           rintro e w3 ⟨rfl, hb3⟩
           have hB3 := HG.out _ _ hB2 hb3))
      go_ret
      exact ⟨rfl, HW.out _ hB3⟩
    | true =>
      have HPQ := Lib.hid (HPP.out rfl)
      generalize holdsB (.node o a b c m ks) xs x = R at *
      have HHY : Hid (∀ W, CoreAt W W.heap.size (.node o a b c m ks) A cap → IntsAt W W.heap.size S xs → Tab W → Calls Tryd.prog 13 #[.agg #[.string ⟨o.toArray⟩, .int .i64 a, .int .i64 b, .int .i64 c, .int .i64 m, .slice A ks.length cap], .slice S xs.length scap, .int .i64 y] W
          fun e w' => e = .returned (.bool R) ∧ Below W.heap.size W w') := Lib.hid (by
        have := HHY.out
        rw [← HPQ.out] at this
        exact this)
      clear HPP HPQ
      go_enter Tryd.func3, Tryd.ntmps3
      go_upto_region 3 with (first
        | (go_at_call 11
           refine (HSZ.out _ (HC.out _ (HW.out _ hB))).mono ?_
           rintro e w2 ⟨rfl, hb2⟩
           have hB2 := HG.out _ _ hB hb2
           obtain ⟨c0, c1, c2, c3, c4, c5⟩ := HX.out _ hB2
           clear hb2)
        | (go_at_call 12
           refine (HFR.out _ (HC.out _ (HW.out _ hB2))).mono ?_
           rintro e w3 ⟨rfl, hb3⟩
           have hB3 := HG.out _ _ hB2 hb3
           obtain ⟨d0, d1, d2, d3, d4, d5⟩ := HX.out _ hB3
           clear hb3))
      clear c0 c1 c2 c3 c4 c5 hB2 hB
      have HB3 := Lib.hid hB3
      · go_region_with ((first
          | (go_at_call_of 13 (Value.int IntKind.i64 x)
             first
             | refine (HHX.out _ (HC.out _ (HW.out _ (hB5.drew))) (HS.out _ (HW.out _ (hB5.drew))) (HT.out _ (HW.out _ (hB5.drew)))).mono ?_
             | refine (HHX.out _ (HC.out _ (HW.out _ (hB5))) (HS.out _ (HW.out _ (hB5))) (HT.out _ (HW.out _ (hB5)))).mono ?_
             | refine (HHX.out _ (HC.out _ (HW.out _ (hB3.drew))) (HS.out _ (HW.out _ (hB3.drew))) (HT.out _ (HW.out _ (hB3.drew)))).mono ?_
             | refine (HHX.out _ (HC.out _ (HW.out _ (hB3))) (HS.out _ (HW.out _ (hB3))) (HT.out _ (HW.out _ (hB3)))).mono ?_
             rintro e w4 ⟨rfl, hb⟩
             first
               | have hB4 := HG.out _ _ (hB5.drew) hb
               | have hB4 := HG.out _ _ (hB5) hb
               | have hB4 := HG.out _ _ (hB3.drew) hb
               | have hB4 := HG.out _ _ (hB3) hb
             obtain ⟨e0, e1, e2, e3, e4, e5⟩ := HX.out _ hB4
             clear hb)
          | (go_at_call_of 13 (Value.int IntKind.i64 y)
             first
             | refine (HHY.out _ (HC.out _ (HW.out _ (hB4.drew))) (HS.out _ (HW.out _ (hB4.drew))) (HT.out _ (HW.out _ (hB4.drew)))).mono ?_
             | refine (HHY.out _ (HC.out _ (HW.out _ (hB4))) (HS.out _ (HW.out _ (hB4))) (HT.out _ (HW.out _ (hB4)))).mono ?_
             | refine (HHY.out _ (HC.out _ (HW.out _ (hB3.drew))) (HS.out _ (HW.out _ (hB3.drew))) (HT.out _ (HW.out _ (hB3.drew)))).mono ?_
             | refine (HHY.out _ (HC.out _ (HW.out _ (hB3))) (HS.out _ (HW.out _ (hB3))) (HT.out _ (HW.out _ (hB3)))).mono ?_
             rintro e w5 ⟨rfl, hb⟩
             first
               | have hB5 := HG.out _ _ (hB4.drew) hb
               | have hB5 := HG.out _ _ (hB4) hb
               | have hB5 := HG.out _ _ (hB3.drew) hb
               | have hB5 := HG.out _ _ (hB3) hb
             obtain ⟨f0, f1, f2, f3, f4, f5⟩ := HX.out _ hB5
             clear hb)
          | (go_at_call 14
             first
             | refine (HK.out _ (HT.out _ (HW.out _ (hB5.drew)))).mono ?_
             | refine (HK.out _ (HT.out _ (HW.out _ (hB5)))).mono ?_
             | refine (HK.out _ (HT.out _ (HW.out _ (hB4.drew)))).mono ?_
             | refine (HK.out _ (HT.out _ (HW.out _ (hB4)))).mono ?_
             rintro e w6 ⟨rfl, hb6⟩)))
        all_goals
          go_wp2_with fail
          go_ret
          first
          | exact ⟨rfl, HW.out _ (HG.out _ _ hB5.drew hb6)⟩
          | exact ⟨rfl, HW.out _ (HG.out _ _ hB5 hb6)⟩
          | exact ⟨rfl, HW.out _ (HG.out _ _ hB4.drew hb6)⟩
          | exact ⟨rfl, HW.out _ (HG.out _ _ hB4 hb6)⟩
end Go.Proofs.YtcgjacaemblnmaaDoor
