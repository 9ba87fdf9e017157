/- The walk over law12.EvalHolds. -/
import Derived.Test.YtcgjacaemblnmaaDoorRTop
import Derived.Test.YtcgjacaemblnmaaDoorKnown
import Derived.Test.YtcgjacaemblnmaaDoorFree
import Derived.Test.YtcgjacaemblnmaaDoorAnyF
import Derived.Test.YtcgjacaemblnmaaDoorDeep
namespace Go.Proofs.YtcgjacaemblnmaaDoor
open Go Go.RowKit

set_option maxHeartbeats 4000000 in
theorem lawHolds_any (t : Core) (A : Option Addr) (cap : Nat) (xs : List Int) (S : Option Addr) (scap : Nat) (bound : Int) (w : World) (h : CoreAt w w.heap.size t A cap) (hS : IntsAt w w.heap.size S xs) (hl : xs.length ≤ 140737488355328) (hT : Tab w) :
    Calls Tryd.prog 7 #[coreW t.op t.va t.vb t.vc t.vn t.kids.length A cap, .slice S xs.length scap, .int .i64 bound] w fun e w' => e = .returned (.bool true) ∧ Below w.heap.size w w' := by
  have h2 : 2 < w.heap.size := World.block_lt_of_cell? _ _ (hT 0 (by decide))
  have HSM := Lib.hid (fun (hb : bound ≤ 10) W hW => small_any t A cap bound hb W hW)
  have HFR := Lib.hid (fun W hW => rFree_any t A cap W hW)
  have HFP := Lib.hid (fun W hW => Free_any t A cap W hW)
  have HHX := Lib.hid (fun W hC hS hT => Holds_any t A cap xs S scap bound W hC hS hl hT)
  have HHR := Lib.hid (fun W hC hS => by
    have := rHolds_any t A cap xs S scap bound W hC hS hl
    rw [← holds_same] at this
    exact this)
  have HC := Lib.hid (fun W (hW : Below w.heap.size w W) => h.later hW hW.size)
  have HS := Lib.hid (fun W (hW : Below w.heap.size w W) => hS.later hW hW.size)
  have HT := Lib.hid (fun W (hW : Below w.heap.size w W) => hT.below hW h2)
  have HK := Lib.hid known12_any
  clear h hS hT hl
  generalize freeB t = F at *
  generalize smallB t bound = SM at *
  generalize holdsB t xs bound = H at *
  cases t with
  | node o a b c m ks =>
    simp only [coreW, Core.op, Core.va, Core.vb, Core.vc, Core.vn, Core.kids] at HSM HFR HFP HHX HHR HC ⊢
    have HX := Lib.hid (fun W (hW : Below (w.heap.size + 1) (w.alloc (.cells #[.string ⟨o.toArray⟩, .int .i64 a, .int .i64 b, .int .i64 c, .int .i64 m, .slice A ks.length cap] 24)) W) => box6 hW)
    have HW := Lib.hid (fun W (hW : Below (w.heap.size + 1) (w.alloc (.cells #[.string ⟨o.toArray⟩, .int .i64 a, .int .i64 b, .int .i64 c, .int .i64 m, .slice A ks.length cap] 24)) W) => (((Below.refl w.heap.size w).alloc (Nat.le_refl _) _).trans (hW.mono (Nat.le_succ _)) : Below w.heap.size w W))
    have HG := Lib.hid (fun W W' (hW : Below (w.heap.size + 1) (w.alloc (.cells #[.string ⟨o.toArray⟩, .int .i64 a, .int .i64 b, .int .i64 c, .int .i64 m, .slice A ks.length cap] 24)) W) (hb : Below W.heap.size W W') => (hW.trans (hb.mono (Nat.le_trans (by simp) hW.size)) : Below (w.heap.size + 1) (w.alloc (.cells #[.string ⟨o.toArray⟩, .int .i64 a, .int .i64 b, .int .i64 c, .int .i64 m, .slice A ks.length cap] 24)) W'))
    have hB := Below.refl (w.heap.size + 1) (w.alloc (.cells #[.string ⟨o.toArray⟩, .int .i64 a, .int .i64 b, .int .i64 c, .int .i64 m, .slice A ks.length cap] 24))
    by_cases hl10 : 10 < xs.length
    · have g6 : decide (10 < (xs.length : Int)) = true := decide_eq_true (by omega)
      go_enter Tryd.func7, Tryd.ntmps7
      go_wp2_with fail
      go_ret
      exact ⟨rfl, HW.out _ hB⟩
    have g6 : decide (10 < (xs.length : Int)) = false := decide_eq_false (by omega)
    by_cases hb10 : 10 < bound
    · have g7 : decide (10 < bound) = true := decide_eq_true hb10
      go_enter Tryd.func7, Tryd.ntmps7
      go_wp2_with fail
      go_ret
      exact ⟨rfl, HW.out _ hB⟩
    have g7 : decide (10 < bound) = false := decide_eq_false hb10
    have HSN := Lib.hid (HSM.out (by omega))
    clear HSM
    cases SM with
    | false =>
      go_enter Tryd.func7, Tryd.ntmps7
      go_wp2_with (
        go_at_call 15
        refine (HSN.out _ (HC.out _ (HW.out _ hB))).mono ?_
        rintro e w2 ⟨rfl, hb2⟩
        have hB2 := HG.out _ _ hB hb2)
      go_ret
      exact ⟨rfl, HW.out _ hB2⟩
    | true =>
      have HSS := Lib.hid (fun W (hW : Below (w.heap.size + 1) (w.alloc (.cells #[.string ⟨o.toArray⟩, .int .i64 a, .int .i64 b, .int .i64 c, .int .i64 m, .slice A ks.length cap] 24)) W) => (⟨hW, box6 hW⟩ : (fun W => Below (w.heap.size + 1) (w.alloc (.cells #[.string ⟨o.toArray⟩, .int .i64 a, .int .i64 b, .int .i64 c, .int .i64 m, .slice A ks.length cap] 24)) W ∧ (W.cell? ⟨w.heap.size, 0, none⟩ = some (.string ⟨o.toArray⟩) ∧ W.cell? ⟨w.heap.size, 1, none⟩ = some (.int .i64 a) ∧ W.cell? ⟨w.heap.size, 2, none⟩ = some (.int .i64 b) ∧ W.cell? ⟨w.heap.size, 3, none⟩ = some (.int .i64 c) ∧ W.cell? ⟨w.heap.size, 4, none⟩ = some (.int .i64 m) ∧ W.cell? ⟨w.heap.size, 5, none⟩ = some (.slice A ks.length cap))) W))
      have HGS := Lib.hid (fun W W' (hS : (fun W => Below (w.heap.size + 1) (w.alloc (.cells #[.string ⟨o.toArray⟩, .int .i64 a, .int .i64 b, .int .i64 c, .int .i64 m, .slice A ks.length cap] 24)) W ∧ (W.cell? ⟨w.heap.size, 0, none⟩ = some (.string ⟨o.toArray⟩) ∧ W.cell? ⟨w.heap.size, 1, none⟩ = some (.int .i64 a) ∧ W.cell? ⟨w.heap.size, 2, none⟩ = some (.int .i64 b) ∧ W.cell? ⟨w.heap.size, 3, none⟩ = some (.int .i64 c) ∧ W.cell? ⟨w.heap.size, 4, none⟩ = some (.int .i64 m) ∧ W.cell? ⟨w.heap.size, 5, none⟩ = some (.slice A ks.length cap))) W) (hb : Below W.heap.size W W') => HG.out W W' hS.1 hb)
      have HWS := Lib.hid (fun W (hS : (fun W => Below (w.heap.size + 1) (w.alloc (.cells #[.string ⟨o.toArray⟩, .int .i64 a, .int .i64 b, .int .i64 c, .int .i64 m, .slice A ks.length cap] 24)) W ∧ (W.cell? ⟨w.heap.size, 0, none⟩ = some (.string ⟨o.toArray⟩) ∧ W.cell? ⟨w.heap.size, 1, none⟩ = some (.int .i64 a) ∧ W.cell? ⟨w.heap.size, 2, none⟩ = some (.int .i64 b) ∧ W.cell? ⟨w.heap.size, 3, none⟩ = some (.int .i64 c) ∧ W.cell? ⟨w.heap.size, 4, none⟩ = some (.int .i64 m) ∧ W.cell? ⟨w.heap.size, 5, none⟩ = some (.slice A ks.length cap))) W) => HW.out W hS.1)
      cases H
      all_goals cases F
      all_goals
        go_enter Tryd.func7, Tryd.ntmps7
        go_upto_region 3 with (
          go_at_call 15
          refine (HSN.out _ (HC.out _ (HW.out _ hB))).mono ?_
          rintro e w2 ⟨rfl, hb2⟩
          have hB2 := HG.out _ _ hB hb2
          clear hb2)
        have HB2 := Lib.hid hB2
        have hB3 := hB2.drew
        clear hB2 hB
        generalize (w.alloc (.cells #[.string ⟨o.toArray⟩, .int .i64 a, .int .i64 b, .int .i64 c, .int .i64 m, .slice A ks.length cap] 24)) = Z at *
        go_region_held3 (fun W => Below (w.heap.size + 1) Z W ∧ (W.cell? ⟨w.heap.size, 0, none⟩ = some (.string ⟨o.toArray⟩) ∧ W.cell? ⟨w.heap.size, 1, none⟩ = some (.int .i64 a) ∧ W.cell? ⟨w.heap.size, 2, none⟩ = some (.int .i64 b) ∧ W.cell? ⟨w.heap.size, 3, none⟩ = some (.int .i64 c) ∧ W.cell? ⟨w.heap.size, 4, none⟩ = some (.int .i64 m) ∧ W.cell? ⟨w.heap.size, 5, none⟩ = some (.slice A ks.length cap))) (first | assumption | exact HSS.out _ hB4 | exact HSS.out _ hB3) (first
          | (
             go_at_call 13
             have hq := HWS.out _ (by assumption)
             refine (HHX.out _ (HC.out _ hq) (HS.out _ hq) (HT.out _ hq)).mono ?_
             rintro e w4 ⟨rfl, hb⟩
             have hB4 := HGS.out _ _ (by assumption) hb
             clear hb)
          | (
             go_at_call 16
             have hq := HWS.out _ (by assumption)
             refine (HHR.out _ (HC.out _ hq) (HS.out _ hq)).mono ?_
             rintro e w4 ⟨rfl, hb⟩
             have hB4 := HGS.out _ _ (by assumption) hb
             clear hb)
          | (
             go_at_call 17
             have hq := HWS.out _ (by assumption)
             refine (HFP.out _ (HC.out _ hq)).mono ?_
             rintro e w4 ⟨rfl, hb⟩
             have hB4 := HGS.out _ _ (by assumption) hb
             clear hb)
          | (
             go_at_call 12
             have hq := HWS.out _ (by assumption)
             refine (HFR.out _ (HC.out _ hq)).mono ?_
             rintro e w4 ⟨rfl, hb⟩
             have hB4 := HGS.out _ _ (by assumption) hb
             clear hb)
          | (
             go_at_call 14
             have hq := HWS.out _ (by assumption)
             refine (HK.out _ (HT.out _ hq)).mono ?_
             rintro e w4 ⟨rfl, hb⟩
             have hB4 := HGS.out _ _ (by assumption) hb
             clear hb))
        all_goals
          go_wp2_with fail
          go_ret
          exact ⟨rfl, HWS.out _ (by assumption)⟩
end Go.Proofs.YtcgjacaemblnmaaDoor
