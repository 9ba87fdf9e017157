/- Parts of the proof: RSame. -/
import Derived.Test.YteikakoheibnjaaGreatDoorM8
import Derived.WalkSmall
namespace Go.Proofs.YteikakoheibnjaaGreatDoor
open Go Go.RowKit

theorem resP_eq (x y : ResP) : x = y ↔ x.tag = y.tag ∧ x.err = y.err ∧ x.at_ = y.at_ ∧ x.model = y.model ∧ x.counter = y.counter := by
  obtain ⟨a, b, c, d, e⟩ := x
  obtain ⟨f, g, h, i, j⟩ := y
  simp
theorem two_boxes {w W : World} {o1 o2 : Array Value} {t1 t2 : TypeId} (h : Below (w.heap.size + 2) ((w.alloc (.cells o1 t1)).alloc (.cells o2 t2)) W) :
    (∀ (j : Nat) (u : Value), o1[j]? = some u → W.cell? ⟨w.heap.size, j, none⟩ = some u) ∧ (∀ (j : Nat) (u : Value), o2[j]? = some u → W.cell? ⟨w.heap.size + 1, j, none⟩ = some u) := by
  have e : (w.alloc (.cells o1 t1)).heap.size = w.heap.size + 1 := by simp
  constructor
  · intro j u hu
    refine (h.cell (p := ⟨w.heap.size, j, none⟩) (by show w.heap.size < _; omega)).trans ?_
    refine (World.cell?_alloc_lt _ _ ⟨w.heap.size, j, none⟩ (by simp)).trans ?_
    exact (cell_of_row _ w.heap.size j _ t1 (0, 0) (heap_alloc_new w _)).trans hu
  · intro j u hu
    refine (h.cell (p := ⟨w.heap.size + 1, j, none⟩) (by show w.heap.size + 1 < _; omega)).trans ?_
    exact (cell_of_row _ (w.heap.size + 1) j _ t2 (0, 0) (heap_new_at (by simp))).trans hu
set_option maxRecDepth 100000 in
set_option maxHeartbeats 8000000 in
theorem rsame_any {w : World} {r q : ResP} {L M : ResL} (h : ResAt w w.heap.size r L) (h2 : ResAt w w.heap.size q M) :
    Calls Tryz.prog 14 #[resT r L, resT q M] w fun e w' => e = .returned (.bool (decide (r = q))) ∧ Below w.heap.size w w' := by
  have HV := Lib.hid (show decide (r = q) = decide (r = q) from rfl)
  have HEQ := Lib.hid (resP_eq r q)
  have HB2 := Lib.hid (((Below.refl w.heap.size w).alloc (Nat.le_refl _) (boxR r.tag r.err r.at_ r.model.length r.counter.length L)).alloc (by simp) (boxR q.tag q.err q.at_ q.model.length q.counter.length M))
  have hws : ((w.alloc (boxR r.tag r.err r.at_ r.model.length r.counter.length L)).alloc (boxR q.tag q.err q.at_ q.model.length q.counter.length M)).heap.size = w.heap.size + 2 := by simp
  have HM := Lib.hid (fun W (hb : Below w.heap.size w W) => vsame_any (w := W) (h.model.keep fun p hp => hb.cell hp) (h2.model.keep fun p hp => hb.cell hp))
  have HC := Lib.hid (fun W (hb : Below w.heap.size w W) => vsame_any (w := W) (h.counter.keep fun p hp => hb.cell hp) (h2.counter.keep fun p hp => hb.cell hp))
  have HBX := Lib.hid (fun n => two_boxes (w := w) (o1 := #[.int .i64 r.tag, .int .i64 r.err, .int .i64 r.at_, .slice L.Am r.model.length L.cm, .slice L.Ac r.counter.length L.cc]) (o2 := #[.int .i64 q.tag, .int .i64 q.err, .int .i64 q.at_, .slice M.Am q.model.length M.cm, .slice M.Ac q.counter.length M.cc]) (t1 := 25) (t2 := 25) (below_drewN (Below.refl _ _) n))
  have hz1 := h.model.small
  have hz2 := h.counter.small
  clear h h2
  generalize hv : decide (r = q) = V at *
  have HVV := Lib.hid hv
  clear HV hv
  show Calls Tryz.prog 14 #[resW r.tag r.err r.at_ r.model.length r.counter.length L, resW q.tag q.err q.at_ q.model.length q.counter.length M] w _
  generalize hm : r.model = m at *
  generalize hm2 : q.model = m2 at *
  generalize hc : r.counter = c at *
  generalize hc2 : q.counter = c2 at *
  generalize r.tag = t at *
  generalize q.tag = t2 at *
  generalize r.err = er at *
  generalize q.err = er2 at *
  generalize r.at_ = ap at *
  generalize q.at_ = ap2 at *
  clear hm hm2 hc hc2
  by_cases hmm : m = m2
  all_goals by_cases hcc : c = c2
  all_goals
    first
    | simp only [decide_eq_true hmm] at HM
    | simp only [decide_eq_false hmm] at HM
    first
    | simp only [decide_eq_true hcc] at HC
    | simp only [decide_eq_false hcc] at HC

  · skip
    by_cases ht : t = t2
    case neg =>
      have ght : (t == t2) = false := by simp [ht]
      have HF := Lib.hid (show false = V by rw [← HVV.out, decide_eq_false (fun hh => ht (HEQ.out.1 hh).1)])
      clear HEQ ht
      generalize m.length = lm at *
      generalize m2.length = lm2 at *
      generalize c.length = lc at *
      generalize c2.length = lc2 at *
      go_enter Tryz.func14, Tryz.ntmps14
      go_wp2_with fail
      go_ret
      exact ⟨congrArg (fun x : Bool => Ending.returned (.bool x)) HF.out, HB2.out⟩
    have ght : (t == t2) = true := by simp [ht]
    replace ht := Lib.hid ht
    by_cases he : er = er2
    case neg =>
      have ghe : (er == er2) = false := by simp [he]
      have HF := Lib.hid (show false = V by rw [← HVV.out, decide_eq_false (fun hh => he (HEQ.out.1 hh).2.1)])
      clear HEQ he
      generalize m.length = lm at *
      generalize m2.length = lm2 at *
      generalize c.length = lc at *
      generalize c2.length = lc2 at *
      go_enter Tryz.func14, Tryz.ntmps14
      go_wp2_with fail
      go_ret
      exact ⟨congrArg (fun x : Bool => Ending.returned (.bool x)) HF.out, HB2.out⟩
    have ghe : (er == er2) = true := by simp [he]
    replace he := Lib.hid he
    by_cases ha : ap = ap2
    case neg =>
      have gha : (ap == ap2) = false := by simp [ha]
      have HF := Lib.hid (show false = V by rw [← HVV.out, decide_eq_false (fun hh => ha (HEQ.out.1 hh).2.2.1)])
      clear HEQ ha
      generalize m.length = lm at *
      generalize m2.length = lm2 at *
      generalize c.length = lc at *
      generalize c2.length = lc2 at *
      go_enter Tryz.func14, Tryz.ntmps14
      go_wp2_with fail
      go_ret
      exact ⟨congrArg (fun x : Bool => Ending.returned (.bool x)) HF.out, HB2.out⟩
    have gha : (ap == ap2) = true := by simp [ha]
    replace ha := Lib.hid ha
    have HF := Lib.hid (show true = V by rw [← HVV.out, decide_eq_true (HEQ.out.2 ⟨ht.out, he.out, ha.out, hmm, hcc⟩)])
    clear HEQ ht he ha hmm hcc
    generalize m.length = lm at *
    generalize m2.length = lm2 at *
    generalize c.length = lc at *
    generalize c2.length = lc2 at *
    go_enter Tryz.func14, Tryz.ntmps14
    go_wp2_with (first
      | (
        have hhb := HB3
        clear hhb
        go_at_call 29
        refine (HC.out _ HB3.out).mono ?_
        rintro e w4 ⟨rfl, n4, rfl⟩
        have HB4 := Lib.hid (below_drewN HB2.out (n + n4)))
      | (
        go_at_call 29
        refine (HM.out _ HB2.out).mono ?_
        rintro e w3 ⟨rfl, n, rfl⟩
        have a0 := (HBX.out n).1 0 _ rfl
        have a1 := (HBX.out n).1 1 _ rfl
        have a2 := (HBX.out n).1 2 _ rfl
        have a3 := (HBX.out n).1 3 _ rfl
        have a4 := (HBX.out n).1 4 _ rfl
        have b0 := (HBX.out n).2 0 _ rfl
        have b1 := (HBX.out n).2 1 _ rfl
        have b2 := (HBX.out n).2 2 _ rfl
        have b3 := (HBX.out n).2 3 _ rfl
        have b4 := (HBX.out n).2 4 _ rfl
        have HB3 := Lib.hid (below_drewN HB2.out n)))
    go_ret
    exact ⟨congrArg (fun x : Bool => Ending.returned (.bool x)) HF.out, HB4.out⟩
  · skip
    by_cases ht : t = t2
    case neg =>
      have ght : (t == t2) = false := by simp [ht]
      have HF := Lib.hid (show false = V by rw [← HVV.out, decide_eq_false (fun hh => ht (HEQ.out.1 hh).1)])
      clear HEQ ht
      generalize m.length = lm at *
      generalize m2.length = lm2 at *
      generalize c.length = lc at *
      generalize c2.length = lc2 at *
      go_enter Tryz.func14, Tryz.ntmps14
      go_wp2_with fail
      go_ret
      exact ⟨congrArg (fun x : Bool => Ending.returned (.bool x)) HF.out, HB2.out⟩
    have ght : (t == t2) = true := by simp [ht]
    replace ht := Lib.hid ht
    by_cases he : er = er2
    case neg =>
      have ghe : (er == er2) = false := by simp [he]
      have HF := Lib.hid (show false = V by rw [← HVV.out, decide_eq_false (fun hh => he (HEQ.out.1 hh).2.1)])
      clear HEQ he
      generalize m.length = lm at *
      generalize m2.length = lm2 at *
      generalize c.length = lc at *
      generalize c2.length = lc2 at *
      go_enter Tryz.func14, Tryz.ntmps14
      go_wp2_with fail
      go_ret
      exact ⟨congrArg (fun x : Bool => Ending.returned (.bool x)) HF.out, HB2.out⟩
    have ghe : (er == er2) = true := by simp [he]
    replace he := Lib.hid he
    by_cases ha : ap = ap2
    case neg =>
      have gha : (ap == ap2) = false := by simp [ha]
      have HF := Lib.hid (show false = V by rw [← HVV.out, decide_eq_false (fun hh => ha (HEQ.out.1 hh).2.2.1)])
      clear HEQ ha
      generalize m.length = lm at *
      generalize m2.length = lm2 at *
      generalize c.length = lc at *
      generalize c2.length = lc2 at *
      go_enter Tryz.func14, Tryz.ntmps14
      go_wp2_with fail
      go_ret
      exact ⟨congrArg (fun x : Bool => Ending.returned (.bool x)) HF.out, HB2.out⟩
    have gha : (ap == ap2) = true := by simp [ha]
    replace ha := Lib.hid ha
    have HF := Lib.hid (show false = V by rw [← HVV.out, decide_eq_false (fun hh => hcc (HEQ.out.1 hh).2.2.2.2)])
    clear HEQ ht he ha hmm hcc
    generalize m.length = lm at *
    generalize m2.length = lm2 at *
    generalize c.length = lc at *
    generalize c2.length = lc2 at *
    go_enter Tryz.func14, Tryz.ntmps14
    go_wp2_with (first
      | (
        have hhb := HB3
        clear hhb
        go_at_call 29
        refine (HC.out _ HB3.out).mono ?_
        rintro e w4 ⟨rfl, n4, rfl⟩
        have HB4 := Lib.hid (below_drewN HB2.out (n + n4)))
      | (
        go_at_call 29
        refine (HM.out _ HB2.out).mono ?_
        rintro e w3 ⟨rfl, n, rfl⟩
        have a0 := (HBX.out n).1 0 _ rfl
        have a1 := (HBX.out n).1 1 _ rfl
        have a2 := (HBX.out n).1 2 _ rfl
        have a3 := (HBX.out n).1 3 _ rfl
        have a4 := (HBX.out n).1 4 _ rfl
        have b0 := (HBX.out n).2 0 _ rfl
        have b1 := (HBX.out n).2 1 _ rfl
        have b2 := (HBX.out n).2 2 _ rfl
        have b3 := (HBX.out n).2 3 _ rfl
        have b4 := (HBX.out n).2 4 _ rfl
        have HB3 := Lib.hid (below_drewN HB2.out n)))
    go_ret
    exact ⟨congrArg (fun x : Bool => Ending.returned (.bool x)) HF.out, HB4.out⟩
  · skip
    by_cases ht : t = t2
    case neg =>
      have ght : (t == t2) = false := by simp [ht]
      have HF := Lib.hid (show false = V by rw [← HVV.out, decide_eq_false (fun hh => ht (HEQ.out.1 hh).1)])
      clear HEQ ht
      generalize m.length = lm at *
      generalize m2.length = lm2 at *
      generalize c.length = lc at *
      generalize c2.length = lc2 at *
      go_enter Tryz.func14, Tryz.ntmps14
      go_wp2_with fail
      go_ret
      exact ⟨congrArg (fun x : Bool => Ending.returned (.bool x)) HF.out, HB2.out⟩
    have ght : (t == t2) = true := by simp [ht]
    replace ht := Lib.hid ht
    by_cases he : er = er2
    case neg =>
      have ghe : (er == er2) = false := by simp [he]
      have HF := Lib.hid (show false = V by rw [← HVV.out, decide_eq_false (fun hh => he (HEQ.out.1 hh).2.1)])
      clear HEQ he
      generalize m.length = lm at *
      generalize m2.length = lm2 at *
      generalize c.length = lc at *
      generalize c2.length = lc2 at *
      go_enter Tryz.func14, Tryz.ntmps14
      go_wp2_with fail
      go_ret
      exact ⟨congrArg (fun x : Bool => Ending.returned (.bool x)) HF.out, HB2.out⟩
    have ghe : (er == er2) = true := by simp [he]
    replace he := Lib.hid he
    by_cases ha : ap = ap2
    case neg =>
      have gha : (ap == ap2) = false := by simp [ha]
      have HF := Lib.hid (show false = V by rw [← HVV.out, decide_eq_false (fun hh => ha (HEQ.out.1 hh).2.2.1)])
      clear HEQ ha
      generalize m.length = lm at *
      generalize m2.length = lm2 at *
      generalize c.length = lc at *
      generalize c2.length = lc2 at *
      go_enter Tryz.func14, Tryz.ntmps14
      go_wp2_with fail
      go_ret
      exact ⟨congrArg (fun x : Bool => Ending.returned (.bool x)) HF.out, HB2.out⟩
    have gha : (ap == ap2) = true := by simp [ha]
    replace ha := Lib.hid ha
    have HF := Lib.hid (show false = V by rw [← HVV.out, decide_eq_false (fun hh => hmm (HEQ.out.1 hh).2.2.2.1)])
    clear HEQ ht he ha hmm hcc
    generalize m.length = lm at *
    generalize m2.length = lm2 at *
    generalize c.length = lc at *
    generalize c2.length = lc2 at *
    go_enter Tryz.func14, Tryz.ntmps14
    go_wp2_with (
      go_at_call 29
      refine (HM.out _ HB2.out).mono ?_
      rintro e w3 ⟨rfl, n, rfl⟩
      have a0 := (HBX.out n).1 0 _ rfl
      have a1 := (HBX.out n).1 1 _ rfl
      have a2 := (HBX.out n).1 2 _ rfl
      have a3 := (HBX.out n).1 3 _ rfl
      have a4 := (HBX.out n).1 4 _ rfl
      have b0 := (HBX.out n).2 0 _ rfl
      have b1 := (HBX.out n).2 1 _ rfl
      have b2 := (HBX.out n).2 2 _ rfl
      have b3 := (HBX.out n).2 3 _ rfl
      have b4 := (HBX.out n).2 4 _ rfl
      have HB3 := Lib.hid (below_drewN HB2.out n))
    go_ret
    exact ⟨congrArg (fun x : Bool => Ending.returned (.bool x)) HF.out, HB3.out⟩
  · skip
    by_cases ht : t = t2
    case neg =>
      have ght : (t == t2) = false := by simp [ht]
      have HF := Lib.hid (show false = V by rw [← HVV.out, decide_eq_false (fun hh => ht (HEQ.out.1 hh).1)])
      clear HEQ ht
      generalize m.length = lm at *
      generalize m2.length = lm2 at *
      generalize c.length = lc at *
      generalize c2.length = lc2 at *
      go_enter Tryz.func14, Tryz.ntmps14
      go_wp2_with fail
      go_ret
      exact ⟨congrArg (fun x : Bool => Ending.returned (.bool x)) HF.out, HB2.out⟩
    have ght : (t == t2) = true := by simp [ht]
    replace ht := Lib.hid ht
    by_cases he : er = er2
    case neg =>
      have ghe : (er == er2) = false := by simp [he]
      have HF := Lib.hid (show false = V by rw [← HVV.out, decide_eq_false (fun hh => he (HEQ.out.1 hh).2.1)])
      clear HEQ he
      generalize m.length = lm at *
      generalize m2.length = lm2 at *
      generalize c.length = lc at *
      generalize c2.length = lc2 at *
      go_enter Tryz.func14, Tryz.ntmps14
      go_wp2_with fail
      go_ret
      exact ⟨congrArg (fun x : Bool => Ending.returned (.bool x)) HF.out, HB2.out⟩
    have ghe : (er == er2) = true := by simp [he]
    replace he := Lib.hid he
    by_cases ha : ap = ap2
    case neg =>
      have gha : (ap == ap2) = false := by simp [ha]
      have HF := Lib.hid (show false = V by rw [← HVV.out, decide_eq_false (fun hh => ha (HEQ.out.1 hh).2.2.1)])
      clear HEQ ha
      generalize m.length = lm at *
      generalize m2.length = lm2 at *
      generalize c.length = lc at *
      generalize c2.length = lc2 at *
      go_enter Tryz.func14, Tryz.ntmps14
      go_wp2_with fail
      go_ret
      exact ⟨congrArg (fun x : Bool => Ending.returned (.bool x)) HF.out, HB2.out⟩
    have gha : (ap == ap2) = true := by simp [ha]
    replace ha := Lib.hid ha
    have HF := Lib.hid (show false = V by rw [← HVV.out, decide_eq_false (fun hh => hmm (HEQ.out.1 hh).2.2.2.1)])
    clear HEQ ht he ha hmm hcc
    generalize m.length = lm at *
    generalize m2.length = lm2 at *
    generalize c.length = lc at *
    generalize c2.length = lc2 at *
    go_enter Tryz.func14, Tryz.ntmps14
    go_wp2_with (
      go_at_call 29
      refine (HM.out _ HB2.out).mono ?_
      rintro e w3 ⟨rfl, n, rfl⟩
      have a0 := (HBX.out n).1 0 _ rfl
      have a1 := (HBX.out n).1 1 _ rfl
      have a2 := (HBX.out n).1 2 _ rfl
      have a3 := (HBX.out n).1 3 _ rfl
      have a4 := (HBX.out n).1 4 _ rfl
      have b0 := (HBX.out n).2 0 _ rfl
      have b1 := (HBX.out n).2 1 _ rfl
      have b2 := (HBX.out n).2 2 _ rfl
      have b3 := (HBX.out n).2 3 _ rfl
      have b4 := (HBX.out n).2 4 _ rfl
      have HB3 := Lib.hid (below_drewN HB2.out n))
    go_ret
    exact ⟨congrArg (fun x : Bool => Ending.returned (.bool x)) HF.out, HB3.out⟩
end Go.Proofs.YteikakoheibnjaaGreatDoor
