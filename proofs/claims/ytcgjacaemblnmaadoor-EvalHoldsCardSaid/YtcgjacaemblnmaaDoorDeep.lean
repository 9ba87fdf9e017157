/- The walks over sibyllaw12.deep and small. -/
import Derived.Test.YtcgjacaemblnmaaDoorCount
namespace Go.Proofs.YtcgjacaemblnmaaDoor
open Go Go.RowKit

theorem deepL_take : ∀ (ks : List Core) (k : Nat) (hk : k < ks.length), deepL (ks.take (k + 1)) = max (deepL (ks.take k)) (deepN ks[k])
  | x :: r, 0, _ => by simp [deepL]
  | x :: r, k + 1, hk => by
    have h := deepL_take r k (by simpa using hk)
    simp only [List.take_succ_cons, deepL, List.getElem_cons_succ] at h ⊢
    rw [h, Nat.max_assoc]
theorem deepL_mem : ∀ (ks : List Core) (k : Nat) (hk : k < ks.length), deepN ks[k] ≤ deepL ks
  | x :: r, 0, _ => by simp only [deepL, List.getElem_cons_zero]; omega
  | x :: r, k + 1, hk => by
    have h := deepL_mem r k (by simpa using hk)
    simp only [deepL, List.getElem_cons_succ]
    omega
theorem deepL_take_le : ∀ (ks : List Core) (k : Nat), deepL (ks.take k) ≤ deepL ks
  | [], k => by simp
  | x :: r, 0 => by simp [deepL]
  | x :: r, k + 1 => by
    have h := deepL_take_le r k
    simp only [List.take_succ_cons, deepL]
    omega
theorem deepN_node (o : List UInt8) (a b c n : Int) (ks : List Core) : deepN (.node o a b c n ks) = deepL ks + if o = oEx then 1 else 0 := by rw [deepN]
theorem deep_nodes : ∀ t : Core, deepN t ≤ nodes t := by
  intro t
  induction t using Core.ind with
  | h o a b c n ks ih =>
    rw [deepN_node, nodes_node]
    have h : deepL ks ≤ nodesL ks := by
      clear o a b c n
      induction ks with
      | nil => simp [deepL]
      | cons x r ihr =>
        have h1 := ih x (by simp)
        have h2 := ihr (fun k hk => ih k (by simp [hk]))
        simp only [deepL, nodesL]
        omega
    split <;> omega
set_option maxHeartbeats 1000000 in
theorem deep_any : ∀ (t : Core) (A : Option Addr) (cap : Nat) (w : World), CoreAt w w.heap.size t A cap → nodes t ≤ 40 →
    Calls Tryd.prog 29 #[coreW t.op t.va t.vb t.vc t.vn t.kids.length A cap] w fun e w' => e = .returned (.int .i64 (deepN t : Nat)) ∧ Below w.heap.size w w' := by
  intro t
  induction t using Core.ind with
  | h o a b c n ks ih =>
    intro A cap w h hn
    have HC := Lib.hid h
    have IH := Lib.hid ih
    have hl := h.len
    simp only [Core.kids] at hl
    obtain ⟨hl1, hl2, _⟩ := hl
    clear h ih
    rw [nodes_node] at hn
    have HN := Lib.hid hn
    have hdl : deepL ks ≤ 40 := by
      have h := deep_nodes (.node [] 0 0 0 0 ks)
      rw [deepN_node, nodes_node] at h
      simp [oEx] at h
      omega
    have HK := Lib.hid (fun k (hk : k < ks.length) => (show nodes ks[k] ≤ 40 by
      have h1 := nodesL_take ks k hk
      have h2 := nodesL_take_le ks (k + 1)
      omega))
    clear hn
    have HV := Lib.hid (deepN_node o a b c n ks)
    generalize deepN (.node o a b c n ks) = R at *
    simp only [coreW, Core.op, Core.va, Core.vb, Core.vc, Core.vn, Core.kids]
    go_enter Tryd.func29, Tryd.ntmps29
    go_wp2_with fail
    go_loopg [3, 4] ks.length (fun r s i wr => ∃ k : Nat, k ≤ ks.length ∧ r = ks.length - k ∧ i = .int .i64 (k : Int) ∧ s = .int .i64 (deepL (ks.take k) : Nat) ∧ Below w.heap.size w wr ∧ wr.cell? ⟨w.heap.size, 5, none⟩ = some (.slice A ks.length cap) ∧ wr.cell? ⟨w.heap.size, 0, none⟩ = some (.string ⟨o.toArray⟩))
    case atStart => exact ⟨0, Nat.zero_le _, rfl, rfl, by simp [deepL], (Below.refl _ _).alloc (Nat.le_refl _) _, (by go_keep), (by go_keep)⟩
    case round =>
      obtain ⟨k, hk, hr, rfl, rfl, hb, hc5, hc0⟩ := hrel
      have HRr := Lib.hid hr
      have HB := Lib.hid hb
      have hs1 := hb.size
      have HT := Lib.hid (deepL_take_le ks k)
      clear hr hb
      generalize hz : deepL (ks.take k) = z at *
      have HZ := Lib.hid hz
      have hz2 : z ≤ 40 := by have := HT.out; omega
      clear hz
      by_cases hlt : k < ks.length
      · obtain ⟨bb, off, A', cap', rfl, hlo, hcells, hkid⟩ := HC.out.kid k hlt
        simp only [Core.kids] at hcells hkid
        have HS := Lib.hid (deepL_take ks k hlt)
        have HM := Lib.hid (deepL_mem ks k hlt)
        have HK40 := Lib.hid (HK.out k hlt)
        have HI := Lib.hid (IH.out ks[k] (List.getElem_mem hlt))
        generalize hx : ks[k] = x at *
        clear hx
        cases x with
        | node o' a' b' c' n' ks' =>
          obtain ⟨c0, c1, c2, c3, c4, c5⟩ := kid_cells hlo hcells HB.out
          have HKD := Lib.hid hkid
          clear hcells hkid IH
          have g1 : decide ((k : Int) < (ks.length : Int)) = true := decide_eq_true (by omega)
          have hy40 : deepN (.node o' a' b' c' n' ks') ≤ 40 := by have := HM.out; omega
          have HMX := Lib.hid (show max z (deepN (.node o' a' b' c' n' ks')) = deepL (ks.take (k + 1)) by rw [HS.out, HZ.out])
          generalize deepN (.node o' a' b' c' n' ks') = y at *
          go_wp2_with (
            go_at_call 29
            refine (HI.out A' cap' _ (HKD.out.later HB.out (by omega)) HK40.out).mono ?_
            rintro e w2 ⟨rfl, hb2⟩
            have HB2 := Lib.hid (HB.out.trans (hb2.mono hs1))
            have hc6 := (hb2.cell (p := ⟨w.heap.size, 5, none⟩) (World.block_lt_of_cell? _ _ hc5)).trans hc5
            have hc7 := (hb2.cell (p := ⟨w.heap.size, 0, none⟩) (World.block_lt_of_cell? _ _ hc0)).trans hc0
            clear hb2)
          all_goals
            go_roundg (ks.length - (k + 1))
            case measure => have := HRr.out; omega
            case rel => exact ⟨k + 1, by omega, rfl, by go_num, by rw [← HMX.out]; exact congrArg (Value.int .i64) (by omega), HB2.out, hc6, hc7⟩
      · have g1 : decide ((k : Int) < (ks.length : Int)) = false := decide_eq_false (by omega)
        have HG := Lib.hid (show z = deepL ks by
          have := HZ.out
          rw [List.take_of_length_le (by omega)] at this
          exact this.symm)
        clear HZ
        by_cases ho : o = [101, 120]
        · subst ho
          go_wp2_with fail
          go_ret
          exact ⟨congrArg (fun x : Int => Ending.returned (.int .i64 x)) (by rw [HV.out, if_pos (by rfl), HG.out]; simp), HB.out⟩
        · have g2 : (o == [101, 120]) = false := beq_false_of_ne ho
          have HO := Lib.hid ho
          clear ho
          go_wp2_with fail
          go_ret
          exact ⟨congrArg (fun x : Int => Ending.returned (.int .i64 x)) (by rw [HV.out, if_neg (show ¬ o = oEx from HO.out), HG.out]; simp), HB.out⟩

theorem box_kept9 {w w2 : World} {x0 x1 x2 x3 x4 x5 : Value} (hb : Below (w.alloc (.cells #[x0, x1, x2, x3, x4, x5] 24)).heap.size (w.alloc (.cells #[x0, x1, x2, x3, x4, x5] 24)) w2) :
    w2.cell? ⟨w.heap.size, 0, none⟩ = some x0 ∧ w2.cell? ⟨w.heap.size, 1, none⟩ = some x1 ∧ w2.cell? ⟨w.heap.size, 2, none⟩ = some x2 ∧ w2.cell? ⟨w.heap.size, 3, none⟩ = some x3 ∧ w2.cell? ⟨w.heap.size, 4, none⟩ = some x4 ∧ w2.cell? ⟨w.heap.size, 5, none⟩ = some x5 := by
  refine ⟨(hb.cell (by simp)).trans (by simp), (hb.cell (by simp)).trans (by simp), (hb.cell (by simp)).trans (by simp), (hb.cell (by simp)).trans (by simp), (hb.cell (by simp)).trans (by simp), (hb.cell (by simp)).trans (by simp)⟩
theorem wrap64_zero : wrap64 0 = 0 := IntWalk.wrap64_in _ ⟨by omega, by omega⟩
theorem zero_le12 (D b : Int) (h : b ≤ 0) (h0 : 0 ≤ b) : decide (wrap64 (D * b) ≤ 12) = true := by
  have e : b = 0 := by omega
  rw [e, Int.mul_zero, wrap64_zero]
  rfl
theorem zero_le12' : decide (wrap64 0 ≤ 12) = true := by
  rw [wrap64_zero]
  rfl
/-- What small says. -/
def smallB (t : Core) (bound : Int) : Bool := decide (nodes t ≤ 40) && decide ((deepN t : Int) * max bound 0 ≤ 12)
set_option maxHeartbeats 1000000 in
theorem small_any (t : Core) (A : Option Addr) (cap : Nat) (bound : Int) (hbd : bound ≤ 10) (w : World) (h : CoreAt w w.heap.size t A cap) :
    Calls Tryd.prog 15 #[coreW t.op t.va t.vb t.vc t.vn t.kids.length A cap, .int .i64 bound] w fun e w' => e = .returned (.bool (smallB t bound)) ∧ Below w.heap.size w w' := by
  have HC := Lib.hid h
  have HZ := Lib.hid (fun W hW => rSize_any t A cap W hW)
  have HI := Lib.hid (fun W hW hn => deep_any t A cap W hW hn)
  have HD := Lib.hid (deep_nodes t)
  have HV := Lib.hid (show smallB t bound = (decide (nodes t ≤ 40) && decide ((deepN t : Int) * max bound 0 ≤ 12)) from rfl)
  clear h
  cases t with
  | node o a b c m ks =>
    simp only [coreW, Core.op, Core.va, Core.vb, Core.vc, Core.vn, Core.kids] at HZ HI ⊢
    generalize smallB (.node o a b c m ks) bound = R at *
    generalize nodes (.node o a b c m ks) = N at *
    generalize deepN (.node o a b c m ks) = D at *
    have HB1 := Lib.hid ((Below.refl w.heap.size w).alloc (Nat.le_refl _) (.cells #[.string ⟨o.toArray⟩, .int .i64 a, .int .i64 b, .int .i64 c, .int .i64 m, .slice A ks.length cap] 24))
    by_cases hN : N ≤ 40
    · have hD : D ≤ 40 := by have := HD.out; omega
      rw [show min N 2001 = N by omega] at HZ
      have g1 : decide ((N : Int) ≤ 40) = true := decide_eq_true (by omega)
      have HR := Lib.hid (show R = decide ((D : Int) * max bound 0 ≤ 12) by rw [HV.out, decide_eq_true hN]; rfl)
      have hD0 : (0 : Int) ≤ (D : Int) := by omega
      have hD1 : (D : Int) ≤ 40 := by omega
      by_cases hb0 : 0 < bound
      · have hp1 : (D : Int) * bound ≤ 400 := by
          have := Int.mul_le_mul hD1 hbd (by omega) (by decide)
          omega
        have hp0 : 0 ≤ (D : Int) * bound := Int.mul_nonneg hD0 (by omega)
        have HR2 := Lib.hid (show decide ((D : Int) * bound ≤ 12) = R by rw [HR.out, show max bound 0 = bound by omega])
        clear HR
        go_enter Tryd.func15, Tryd.ntmps15
        go_wp2_with (first
          | (
            go_at_call 11
            refine (HZ.out _ (HC.out.later HB1.out (by simp))).mono ?_
            rintro e w2 ⟨rfl, hb2⟩
            obtain ⟨q0, q1, q2, q3, q4, q5⟩ := box_kept9 hb2
            have HB2 := Lib.hid (HB1.out.trans (hb2.mono (by simp)))
            clear hb2)
          | (
            go_at_call 29
            refine (HI.out _ (HC.out.later HB2.out HB2.out.size) hN).mono ?_
            rintro e w3 ⟨rfl, hb3⟩
            have HB3 := Lib.hid (HB2.out.trans (hb3.mono HB2.out.size))
            clear hb3))
        all_goals first
          | omega
          | (
            go_ret
            exact ⟨congrArg (fun x : Bool => Ending.returned (.bool x)) HR2.out, HB3.out⟩)
      · have HR2 := Lib.hid (show true = R by rw [HR.out, show max bound 0 = 0 by omega, Int.mul_zero]; rfl)
        clear HR
        go_enter Tryd.func15, Tryd.ntmps15
        go_wp2_with (first
          | (
            go_at_call 11
            refine (HZ.out _ (HC.out.later HB1.out (by simp))).mono ?_
            rintro e w2 ⟨rfl, hb2⟩
            obtain ⟨q0, q1, q2, q3, q4, q5⟩ := box_kept9 hb2
            have HB2 := Lib.hid (HB1.out.trans (hb2.mono (by simp)))
            clear hb2)
          | (
            go_at_call 29
            refine (HI.out _ (HC.out.later HB2.out HB2.out.size) hN).mono ?_
            rintro e w3 ⟨rfl, hb3⟩
            have HB3 := Lib.hid (HB2.out.trans (hb3.mono HB2.out.size))
            clear hb3))
        all_goals
          go_ret
          exact ⟨congrArg (fun x : Bool => Ending.returned (.bool x)) (by rw [← HR2.out]; first | exact zero_le12' | exact zero_le12 _ _ hb0 (by omega)), HB3.out⟩
    · have g1 : decide ((min N 2001 : Nat) ≤ (40 : Int)) = false := decide_eq_false (by omega)
      have HR := Lib.hid (show R = false by rw [HV.out, decide_eq_false hN]; rfl)
      generalize min N 2001 = M at *
      go_enter Tryd.func15, Tryd.ntmps15
      go_wp2_with (
        go_at_call 11
        refine (HZ.out _ (HC.out.later HB1.out (by simp))).mono ?_
        rintro e w2 ⟨rfl, hb2⟩
        have HB2 := Lib.hid (HB1.out.trans (hb2.mono (by simp)))
        clear hb2)
      go_ret
      exact ⟨congrArg (fun x : Bool => Ending.returned (.bool x)) HR.out.symm, HB2.out⟩
end Go.Proofs.YtcgjacaemblnmaaDoor
