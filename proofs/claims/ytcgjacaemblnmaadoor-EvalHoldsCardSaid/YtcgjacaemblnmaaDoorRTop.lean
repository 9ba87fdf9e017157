/- The walks over sibylref9.Is and sibylref12.Holds. -/
import Derived.Test.YtcgjacaemblnmaaDoorRHolds
import Derived.Test.YtcgjacaemblnmaaDoorRis
import Derived.Test.YtcgjacaemblnmaaDoorTop
namespace Go.Proofs.YtcgjacaemblnmaaDoor
open Go Go.RowKit

set_option maxHeartbeats 1000000 in
theorem rIsE_any (t : Core) (A : Option Addr) (cap : Nat) (n : Int) (w : World) (h : CoreAt w w.heap.size t A cap) :
    Calls Tryd.prog 18 #[coreW t.op t.va t.vb t.vc t.vn t.kids.length A cap, .int .i64 n] w fun e w' => e = .returned (.bool (isTop t n)) ∧ Below w.heap.size w w' := by
  have HC := Lib.hid (fun W (hW : Below w.heap.size w W) => h.later hW hW.size)
  have HSZ := Lib.hid (fun W hW => rSize_any t A cap W hW)
  have HRI := Lib.hid (fun (h0 : 0 ≤ n) (h6 : n ≤ 6) W hW => ris_any t A cap n W hW h0 h6)
  have HV := Lib.hid (show isTop t n = (decide (0 ≤ n) && decide (n ≤ 6) && decide (nodes t ≤ 2000) && isB t n) from rfl)
  clear h
  generalize isTop t n = R at *
  generalize nodes t = N at *
  generalize isB t n = I at *
  cases t with
  | node o a b c m ks =>
    simp only [coreW, Core.op, Core.va, Core.vb, Core.vc, Core.vn, Core.kids] at HSZ HRI HC ⊢
    have HX := Lib.hid (fun W (hW : Below (w.heap.size + 1) (w.alloc (.cells #[.string ⟨o.toArray⟩, .int .i64 a, .int .i64 b, .int .i64 c, .int .i64 m, .slice A ks.length cap] 24)) W) => box6 hW)
    have HW := Lib.hid (fun W (hW : Below (w.heap.size + 1) (w.alloc (.cells #[.string ⟨o.toArray⟩, .int .i64 a, .int .i64 b, .int .i64 c, .int .i64 m, .slice A ks.length cap] 24)) W) => (((Below.refl w.heap.size w).alloc (Nat.le_refl _) _).trans (hW.mono (Nat.le_succ _)) : Below w.heap.size w W))
    have HG := Lib.hid (fun W W' (hW : Below (w.heap.size + 1) (w.alloc (.cells #[.string ⟨o.toArray⟩, .int .i64 a, .int .i64 b, .int .i64 c, .int .i64 m, .slice A ks.length cap] 24)) W) (hb : Below W.heap.size W W') => (hW.trans (hb.mono (Nat.le_trans (by simp) hW.size)) : Below (w.heap.size + 1) (w.alloc (.cells #[.string ⟨o.toArray⟩, .int .i64 a, .int .i64 b, .int .i64 c, .int .i64 m, .slice A ks.length cap] 24)) W'))
    have hB := Below.refl (w.heap.size + 1) (w.alloc (.cells #[.string ⟨o.toArray⟩, .int .i64 a, .int .i64 b, .int .i64 c, .int .i64 m, .slice A ks.length cap] 24))
    by_cases h0 : 0 ≤ n
    · have g0 : decide (0 ≤ n) = true := decide_eq_true h0
      by_cases h6 : n ≤ 6
      · have g6 : decide (n ≤ 6) = true := decide_eq_true h6
        have HRI2 := Lib.hid (HRI.out h0 h6)
        clear HRI
        by_cases hN : N ≤ 2000
        · have gN : decide (((min N 2001 : Nat) : Int) ≤ 2000) = true := decide_eq_true (by omega)
          rw [g0, g6, decide_eq_true hN] at HV
          clear hN
          generalize min N 2001 = M at *
          have HF := Lib.hid (show R = I by rw [HV.out]; simp)
          clear HV
          go_enter Tryd.func18, Tryd.ntmps18
          go_wp2_with (first
                | (
                   go_at_call 11
                   refine (HSZ.out _ (HC.out _ (HW.out _ hB))).mono ?_
                   rintro e w2 ⟨rfl, hb2⟩
                   have hB2 := HG.out _ _ hB hb2
                   obtain ⟨c0, c1, c2, c3, c4, c5⟩ := HX.out _ hB2
                   clear hb2)
                | (
                   go_at_call 33
                   refine (HRI2.out _ (HC.out _ (HW.out _ hB2))).mono ?_
                   rintro e w3 ⟨rfl, hb3⟩
                   have hB3 := HG.out _ _ hB2 hb3))
          go_ret
          exact ⟨congrArg (fun x : Bool => Ending.returned (.bool x)) HF.out.symm, HW.out _ hB3⟩
        · have gN : decide (((min N 2001 : Nat) : Int) ≤ 2000) = false := decide_eq_false (by omega)
          rw [g0, g6, decide_eq_false hN] at HV
          clear hN
          generalize min N 2001 = M at *
          have HF := Lib.hid (show R = false by rw [HV.out]; simp)
          clear HV
          go_enter Tryd.func18, Tryd.ntmps18
          go_wp2_with (first
                | (
                   go_at_call 11
                   refine (HSZ.out _ (HC.out _ (HW.out _ hB))).mono ?_
                   rintro e w2 ⟨rfl, hb2⟩
                   have hB2 := HG.out _ _ hB hb2
                   obtain ⟨c0, c1, c2, c3, c4, c5⟩ := HX.out _ hB2
                   clear hb2)
                | (
                   go_at_call 33
                   refine (HRI2.out _ (HC.out _ (HW.out _ hB2))).mono ?_
                   rintro e w3 ⟨rfl, hb3⟩
                   have hB3 := HG.out _ _ hB2 hb3))
          go_ret
          exact ⟨congrArg (fun x : Bool => Ending.returned (.bool x)) HF.out.symm, HW.out _ hB2⟩
      · have g6 : decide (n ≤ 6) = false := decide_eq_false h6
        have HRI2 := HRI
        rw [g0, g6] at HV
        clear h6 HRI2
        have HF := Lib.hid (show R = false by rw [HV.out]; simp)
        clear HV
        go_enter Tryd.func18, Tryd.ntmps18
        go_wp2_with (first
              | (
                 go_at_call 11
                 refine (HSZ.out _ (HC.out _ (HW.out _ hB))).mono ?_
                 rintro e w2 ⟨rfl, hb2⟩
                 have hB2 := HG.out _ _ hB hb2
                 obtain ⟨c0, c1, c2, c3, c4, c5⟩ := HX.out _ hB2
                 clear hb2)
              | (
                 go_at_call 33
                 refine (HRI2.out _ (HC.out _ (HW.out _ hB2))).mono ?_
                 rintro e w3 ⟨rfl, hb3⟩
                 have hB3 := HG.out _ _ hB2 hb3))
        go_ret
        exact ⟨congrArg (fun x : Bool => Ending.returned (.bool x)) HF.out.symm, HW.out _ hB⟩
    · have g0 : decide (0 ≤ n) = false := decide_eq_false h0
      rw [g0] at HV
      clear h0
      have HF := Lib.hid (show R = false by rw [HV.out]; simp)
      clear HV
      go_enter Tryd.func18, Tryd.ntmps18
      go_wp2_with (first
            | (
               go_at_call 11
               refine (HSZ.out _ (HC.out _ (HW.out _ hB))).mono ?_
               rintro e w2 ⟨rfl, hb2⟩
               have hB2 := HG.out _ _ hB hb2
               obtain ⟨c0, c1, c2, c3, c4, c5⟩ := HX.out _ hB2
               clear hb2)
            | (
               go_at_call 33
               refine (HRI2.out _ (HC.out _ (HW.out _ hB2))).mono ?_
               rintro e w3 ⟨rfl, hb3⟩
               have hB3 := HG.out _ _ hB2 hb3))
      go_ret
      exact ⟨congrArg (fun x : Bool => Ending.returned (.bool x)) HF.out.symm, HW.out _ hB⟩

/-- What sibylref12.Holds says. -/
def rholdsB (t : Core) (xs : List Int) (bound : Int) : Bool :=
  if bound < 0 ∨ 8 < bound ∨ xs.any oddB = true ∨ isTop t xs.length = false then false else evalG atomR bound.toNat t (xs.map Int.toNat)
theorem holds_same (t : Core) (xs : List Int) (bound : Int) : holdsB t xs bound = rholdsB t xs bound := by
  unfold holdsB rholdsB
  by_cases h : bound < 0 ∨ 8 < bound ∨ xs.any oddB = true ∨ isTop t xs.length = false
  · rw [if_pos h, if_pos h]
  · rw [if_neg h, if_neg h]
    have hodd : xs.any oddB = false := by
      cases e : xs.any oddB with
      | false => rfl
      | true => exact absurd (Or.inr (Or.inr (Or.inl e))) h
    have htop : isTop t xs.length = true := by
      cases e : isTop t xs.length with
      | true => rfl
      | false => exact absurd (Or.inr (Or.inr (Or.inr e))) h
    have h8 : bound ≤ 8 := by
      rcases Int.lt_or_le 8 bound with e | e
      · exact absurd (Or.inr (Or.inl e)) h
      · exact e
    refine evals_eq t (xs.map Int.toNat) bound.toNat xs.length (natL_toNat hodd).2 (by omega) ?_
    unfold isTop at htop
    simp only [Bool.and_eq_true] at htop
    exact htop.2

set_option maxHeartbeats 2000000 in
theorem rHolds_any (t : Core) (A : Option Addr) (cap : Nat) (xs : List Int) (S : Option Addr) (scap : Nat) (bound : Int) (w : World) (h : CoreAt w w.heap.size t A cap) (hS : IntsAt w w.heap.size S xs) (hl : xs.length ≤ 140737488355328) :
    Calls Tryd.prog 16 #[coreW t.op t.va t.vb t.vc t.vn t.kids.length A cap, .slice S xs.length scap, .int .i64 bound] w fun e w' => e = .returned (.bool (rholdsB t xs bound)) ∧ Below w.heap.size w w' := by
  have HC := Lib.hid (fun W (hW : Below w.heap.size w W) => h.later hW hW.size)
  have HS := Lib.hid (fun W (hW : Below w.heap.size w W) => hS.later hW hW.size)
  have HI := Lib.hid (fun W hW => rIsE_any t A cap xs.length W hW)
  have HH := Lib.hid (fun (hb : bound.toNat ≤ 8) (hodd : xs.any oddB = false) (his : isB t xs.length = true) (h6 : xs.length ≤ 6) (W : World) (hC : CoreAt W W.heap.size t A cap) (hS : IntsAt W W.heap.size S xs) => by
    have e := natL_toNat hodd
    have := rholds_any bound.toNat hb t A cap (xs.map Int.toNat) S scap W hC (by rw [List.length_map]; exact his) (by rw [List.length_map]; exact h6) e.2 (by rw [e.1]; exact hS)
    rw [List.length_map] at this
    exact this)
  have HV := Lib.hid (show rholdsB t xs bound = (if bound < 0 ∨ 8 < bound ∨ xs.any oddB = true ∨ isTop t xs.length = false then false else evalG atomR bound.toNat t (xs.map Int.toNat)) from rfl)
  have hti : isTop t xs.length = true → isB t xs.length = true ∧ xs.length ≤ 6 := by
    intro h
    unfold isTop at h
    simp at h
    exact ⟨h.2, by omega⟩
  have HTI := Lib.hid hti
  clear h hS hti
  generalize hRR : rholdsB t xs bound = R at *
  clear hRR
  generalize evalG atomR bound.toNat t (xs.map Int.toNat) = E at *
  generalize isTop t xs.length = IT at *
  cases t with
  | node o a b c m ks =>
    simp only [coreW, Core.op, Core.va, Core.vb, Core.vc, Core.vn, Core.kids] at HI HH HC ⊢
    have HX := Lib.hid (fun W (hW : Below (w.heap.size + 1) (w.alloc (.cells #[.string ⟨o.toArray⟩, .int .i64 a, .int .i64 b, .int .i64 c, .int .i64 m, .slice A ks.length cap] 24)) W) => box6 hW)
    have HW := Lib.hid (fun W (hW : Below (w.heap.size + 1) (w.alloc (.cells #[.string ⟨o.toArray⟩, .int .i64 a, .int .i64 b, .int .i64 c, .int .i64 m, .slice A ks.length cap] 24)) W) => (((Below.refl w.heap.size w).alloc (Nat.le_refl _) _).trans (hW.mono (Nat.le_succ _)) : Below w.heap.size w W))
    have HG := Lib.hid (fun W W' (hW : Below (w.heap.size + 1) (w.alloc (.cells #[.string ⟨o.toArray⟩, .int .i64 a, .int .i64 b, .int .i64 c, .int .i64 m, .slice A ks.length cap] 24)) W) (hb : Below W.heap.size W W') => (hW.trans (hb.mono (Nat.le_trans (by simp) hW.size)) : Below (w.heap.size + 1) (w.alloc (.cells #[.string ⟨o.toArray⟩, .int .i64 a, .int .i64 b, .int .i64 c, .int .i64 m, .slice A ks.length cap] 24)) W'))
    have hB := Below.refl (w.heap.size + 1) (w.alloc (.cells #[.string ⟨o.toArray⟩, .int .i64 a, .int .i64 b, .int .i64 c, .int .i64 m, .slice A ks.length cap] 24))
    by_cases h0 : bound < 0
    · have g0 : decide (bound < 0) = true := decide_eq_true h0
      have HR := Lib.hid (show false = R by rw [HV.out, if_pos (Or.inl h0)])
      go_enter Tryd.func16, Tryd.ntmps16
      go_wp2_with fail
      go_ret
      exact ⟨congrArg (fun x : Bool => Ending.returned (.bool x)) HR.out, HW.out _ hB⟩
    have g0 : decide (bound < 0) = false := decide_eq_false h0
    by_cases h8 : 8 < bound
    · have g8 : decide (8 < bound) = true := decide_eq_true h8
      have HR := Lib.hid (show false = R by rw [HV.out, if_pos (Or.inr (Or.inl h8))])
      go_enter Tryd.func16, Tryd.ntmps16
      go_wp2_with fail
      go_ret
      exact ⟨congrArg (fun x : Bool => Ending.returned (.bool x)) HR.out, HW.out _ hB⟩
    have g8 : decide (8 < bound) = false := decide_eq_false h8
    cases IT with
    | false =>
      have HR := Lib.hid (show false = R by rw [HV.out, if_pos (Or.inr (Or.inr (Or.inr rfl)))])
      clear HV HTI HH
      go_enter Tryd.func16, Tryd.ntmps16
      go_wp2_with (
        go_at_call 18
        refine (HI.out _ (HC.out _ (HW.out _ hB))).mono ?_
        rintro e w2 ⟨rfl, hb2⟩
        have hB2 := HG.out _ _ hB hb2)
      go_ret
      exact ⟨congrArg (fun x : Bool => Ending.returned (.bool x)) HR.out, HW.out _ hB2⟩
    | true =>
      obtain ⟨his, h6⟩ := HTI.out rfl
      have HIS := Lib.hid his
      have HRO := Lib.hid (fun (e : xs.any oddB = true) => show false = R by rw [HV.out, if_pos (Or.inr (Or.inr (Or.inl e)))])
      have HRE := Lib.hid (fun (hodd : xs.any oddB = false) => show E = R by
        rw [HV.out, if_neg]
        rintro (h | h | h | h)
        · exact h0 h
        · exact h8 h
        · rw [hodd] at h; cases h
        · cases h)
      have H0 := Lib.hid (show ((bound.toNat : Nat) : Int) = bound from Int.toNat_of_nonneg (by omega))
      have HN8 := Lib.hid (show bound.toNat ≤ 8 by omega)
      clear HV HTI his
      go_enter Tryd.func16, Tryd.ntmps16
      go_wp2_with (
        go_at_call 18
        refine (HI.out _ (HC.out _ (HW.out _ hB))).mono ?_
        rintro e w2 ⟨rfl, hb2⟩
        have hB2 := HG.out _ _ hB hb2
        obtain ⟨c0, c1, c2, c3, c4, c5⟩ := HX.out _ hB2
        clear hb2)
      have HB2 := Lib.hid hB2
      clear hB2 hB
      go_loopg [7] xs.length (fun r i wr => ∃ k : Nat, k ≤ xs.length ∧ r = xs.length - k ∧ i = .int .i64 (k : Int) ∧ Hid ((xs.take k).any oddB = false) ∧ wr = w2)
      case atStart => exact ⟨0, Nat.zero_le _, rfl, rfl, Lib.hid (by simp), rfl⟩
      case round =>
        obtain ⟨k, hk, hr, rfl, HP, rfl⟩ := hrel
        have HRr := Lib.hid hr
        clear hr
        by_cases hlt : k < xs.length
        · obtain ⟨bb, off, rfl, hlo, hcell⟩ := (HS.out _ (HW.out _ HB2.out)) (by omega)
          have d0 := hcell k hlt
          have HSS := Lib.hid (anyI_take oddB xs k hlt)
          have HM := Lib.hid (fun hp => anyI_mem (P := oddB) hlt hp)
          generalize hx : xs[k] = x at *
          clear hx hcell
          have g1 : decide ((k : Int) < (xs.length : Int)) = true := decide_eq_true (by omega)
          by_cases hx0 : x < 0
          · have g2 : decide (x < 0) = true := decide_eq_true hx0
            have HF := Lib.hid (HRO.out (HM.out (by unfold oddB; rw [g2]; rfl)))
            go_wp2_with fail
            go_ret
            exact ⟨congrArg (fun x : Bool => Ending.returned (.bool x)) HF.out, HW.out _ HB2.out⟩
          have g2 : decide (x < 0) = false := decide_eq_false hx0
          by_cases hx6 : 65536 ≤ x
          · have g3 : decide (65536 ≤ x) = true := decide_eq_true hx6
            have HF := Lib.hid (HRO.out (HM.out (by unfold oddB; rw [g2, g3]; rfl)))
            go_wp2_with fail
            go_ret
            exact ⟨congrArg (fun x : Bool => Ending.returned (.bool x)) HF.out, HW.out _ HB2.out⟩
          have g3 : decide (65536 ≤ x) = false := decide_eq_false hx6
          have HF := Lib.hid (show oddB x = false by unfold oddB; rw [g2, g3]; rfl)
          go_wp2_with fail
          go_roundg (xs.length - (k + 1))
          case measure => have := HRr.out; omega
          case rel => exact ⟨k + 1, by omega, rfl, by go_num, Lib.hid (by rw [HSS.out, HP.out, HF.out]; rfl), rfl⟩
        · have g1 : decide ((k : Int) < (xs.length : Int)) = false := decide_eq_false (by omega)
          have HOD := Lib.hid (show xs.any oddB = false by
            have := HP.out
            rw [List.take_of_length_le (by omega)] at this
            exact this)
          have hHH := HH.out HN8.out HOD.out HIS.out h6
          rw [H0.out] at hHH
          have HHH := Lib.hid hHH
          have HF := Lib.hid (HRE.out HOD.out)
          clear hHH HH
          go_wp2_with (
            go_at_call 30
            refine (HHH.out _ (HC.out _ (HW.out _ HB2.out)) (HS.out _ (HW.out _ HB2.out))).mono ?_
            rintro e w4 ⟨rfl, hb4⟩)
          go_ret
          exact ⟨congrArg (fun x : Bool => Ending.returned (.bool x)) HF.out, HW.out _ (HG.out _ _ HB2.out hb4)⟩
end Go.Proofs.YtcgjacaemblnmaaDoor
