/- The walks over sibylref12.sing and over the atoms of sibylref12.holds. -/
import Derived.Test.YtcgjacaemblnmaaDoorHolds
namespace Go.Proofs.YtcgjacaemblnmaaDoor
open Go Go.RowKit

set_option maxHeartbeats 1000000 in
theorem sing_any (x : Nat) (hx : x < 65536) (w : World) : Calls Tryd.prog 45 #[.int .i64 x] w fun e w' => e = .returned (.bool (singB x)) ∧ w = w' := by
  by_cases h0 : 0 < x
  · obtain ⟨k, rfl⟩ : ∃ k, x = k + 1 := ⟨x - 1, by omega⟩
    have HV := Lib.hid (show ((k + 1 &&& k : Nat) == 0) = singB (k + 1) by unfold singB; rw [decide_eq_true h0]; rfl)
    have q : bits .and .i64 ((k : Int) + 1) (k : Int) = ((k + 1 &&& k : Nat) : Int) := i64_and_nat (k + 1) k (by omega) (by omega)
    have g1 : decide ((0 : Int) < (k : Int) + 1) = true := decide_eq_true (by omega)
    have q2 : ((k : Int) + 1 - 1) = (k : Int) := by omega
    rw [show ((k + 1 : Nat) : Int) = (k : Int) + 1 from rfl]
    generalize k + 1 &&& k = p at *
    generalize singB (k + 1) = R at *
    go_enter Tryd.func45, Tryd.ntmps45
    go_wp2_with fail
    go_ret
    refine ⟨congrArg (fun x : Bool => Ending.returned (.bool x)) (?_ : _ = R), rfl⟩
    refine Eq.trans ?_ HV.out
    first | rfl | (rw [Bool.eq_iff_iff]; simp only [beq_iff_eq]; omega)
  · have e : x = 0 := by omega
    subst e
    go_enter Tryd.func45, Tryd.ntmps45
    go_wp2_with fail
    go_ret
    exact ⟨rfl, rfl⟩

theorem sub_small {x : Nat} (hx : x < 65536) (n : Nat) (hn : n ≤ 20) : x * 2 ^ n < 68719476737 ∧ 2 ^ n ≤ 1048576 := by
  have h1 : 2 ^ n ≤ 2 ^ 20 := Nat.pow_le_pow_right (by decide) hn
  have e : (2 : Nat) ^ 20 = 1048576 := by decide
  rw [e] at h1
  refine ⟨?_, h1⟩
  have := Nat.mul_le_mul (show x ≤ 65536 by omega) h1
  omega

theorem wrap_shl {x : Nat} (hx : x < 65536) (n : Nat) (hn : n ≤ 20) : wrap64 ((x : Int) * 2 ^ n) = ((x * 2 ^ n : Nat) : Int) ∧ wrap64 ((2 : Int) ^ n) = ((2 ^ n : Nat) : Int) := by
  obtain ⟨h1, h2⟩ := sub_small hx n hn
  have h0 : ((2 : Int) ^ n) = ((2 ^ n : Nat) : Int) := by simp
  rw [h0, ← Int.natCast_mul]
  generalize x * 2 ^ n = M at *
  generalize 2 ^ n = K at *
  exact ⟨IntWalk.wrap64_in _ ⟨by omega, by omega⟩, IntWalk.wrap64_in _ ⟨by omega, by omega⟩⟩

set_option maxHeartbeats 4000000 in
theorem ratom_any (o : List UInt8) (a b c n N : Nat) (l : Nat) (A : Option Addr) (cap : Nat) (x y z : Nat) (sb soff scap : Nat) (bound : Int) (w : World) (hn : 0 < n) (hn6 : n ≤ 6) (ha : a < n) (hb : b < n) (hc : c < n) (hN : N ≤ 20)
    (hlx : x < 65536) (hly : y < 65536) (_hlz : z < 65536) (hsb : sb < w.heap.size) (cx : w.cell? ⟨sb, soff + a, none⟩ = some (.int .i64 x)) (cy : w.cell? ⟨sb, soff + b, none⟩ = some (.int .i64 y)) (cz : w.cell? ⟨sb, soff + c, none⟩ = some (.int .i64 z))
    (hE : ¬ o = [101, 120]) (hM : ¬ o = [110, 111, 116]) (hA : ¬ o = [97, 110, 100]) (s : List Nat) (hx : getS s a = x) (hy : getS s b = y) (hz : getS s c = z) (hmem : o ∈ [oTrue, oSub, oSing, oFlag, oNone, oLess, oPlus, oNum, oUnion, oInter, oMinus]) :
    Calls Tryd.prog 30 #[coreW o a b c N l A cap, .slice (some ⟨sb, soff, none⟩) n scap, .int .i64 bound] w fun e w' => e = .returned (.bool (atomR o a b c N s)) ∧ Below w.heap.size w w' := by
  simp only [coreW]
  have HV := Lib.hid (show atomR o a b c N s = (
    if o = oTrue then true
    else if o = oSub then bnot x y == 0
    else if o = oSing then singB x
    else if o = oFlag then x % 2 == 1
    else if o = oNone then x == 0
    else if o = oLess then singB x && singB y && decide (x < y)
    else if o = oPlus then singB x && decide (x * 2 ^ N = y)
    else if o = oNum then decide (x = 2 ^ N)
    else if o = oUnion then decide (z = x ||| y)
    else if o = oInter then decide (z = x &&& y)
    else decide (z = bnot x y)) by unfold atomR; rw [hx, hy, hz, Int.toNat_natCast])
  generalize atomR o a b c N s = R at *
  have HB0 := Lib.hid ((Below.refl w.heap.size w).alloc (Nat.le_refl _) (.cells #[.string ⟨o.toArray⟩, .int .i64 (a : Int), .int .i64 (b : Int), .int .i64 (c : Int), .int .i64 (N : Int), .slice A l cap] 24))
  have gE : (o == [101, 120]) = false := beq_false_of_ne hE
  have gE2 : (!o == [101, 120]) = true := by rw [gE]; rfl
  have gM : (o == [110, 111, 116]) = false := beq_false_of_ne hM
  have gA : (o == [97, 110, 100]) = false := beq_false_of_ne hA
  have gn : decide ((0 : Int) < (n : Int)) = true := decide_eq_true (by omega)
  have gn2 : decide (0 < n) = true := decide_eq_true (by omega)
  have HS1 := Lib.hid (fun W => sing_any x hlx W)
  have HS2 := Lib.hid (fun W => sing_any y hly W)
  have HME := Lib.hid hmem
  have HSM := Lib.hid (wrap_shl hlx N hN)
  clear hx hy hz hE hM hA hmem
  go_enter Tryd.func30, Tryd.ntmps30
  go_upto_region 3 with fail
  go_quiet (fail)
  have q1 : bits .andNot .i64 (x : Int) (y : Int) = ((bnot x y : Nat) : Int) := i64_andNot_nat x y (by omega) (by omega)
  have q2 : bits .and .i64 (x : Int) (y : Int) = ((x &&& y : Nat) : Int) := i64_and_nat x y (by omega) (by omega)
  have q3 : bits .or .i64 (x : Int) (y : Int) = ((x ||| y : Nat) : Int) := i64_or_nat x y (by omega) (by omega)
  have q4 : bits .and .i64 (x : Int) 1 = ((x &&& 1 : Nat) : Int) := i64_and_nat x 1 (by omega) (by omega)
  generalize bnot x y = p1 at *
  generalize x &&& y = p2 at *
  generalize x ||| y = p3 at *
  generalize singB x = ox at *
  generalize singB y = oy at *
  by_cases h0 : o = [116, 114, 117, 101]
  · subst h0
    have HF := Lib.hid (R_pos (HV.out) rfl)
    clear HV
    go_wp2_with fail
    go_ret
    refine ⟨congrArg (fun x : Bool => Ending.returned (.bool x)) (?_ : _ = R), Below.drewN_ HB0.out _⟩
    refine Eq.trans ?_ HF.out.symm
    first | rfl | (rw [Bool.eq_iff_iff]; simp only [beq_iff_eq, decide_eq_true_eq, Bool.and_eq_true, Bool.true_and]; omega)
  have g0 : (o == [116, 114, 117, 101]) = false := beq_false_of_ne h0
  by_cases h1 : o = [115, 117, 98]
  · subst h1
    have HF := Lib.hid (R_pos (R_neg (HV.out) (by first | exact h0 | decide)) rfl)
    clear HV
    go_wp2_with fail
    go_ret
    refine ⟨congrArg (fun x : Bool => Ending.returned (.bool x)) (?_ : _ = R), Below.drewN_ HB0.out _⟩
    refine Eq.trans ?_ HF.out.symm
    first | rfl | (rw [Bool.eq_iff_iff]; simp only [beq_iff_eq]; omega)
  have g1 : (o == [115, 117, 98]) = false := beq_false_of_ne h1
  by_cases h2 : o = [115, 105, 110, 103]
  · subst h2
    have HF := Lib.hid (R_pos (R_neg (R_neg (HV.out) (by first | exact h0 | decide)) (by first | exact h1 | decide)) rfl)
    clear HV
    go_wp2_with (go_at_call 45; refine (HS1.out _).mono ?_; rintro e w' ⟨rfl, rfl⟩)
    go_ret
    refine ⟨congrArg (fun x : Bool => Ending.returned (.bool x)) (?_ : _ = R), Below.drewN_ HB0.out _⟩
    refine Eq.trans ?_ HF.out.symm
    first | rfl | (rw [Bool.eq_iff_iff]; simp only [beq_iff_eq, decide_eq_true_eq, Bool.and_eq_true, Bool.true_and]; omega)
  have g2 : (o == [115, 105, 110, 103]) = false := beq_false_of_ne h2
  by_cases h3 : o = [102, 108, 97, 103]
  · subst h3
    have HF := Lib.hid (R_pos (R_neg (R_neg (R_neg (HV.out) (by first | exact h0 | decide)) (by first | exact h1 | decide)) (by first | exact h2 | decide)) rfl)
    clear HV
    go_wp2_with fail
    go_ret
    refine ⟨congrArg (fun x : Bool => Ending.returned (.bool x)) (?_ : _ = R), Below.drewN_ HB0.out _⟩
    refine Eq.trans ?_ HF.out.symm
    first | rfl | (rw [Bool.eq_iff_iff]; simp only [beq_iff_eq]; have := Nat.and_one_is_mod x; omega)
  have g3 : (o == [102, 108, 97, 103]) = false := beq_false_of_ne h3
  by_cases h4 : o = [110, 111, 110, 101]
  · subst h4
    have HF := Lib.hid (R_pos (R_neg (R_neg (R_neg (R_neg (HV.out) (by first | exact h0 | decide)) (by first | exact h1 | decide)) (by first | exact h2 | decide)) (by first | exact h3 | decide)) rfl)
    clear HV
    go_wp2_with fail
    go_ret
    refine ⟨congrArg (fun x : Bool => Ending.returned (.bool x)) (?_ : _ = R), Below.drewN_ HB0.out _⟩
    refine Eq.trans ?_ HF.out.symm
    first | rfl | (rw [Bool.eq_iff_iff]; simp only [beq_iff_eq]; omega)
  have g4 : (o == [110, 111, 110, 101]) = false := beq_false_of_ne h4
  by_cases h5 : o = [108, 101, 115, 115]
  · subst h5
    have HF := Lib.hid (R_pos (R_neg (R_neg (R_neg (R_neg (R_neg (HV.out) (by first | exact h0 | decide)) (by first | exact h1 | decide)) (by first | exact h2 | decide)) (by first | exact h3 | decide)) (by first | exact h4 | decide)) rfl)
    clear HV
    cases ox
    all_goals cases oy
    all_goals
      go_wp2_with (first | (go_at_call_of 45 (Value.int IntKind.i64 x); refine (HS1.out _).mono ?_; rintro e w' ⟨rfl, rfl⟩) | (go_at_call_of 45 (Value.int IntKind.i64 y); refine (HS2.out _).mono ?_; rintro e w' ⟨rfl, rfl⟩))
      go_ret
      refine ⟨congrArg (fun x : Bool => Ending.returned (.bool x)) (?_ : _ = R), Below.drewN_ HB0.out _⟩
      refine Eq.trans ?_ HF.out.symm
      first | rfl | (rw [Bool.eq_iff_iff]; simp only [beq_iff_eq, decide_eq_true_eq, Bool.and_eq_true, Bool.true_and]; omega)
  have g5 : (o == [108, 101, 115, 115]) = false := beq_false_of_ne h5
  by_cases h6 : o = [112, 108, 117, 115]
  · subst h6
    have HF := Lib.hid (R_pos (R_neg (R_neg (R_neg (R_neg (R_neg (R_neg (HV.out) (by first | exact h0 | decide)) (by first | exact h1 | decide)) (by first | exact h2 | decide)) (by first | exact h3 | decide)) (by first | exact h4 | decide)) (by first | exact h5 | decide)) rfl)
    clear HV
    cases ox
    all_goals
      go_wp2_with (go_at_call 45; refine (HS1.out _).mono ?_; rintro e w' ⟨rfl, rfl⟩)
      go_ret
      refine ⟨congrArg (fun x : Bool => Ending.returned (.bool x)) (?_ : _ = R), Below.drewN_ HB0.out _⟩
      refine Eq.trans ?_ HF.out.symm
      first | rfl | (rw [Bool.eq_iff_iff]; simp only [beq_iff_eq, decide_eq_true_eq, Bool.true_and]; (first | rw [HSM.out.1] | rw [HSM.out.2]); omega)
  have g6 : (o == [112, 108, 117, 115]) = false := beq_false_of_ne h6
  by_cases h7 : o = [110, 117, 109]
  · subst h7
    have HF := Lib.hid (R_pos (R_neg (R_neg (R_neg (R_neg (R_neg (R_neg (R_neg (HV.out) (by first | exact h0 | decide)) (by first | exact h1 | decide)) (by first | exact h2 | decide)) (by first | exact h3 | decide)) (by first | exact h4 | decide)) (by first | exact h5 | decide)) (by first | exact h6 | decide)) rfl)
    clear HV
    go_wp2_with fail
    go_ret
    refine ⟨congrArg (fun x : Bool => Ending.returned (.bool x)) (?_ : _ = R), Below.drewN_ HB0.out _⟩
    refine Eq.trans ?_ HF.out.symm
    first | rfl | (rw [Bool.eq_iff_iff]; simp only [beq_iff_eq, decide_eq_true_eq]; (first | rw [HSM.out.1] | rw [HSM.out.2]); omega)
  have g7 : (o == [110, 117, 109]) = false := beq_false_of_ne h7
  by_cases h8 : o = [117, 110, 105, 111, 110]
  · subst h8
    have HF := Lib.hid (R_pos (R_neg (R_neg (R_neg (R_neg (R_neg (R_neg (R_neg (R_neg (HV.out) (by first | exact h0 | decide)) (by first | exact h1 | decide)) (by first | exact h2 | decide)) (by first | exact h3 | decide)) (by first | exact h4 | decide)) (by first | exact h5 | decide)) (by first | exact h6 | decide)) (by first | exact h7 | decide)) rfl)
    clear HV
    go_wp2_with fail
    go_ret
    refine ⟨congrArg (fun x : Bool => Ending.returned (.bool x)) (?_ : _ = R), Below.drewN_ HB0.out _⟩
    refine Eq.trans ?_ HF.out.symm
    first | rfl | (rw [Bool.eq_iff_iff]; simp only [beq_iff_eq, decide_eq_true_eq]; omega)
  have g8 : (o == [117, 110, 105, 111, 110]) = false := beq_false_of_ne h8
  by_cases h9 : o = [105, 110, 116, 101, 114]
  · subst h9
    have HF := Lib.hid (R_pos (R_neg (R_neg (R_neg (R_neg (R_neg (R_neg (R_neg (R_neg (R_neg (HV.out) (by first | exact h0 | decide)) (by first | exact h1 | decide)) (by first | exact h2 | decide)) (by first | exact h3 | decide)) (by first | exact h4 | decide)) (by first | exact h5 | decide)) (by first | exact h6 | decide)) (by first | exact h7 | decide)) (by first | exact h8 | decide)) rfl)
    clear HV
    go_wp2_with fail
    go_ret
    refine ⟨congrArg (fun x : Bool => Ending.returned (.bool x)) (?_ : _ = R), Below.drewN_ HB0.out _⟩
    refine Eq.trans ?_ HF.out.symm
    first | rfl | (rw [Bool.eq_iff_iff]; simp only [beq_iff_eq, decide_eq_true_eq]; omega)
  have g9 : (o == [105, 110, 116, 101, 114]) = false := beq_false_of_ne h9
  have h10 : o = [109, 105, 110, 117, 115] := by
    have hm := HME.out
    simp only [List.mem_cons, List.not_mem_nil, or_false, oTrue, oSub, oSing, oFlag, oNone, oLess, oPlus, oNum, oUnion, oInter, oMinus] at hm
    rcases hm with h | h | h | h | h | h | h | h | h | h | h
    all_goals first | exact h | exact absurd h ‹_›
  subst h10
  have HF := Lib.hid (R_neg (R_neg (R_neg (R_neg (R_neg (R_neg (R_neg (R_neg (R_neg (R_neg (HV.out) (by first | exact h0 | decide)) (by first | exact h1 | decide)) (by first | exact h2 | decide)) (by first | exact h3 | decide)) (by first | exact h4 | decide)) (by first | exact h5 | decide)) (by first | exact h6 | decide)) (by first | exact h7 | decide)) (by first | exact h8 | decide)) (by first | exact h9 | decide))
  clear HV
  go_wp2_with fail
  go_ret
  refine ⟨congrArg (fun x : Bool => Ending.returned (.bool x)) (?_ : _ = R), Below.drewN_ HB0.out _⟩
  refine Eq.trans ?_ HF.out.symm
  first | rfl | (rw [Bool.eq_iff_iff]; simp only [beq_iff_eq, decide_eq_true_eq]; omega)
end Go.Proofs.YtcgjacaemblnmaaDoor
