/- The walks over eval.atom and its closure. -/
import Derived.Test.YtcgjacaemblnmaaDoorBits
import Derived.Test.YtcgjacaemblnmaaDoorSize
import Derived.Laws.BitsLemmas
import Derived.Deep.QuietTactic
import Derived.BigQuiet
import Derived.Deep.RegionHeld
import Derived.Deep.CutRange
namespace Go.Proofs.YtcgjacaemblnmaaDoor
open Go Go.RowKit

theorem ofInt_i64 (a : Nat) (ha : a < 9223372036854775808) : (BitVec.ofInt 64 (a : Int)).toNat = a := by
  rw [BitVec.ofInt_natCast, BitVec.toNat_ofNat]; exact Nat.mod_eq_of_lt (by omega)
theorem i64_and_nat (a b : Nat) (ha : a < 9223372036854775808) (hb : b < 9223372036854775808) : bits .and .i64 (a : Int) (b : Int) = ((a &&& b : Nat) : Int) := by
  have hx : a &&& b < 2 ^ 63 := Nat.and_lt_two_pow _ (by omega)
  show IntKind.i64.wrap ((BitVec.ofInt 64 (a : Int) &&& BitVec.ofInt 64 (b : Int)).toNat : Int) = _
  rw [BitVec.toNat_and, ofInt_i64 a ha, ofInt_i64 b hb, IntKind.wrap_i64]
  omega
theorem i64_or_nat (a b : Nat) (ha : a < 9223372036854775808) (hb : b < 9223372036854775808) : bits .or .i64 (a : Int) (b : Int) = ((a ||| b : Nat) : Int) := by
  have hx : a ||| b < 2 ^ 63 := Nat.or_lt_two_pow (by omega) (by omega)
  show IntKind.i64.wrap ((BitVec.ofInt 64 (a : Int) ||| BitVec.ofInt 64 (b : Int)).toNat : Int) = _
  rw [BitVec.toNat_or, ofInt_i64 a ha, ofInt_i64 b hb, IntKind.wrap_i64]
  omega
theorem bv_andNot (x y : BitVec 64) : x &&& ~~~y = x ^^^ (x &&& y) := by
  ext i hi
  simp
  cases x[i] <;> cases y[i] <;> rfl
theorem i64_andNot_nat (a b : Nat) (ha : a < 9223372036854775808) (hb : b < 9223372036854775808) : bits .andNot .i64 (a : Int) (b : Int) = ((bnot a b : Nat) : Int) := by
  have hx : a ^^^ (a &&& b) < 2 ^ 63 := Nat.xor_lt_two_pow (by omega) (Nat.and_lt_two_pow _ (by omega))
  show IntKind.i64.wrap ((BitVec.ofInt 64 (a : Int) &&& ~~~ BitVec.ofInt 64 (b : Int)).toNat : Int) = _
  rw [bv_andNot, BitVec.toNat_xor, BitVec.toNat_and, ofInt_i64 a ha, ofInt_i64 b hb, IntKind.wrap_i64]
  unfold bnot
  omega

/-- A slice of ints. -/
def IntsAt (w : World) (B : Nat) (A : Option Addr) (xs : List Int) : Prop := 0 < xs.length → ∃ b off, A = some ⟨b, off, none⟩ ∧ b < B ∧ ∀ j (h : j < xs.length), w.cell? ⟨b, off + j, none⟩ = some (.int .i64 xs[j])
theorem IntsAt.below {w w' : World} {B : Nat} {A : Option Addr} {xs : List Int} (h : IntsAt w B A xs) (hb : Below B w w') : IntsAt w' B A xs := fun h0 => by
  obtain ⟨b, off, e, hlt, hc⟩ := h h0
  exact ⟨b, off, e, hlt, fun j hj => (hb.cell (p := ⟨b, off + j, none⟩) hlt).trans (hc j hj)⟩
theorem IntsAt.more {w : World} {B B' : Nat} {A : Option Addr} {xs : List Int} (h : IntsAt w B A xs) (hB : B ≤ B') : IntsAt w B' A xs := fun h0 => by
  obtain ⟨b, off, e, hlt, hc⟩ := h h0
  exact ⟨b, off, e, by omega, hc⟩
theorem IntsAt.later {w w' : World} {B : Nat} {A : Option Addr} {xs : List Int} (h : IntsAt w B A xs) (hb : Below B w w') (hB : B ≤ w'.heap.size) : IntsAt w' w'.heap.size A xs := (h.below hb).more hB

theorem at_any (xs : List Int) (v : Int) (hv : 0 ≤ v) (A : Option Addr) (cap q B : Nat) (w : World) (h : IntsAt w B A xs) (hl : xs.length ≤ 140737488355328) (hq : w.cell? ⟨q, 0, none⟩ = some (.slice A xs.length cap)) :
    Calls Tryd.prog 52 #[.int .i64 v, .pointer (some ⟨q, 0, none⟩)] w fun e w' => e = .returned (.int .i64 (xs.getD v.toNat 0)) ∧ w = w' := by
  obtain ⟨k, rfl⟩ := Int.eq_ofNat_of_zero_le hv
  rw [Int.toNat_natCast]
  by_cases hk : k < xs.length
  · obtain ⟨b, off, rfl, _, hc⟩ := h (by omega)
    have c0 := hc k hk
    have e : xs.getD k 0 = xs[k] := by rw [List.getD_eq_getElem?_getD, List.getElem?_eq_getElem hk]; rfl
    rw [e]
    generalize xs[k] = x at *
    have g : decide ((xs.length : Int) ≤ (k : Int)) = false := decide_eq_false (by omega)
    have g2 : decide (xs.length ≤ k) = false := decide_eq_false (by omega)
    clear h hc e
    go_enter Tryd.func52, Tryd.ntmps52
    go_wp2_with fail
    go_ret
    exact ⟨rfl, rfl⟩
  · have e : xs.getD k 0 = 0 := by rw [List.getD_eq_getElem?_getD, List.getElem?_eq_none (by omega)]; rfl
    rw [e]
    have g : decide ((xs.length : Int) ≤ (k : Int)) = true := decide_eq_true (by omega)
    have g2 : decide (xs.length ≤ k) = true := decide_eq_true (by omega)
    clear h e
    go_enter Tryd.func52, Tryd.ntmps52
    go_wp2_with fail
    go_ret
    exact ⟨rfl, rfl⟩

/-- Sets, as ints. -/
def natL (s : List Nat) : List Int := s.map fun x : Nat => (x : Int)
theorem natL_length (s : List Nat) : (natL s).length = s.length := by simp [natL]
theorem natL_getD (s : List Nat) (k : Nat) : (natL s).getD k 0 = ((s.getD k 0 : Nat) : Int) := by
  unfold natL
  rw [List.getD_eq_getElem?_getD, List.getD_eq_getElem?_getD, List.getElem?_map]
  cases s[k]? <;> rfl
theorem setS_lt {s : List Nat} (hs : ∀ x ∈ s, x < 65536) (v : Int) : getS s v < 65536 := by
  unfold getS
  rw [List.getD_eq_getElem?_getD]
  cases h : s[v.toNat]? with
  | none => decide
  | some x => exact hs x (List.mem_of_getElem? h)

theorem Below.drewN_ {B : Nat} {a w : World} (h : Below B a w) : ∀ k, Below B a (w.drewN k)
  | 0 => h
  | k + 1 => (Below.drewN_ h k).drew
theorem R_pos {c : Prop} [Decidable c] {R a b : Bool} (h : R = if c then a else b) (hc : c) : R = a := by rw [h, if_pos hc]
theorem R_neg {c : Prop} [Decidable c] {R a b : Bool} (h : R = if c then a else b) (hc : ¬ c) : R = b := by rw [h, if_neg hc]

set_option maxHeartbeats 4000000 in
theorem atom_any (o : List UInt8) (a b c m : Int) (l : Nat) (A : Option Addr) (cap : Nat) (s : List Nat) (S : Option Addr) (scap : Nat) (w : World) (ha : 0 ≤ a) (hb : 0 ≤ b) (hc : 0 ≤ c)
    (hs : ∀ x ∈ s, x < 65536) (hsl : s.length ≤ 140737488355328) (hS : IntsAt w w.heap.size S (natL s)) (hT : Tab w) :
    Calls Tryd.prog 44 #[coreW o a b c m l A cap, .slice S s.length scap] w fun e w' => e = .returned (.bool (atomE o a b c m s)) ∧ Below w.heap.size w w' := by
  simp only [coreW]
  generalize hW0 : (w.alloc (.cells #[.string ⟨o.toArray⟩, .int .i64 a, .int .i64 b, .int .i64 c, .int .i64 m, .slice A l cap] 24)).alloc (.cells #[.slice S s.length scap] 25) = W0
  have hB0 : Below w.heap.size w W0 := by
    subst hW0
    exact ((Below.refl _ _).alloc (Nat.le_refl _) _).alloc (by simp) _
  have hq0 : W0.cell? ⟨w.heap.size + 1, 0, none⟩ = some (.slice S s.length scap) := by
    subst hW0
    simp
  have H0 := Lib.hid (fun v (hv : 0 ≤ v) (V : World) (hV : V.heap = W0.heap) =>
    Calls.mono (R' := fun e w' => e = .returned (.int .i64 ((natL s).getD v.toNat 0)) ∧ w' = V) (at_any (natL s) v hv S scap (w.heap.size + 1) w.heap.size V (fun h0 => by
      obtain ⟨b, off, e, hlt, hc⟩ := (hS.below hB0) h0
      exact ⟨b, off, e, hlt, fun j hj => (World.cell?_of_block (by rw [hV])).trans (hc j hj)⟩) (by rw [natL_length]; exact hsl) (by rw [natL_length]; exact (World.cell?_of_block (by rw [hV])).trans hq0)) (fun _ _ h => ⟨h.1, h.2.symm⟩))
  have h2 : 2 < w.heap.size := World.block_lt_of_cell? _ _ (hT 0 (by decide))
  have HTT := Lib.hid (fun (W : World) (hW : Below w.heap.size w W) => hT.below hW h2)
  have hla := setS_lt hs a
  have hlb := setS_lt hs b
  have hlc := setS_lt hs c
  simp only [natL_getD] at H0
  have e1 : s.getD a.toNat 0 = getS s a := rfl
  have e2 : s.getD b.toNat 0 = getS s b := rfl
  have e3 : s.getD c.toNat 0 = getS s c := rfl
  have HA := Lib.hid (H0.out a ha)
  have HBB := Lib.hid (H0.out b hb)
  have HC := Lib.hid (H0.out c hc)
  rw [e1] at HA
  rw [e2] at HBB
  rw [e3] at HC
  have HB0 := Lib.hid hB0
  rw [← hW0] at HA HBB HC HB0
  clear e1 e2 e3 H0 hS hT hs hq0 hB0 hW0
  have HR : Hid (∀ R, R = atomE o a b c m s → R = atomE o a b c m s) := Lib.hid (fun _ h => h)
  clear HR
  have HV := Lib.hid (show atomE o a b c m s = (
    if o = oTrue then true
    else if o = oSub then bnot (getS s a) (getS s b) == 0
    else if o = oSing then oneB (getS s a)
    else if o = oFlag then getS s a % 2 == 1
    else if o = oNone then getS s a == 0
    else if o = oLess then (oneB (getS s a) && oneB (getS s b)) && decide (0 < lowN (getS s b) - lowN (getS s a))
    else if o = oPlus then (oneB (getS s a) && oneB (getS s b)) && decide (lowN (getS s b) - lowN (getS s a) = m)
    else if o = oNum then oneB (getS s a) && decide (lowN (getS s a) = m)
    else if o = oUnion then decide (getS s c = getS s a ||| getS s b)
    else if o = oInter then decide (getS s c = getS s a &&& getS s b)
    else decide (getS s c = bnot (getS s a) (getS s b))) from rfl)
  generalize atomE o a b c m s = R at *
  generalize getS s a = x at *
  generalize getS s b = y at *
  generalize getS s c = z at *
  have HAP := Lib.hid (fun W (hW : Tab W) => apart_any x y hla hlb W hW)
  have HON := Lib.hid (fun W (hW : Tab W) => one_any x hla W hW)
  go_enter Tryd.func44, Tryd.ntmps44
  go_wp2_with fail
  go_quiet (first
    | (go_at_call_of 52 (Value.int IntKind.i64 a); refine Calls.quiet_of_same (HA.out _ ?_); (rfl))
    | (go_at_call_of 52 (Value.int IntKind.i64 b); refine Calls.quiet_of_same (HBB.out _ ?_); (rfl))
    | (go_at_call_of 52 (Value.int IntKind.i64 c); refine Calls.quiet_of_same (HC.out _ ?_); (rfl))
    | fail)
  go_upto_region 5 with (first
    | (go_at_call 53; refine (HAP.out _ (HTT.out _ (Below.drewN_ HB0.out _))).mono ?_; rintro e w' ⟨rfl, rfl⟩)
    | (go_at_call 54; refine (HON.out _ (HTT.out _ (Below.drewN_ HB0.out _))).mono ?_; rintro e w' ⟨rfl, rfl⟩))
  obtain ⟨lx1, lx2⟩ := lowN_le x hla
  obtain ⟨ly1, ly2⟩ := lowN_le y hlb
  have q1 : bits .andNot .i64 (x : Int) (y : Int) = ((bnot x y : Nat) : Int) := i64_andNot_nat x y (by omega) (by omega)
  have q2 : bits .and .i64 (x : Int) (y : Int) = ((x &&& y : Nat) : Int) := i64_and_nat x y (by omega) (by omega)
  have q3 : bits .or .i64 (x : Int) (y : Int) = ((x ||| y : Nat) : Int) := i64_or_nat x y (by omega) (by omega)
  have q4 : bits .and .i64 (x : Int) 1 = ((x &&& 1 : Nat) : Int) := i64_and_nat x 1 (by omega) (by omega)
  clear HAP HON HTT HA HBB HC hsl h2
  generalize bnot x y = p1 at *
  generalize x &&& y = p2 at *
  generalize x ||| y = p3 at *
  generalize lowN x = lx at *
  generalize lowN y = ly at *
  generalize oneB x = ox at *
  generalize oneB y = oy at *
  by_cases h0 : o = [116, 114, 117, 101]
  · subst h0
    have HF := Lib.hid (R_pos HV.out rfl)
    clear HV
    go_wp2_with fail
    go_ret
    refine ⟨congrArg (fun x : Bool => Ending.returned (.bool x)) (?_ : _ = R), Below.drewN_ HB0.out _⟩
    refine Eq.trans ?_ HF.out.symm
    first | rfl | (rw [Bool.eq_iff_iff]; simp only [beq_iff_eq, decide_eq_true_eq, Bool.and_eq_true, Bool.true_and]; omega)
  have g0 : (o == [116, 114, 117, 101]) = false := beq_false_of_ne h0
  by_cases h1 : o = [115, 117, 98]
  · subst h1
    have HF := Lib.hid (R_pos (R_neg HV.out (by decide)) rfl)
    clear HV
    go_wp2_with fail
    go_ret
    refine ⟨congrArg (fun x : Bool => Ending.returned (.bool x)) (?_ : _ = R), Below.drewN_ HB0.out _⟩
    refine Eq.trans ?_ HF.out.symm
    first | rfl | (rw [Bool.eq_iff_iff]; simp only [beq_iff_eq]; omega)
  have g1 : (o == [115, 117, 98]) = false := beq_false_of_ne h1
  by_cases h2 : o = [115, 105, 110, 103]
  · subst h2
    have HF := Lib.hid (R_pos (R_neg (R_neg HV.out (by decide)) (by decide)) rfl)
    clear HV
    go_wp2_with fail
    go_ret
    refine ⟨congrArg (fun x : Bool => Ending.returned (.bool x)) (?_ : _ = R), Below.drewN_ HB0.out _⟩
    refine Eq.trans ?_ HF.out.symm
    first | rfl | (rw [Bool.eq_iff_iff]; simp only [beq_iff_eq, decide_eq_true_eq, Bool.and_eq_true, Bool.true_and]; omega)
  have g2 : (o == [115, 105, 110, 103]) = false := beq_false_of_ne h2
  by_cases h3 : o = [102, 108, 97, 103]
  · subst h3
    have HF := Lib.hid (R_pos (R_neg (R_neg (R_neg HV.out (by decide)) (by decide)) (by decide)) rfl)
    clear HV
    go_wp2_with fail
    go_ret
    refine ⟨congrArg (fun x : Bool => Ending.returned (.bool x)) (?_ : _ = R), Below.drewN_ HB0.out _⟩
    refine Eq.trans ?_ HF.out.symm
    first | rfl | (rw [Bool.eq_iff_iff]; simp only [beq_iff_eq]; omega)
  have g3 : (o == [102, 108, 97, 103]) = false := beq_false_of_ne h3
  by_cases h4 : o = [110, 111, 110, 101]
  · subst h4
    have HF := Lib.hid (R_pos (R_neg (R_neg (R_neg (R_neg HV.out (by decide)) (by decide)) (by decide)) (by decide)) rfl)
    clear HV
    go_wp2_with fail
    go_ret
    refine ⟨congrArg (fun x : Bool => Ending.returned (.bool x)) (?_ : _ = R), Below.drewN_ HB0.out _⟩
    refine Eq.trans ?_ HF.out.symm
    first | rfl | (rw [Bool.eq_iff_iff]; simp only [beq_iff_eq]; omega)
  have g4 : (o == [110, 111, 110, 101]) = false := beq_false_of_ne h4
  by_cases h5 : o = [108, 101, 115, 115]
  · subst h5
    have HF := Lib.hid (R_pos (R_neg (R_neg (R_neg (R_neg (R_neg HV.out (by decide)) (by decide)) (by decide)) (by decide)) (by decide)) rfl)
    clear HV
    cases ox
    all_goals cases oy
    all_goals
      go_wp2_with fail
      go_ret
      refine ⟨congrArg (fun x : Bool => Ending.returned (.bool x)) (?_ : _ = R), Below.drewN_ HB0.out _⟩
      refine Eq.trans ?_ HF.out.symm
      first | rfl | (rw [Bool.eq_iff_iff]; simp only [decide_eq_true_eq, Bool.true_and]; omega)
  have g5 : (o == [108, 101, 115, 115]) = false := beq_false_of_ne h5
  by_cases h6 : o = [112, 108, 117, 115]
  · subst h6
    have HF := Lib.hid (R_pos (R_neg (R_neg (R_neg (R_neg (R_neg (R_neg HV.out (by decide)) (by decide)) (by decide)) (by decide)) (by decide)) (by decide)) rfl)
    clear HV
    cases ox
    all_goals cases oy
    all_goals
      go_wp2_with fail
      go_ret
      refine ⟨congrArg (fun x : Bool => Ending.returned (.bool x)) (?_ : _ = R), Below.drewN_ HB0.out _⟩
      refine Eq.trans ?_ HF.out.symm
      first | rfl | (rw [Bool.eq_iff_iff]; simp only [beq_iff_eq, decide_eq_true_eq, Bool.and_eq_true, Bool.true_and]; omega)
  have g6 : (o == [112, 108, 117, 115]) = false := beq_false_of_ne h6
  by_cases h7 : o = [110, 117, 109]
  · subst h7
    have HF := Lib.hid (R_pos (R_neg (R_neg (R_neg (R_neg (R_neg (R_neg (R_neg HV.out (by decide)) (by decide)) (by decide)) (by decide)) (by decide)) (by decide)) (by decide)) rfl)
    clear HV
    cases ox
    all_goals cases oy
    all_goals
      go_wp2_with fail
      go_ret
      refine ⟨congrArg (fun x : Bool => Ending.returned (.bool x)) (?_ : _ = R), Below.drewN_ HB0.out _⟩
      refine Eq.trans ?_ HF.out.symm
      first | rfl | (rw [Bool.eq_iff_iff]; simp only [beq_iff_eq, decide_eq_true_eq, Bool.and_eq_true, Bool.true_and]; omega)
  have g7 : (o == [110, 117, 109]) = false := beq_false_of_ne h7
  by_cases h8 : o = [117, 110, 105, 111, 110]
  · subst h8
    have HF := Lib.hid (R_pos (R_neg (R_neg (R_neg (R_neg (R_neg (R_neg (R_neg (R_neg HV.out (by decide)) (by decide)) (by decide)) (by decide)) (by decide)) (by decide)) (by decide)) (by decide)) rfl)
    clear HV
    go_wp2_with fail
    go_ret
    refine ⟨congrArg (fun x : Bool => Ending.returned (.bool x)) (?_ : _ = R), Below.drewN_ HB0.out _⟩
    refine Eq.trans ?_ HF.out.symm
    first | rfl | (rw [Bool.eq_iff_iff]; simp only [beq_iff_eq, decide_eq_true_eq]; omega)
  have g8 : (o == [117, 110, 105, 111, 110]) = false := beq_false_of_ne h8
  by_cases h9 : o = [105, 110, 116, 101, 114]
  · subst h9
    have HF := Lib.hid (R_pos (R_neg (R_neg (R_neg (R_neg (R_neg (R_neg (R_neg (R_neg (R_neg HV.out (by decide)) (by decide)) (by decide)) (by decide)) (by decide)) (by decide)) (by decide)) (by decide)) (by decide)) rfl)
    clear HV
    go_wp2_with fail
    go_ret
    refine ⟨congrArg (fun x : Bool => Ending.returned (.bool x)) (?_ : _ = R), Below.drewN_ HB0.out _⟩
    refine Eq.trans ?_ HF.out.symm
    first | rfl | (rw [Bool.eq_iff_iff]; simp only [beq_iff_eq, decide_eq_true_eq]; omega)
  have g9 : (o == [105, 110, 116, 101, 114]) = false := beq_false_of_ne h9
  have HF := Lib.hid (R_neg (R_neg (R_neg (R_neg (R_neg (R_neg (R_neg (R_neg (R_neg (R_neg HV.out h0) h1) h2) h3) h4) h5) h6) h7) h8) h9)
  clear HV
  clear h0 h1 h2 h3 h4 h5 h6 h7 h8 h9
  go_wp2_with fail
  go_ret
  refine ⟨congrArg (fun x : Bool => Ending.returned (.bool x)) (?_ : _ = R), Below.drewN_ HB0.out _⟩
  refine Eq.trans ?_ HF.out.symm
  first | rfl | (rw [Bool.eq_iff_iff]; simp only [beq_iff_eq, decide_eq_true_eq]; omega)
end Go.Proofs.YtcgjacaemblnmaaDoor
