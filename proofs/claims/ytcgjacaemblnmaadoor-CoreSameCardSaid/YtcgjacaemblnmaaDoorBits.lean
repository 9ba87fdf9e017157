/- The walks over math/bits.OnesCount64, TrailingZeros64. -/
import Derived.Test.YtcgjacaemblnmaaDoorAt
import Derived.Lib.TrailingZeros
import Derived.Deep.RegionWith
import Derived.Laws.BitsAllLaws
import Derived.Laws.Bits64b
import Derived.Test.YtcgjacaemblnmaaDoorEvalPure
import Derived.Test.YtcgjacaemblnmaaDoorPop
namespace Go.Proofs.YtcgjacaemblnmaaDoor
open Go Go.RowKit

def g1 (X : Int) : Int := IntKind.u64.wrap (bits BinOp.and IntKind.u64 (X / 2) 6148914691236517205 + bits BinOp.and IntKind.u64 X 6148914691236517205)
def g2 (X : Int) : Int := IntKind.u64.wrap (bits BinOp.and IntKind.u64 (X / 4) 3689348814741910323 + bits BinOp.and IntKind.u64 X 3689348814741910323)
def g3 (X : Int) : Int := bits BinOp.and IntKind.u64 (IntKind.u64.wrap (X / 16 + X)) 1085102592571150095
def g4 (X : Int) : Int := IntKind.u64.wrap (X + X / 256)
def g5 (X : Int) : Int := IntKind.u64.wrap (X + X / 65536)
def g6 (X : Int) : Int := IntKind.u64.wrap (X + X / 4294967296)
theorem ones_raw (x : Nat) (w : World) (_hx : x < 18446744073709551616) : Calls Tryd.prog 65 #[.int .u64 x] w fun e w' => e = .returned (.int .i64 (bits BinOp.and IntKind.i64 (wrap64 (g6 (g5 (g4 (g3 (g2 (g1 x))))))) 127)) ∧ w = w' := by
  go_enter Tryd.func65, Tryd.ntmps65
  go_wp2
  go_ret
  exact ⟨rfl, rfl⟩
theorem u64_nat (n : Nat) (h : n < 18446744073709551616) : IntKind.u64.wrap (n : Int) = n := by rw [IntKind.wrap_u64]; omega
theorem g1_eq (x : Nat) (hx : x < 18446744073709551616) : g1 x = ((s1 32 x : Nat) : Int) := by
  have h1 := step1 32 x
  rw [show mask 2 1 32 = 6148914691236517205 by decide] at h1
  have h2 : s1 32 x < 18446744073709551616 := s1_lt 32 x
  unfold g1
  rw [show ((x : Int) / 2) = ((x / 2 : Nat) : Int) from rfl, show (6148914691236517205 : Int) = ((6148914691236517205 : Nat) : Int) from rfl, bits_and_u64_nat _ _ (by omega) (by decide), bits_and_u64_nat _ _ hx (by decide), ← Int.natCast_add, h1, u64_nat _ h2]
theorem g2_eq (x : Nat) (hx : x < 18446744073709551616) : g2 x = ((s2 16 x : Nat) : Int) := by
  have h1 := step2 16 x
  rw [show mask 4 3 16 = 3689348814741910323 by decide] at h1
  have h2 : s2 16 x < 18446744073709551616 := s2_lt 16 x
  unfold g2
  rw [show ((x : Int) / 4) = ((x / 4 : Nat) : Int) from rfl, show (3689348814741910323 : Int) = ((3689348814741910323 : Nat) : Int) from rfl, bits_and_u64_nat _ _ (by omega) (by decide), bits_and_u64_nat _ _ hx (by decide), ← Int.natCast_add, h1, u64_nat _ h2]
theorem nib_lt : ∀ (n x : Nat), nib n x → 15 * x + 4 ≤ 4 * 16 ^ n
  | 0, x, h => by have h : x = 0 := h; omega
  | n + 1, x, h => by
    have ih := nib_lt n (x / 16) h.2
    have := h.1
    rw [Nat.pow_succ]
    omega
theorem nib_lt' (x : Nat) (h : nib 16 x) : x < 10000000000000000000 := by
  have h2 := nib_lt 16 _ h
  have e : (16 : Nat) ^ 16 = 18446744073709551616 := by decide
  rw [e] at h2
  omega
theorem g3_eq (x : Nat) (hx : nib 16 x) : g3 x = ((s3 8 x : Nat) : Int) := by
  have h1 := step3 8 x hx
  rw [show mask 8 15 8 = 1085102592571150095 by decide] at h1
  have h3 := nib_lt' x hx
  unfold g3
  rw [show ((x : Int) / 16) = ((x / 16 : Nat) : Int) from rfl, show (1085102592571150095 : Int) = ((1085102592571150095 : Nat) : Int) from rfl, ← Int.natCast_add, u64_nat _ (by omega), bits_and_u64_nat _ _ (by omega) (by decide), h1]
theorem last_val (t B : Nat) (ht : t < 9223372036854775808) (hB : t % 128 = B) : bits BinOp.and IntKind.i64 (wrap64 (t : Int)) 127 = (B : Int) := by
  have q7 : wrap64 (t : Int) = t := IntWalk.wrap64_in _ ⟨by omega, by omega⟩
  rw [q7]
  have hx : t &&& 127 < 2 ^ 63 := Nat.and_lt_two_pow _ (by decide)
  have o1 : (BitVec.ofInt 64 (t : Int)).toNat = t := by
    rw [BitVec.ofInt_natCast, BitVec.toNat_ofNat]; exact Nat.mod_eq_of_lt (by omega)
  have o2 : (BitVec.ofInt 64 (127 : Int)).toNat = 127 := by decide
  have e : bits BinOp.and IntKind.i64 (t : Int) 127 = IntKind.i64.wrap ((BitVec.ofInt 64 (t : Int) &&& BitVec.ofInt 64 (127 : Int)).toNat : Int) := rfl
  rw [e, BitVec.toNat_and, o1, o2, IntKind.wrap_i64]
  have hx2 : t &&& 127 = B := by rw [and_127, hB]
  rw [hx2] at hx ⊢
  omega
theorem g456 (u B : Nat) (b1 : u + u / 256 < 9223372036854775808) (b2 : (u + u / 256) + (u + u / 256) / 65536 < 9223372036854775808)
    (b3 : ((u + u / 256) + (u + u / 256) / 65536) + ((u + u / 256) + (u + u / 256) / 65536) / 4294967296 < 9223372036854775808)
    (b4 : (((u + u / 256) + (u + u / 256) / 65536) + ((u + u / 256) + (u + u / 256) / 65536) / 4294967296) % 128 = B) :
    bits BinOp.and IntKind.i64 (wrap64 (g6 (g5 (g4 u)))) 127 = (B : Int) := by
  have q4 : g4 u = ((u + u / 256 : Nat) : Int) := by
    unfold g4
    rw [show ((u : Int) / 256) = ((u / 256 : Nat) : Int) from rfl, ← Int.natCast_add, u64_nat _ (by omega)]
  rw [q4]
  generalize u + u / 256 = v at *
  have q5 : g5 v = ((v + v / 65536 : Nat) : Int) := by
    unfold g5
    rw [show ((v : Int) / 65536) = ((v / 65536 : Nat) : Int) from rfl, ← Int.natCast_add, u64_nat _ (by omega)]
  rw [q5]
  generalize v + v / 65536 = y at *
  have q6 : g6 y = ((y + y / 4294967296 : Nat) : Int) := by
    unfold g6
    rw [show ((y : Int) / 4294967296) = ((y / 4294967296 : Nat) : Int) from rfl, ← Int.natCast_add, u64_nat _ (by omega)]
  rw [q6]
  generalize y + y / 4294967296 = t at *
  exact last_val t B b3 b4
theorem ones_val (x : Nat) (hx : x < 18446744073709551616) : bits BinOp.and IntKind.i64 (wrap64 (g6 (g5 (g4 (g3 (g2 (g1 x))))))) 127 = (bc 64 x : Int) := by
  have hn : nib 16 (s2 16 (s1 32 x)) := s2_nib 16 x
  have hb : byt 8 (s3 8 (s2 16 (s1 32 x))) := s3_byt 8 _ hn
  have hall : sum8 8 (s3 8 (s2 16 (s1 32 x))) = bc 64 x := all_steps 8 x
  have h1 : s1 32 x < 18446744073709551616 := s1_lt 32 x
  rw [g1_eq x hx, g2_eq _ h1, g3_eq _ hn]
  generalize s3 8 (s2 16 (s1 32 x)) = u at *
  generalize bc 64 x = B at *
  obtain ⟨b0, b1, b2, b3, b4⟩ := last_steps u hb
  rw [hall] at b4
  exact g456 u B b1 b2 b3 b4
theorem ones_any (x : Nat) (w : World) (hx : x < 18446744073709551616) : Calls Tryd.prog 65 #[.int .u64 x] w fun e w' => e = .returned (.int .i64 (bc 64 x)) ∧ w = w' := by
  have := ones_raw x w hx
  rwa [ones_val x hx] at this

/-- The table in its variable. -/
def Tab (w : World) : Prop := ∀ j, j < 64 → w.cell? ⟨2, j, none⟩ = some (.int .u8 (Lib.deBruijn64tab.getD j 0 : Nat))

set_option maxHeartbeats 1000000 in
theorem tz_core (x k idx : Nat) (w : World) (hx0 : ((x : Int) == 0) = false)
    (key : IntKind.u64.wrap (bits BinOp.and IntKind.u64 (x : Int) (IntKind.u64.wrap (-(x : Int))) * 285870213051353865) / 288230376151711744 = (idx : Int))
    (hi : idx < 64) (hk : k < 64) (hcell : w.cell? ⟨2, idx, none⟩ = some (.int .u8 k)) :
    Calls Tryd.prog 63 #[.int .u64 x] w fun e w' => e = .returned (.int .i64 k) ∧ w = w' := by
  go_enter Tryd.func63, Tryd.ntmps63
  go_wp2_with (simp only [key])
  go_ret
  exact ⟨rfl, rfl⟩
theorem tz_key (x a : Nat) (hx : x < 18446744073709551616) (hx0 : x ≠ 0) (hlow : x &&& (18446744073709551616 - x) = a) :
    IntKind.u64.wrap (bits BinOp.and IntKind.u64 (x : Int) (IntKind.u64.wrap (-(x : Int))) * 285870213051353865) / 288230376151711744 = ((a * 285870213051353865 % 18446744073709551616 / 288230376151711744 : Nat) : Int) := by
  have e1 : IntKind.u64.wrap (-(x : Int)) = ((18446744073709551616 - x : Nat) : Int) := by rw [IntKind.wrap_u64]; omega
  rw [e1, bits_and_u64_nat x _ hx (by omega), hlow, IntKind.wrap_u64]
  omega
theorem tz_any (x : Nat) (hx : x < 18446744073709551616) (hx0 : x ≠ 0) (w : World) (hT : Tab w) :
    Calls Tryd.prog 63 #[.int .u64 x] w fun e w' => e = .returned (.int .i64 (Lib.ctz 64 x)) ∧ w = w' := by
  obtain ⟨hlow, hk⟩ := Lib.lowest_bit 64 x hx0 hx
  obtain ⟨hi, htab⟩ := Lib.deBruijn64_at _ hk
  have hcell := hT _ hi
  rw [htab] at hcell
  exact tz_core x _ _ w (by simp; omega) (tz_key x _ hx hx0 hlow) hi hk hcell
theorem tz_zero (w : World) : Calls Tryd.prog 63 #[.int .u64 0] w fun e w' => e = .returned (.int .i64 64) ∧ w = w' := by
  go_enter Tryd.func63, Tryd.ntmps63
  go_wp2
  go_ret
  exact ⟨rfl, rfl⟩
theorem tz_all (x : Nat) (hx : x < 18446744073709551616) (w : World) (hT : Tab w) :
    Calls Tryd.prog 63 #[.int .u64 x] w fun e w' => e = .returned (.int .i64 (Lib.ctz 64 x)) ∧ w = w' := by
  by_cases h0 : x = 0
  · subst h0
    exact tz_zero w
  · exact tz_any x hx h0 w hT
theorem TZ_any (x : Nat) (hx : x < 18446744073709551616) (w : World) (hT : Tab w) :
    Calls Tryd.prog 56 #[.int .u64 x] w fun e w' => e = .returned (.int .i64 (Lib.ctz 64 x)) ∧ w = w' := by
  have HZ := Lib.hid (tz_all x hx w hT)
  generalize Lib.ctz 64 x = r at *
  clear hT
  go_enter Tryd.func56, Tryd.ntmps56
  go_wp2_with (go_at_call 63; refine HZ.out.mono ?_; rintro e w' ⟨rfl, rfl⟩)
  go_ret
  exact ⟨rfl, rfl⟩
theorem OC_any (x : Nat) (hx : x < 18446744073709551616) (w : World) :
    Calls Tryd.prog 57 #[.int .u64 x] w fun e w' => e = .returned (.int .i64 (bc 64 x)) ∧ w = w' := by
  have HZ := Lib.hid (ones_any x w hx)
  generalize bc 64 x = r at *
  go_enter Tryd.func57, Tryd.ntmps57
  go_wp2_with (go_at_call 65; refine HZ.out.mono ?_; rintro e w' ⟨rfl, rfl⟩)
  go_ret
  exact ⟨rfl, rfl⟩
theorem one_any (s : Nat) (hs : s < 65536) (w : World) (hT : Tab w) :
    Calls Tryd.prog 54 #[.int .i64 s] w fun e w' => e = .returned (.tuple #[.int .i64 (lowN s), .bool (oneB s)]) ∧ w = w' := by
  have HZ := Lib.hid (TZ_any s (by omega) w hT)
  have HO := Lib.hid (OC_any s (by omega) w)
  clear hT
  unfold lowN oneB
  generalize Lib.ctz 64 s = r at *
  generalize bc 64 s = b at *
  go_enter Tryd.func54, Tryd.ntmps54
  go_wp2_with (first | (go_at_call 56; refine HZ.out.mono ?_; rintro e w' ⟨rfl, rfl⟩) | (go_at_call 57; refine HO.out.mono ?_; rintro e w' ⟨rfl, rfl⟩))
  go_ret2
  refine ⟨?_, rfl⟩
  have e : ((b : Int) == 1) = (b == 1) := by
    rw [Bool.eq_iff_iff, beq_iff_eq, beq_iff_eq]
    omega
  rw [← e]
  rfl
theorem lowN_le (s : Nat) (hs : s < 65536) : 0 ≤ lowN s ∧ lowN s ≤ 64 := by
  unfold lowN
  by_cases h0 : s = 0
  · subst h0
    decide
  · have := (Lib.lowest_bit 64 s h0 (by omega)).2
    have e : Lib.ctz 64 s = Lib.ctzFrom 64 s := by simp [Lib.ctz, h0]
    omega
theorem apart_any (s t : Nat) (hs : s < 65536) (ht : t < 65536) (w : World) (hT : Tab w) :
    Calls Tryd.prog 53 #[.int .i64 s, .int .i64 t] w fun e w' => e = .returned (.tuple #[.int .i64 (lowN t - lowN s), .bool (oneB s && oneB t)]) ∧ w = w' := by
  have HS := Lib.hid (one_any s hs w hT)
  have HO := Lib.hid (one_any t ht w hT)
  obtain ⟨a1, a2⟩ := lowN_le s hs
  obtain ⟨b1, b2⟩ := lowN_le t ht
  clear hT
  generalize lowN s = a at *
  generalize lowN t = b at *
  generalize oneB s = x at *
  generalize oneB t = y at *
  have hw : IntKind.i64.wrap (b - a) = b - a := by rw [IntKind.wrap_i64]; omega
  cases x <;> cases y
  all_goals
    go_enter Tryd.func53, Tryd.ntmps53
    go_wp2_with (first | (go_at_call_of 54 (Value.int IntKind.i64 (s : Int)); refine HS.out.mono ?_; rintro e w' ⟨rfl, rfl⟩) | (go_at_call_of 54 (Value.int IntKind.i64 (t : Int)); refine HO.out.mono ?_; rintro e w' ⟨rfl, rfl⟩))
    go_ret2
    exact ⟨rfl, rfl⟩
theorem Tab.below {B : Nat} {w w' : World} (h : Tab w) (hb : Below B w w') (hB : 2 < B) : Tab w' := fun j hj => (hb.cell (p := ⟨2, j, none⟩) hB).trans (h j hj)
end Go.Proofs.YtcgjacaemblnmaaDoor
