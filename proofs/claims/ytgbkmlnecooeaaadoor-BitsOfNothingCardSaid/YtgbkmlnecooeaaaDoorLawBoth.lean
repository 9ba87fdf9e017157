/- The walk over sibyllaw14.BitsBoth. -/
import Derived.Test.YtgbkmlnecooeaaaDoorLawSame
namespace Go.Proofs.YtgbkmlnecooeaaaDoor
open Go Go.RowKit

/-- What the law holds in hand: two sets, two lists, the table, and that nothing old has turned. -/
structure Both (w0 W : World) (b1 g1 b2 g2 b3 b4 : Nat) (v1 v2 : Value) (A3 A4 : Option Addr) (c3 c4 : Nat) (xs ys : List Int) : Prop where
  s1 : SetAt W b1 g1 v1 (newI xs)
  s2 : SetAt W b2 g2 v2 (newI ys)
  r3 : Row W b3 A3 c3 (refNew xs)
  r4 : Row W b4 A4 c4 (refNew ys)
  tab : Tab W
  bel : Below w0.heap.size w0 W
section
variable {w0 W W' : World} {b1 g1 b2 g2 b3 b4 : Nat} {v1 v2 : Value} {A3 A4 : Option Addr} {c3 c4 : Nat} {xs ys : List Int}
theorem Both.step (h : Both w0 W b1 g1 b2 g2 b3 b4 v1 v2 A3 A4 c3 c4 xs ys) (hb : Below W.heap.size W W') : Both w0 W' b1 g1 b2 g2 b3 b4 v1 v2 A3 A4 c3 c4 xs ys :=
  ⟨h.s1.bel hb, h.s2.bel hb, h.r3.below hb, h.r4.below hb, h.tab.below hb, bt h.bel hb⟩
/-- All of it lies below block B. -/
def Under (B g1 g2 : Nat) (v1 v2 : Value) (A3 A4 : Option Addr) : Prop :=
  (∀ k, SB g1 v1 k → k < B) ∧ (∀ k, SB g2 v2 k → k < B) ∧ (∀ a, A3 = some a → a.block < B) ∧ (∀ a, A4 = some a → a.block < B)
theorem Both.under (h : Both w0 W b1 g1 b2 g2 b3 b4 v1 v2 A3 A4 c3 c4 xs ys) : Under W.heap.size g1 g2 v1 v2 A3 A4 :=
  ⟨fun k hk => (h.s1.lt k hk).2, fun k hk => (h.s2.lt k hk).2, fun a ha => (h.r3.lt a.block (by rw [ha]; rfl)).2, fun a ha => (h.r4.lt a.block (by rw [ha]; rfl)).2⟩
theorem Both.fr {S : Nat → Prop} {B : Nat} (h : Both w0 W b1 g1 b2 g2 b3 b4 v1 v2 A3 A4 c3 c4 xs ys) (hu : Under B g1 g2 v1 v2 A3 A4) (hf : Fr S W W') (hS : ∀ k, S k → B ≤ k) (h0 : w0.heap.size ≤ B) (hp : 0 < B) (hBW : B ≤ W.heap.size) :
    Both w0 W' b1 g1 b2 g2 b3 b4 v1 v2 A3 A4 c3 c4 xs ys := by
  have hb : Below B W W' := hf.below (fun k hk hs => by have := hS k hs; omega) hBW
  refine ⟨h.s1.below hb hu.1, h.s2.below hb hu.2.1, ?_, ?_, ?_, h.bel.trans (hb.mono h0)⟩
  · exact (Fr.of_below hb).own h.r3 (fun k hk => by
      cases hA : A3 with
      | none => rw [hA] at hk; simp [Value.ownBlock] at hk
      | some a => rw [hA] at hk; simp [Value.ownBlock] at hk; subst hk; have := hu.2.2.1 a hA; omega)
  · exact (Fr.of_below hb).own h.r4 (fun k hk => by
      cases hA : A4 with
      | none => rw [hA] at hk; simp [Value.ownBlock] at hk
      | some a => rw [hA] at hk; simp [Value.ownBlock] at hk; subst hk; have := hu.2.2.2 a hA; omega)
  · intro j hj
    exact (hb.cell (p := ⟨0, j, none⟩) hp).trans (h.tab j hj)
end
theorem Tab.pos {w : World} (h : Tab w) : 0 < w.heap.size := by
  have := World.block_lt_of_cell? w _ (h 0 (by decide)); simpa using this

theorem refNew_n {w : World} {A : Option Addr} {c B n : Nat} {xs : List Int} (hn : n = xs.length) (hr : Reads w B 1 A xs.length (ints xs)) (hB : B ≤ w.heap.size) (hl : xs.length ≤ 1000000) :
    Calls Tryd.prog 8 #[.slice A n c] w (MadeRow w (refNew xs)) := by subst hn; exact refNew_b hr hB hl

theorem both_long (A B : Option Addr) (n m c d : Nat) (w : World) (h : 100 < n ∨ 100 < m) (h1 : n ≤ 9223372036854775807) (h2 : m ≤ 9223372036854775807) :
    Calls Tryd.prog 3 #[.slice A n c, .slice B m d] w (Yes w) := by
  rcases Nat.lt_or_ge 100 n with hn | hn
  · go_enter Tryd.func3, Tryd.ntmps3
    go_wp2_with fail
    go_ret
    exact ⟨rfl, Below.refl _ _⟩
  · have hm : 100 < m := by omega
    go_enter Tryd.func3, Tryd.ntmps3
    go_wp2_with fail
    go_ret
    exact ⟨rfl, Below.refl _ _⟩

set_option maxHeartbeats 4000000 in
theorem both_law (A B : Option Addr) (c d : Nat) (xs ys : List Int) (w : World) (hr : Reads w w.heap.size 1 A xs.length (ints xs)) (hs : Reads w w.heap.size 1 B ys.length (ints ys)) (hT : Tab w)
    (h1 : xs.length ≤ 100) (h2 : ys.length ≤ 100) :
    Calls Tryd.prog 3 #[.slice A xs.length c, .slice B ys.length d] w (Yes w) := by
  obtain ⟨i0, hi, hz0, hz1, hz2⟩ := info_parts Tryd.info3
  have HR := Lib.hid hr
  have KR := Lib.hid hs
  have HT := Lib.hid hT
  have G1 := Lib.hid (Good.new xs)
  have G2 := Lib.hid (Good.new ys)
  have l1 := refNew_length xs
  have l2 := refNew_length ys
  clear hr hs hT
  go_enter Tryd.func3, Tryd.ntmps3
  go_wp2_with fail
  refine (new_b HR.out (Nat.le_refl _) (by omega)).mono ?_
  rintro e w1 ⟨g1, v1, rfl, hs1, hb1⟩
  have S1 := Lib.hid hs1
  have B1 := Lib.hid hb1
  clear hs1 hb1
  go_wp2_with fail
  refine (new_b (KR.out.below B1.out) B1.out.size (by omega)).mono ?_
  rintro e w2 ⟨g2, v2, rfl, hs2, hb⟩
  have S2 := Lib.hid hs2
  have T1 := Lib.hid (S1.out.bel hb)
  have B2 := Lib.hid (bt B1.out hb)
  clear hs2 hb S1 B1
  go_wp2_with fail
  refine (refNew_b (HR.out.below B2.out) B2.out.size (by omega)).mono ?_
  rintro e w3 ⟨A3, c3, rfl, hr3, hb⟩
  have B3 := Lib.hid (bt B2.out hb)
  have U1 := Lib.hid (T1.out.bel hb)
  have U2 := Lib.hid (S2.out.bel hb)
  have R3 := Lib.hid hr3
  clear hb hr3 T1 S2 B2
  go_wp2_with fail
  refine (refNew_b (KR.out.below B3.out) B3.out.size (by omega)).mono ?_
  rintro e w4 ⟨A4, c4, rfl, hr4, hb⟩
  have K4 := Lib.hid (show Both w w4 _ g1 _ g2 _ _ v1 v2 A3 A4 c3 c4 xs ys from ⟨U1.out.bel hb, U2.out.bel hb, R3.out.below hb, hr4, HT.out.below (bt B3.out hb), bt B3.out hb⟩)
  clear hb hr4 U1 U2 R3 B3
  go_wp2_with fail
  refine (or_b K4.out.s1.ptr K4.out.s2.ptr).mono ?_
  rintro e w5 ⟨g5, v5, rfl, hs5, hb⟩
  have K5 := Lib.hid (K4.out.step hb)
  have S5 := Lib.hid hs5
  have X4 := Lib.hid K4.out.under
  have X5 := Lib.hid (show (∀ k, SB g5 v5 k → w4.heap.size ≤ k) ∧ (∀ k, SB g5 v5 k → k < w5.heap.size) ∧ w4.heap.size ≤ w5.heap.size ∧ w.heap.size ≤ w4.heap.size ∧ 0 < w4.heap.size from ⟨fun k hk => (hs5.lt k hk).1, fun k hk => (hs5.lt k hk).2, hb.size, K4.out.bel.size, K4.out.tab.pos⟩)
  clear hs5 hb
  go_wp2_with fail
  refine (and_b K5.out.s1.ptr K5.out.s2.ptr).mono ?_
  rintro e w6 ⟨g6, v6, rfl, hs6, hb⟩
  have K6 := Lib.hid (K5.out.step hb)
  have T5 := Lib.hid (S5.out.bel hb)
  have S6 := Lib.hid hs6
  clear hs6 hb
  go_wp2_with fail
  refine (all_b T5.out.ptr K6.out.tab (G1.out.or G2.out)).mono ?_
  rintro e w7 ⟨A7, c7, rfl, hr7, hb⟩
  have K7 := Lib.hid (K6.out.step hb)
  have U5 := Lib.hid (T5.out.bel hb)
  have U6 := Lib.hid (S6.out.bel hb)
  have R7 := Lib.hid hr7
  clear hr7 hb
  go_wp2_with (at_builtin; refine wpList_append_any_g _ rfl (.tmp 42) (.tmp 43) 22 rfl w7.heap.size 3 i0 (.int .i64 0) 1 8 Tryd.underlying22 hi hz0 hz1 hz2 rfl (by decide) (.slice (some ⟨w7.heap.size, 0, none⟩) 0 0) 0 [] rfl ?c0 w7.heap.size A3 (refNew xs).length c3 (ints (refNew xs)) rfl ?c1 ?c2 ?c3 ?c4 ?c5 ?_)
  case c0 => exact own_of_heap (heap_alloc_new w7 _) (Nat.le_refl _)
  case c1 => exact K7.out.r3.reads.below ((Below.refl _ _).alloc (Nat.le_refl _) _)
  case c2 => exact ints_one _
  case c3 => simp only [maxLen]; omega
  case c4 => omega
  case c5 => exact Nat.le_of_lt (by show _ < (w7.heap.push _).size; simp)
  intro v8 w8 hown8 hg8 _
  have hb8 : Below w7.heap.size w7 w8 := ((Below.refl _ _).alloc (Nat.le_refl _) _).grown hg8 (by simp) (by intro k hk; simp [Value.ownBlock] at hk; omega)
  have K8 := Lib.hid (K7.out.step hb8)
  have O8 := Lib.hid hown8
  have B8 := Lib.hid hb8
  clear hown8 hg8 hb8
  go_wp2_with (at_builtin; refine wpList_append_any_g _ rfl (.tmp 44) (.tmp 45) 22 rfl w7.heap.size 3 i0 (.int .i64 0) 1 8 Tryd.underlying22 hi hz0 hz1 hz2 rfl (by decide) v8 (0 + (refNew xs).length) ([] ++ ints (refNew xs)) rfl (by simpa using O8.out) w8.heap.size A4 (refNew ys).length c4 (ints (refNew ys)) rfl ?d1 ?d2 ?d3 ?d4 ?d5 ?_)
  case d1 => exact K8.out.r4.reads
  case d2 => exact ints_one _
  case d3 => simp only [maxLen]; omega
  case d4 => omega
  case d5 => exact B8.out.size
  intro v9 w9 hown9 hg9 _
  have hb9 : Below w7.heap.size w7 w9 := B8.out.grown hg9 B8.out.size (fun k hk => (World.ownsRow.lt O8.out k hk).1)
  have K9 := Lib.hid (K7.out.step hb9)
  obtain ⟨A9, c9, rfl⟩ := own_slice hown9
  have U5a := Lib.hid (U5.out.bel hb9)
  have U6a := Lib.hid (U6.out.bel hb9)
  have R7a := Lib.hid (R7.out.below hb9)
  have O9 := Lib.hid (Reads.of_own hown9)
  have LN := Lib.hid (show 0 + (refNew xs).length + (refNew ys).length = (refNew xs ++ refNew ys).length by rw [List.length_append]; omega)
  clear hown9 hg9 hb9 U5 U6 R7 B8 O8 K8 K7 K6
  have hrd : Reads w9 w9.heap.size 1 A9 (refNew xs ++ refNew ys).length (ints (refNew xs ++ refNew ys)) := by
    have := O9.out
    rw [← LN.out, ints_append]
    simpa using this
  have RD := Lib.hid hrd
  clear hrd
  go_wp2_with fail
  refine (refNew_n (by have := LN.out; omega) RD.out (Nat.le_refl _) (by rw [List.length_append]; omega)).mono ?_
  rintro e w10 ⟨A10, c10, rfl, hr10, hb⟩
  have K10 := Lib.hid (K9.out.step hb)
  have U5 := Lib.hid (U5a.out.bel hb)
  have U6 := Lib.hid (U6a.out.bel hb)
  have R7 := Lib.hid (R7a.out.below hb)
  have R10 := Lib.hid hr10
  have l3 := refNew_length (refNew xs ++ refNew ys)
  rw [List.length_append] at l3
  clear hr10 hb RD O9 U5a U6a R7a K9
  go_wp2_with fail
  refine (sameI_b R7.out.reads R10.out.reads (by omega) (by omega) (decide_eq_true rfl)).mono ?_
  rintro e w11 ⟨rfl, hb⟩
  have K11 := Lib.hid (K10.out.step hb)
  have U5a := Lib.hid (U5.out.bel hb)
  have U6a := Lib.hid (U6.out.bel hb)
  clear hb U5 U6 R7 R10 K10
  go_wp2_with fail
  refine (all_b U6a.out.ptr K11.out.tab (G1.out.and G2.out)).mono ?_
  rintro e w12 ⟨A12, c12, rfl, hr12, hb⟩
  have K12 := Lib.hid (K11.out.step hb)
  have U5 := Lib.hid (U5a.out.bel hb)
  have U6 := Lib.hid (U6a.out.bel hb)
  have R12 := Lib.hid hr12
  clear hb hr12 U5a U6a K11
  go_wp2_with fail
  refine (refAnd_any K12.out.r3.reads (Nat.le_refl _) K12.out.r4.reads (Nat.le_refl _) (by omega) (by omega)).mono ?_
  rintro e w13 ⟨A13, c13, rfl, hr13, hb⟩
  have K13 := Lib.hid (K12.out.step hb)
  have U5a := Lib.hid (U5.out.bel hb)
  have U6a := Lib.hid (U6.out.bel hb)
  have R12a := Lib.hid (R12.out.below hb)
  have R13 := Lib.hid hr13
  have l4 := refAnd_length (refNew xs) (refNew ys)
  clear hb hr13 U5 U6 K12 R12
  go_wp2_with fail
  refine (sameI_b R12a.out.reads R13.out.reads (by omega) (by omega) (decide_eq_true rfl)).mono ?_
  rintro e w14 ⟨rfl, hb⟩
  have K14 := Lib.hid (K13.out.step hb)
  have U5 := Lib.hid (U5a.out.bel hb)
  have U6 := Lib.hid (U6a.out.bel hb)
  have Z14 := Lib.hid (show w5.heap.size ≤ w14.heap.size from Nat.le_trans (U6a.out.lo) (by have := U6a.out.blk.lt; have := hb.size; omega))
  clear hb U5a U6a K13 R12a R13
  go_wp2_with fail
  refine (add_any U5.out 7).mono ?_
  rintro e w15 ⟨rfl, v5', hs5', hf, _⟩
  have K15 := Lib.hid (K14.out.fr X4.out hf X5.out.1 X5.out.2.2.2.1 X5.out.2.2.2.2 (Nat.le_trans X5.out.2.2.1 Z14.out))
  have U6a := Lib.hid (U6.out.frame hf (fun h => by have := X5.out.2.1 _ h; have := U6.out.lo; omega) (fun k hk h => by have := X5.out.2.1 _ h; have := (U6.out.lt k (.inr hk)).1; omega))
  have Z15 := Lib.hid (Nat.le_trans Z14.out hf.size)
  clear hs5' hf U5 U6 K14 Z14
  go_wp2_with fail
  refine (add_any U6a.out 8).mono ?_
  rintro e w16 ⟨rfl, v6', hs6', hf, _⟩
  have K16 := Lib.hid (K15.out.fr X4.out hf (fun k hk => by have := (U6a.out.lt k hk).1; have := X5.out.2.2.1; omega) X5.out.2.2.2.1 X5.out.2.2.2.2 (Nat.le_trans X5.out.2.2.1 Z15.out))
  clear hs6' hf U6a K15 Z15 X4 X5
  go_wp2_with fail
  refine (all_b K16.out.s1.ptr K16.out.tab G1.out).mono ?_
  rintro e w17 ⟨A17, c17, rfl, hr17, hb⟩
  have K17 := Lib.hid (K16.out.step hb)
  have R17 := Lib.hid hr17
  clear hb hr17 K16
  go_wp2_with fail
  refine (sameI_b R17.out.reads K17.out.r3.reads (by omega) (by omega) (decide_eq_true rfl)).mono ?_
  rintro e w18 ⟨rfl, hb⟩
  have K18 := Lib.hid (K17.out.step hb)
  clear hb R17 K17
  go_wp2_with fail
  refine (all_b K18.out.s2.ptr K18.out.tab G2.out).mono ?_
  rintro e w19 ⟨A19, c19, rfl, hr19, hb⟩
  have K19 := Lib.hid (K18.out.step hb)
  have R19 := Lib.hid hr19
  clear hb hr19 K18
  go_wp2_with fail
  refine (sameI_b R19.out.reads K19.out.r4.reads (by omega) (by omega) (decide_eq_true rfl)).mono ?_
  rintro e w20 ⟨rfl, hb⟩
  have K20 := Lib.hid (K19.out.step hb)
  clear hb R19 K19
  go_wp2_with fail
  refine (known_any w20 K20.out.tab).mono ?_
  rintro e w21 ⟨rfl, hb⟩
  have B21 := Lib.hid (bt K20.out.bel hb)
  clear hb K20
  go_wp2
  go_ret
  exact ⟨rfl, B21.out⟩
end Go.Proofs.YtgbkmlnecooeaaaDoor
