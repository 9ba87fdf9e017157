/- The walk over (*bits.Set).All: the numbers of a set, rising. -/
import Derived.Test.YtgbkmlnecooeaaaDoorAll
namespace Go.Proofs.YtgbkmlnecooeaaaDoor
open Go Go.RowKit

/-- A list of natural numbers as Go's ints. -/
def nats (xs : List Nat) : List Value := ints (xs.map fun n : Nat => (n : Int))
@[simp] theorem nats_length (xs : List Nat) : (nats xs).length = xs.length := by simp [nats]
theorem nats_append (a b : List Nat) : nats (a ++ b) = nats a ++ nats b := by simp [nats, ints_append]
theorem nats_nil : nats [] = [] := rfl

theorem Tab.below {w w' : World} (h : Tab w) (hb : Below w.heap.size w w') : Tab w' := by
  intro j hj
  have h0 : 0 < w.heap.size := by have := World.block_lt_of_cell? w _ (h j hj); simpa using this
  exact (hb.cell (p := ⟨0, j, none⟩) h0).trans (h j hj)

/-- The state of the inner loop: out holds what the first k words gave and a part of this word; the rest is in cur. -/
def AllIn (w : World) (ws : List Nat) (k : Nat) (out cur : Value) (wr : World) (n : Nat) : Prop :=
  ∃ (A : Option Addr) (c y : Nat) (ys : List Nat), out = .slice A ys.length c ∧ cur = .int .u64 (y : Int) ∧ y < 18446744073709551616 ∧ ys ++ bitsOf 64 (64 * k) y = allTo ws (k + 1) ∧ n = bc 64 y ∧
    wr.ownsRow w.heap.size 3 1 (.slice A ys.length c) ys.length (nats ys) ∧ Below w.heap.size w wr
def AllOut (w : World) (ws : List Nat) (out i : Value) (wr : World) (n : Nat) : Prop :=
  ∃ (A : Option Addr) (c k : Nat), k ≤ ws.length ∧ n = ws.length - k ∧ i = .int .i64 (k : Int) ∧ out = .slice A (allTo ws k).length c ∧
    wr.ownsRow w.heap.size 3 1 (.slice A (allTo ws k).length c) (allTo ws k).length (nats (allTo ws k)) ∧ Below w.heap.size w wr

theorem ctz_lt (y : Nat) (h0 : y ≠ 0) (h : y < 18446744073709551616) : Lib.ctz 64 y < 64 := (Lib.lowest_bit 64 y h0 h).2
theorem bits_step (k y : Nat) (h0 : y ≠ 0) (h : y < 18446744073709551616) : bitsOf 64 (64 * k) y = (64 * k + Lib.ctz 64 y) :: bitsOf 64 (64 * k) (y &&& (y - 1)) := by
  have := bitsOf_low 64 (64 * k) y h0 h
  rwa [show Lib.ctz 64 y = Lib.ctzFrom 64 y by simp [Lib.ctz, h0]]
theorem and_pred (y : Nat) (h0 : y ≠ 0) (h : y < 18446744073709551616) : bits BinOp.and IntKind.u64 (y : Int) ((y : Int) - 1) = ((y &&& (y - 1) : Nat) : Int) := by
  rw [show ((y : Int) - 1) = ((y - 1 : Nat) : Int) by omega, bits_and_u64_nat _ _ h (by omega)]

theorem allIn_step {w wr w1 : World} {ws ys : List Nat} {k y c c1 : Nat} {A A1 : Option Addr} (h0 : y ≠ 0) (hy : y < 18446744073709551616) (he : ys ++ bitsOf 64 (64 * k) y = allTo ws (k + 1))
    (hb : Below w.heap.size w wr) {o : Obj} (hown : wr.ownsRow w.heap.size 3 1 (.slice A ys.length c) ys.length (nats ys)) (hg : (wr.alloc o).grownBy w1 (Value.slice A ys.length c).ownBlock)
    (ho1 : w1.ownsRow w.heap.size 3 1 (.slice A1 (ys.length + 1) c1) (ys.length + 1) (nats ys ++ [.int .i64 ((64 * k + Lib.ctz 64 y : Nat) : Int)])) :
    AllIn w ws k (.slice A1 (ys.length + 1) c1) (.int .u64 (bits BinOp.and IntKind.u64 (y : Int) ((y : Int) - 1))) w1 (bc 64 (y &&& (y - 1))) ∧ bc 64 (y &&& (y - 1)) < bc 64 y := by
  rw [and_pred y h0 hy]
  have hs := bits_step k y h0 hy
  have hl := congrArg List.length hs
  rw [bitsOf_length, List.length_cons, bitsOf_length] at hl
  refine ⟨⟨A1, c1, y &&& (y - 1), ys ++ [64 * k + Lib.ctz 64 y], by simp, rfl, Nat.lt_of_le_of_lt Nat.and_le_left hy, ?_, rfl, ?_, ?_⟩, by omega⟩
  · rw [← he, hs]; simp
  · rw [nats_append]
    simpa [nats, ints] using ho1
  · exact (hb.alloc (hb.size) o).grown hg (by have := hb.size; simp; omega) (fun j hj => (hown.lt j hj).1)

theorem ys_len {ws ys : List Nat} {k y : Nat} (hk : k < ws.length) (hl : ws.length ≤ 1563) (he : ys ++ bitsOf 64 (64 * k) y = allTo ws (k + 1)) : ys.length ≤ 100032 := by
  have h1 := congrArg List.length he
  rw [List.length_append, allTo_length] at h1
  have := lenTo_le ws (k + 1)
  omega

set_option maxHeartbeats 2000000 in
theorem all_any {w : World} {P : Option Addr} {ws : List Nat} (h : PtrTo w P ws) (hT : Tab w) :
    Calls Tryd.prog 12 #[.pointer P] w fun e w' => ∃ A c, e = .returned (.slice A (allTo ws ws.length).length c) ∧
      w'.ownsRow w.heap.size 3 1 (.slice A (allTo ws ws.length).length c) (allTo ws ws.length).length (nats (allTo ws ws.length)) ∧ Below w.heap.size w w' := by
  obtain ⟨i0, hi, hz0, hz1, hz2⟩ := info_parts Tryd.info3
  obtain ⟨A, c, hw, hr, _⟩ := h.words
  have hl := h.len
  have HW := Lib.hid hw
  have HR := Lib.hid hr
  have HOK := Lib.hid h.ok
  have HT := Lib.hid hT
  clear hw hr h hT
  go_enter Tryd.func12, Tryd.ntmps12
  go_wp2_with (go_at_call 21; refine HW.out.mono ?_; rintro e w' ⟨rfl, rfl⟩)
  go_loopg [3, 9] ws.length (fun n out i wr => AllOut w ws out i wr n)
  case atStart => exact ⟨none, 0, 0, Nat.zero_le _, rfl, rfl, rfl, World.ownsRow_nil _ _ _ _, Below.refl _ _⟩
  case round =>
    obtain ⟨A0, c0, k, hk, hn, rfl, rfl, hown, hb⟩ := hrel
    have HN := Lib.hid hn
    have HO := Lib.hid hown
    have HB := Lib.hid hb
    clear hn hown hb
    by_cases hlt : k < ws.length
    · obtain ⟨ad, u, rfl, hlo, hu, hcu⟩ := HR.out.at_ (k := k) hlt
      rw [u64s_at _ _ hlt] at hu
      obtain rfl := Option.some.inj hu
      have hcu2 := (HB.out.cell (p := ad.add k) (by rw [block_of_add]; exact hlo)).trans hcu
      have hx := wOk_getD ws HOK.out k
      have HX := Lib.hid hx
      have HA := Lib.hid (allTo_succ ws k)
      clear hx hu hcu
      generalize hy : ws.getD k 0 = y0 at *
      clear hy
      go_wp2_with fail
      go_loopg [3, 5] (bc 64 y0) (fun n out cur wr => AllIn w ws k out cur wr n)
      case atStart => exact ⟨A0, c0, y0, allTo ws k, rfl, rfl, HX.out, HA.out.symm, rfl, HO.out, HB.out⟩
      case round =>
        obtain ⟨A2, c2, y, ys, rfl, rfl, hy, he, hn, hown, hb⟩ := hrel
        have HN2 := Lib.hid hn
        have HO2 := Lib.hid hown
        have HB2 := Lib.hid hb
        have HE2 := Lib.hid he
        have HY2 := Lib.hid hy
        have hyl := ys_len hlt hl he
        have hTr := HT.out.below HB2.out
        have HT2 := Lib.hid hTr
        clear hn hown hb he hTr
        by_cases h0 : y = 0
        · have hb0 : ((y : Int) != 0) = false := by simp [h0]
          have H0 := Lib.hid h0
          clear h0
          go_wp2
          go_roundg (ws.length - (k + 1))
          case measure => have := HN.out; omega
          case rel =>
            have h0 := H0.out
            subst h0
            have he := HE2.out
            rw [bitsOf_zero, List.append_nil] at he
            subst he
            exact ⟨A2, c2, k + 1, by omega, rfl, by go_num, rfl, HO2.out, HB2.out⟩
        · have hb0 : ((y : Int) != 0) = true := by simp [h0]
          have hb1 : ((y : Int) == 0) = false := by simp [h0]
          have hz := ctz_lt y h0 hy
          have hpos : (1 : Int) ≤ (y : Int) := by omega
          have HC := Lib.hid (tz_any y hy h0)
          have H0 := Lib.hid h0
          clear h0
          generalize hzz : Lib.ctz 64 y = z at *
          have HZ := Lib.hid hzz
          clear hzz
          go_wp2_with (first | (go_at_call 23; refine (HC.out _ HT2.out).mono ?_; rintro e w' ⟨rfl, rfl⟩) | (at_builtin; refine wpList_append_own _ rfl (.tmp 20) (.tmp 26) 22 rfl w.heap.size 3 i0 (.int .i64 0) 1 8 Tryd.underlying22 hi hz0 hz1 hz2 rfl (by decide) _ ys.length _ rfl (HO2.out.alloc _) ⟨wr.heap.size, 0, none⟩ 1 1 [.int .i64 (64 * (k : Int) + (z : Int))] rfl rfl ?c1 ?c2 ?c3 ?c4 ?c5 ?_))
          case c1 => exact cell_one_new _ _ _
          case c2 => intro u hu; simp at hu; subst hu; rfl
          case c3 => simp only [maxLen]; omega
          case c4 => omega
          case c5 => have := HB2.out.size; simp; omega
          intro v1 w1 hown1 hg1 _
          obtain ⟨A1, c1, rfl⟩ := own_slice hown1
          have HO3 := Lib.hid hown1
          have HG3 := Lib.hid hg1
          clear hown1 hg1
          go_wp2
          have hzz := HZ.out
          subst hzz
          obtain ⟨q1, q2⟩ := allIn_step H0.out hy HE2.out HB2.out HO2.out HG3.out (by simpa using HO3.out)
          go_roundg (bc 64 (y &&& (y - 1)))
          case measure => have := HN2.out; omega
          case rel => exact q1
    · go_wp2
      go_ret
      obtain rfl : k = ws.length := by omega
      exact ⟨A0, c0, rfl, HO.out, HB.out⟩
end Go.Proofs.YtgbkmlnecooeaaaDoor
