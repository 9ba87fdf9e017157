/- Parts of the proof: TopW0. -/
import Derived.Test.YtpknalhjgbgpiaaGreatDoorM26
namespace Go.Proofs.YtpknalhjgbgpiaaGreatDoor
open Go Go.RowKit
set_option maxRecDepth 100000 in
set_option maxHeartbeats 4000000 in
theorem top_way0 {F t : Int} {Ms Cs : List ValP} (h0 : 0 ≤ F) (hF : F ≤ 1073741824) (ht : t ≠ 4) {w : World} (hw : 3 ≤ w.heap.size) (ha : DecC (⟨#[112, 114, 101, 100, 32, 112, 40, 118, 97, 114, 49, 32, 97, 44, 32, 118, 97, 114, 50, 32, 65, 41, 32, 61, 32, 97, 32, 105, 110, 32, 65, 59, 32, 118, 97, 114, 50, 32, 88, 59, 32, 101, 120, 49, 32, 120, 58, 32, 112, 40, 120, 44, 32, 88, 41, 32, 38, 32, 126, 112, 40, 120, 32, 43, 32, 49, 44, 32, 88, 41, 59]⟩ : ByteArray) F t Ms Cs) (hb : DecC (⟨#[118, 97, 114, 50, 32, 88, 59, 32, 101, 120, 49, 32, 120, 58, 32, 120, 32, 105, 110, 32, 88, 32, 38, 32, 126, 120, 32, 43, 32, 49, 32, 105, 110, 32, 88, 59]⟩ : ByteArray) F t Ms Cs) (hk : ∀ W : World, 4 ≤ W.heap.size → Calls Tryz.prog 6 #[] W fun e w' => e = .returned (.bool true) ∧ Below W.heap.size W w') :
    Calls Tryz.prog 3 #[.int .i64 0, .int .i64 F] w fun e w' => e = .returned (.bool true) ∧ Below w.heap.size w w' := by
  have g0 : decide (F < 0) = false := decide_eq_false (by omega)
  have g1 : decide (1073741824 < F) = false := decide_eq_false (by omega)
  have gt : (t != 4) = true := by simp [ht]
  have HA := Lib.hid ha
  have HB := Lib.hid hb
  have HK := Lib.hid hk
  clear ha hb hk ht
  unfold DecC at HA HB
  go_enter Tryz.func3, Tryz.ntmps3
  go_upto_region 4 with fail
  generalize hsa : (⟨#[112, 114, 101, 100, 32, 112, 40, 118, 97, 114, 49, 32, 97, 44, 32, 118, 97, 114, 50, 32, 65, 41, 32, 61, 32, 97, 32, 105, 110, 32, 65, 59, 32, 118, 97, 114, 50, 32, 88, 59, 32, 101, 120, 49, 32, 120, 58, 32, 112, 40, 120, 44, 32, 88, 41, 32, 38, 32, 126, 112, 40, 120, 32, 43, 32, 49, 44, 32, 88, 41, 59]⟩ : ByteArray) = sa at *
  generalize hsb : (⟨#[118, 97, 114, 50, 32, 88, 59, 32, 101, 120, 49, 32, 120, 58, 32, 120, 32, 105, 110, 32, 88, 32, 38, 32, 126, 120, 32, 43, 32, 49, 32, 105, 110, 32, 88, 59]⟩ : ByteArray) = sb at *
  clear hsa hsb
  have HW0 := Lib.hid ((Below.refl w.heap.size w).alloc (Nat.le_refl _) (.cells #[.string sa, .string sb, .string (⟨#[112, 114, 101, 100, 32, 113, 40, 118, 97, 114, 48, 32, 97, 41, 32, 61, 32, 97, 59, 32, 112, 114, 101, 100, 32, 112, 40, 118, 97, 114, 48, 32, 97, 41, 32, 61, 32, 113, 40, 97, 41, 32, 124, 32, 126, 113, 40, 97, 41, 59, 32, 97, 108, 108, 48, 32, 98, 58, 32, 112, 40, 98, 41, 59]⟩ : ByteArray), .string (⟨#[97, 108, 108, 48, 32, 98, 58, 32, 98, 32, 124, 32, 126, 98, 59]⟩ : ByteArray), .string (⟨#[112, 114, 101, 100, 32, 112, 40, 118, 97, 114, 49, 32, 97, 41, 32, 61, 32, 101, 120, 49, 32, 120, 58, 32, 120, 32, 60, 32, 97, 59, 32, 118, 97, 114, 49, 32, 120, 59, 32, 112, 40, 120, 41, 59]⟩ : ByteArray), .string (⟨#[118, 97, 114, 49, 32, 120, 59, 32, 101, 120, 49, 32, 121, 58, 32, 121, 32, 60, 32, 120, 59]⟩ : ByteArray)] 9))
  have HBZ := Lib.hid (Blk.new w 9 #[.string sa, .string sb, .string (⟨#[112, 114, 101, 100, 32, 113, 40, 118, 97, 114, 48, 32, 97, 41, 32, 61, 32, 97, 59, 32, 112, 114, 101, 100, 32, 112, 40, 118, 97, 114, 48, 32, 97, 41, 32, 61, 32, 113, 40, 97, 41, 32, 124, 32, 126, 113, 40, 97, 41, 59, 32, 97, 108, 108, 48, 32, 98, 58, 32, 112, 40, 98, 41, 59]⟩ : ByteArray), .string (⟨#[97, 108, 108, 48, 32, 98, 58, 32, 98, 32, 124, 32, 126, 98, 59]⟩ : ByteArray), .string (⟨#[112, 114, 101, 100, 32, 112, 40, 118, 97, 114, 49, 32, 97, 41, 32, 61, 32, 101, 120, 49, 32, 120, 58, 32, 120, 32, 60, 32, 97, 59, 32, 118, 97, 114, 49, 32, 120, 59, 32, 112, 40, 120, 41, 59]⟩ : ByteArray), .string (⟨#[118, 97, 114, 49, 32, 120, 59, 32, 101, 120, 49, 32, 121, 58, 32, 121, 32, 60, 32, 120, 59]⟩ : ByteArray)])
  have HS0 := Lib.hid (show (w.alloc (.cells #[.string sa, .string sb, .string (⟨#[112, 114, 101, 100, 32, 113, 40, 118, 97, 114, 48, 32, 97, 41, 32, 61, 32, 97, 59, 32, 112, 114, 101, 100, 32, 112, 40, 118, 97, 114, 48, 32, 97, 41, 32, 61, 32, 113, 40, 97, 41, 32, 124, 32, 126, 113, 40, 97, 41, 59, 32, 97, 108, 108, 48, 32, 98, 58, 32, 112, 40, 98, 41, 59]⟩ : ByteArray), .string (⟨#[97, 108, 108, 48, 32, 98, 58, 32, 98, 32, 124, 32, 126, 98, 59]⟩ : ByteArray), .string (⟨#[112, 114, 101, 100, 32, 112, 40, 118, 97, 114, 49, 32, 97, 41, 32, 61, 32, 101, 120, 49, 32, 120, 58, 32, 120, 32, 60, 32, 97, 59, 32, 118, 97, 114, 49, 32, 120, 59, 32, 112, 40, 120, 41, 59]⟩ : ByteArray), .string (⟨#[118, 97, 114, 49, 32, 120, 59, 32, 101, 120, 49, 32, 121, 58, 32, 121, 32, 60, 32, 120, 59]⟩ : ByteArray)] 9)).heap.size = w.heap.size + 1 by simp)
  generalize w.alloc _ = Z at *
  have d0 : Z.cell? ⟨w.heap.size, 0, none⟩ = some (.string sa) := HBZ.out.cell 0
  have d1 : Z.cell? ⟨w.heap.size, 0 + 1, none⟩ = some (.string sb) := HBZ.out.cell (0 + 1)
  have hb0 := Below.refl (w.heap.size + 1) Z
  have hs0 : w.heap.size + 1 ≤ Z.heap.size := by have := HS0.out; omega
  have HSS := Lib.hid (fun (W : World) (hW : Below (w.heap.size + 1) Z W) => (⟨hW, (hW.cell (by simp)).trans d0, (hW.cell (by simp)).trans d1⟩ : (fun W : World => Below (w.heap.size + 1) Z W ∧ W.cell? ⟨w.heap.size, 0, none⟩ = some (.string sa) ∧ W.cell? ⟨w.heap.size, 0 + 1, none⟩ = some (.string sb)) W))
  have gw0 : IntKind.i64.wrap (2 * 0) = 0 := by decide
  have gw1 : IntKind.i64.wrap 0 = 0 := by decide
  have gw2 : IntKind.i64.wrap (0 + 1) = 0 + 1 := by decide
  have gw3 : IntKind.i64.wrap (2 * 0 + 1) = 0 + 1 := by decide
  have gw4 : IntKind.i64.wrap 1 = 1 := by decide
  go_cut [6, 7] from 26 to 41 (fun u v wx => ∃ (g g2 : Nat) (A1 A2 A3 A4 : Option Addr) (c1 c2 c3 c4 : Nat), u = .pointer (some ⟨g, 0, none⟩) ∧ v = .pointer (some ⟨g2, 0, none⟩) ∧ Below (w.heap.size + 1) Z wx ∧ w.heap.size + 1 ≤ g ∧ w.heap.size + 1 ≤ g2 ∧ g < wx.heap.size ∧ g2 < wx.heap.size ∧
    Blk wx g 26 #[.int .i64 t, .int .i64 0, .int .i64 0, .slice A1 Ms.length c1, .slice A2 Cs.length c2] ∧ Blk wx g2 26 #[.int .i64 t, .int .i64 0, .int .i64 0, .slice A3 Ms.length c3, .slice A4 Cs.length c4] ∧ ValsAt wx (fun b => b < wx.heap.size) A1 c1 Ms ∧ ValsAt wx (fun b => b < wx.heap.size) A2 c2 Cs ∧ ValsAt wx (fun b => b < wx.heap.size) A3 c3 Ms ∧ ValsAt wx (fun b => b < wx.heap.size) A4 c4 Cs)
  case first =>
    go_region_held3 (fun W : World => Below (w.heap.size + 1) Z W ∧ W.cell? ⟨w.heap.size, 0, none⟩ = some (.string sa) ∧ W.cell? ⟨w.heap.size, 0 + 1, none⟩ = some (.string sb)) ((refine HSS.out _ ?_; repeat' (first | (with_reducible exact hb0) | (with_reducible exact hbB) | (with_reducible exact hbA) | (with_reducible refine Below.drew ?_) | (with_reducible refine Below.alloc ?_ ?_ _) | (with_reducible refine bel_far ?_ ?_ _ _) | omega | (simp <;> omega)))) ((first
      | (
        go_at_call_of 4 (Value.string sa)
        refine (HA.out _ (by first | omega | (simp; omega))).mono ?_
        rintro e w1 ⟨A1, c1, A2, c2, rfl, hb1, va1, va2⟩
        have hs1 := hb1.size
        (try simp at hs1)
        have hbA : Below (w.heap.size + 1) Z w1 := bel_thr hb1 (by repeat' (first | (with_reducible exact hb0) | (with_reducible refine Below.drew ?_) | (with_reducible refine Below.alloc ?_ ?_ _) | omega | (simp <;> omega))) hs0
        (try (
          have hx : Blk w1 (Z.heap.size) 26 zeroR := blk_bel hb1 (blk_new_at rfl)
          obtain ⟨pa0, pa1, pa2, pa3, pa4, fa0, fa1, fa2, fa3, fa4⟩ := box10 hx
          obtain ⟨qa0, qa1, qa2, qa3, qa4, ha0, ha1, ha2, ha3, ha4⟩ := box10a hx
          have HXa := Lib.hid hx
          clear hx))
        (try (
          have hx : Blk w1 (Z.heap.size) 26 zeroR := blk_bel hb1 (blk_alloc (blk_new_at rfl) _)
          obtain ⟨pa0, pa1, pa2, pa3, pa4, fa0, fa1, fa2, fa3, fa4⟩ := box10 hx
          obtain ⟨qa0, qa1, qa2, qa3, qa4, ha0, ha1, ha2, ha3, ha4⟩ := box10a hx
          have HXa := Lib.hid hx
          clear hx))
        (try (
          have hx : Blk w1 (Z.heap.size) 26 zeroR := blk_bel hb1 (blk_new2 _ _ _ _)
          obtain ⟨pa0, pa1, pa2, pa3, pa4, fa0, fa1, fa2, fa3, fa4⟩ := box10 hx
          obtain ⟨qa0, qa1, qa2, qa3, qa4, ha0, ha1, ha2, ha3, ha4⟩ := box10a hx
          have HXa := Lib.hid hx
          clear hx))
        (try (
          have hx : Blk w1 (Z.heap.size + 1) 26 zeroR := blk_bel hb1 (blk_new_at rfl)
          obtain ⟨pb0, pb1, pb2, pb3, pb4, fb0, fb1, fb2, fb3, fb4⟩ := box10 hx
          obtain ⟨qb0, qb1, qb2, qb3, qb4, hb0, hb1, hb2, hb3, hb4⟩ := box10a hx
          have HXb := Lib.hid hx
          clear hx))
        (try (
          have hx : Blk w1 (Z.heap.size + 1) 26 zeroR := blk_bel hb1 (blk_alloc (blk_new_at rfl) _)
          obtain ⟨pb0, pb1, pb2, pb3, pb4, fb0, fb1, fb2, fb3, fb4⟩ := box10 hx
          obtain ⟨qb0, qb1, qb2, qb3, qb4, hb0, hb1, hb2, hb3, hb4⟩ := box10a hx
          have HXb := Lib.hid hx
          clear hx))
        (try (
          have hx : Blk w1 (Z.heap.size + 1) 26 zeroR := blk_bel hb1 (blk_new2 _ _ _ _)
          obtain ⟨pb0, pb1, pb2, pb3, pb4, fb0, fb1, fb2, fb3, fb4⟩ := box10 hx
          obtain ⟨qb0, qb1, qb2, qb3, qb4, hb0, hb1, hb2, hb3, hb4⟩ := box10a hx
          have HXb := Lib.hid hx
          clear hx)))
      | (
        go_at_call_of 4 (Value.string sb)
        refine (HB.out _ (by first | omega | (simp; omega))).mono ?_
        rintro e w2 ⟨A3, c3, A4, c4, rfl, hb2, vb1, vb2⟩
        have hs2 := hb2.size
        (try simp at hs2)
        have hbB : Below (w.heap.size + 1) Z w2 := bel_thr hb2 (by repeat' (first | (with_reducible exact hbA) | (with_reducible refine Below.drew ?_) | (with_reducible refine Below.alloc ?_ ?_ _) | omega | (simp <;> omega))) hs0
        (try (have na0 : ¬ w1.heap.size = w2.heap.size := Nat.ne_of_lt (hs2); have oa0 : ¬ w2.heap.size = w1.heap.size := Nat.ne_of_gt (hs2)))
        (try (have na1 : ¬ w1.heap.size = w2.heap.size := Nat.ne_of_lt (Nat.lt_of_succ_lt hs2); have oa1 : ¬ w2.heap.size = w1.heap.size := Nat.ne_of_gt (Nat.lt_of_succ_lt hs2)))
        (try (have nb0 : ¬ w1.heap.size + 1 = w2.heap.size := Nat.ne_of_lt (hs2); have ob0 : ¬ w2.heap.size = w1.heap.size + 1 := Nat.ne_of_gt (hs2)))
        (try (have nc0 : ¬ Z.heap.size = w2.heap.size := Nat.ne_of_lt (Nat.lt_of_lt_of_le hs1 (Nat.le_of_lt hs2)); have oc0 : ¬ w2.heap.size = Z.heap.size := Nat.ne_of_gt (Nat.lt_of_lt_of_le hs1 (Nat.le_of_lt hs2))))
        (try (have nc1 : ¬ Z.heap.size = w2.heap.size := Nat.ne_of_lt (Nat.lt_of_lt_of_le hs1 hs2); have oc1 : ¬ w2.heap.size = Z.heap.size := Nat.ne_of_gt (Nat.lt_of_lt_of_le hs1 hs2)))
        (try (have nc2 : ¬ Z.heap.size = w2.heap.size := Nat.ne_of_lt (Nat.lt_of_lt_of_le (Nat.lt_of_succ_lt hs1) hs2); have oc2 : ¬ w2.heap.size = Z.heap.size := Nat.ne_of_gt (Nat.lt_of_lt_of_le (Nat.lt_of_succ_lt hs1) hs2)))
        (try (have nc3 : ¬ Z.heap.size = w2.heap.size := Nat.ne_of_lt (Nat.lt_of_lt_of_le (Nat.lt_of_succ_lt hs1) (Nat.le_of_lt hs2)); have oc3 : ¬ w2.heap.size = Z.heap.size := Nat.ne_of_gt (Nat.lt_of_lt_of_le (Nat.lt_of_succ_lt hs1) (Nat.le_of_lt hs2))))
        (try (have nd0 : ¬ Z.heap.size = w1.heap.size := Nat.ne_of_lt (hs1); have od0 : ¬ w1.heap.size = Z.heap.size := Nat.ne_of_gt (hs1)))
        (try (have nd1 : ¬ Z.heap.size = w1.heap.size := Nat.ne_of_lt (Nat.lt_of_succ_lt hs1); have od1 : ¬ w1.heap.size = Z.heap.size := Nat.ne_of_gt (Nat.lt_of_succ_lt hs1)))
        (try (have ne0 : ¬ Z.heap.size + 1 = w2.heap.size := Nat.ne_of_lt (Nat.lt_of_lt_of_le hs1 (Nat.le_of_lt hs2)); have oe0 : ¬ w2.heap.size = Z.heap.size + 1 := Nat.ne_of_gt (Nat.lt_of_lt_of_le hs1 (Nat.le_of_lt hs2))))
        (try (have ne1 : ¬ Z.heap.size + 1 = w2.heap.size := Nat.ne_of_lt (Nat.lt_of_lt_of_le hs1 hs2); have oe1 : ¬ w2.heap.size = Z.heap.size + 1 := Nat.ne_of_gt (Nat.lt_of_lt_of_le hs1 hs2)))
        (try (have nf0 : ¬ Z.heap.size + 1 = w1.heap.size := Nat.ne_of_lt (hs1); have of0 : ¬ w1.heap.size = Z.heap.size + 1 := Nat.ne_of_gt (hs1)))
        (try (
          have hx : Blk w2 (Z.heap.size) 26 zeroR := blk_bel hb2 (HXa.out)
          obtain ⟨pc0, pc1, pc2, pc3, pc4, fc0, fc1, fc2, fc3, fc4⟩ := box10 hx
          obtain ⟨qc0, qc1, qc2, qc3, qc4, hc0, hc1, hc2, hc3, hc4⟩ := box10a hx
          obtain ⟨rc0, rc1, rc2, rc3, rc4, kc0, kc1, kc2, kc3, kc4⟩ := box10o hx (.cells #[.int .i64 t, .int .i64 0, .int .i64 0, .slice A1 Ms.length c1, .slice A2 Cs.length c2] 26)
          have HXc := Lib.hid hx
          clear hx))
        (try (
          have hx : Blk w2 (Z.heap.size) 26 zeroR := blk_bel hb2 (blk_alloc HXa.out _)
          obtain ⟨pc0, pc1, pc2, pc3, pc4, fc0, fc1, fc2, fc3, fc4⟩ := box10 hx
          obtain ⟨qc0, qc1, qc2, qc3, qc4, hc0, hc1, hc2, hc3, hc4⟩ := box10a hx
          obtain ⟨rc0, rc1, rc2, rc3, rc4, kc0, kc1, kc2, kc3, kc4⟩ := box10o hx (.cells #[.int .i64 t, .int .i64 0, .int .i64 0, .slice A1 Ms.length c1, .slice A2 Cs.length c2] 26)
          have HXc := Lib.hid hx
          clear hx))
        (try (
          have hx : Blk w2 (Z.heap.size) 26 zeroR := blk_bel hb2 (blk_alloc (blk_alloc HXa.out _) _)
          obtain ⟨pc0, pc1, pc2, pc3, pc4, fc0, fc1, fc2, fc3, fc4⟩ := box10 hx
          obtain ⟨qc0, qc1, qc2, qc3, qc4, hc0, hc1, hc2, hc3, hc4⟩ := box10a hx
          obtain ⟨rc0, rc1, rc2, rc3, rc4, kc0, kc1, kc2, kc3, kc4⟩ := box10o hx (.cells #[.int .i64 t, .int .i64 0, .int .i64 0, .slice A1 Ms.length c1, .slice A2 Cs.length c2] 26)
          have HXc := Lib.hid hx
          clear hx))
        (try (
          have hx : Blk w2 (Z.heap.size + 1) 26 zeroR := blk_bel hb2 (HXb.out)
          obtain ⟨pd0, pd1, pd2, pd3, pd4, fd0, fd1, fd2, fd3, fd4⟩ := box10 hx
          obtain ⟨qd0, qd1, qd2, qd3, qd4, hd0, hd1, hd2, hd3, hd4⟩ := box10a hx
          obtain ⟨rd0, rd1, rd2, rd3, rd4, kd0, kd1, kd2, kd3, kd4⟩ := box10o hx (.cells #[.int .i64 t, .int .i64 0, .int .i64 0, .slice A1 Ms.length c1, .slice A2 Cs.length c2] 26)
          have HXd := Lib.hid hx
          clear hx))
        (try (
          have hx : Blk w2 (Z.heap.size + 1) 26 zeroR := blk_bel hb2 (blk_alloc HXb.out _)
          obtain ⟨pd0, pd1, pd2, pd3, pd4, fd0, fd1, fd2, fd3, fd4⟩ := box10 hx
          obtain ⟨qd0, qd1, qd2, qd3, qd4, hd0, hd1, hd2, hd3, hd4⟩ := box10a hx
          obtain ⟨rd0, rd1, rd2, rd3, rd4, kd0, kd1, kd2, kd3, kd4⟩ := box10o hx (.cells #[.int .i64 t, .int .i64 0, .int .i64 0, .slice A1 Ms.length c1, .slice A2 Cs.length c2] 26)
          have HXd := Lib.hid hx
          clear hx))
        (try (
          have hx : Blk w2 (Z.heap.size + 1) 26 zeroR := blk_bel hb2 (blk_alloc (blk_alloc HXb.out _) _)
          obtain ⟨pd0, pd1, pd2, pd3, pd4, fd0, fd1, fd2, fd3, fd4⟩ := box10 hx
          obtain ⟨qd0, qd1, qd2, qd3, qd4, hd0, hd1, hd2, hd3, hd4⟩ := box10a hx
          obtain ⟨rd0, rd1, rd2, rd3, rd4, kd0, kd1, kd2, kd3, kd4⟩ := box10o hx (.cells #[.int .i64 t, .int .i64 0, .int .i64 0, .slice A1 Ms.length c1, .slice A2 Cs.length c2] 26)
          have HXd := Lib.hid hx
          clear hx))
        (try (
          have hx : Blk w2 (w1.heap.size) 26 zeroR := blk_bel hb2 (blk_new_at rfl)
          obtain ⟨pe0, pe1, pe2, pe3, pe4, fe0, fe1, fe2, fe3, fe4⟩ := box10 hx
          obtain ⟨qe0, qe1, qe2, qe3, qe4, he0, he1, he2, he3, he4⟩ := box10a hx
          obtain ⟨re0, re1, re2, re3, re4, ke0, ke1, ke2, ke3, ke4⟩ := box10o hx (.cells #[.int .i64 t, .int .i64 0, .int .i64 0, .slice A1 Ms.length c1, .slice A2 Cs.length c2] 26)
          have HXe := Lib.hid hx
          clear hx))
        (try (
          have hx : Blk w2 (w1.heap.size) 26 zeroR := blk_bel hb2 (blk_alloc (blk_new_at rfl) _)
          obtain ⟨pe0, pe1, pe2, pe3, pe4, fe0, fe1, fe2, fe3, fe4⟩ := box10 hx
          obtain ⟨qe0, qe1, qe2, qe3, qe4, he0, he1, he2, he3, he4⟩ := box10a hx
          obtain ⟨re0, re1, re2, re3, re4, ke0, ke1, ke2, ke3, ke4⟩ := box10o hx (.cells #[.int .i64 t, .int .i64 0, .int .i64 0, .slice A1 Ms.length c1, .slice A2 Cs.length c2] 26)
          have HXe := Lib.hid hx
          clear hx))
        (try (
          have hx : Blk w2 (w1.heap.size) 26 zeroR := blk_bel hb2 (blk_new2 _ _ _ _)
          obtain ⟨pe0, pe1, pe2, pe3, pe4, fe0, fe1, fe2, fe3, fe4⟩ := box10 hx
          obtain ⟨qe0, qe1, qe2, qe3, qe4, he0, he1, he2, he3, he4⟩ := box10a hx
          obtain ⟨re0, re1, re2, re3, re4, ke0, ke1, ke2, ke3, ke4⟩ := box10o hx (.cells #[.int .i64 t, .int .i64 0, .int .i64 0, .slice A1 Ms.length c1, .slice A2 Cs.length c2] 26)
          have HXe := Lib.hid hx
          clear hx))
        (try (
          have hx : Blk w2 (w1.heap.size + 1) 26 zeroR := blk_bel hb2 (blk_new_at rfl)
          obtain ⟨pf0, pf1, pf2, pf3, pf4, ff0, ff1, ff2, ff3, ff4⟩ := box10 hx
          obtain ⟨qf0, qf1, qf2, qf3, qf4, hf0, hf1, hf2, hf3, hf4⟩ := box10a hx
          obtain ⟨rf0, rf1, rf2, rf3, rf4, kf0, kf1, kf2, kf3, kf4⟩ := box10o hx (.cells #[.int .i64 t, .int .i64 0, .int .i64 0, .slice A1 Ms.length c1, .slice A2 Cs.length c2] 26)
          have HXf := Lib.hid hx
          clear hx))
        (try (
          have hx : Blk w2 (w1.heap.size + 1) 26 zeroR := blk_bel hb2 (blk_alloc (blk_new_at rfl) _)
          obtain ⟨pf0, pf1, pf2, pf3, pf4, ff0, ff1, ff2, ff3, ff4⟩ := box10 hx
          obtain ⟨qf0, qf1, qf2, qf3, qf4, hf0, hf1, hf2, hf3, hf4⟩ := box10a hx
          obtain ⟨rf0, rf1, rf2, rf3, rf4, kf0, kf1, kf2, kf3, kf4⟩ := box10o hx (.cells #[.int .i64 t, .int .i64 0, .int .i64 0, .slice A1 Ms.length c1, .slice A2 Cs.length c2] 26)
          have HXf := Lib.hid hx
          clear hx))
        (try (
          have hx : Blk w2 (w1.heap.size + 1) 26 zeroR := blk_bel hb2 (blk_new2 _ _ _ _)
          obtain ⟨pf0, pf1, pf2, pf3, pf4, ff0, ff1, ff2, ff3, ff4⟩ := box10 hx
          obtain ⟨qf0, qf1, qf2, qf3, qf4, hf0, hf1, hf2, hf3, hf4⟩ := box10a hx
          obtain ⟨rf0, rf1, rf2, rf3, rf4, kf0, kf1, kf2, kf3, kf4⟩ := box10o hx (.cells #[.int .i64 t, .int .i64 0, .int .i64 0, .slice A1 Ms.length c1, .slice A2 Cs.length c2] 26)
          have HXf := Lib.hid hx
          clear hx)))))
    all_goals
      go_wp2_with fail
      go_meet
      case rel =>
        refine ⟨_, _, A1, A2, A3, A4, c1, c2, c3, c4, rfl, rfl, ?_, ?_, ?_, ?_, ?_, ?_, ?_, va1.more_ ?_ ?_, va2.more_ ?_ ?_, vb1.more_ ?_ ?_, vb2.more_ ?_ ?_⟩
        all_goals repeat' (first | (with_reducible exact hbB) | (with_reducible exact kp_refl _) | (with_reducible refine Below.alloc ?_ ?_ _) | (with_reducible refine bel_far ?_ ?_ _ _) | (with_reducible refine kp_alloc ?_ ?_ _) | (with_reducible refine kp_put ?_ ?_ _ _) | (with_reducible refine kp_thr hb2 ?_ ?_) | (with_reducible exact blk_new_at rfl) | (with_reducible exact blk_new2 _ _ _ _) | (with_reducible exact HXc.out) | (with_reducible exact HXd.out) | (with_reducible exact HXe.out) | (with_reducible exact HXf.out) | (with_reducible refine resZ ?_ _ _ _ _ _) | (with_reducible refine blk_other ?_ ?_ _ _) | (with_reducible refine blk_alloc ?_ _) | omega | (intro b h; simp at h ⊢; omega) | (simp <;> omega))
  case rest =>
    obtain ⟨g, g2, A1, A2, A3, A4, c1, c2, c3, c4, rfl, rfl, hbz, hg, hg2, hgl, hgl2, hX, hY, v1, v2, v3, v4⟩ := hcut
    obtain ⟨w6, hw6⟩ : ∃ x, x = wc := ⟨_, rfl⟩
    subst hw6
    have HS := Lib.hid (rsame_any (w := w6) (t := t) (fun b h => h) v1 v3 v2 v4)
    have HB6 := Lib.hid (HW0.out.trans (hbz.mono (Nat.le_succ _)))
    have hsz : 4 ≤ w6.heap.size := by have := hbz.size; omega
    have x0 := hX.cell 0
    have x1 := hX.cell 1
    have x2 := hX.cell 2
    have x3 := hX.cell 3
    have x4 := hX.cell 4
    have y0 := hY.cell 0
    have y1 := hY.cell 1
    have y2 := hY.cell 2
    have y3 := hY.cell 3
    have y4 := hY.cell 4
    simp at x0 x1 x2 x3 x4 y0 y1 y2 y3 y4
    clear hX hY v1 v2 v3 v4 hbz hg hg2 HA HB HW0 HBZ HS0 HSS d0 d1 hb0
    generalize Ms.length = lm at *
    generalize Cs.length = lc at *
    go_wp2_with (first
      | (
        go_at_call 5
        refine HS.out.mono ?_
        rintro e w7 ⟨rfl, hb7⟩
        have y7 := (hb7.cell (p := ⟨g2, 0, none⟩) hgl2).trans y0
        have hsz7 : 4 ≤ w7.heap.size := Nat.le_trans hsz hb7.size
        have HB7 := Lib.hid (HB6.out.trans (hb7.mono HB6.out.size))
        clear hb7)
      | (
        go_at_call 6
        refine (HK.out _ hsz7).mono ?_
        rintro e w8 ⟨rfl, hb8⟩
        have HB8 := Lib.hid (HB7.out.trans (hb8.mono HB7.out.size))
        clear hb8))
    go_ret
    exact ⟨rfl, HB8.out⟩
end Go.Proofs.YtpknalhjgbgpiaaGreatDoor
