/- Parts of the proof: PSameP, LawB, Slow, LaidS, OpenN. -/
import Derived.Test.YteikakoheibnjaaDoorQ24
import Derived.ChangeOld
import Derived.Deep.Slices
import Derived.LaidMore
import Derived.Lay
import Derived.Lib.LaidU8
import Derived.OpenShut
import Derived.ProofKit
import Derived.SevenTiedAt
import Derived.Shelf.Unicode.DecodeSlow
import Derived.SizedLaws
import Derived.Stop.Joined
import Derived.Stop.LaidErr
import Derived.Test.YteikakoheibnjaaDoorCards
import Derived.Test.YteikakoheibnjaaDoorProg
import Derived.Test.YteikakoheibnjaaDoorRows
import Derived.Test.YteikakoheibnjaaDoorTie
namespace Go.Proofs.YteikakoheibnjaaDoor
open Go Go.RowKit

theorem blk_bel {w w' : World} {g : Nat} {t : TypeId} {cs : Array Value} (h : Blk w g t cs) (hb : Below w.heap.size w w') : Blk w' g t cs := (hb.block g h.lt).trans h
set_option maxRecDepth 100000 in
set_option maxHeartbeats 16000000 in
theorem psameP_any (p p2 : ProgP) (L L2 : ProgL) (w : World) (h : ProgAt w w.heap.size p L) (h2 : ProgAt w w.heap.size p2 L2) (hs : sameP p p2 = true) :
  Calls Tryd.prog 20 #[progT p L, progT p2 L2] w fun e w' => e = .returned (.bool true) ∧ Below w.heap.size w w' := by
 obtain ⟨ds, ps, ⟨o, s, n, q, ks⟩⟩ := p
 obtain ⟨es, rs, ⟨o2, s2, n2, q2, ls⟩⟩ := p2
 obtain ⟨Ad, cd, Ap, cp, Ak, ck⟩ := L
 obtain ⟨Ad2, cd2, Ap2, cp2, Ak2, ck2⟩ := L2
 simp only [sameP, Bool.and_eq_true] at hs
 obtain ⟨⟨hs1, hs2⟩, hs3⟩ := hs
 obtain ⟨hlen, hat⟩ := sameQs_at ps rs hs2
 have HAT := Lib.hid hat
 have HPR := Lib.hid h.preds
 have HPR2 := Lib.hid h2.preds
 have hl1 := h.preds.small
 have hl2 := h2.preds.small
 have hl3 := h.preds.cap_
 have hl4 := h2.preds.cap_
 simp only at hl1 hl2 hl3 hl4
 have HD := Lib.hid (fun W (hW : Below w.heap.size w W) => psameDs_any (h.decls.later hW hW.size) (h2.decls.later hW hW.size) hs1)
 have HM := Lib.hid (fun W (hW : Below w.heap.size w W) => psame_any _ _ _ _ _ _ W (h.main.later hW hW.size) (h2.main.later hW hW.size) hs3)
 have gl : ((ps.length : Int) != (rs.length : Int)) = false := by rw [hlen]; simp
 have HL := Lib.hid hlen
 have hle : (ps.length : Int) ≤ (rs.length : Int) := by omega
 clear h h2 hs1 hs2 hs3 hat hlen
 simp only [progW, nodeW, Node.op, Node.name, Node.num, Node.pos, Node.kids] at HD HM ⊢
 go_enter Tryd.func20, Tryd.ntmps20
 go_upto_region 1 with fail
 refine wp_named (fun W => Below w.heap.size w W ∧ Blk W w.heap.size 33 #[.slice Ad ds.length cd, .slice Ap ps.length cp, .string ⟨o.toArray⟩, .string ⟨s.toArray⟩, .int .i64 n, .int .i64 q, .slice Ak ks.length ck] ∧ Blk W (w.heap.size + 1) 33 #[.slice Ad2 es.length cd2, .slice Ap2 rs.length cp2, .string ⟨o2.toArray⟩, .string ⟨s2.toArray⟩, .int .i64 n2, .int .i64 q2, .slice Ak2 ls.length ck2]) ⟨((Below.refl _ _).alloc (Nat.le_refl _) _).alloc (by simp) _, blk_alloc (blk_new _ _ _) _, blk_new_at (by simp)⟩ ?_
 rintro w3 ⟨hb, hx0, hx1⟩
 have HB3 := Lib.hid hb
 have HX0_3 := Lib.hid hx0
 have HX1_3 := Lib.hid hx1
 obtain ⟨r3_0_0, r3_0_1, r3_0_2, r3_0_3, r3_0_4, r3_0_5, r3_0_6⟩ := blk7 HX0_3.out
 obtain ⟨r3_1_0, r3_1_1, r3_1_2, r3_1_3, r3_1_4, r3_1_5, r3_1_6⟩ := blk7 HX1_3.out
 clear hb hx0 hx1
 go_wp2_with (first
  | (
    go_at_call 49
    have hgd := HB4
    clear hgd
    refine (HM.out _ HB4.out).mono ?_
    rintro e w5 ⟨rfl, hb⟩
    have HB5 := Lib.hid (HB4.out.trans (hb.mono HB4.out.size))
    have HX0_5 := Lib.hid (blk_bel HX0_4.out hb)
    have HX1_5 := Lib.hid (blk_bel HX1_4.out hb)
    obtain ⟨r5_0_0, r5_0_1, r5_0_2, r5_0_3, r5_0_4, r5_0_5, r5_0_6⟩ := blk7 HX0_5.out
    obtain ⟨r5_1_0, r5_1_1, r5_1_2, r5_1_3, r5_1_4, r5_1_5, r5_1_6⟩ := blk7 HX1_5.out
    clear r4_0_0 r4_0_1 r4_0_2 r4_0_3 r4_0_4 r4_0_5 r4_0_6 r4_1_0 r4_1_1 r4_1_2 r4_1_3 r4_1_4 r4_1_5 r4_1_6
    clear hb)
  | (
    go_at_call 48
    have hgd := HB3
    clear hgd
    refine (HD.out _ HB3.out).mono ?_
    rintro e w4 ⟨rfl, nn, hw⟩
    have hb : Below w3.heap.size w3 w4 := by rw [hw]; exact Below.drewN_ (Below.refl _ _) _
    clear hw
    have HB4 := Lib.hid (HB3.out.trans (hb.mono HB3.out.size))
    have HX0_4 := Lib.hid (blk_bel HX0_3.out hb)
    have HX1_4 := Lib.hid (blk_bel HX1_3.out hb)
    obtain ⟨r4_0_0, r4_0_1, r4_0_2, r4_0_3, r4_0_4, r4_0_5, r4_0_6⟩ := blk7 HX0_4.out
    obtain ⟨r4_1_0, r4_1_1, r4_1_2, r4_1_3, r4_1_4, r4_1_5, r4_1_6⟩ := blk7 HX1_4.out
    clear r3_0_0 r3_0_1 r3_0_2 r3_0_3 r3_0_4 r3_0_5 r3_0_6 r3_1_0 r3_1_1 r3_1_2 r3_1_3 r3_1_4 r3_1_5 r3_1_6
    clear hb))
 all_goals
  go_loopg [5] ps.length (fun r i wr => ∃ k : Nat, k ≤ ps.length ∧ r = ps.length - k ∧ i = .int .i64 (k : Int) ∧ Hid (Below w.heap.size w wr) ∧ Hid (Blk wr w.heap.size 33 #[.slice Ad ds.length cd, .slice Ap ps.length cp, .string ⟨o.toArray⟩, .string ⟨s.toArray⟩, .int .i64 n, .int .i64 q, .slice Ak ks.length ck]) ∧ Hid (Blk wr (w.heap.size + 1) 33 #[.slice Ad2 es.length cd2, .slice Ap2 rs.length cp2, .string ⟨o2.toArray⟩, .string ⟨s2.toArray⟩, .int .i64 n2, .int .i64 q2, .slice Ak2 ls.length ck2]))
  case atStart => exact ⟨0, Nat.zero_le _, rfl, rfl, HB5, HX0_5, HX1_5⟩
  case round =>
   obtain ⟨k, hk, hr, rfl, HBr, HX0_r, HX1_r⟩ := hrel
   have HRr := Lib.hid hr
   clear hr HB5 HX0_5 HX1_5 HB4 HX0_4 HX1_4 HB3 HX0_3 HX1_3 r5_0_0 r5_0_1 r5_0_2 r5_0_3 r5_0_4 r5_0_5 r5_0_6 r5_1_0 r5_1_1 r5_1_2 r5_1_3 r5_1_4 r5_1_5 r5_1_6 HD HM
   obtain ⟨rr_0_0, rr_0_1, rr_0_2, rr_0_3, rr_0_4, rr_0_5, rr_0_6⟩ := blk7 HX0_r.out
   obtain ⟨rr_1_0, rr_1_1, rr_1_2, rr_1_3, rr_1_4, rr_1_5, rr_1_6⟩ := blk7 HX1_r.out
   by_cases hlt : k < ps.length
   · have hlt2 : k < rs.length := by have := HL.out; omega
     obtain ⟨bb, off, A1, c1, A2, c2, rfl, hlo, hc, hd, hn⟩ := HPR.out.at_ k hlt
     obtain ⟨bb2, off2, B1, d1, B2, d2, rfl, hlo2, hc2, hd2, hn2⟩ := HPR2.out.at_ k hlt2
     obtain ⟨en, ep, eb⟩ := HAT.out k hlt hlt2
     try simp only at hc hd hn hc2 hd2 hn2 en ep eb
     generalize ps[k]'hlt = x at *
     generalize rs[k]'hlt2 = y at *
     have HDD := Lib.hid (fun W (hW : Below w.heap.size w W) => psameDs_any (hd.later hW hW.size) (hd2.later hW hW.size) ep)
     have HMM := Lib.hid (fun W (hW : Below w.heap.size w W) => psame_any _ _ _ _ _ _ W (hn.later hW hW.size) (hn2.later hW hW.size) eb)
     have gn : (!x.name == y.name) = false := by rw [en]; simp
     simp only [nodeW] at HMM
     clear hd hd2 hn hn2 ep eb en HPR HPR2 HAT
     have g1 : decide ((k : Int) < (ps.length : Int)) = true := decide_eq_true (by omega)
     have hk0 : (0 : Int) ≤ (k : Int) := Int.natCast_nonneg _
     have hk1 : (k : Int) < (ps.length : Int) := by omega
     have hk2 : (k : Int) < (rs.length : Int) := by omega
     have HQC := Lib.hid hc
     have HQD := Lib.hid hc2
     clear hc hc2
     have HSS := Lib.hid (fun W (hW : Below wr.heap.size wr W) => (⟨(blk7 (blk_bel HX0_r.out hW)).2.1, (blk7 (blk_bel HX1_r.out hW)).2.1,
      ⟨(hW.cell (p := ⟨_, _, none⟩) (Nat.lt_of_lt_of_le hlo HBr.out.size)).trans ((HBr.out.cell (p := ⟨_, _, none⟩) hlo).trans HQC.out.1), (hW.cell (p := ⟨_, _, none⟩) (Nat.lt_of_lt_of_le hlo HBr.out.size)).trans ((HBr.out.cell (p := ⟨_, _, none⟩) hlo).trans HQC.out.2.1), (hW.cell (p := ⟨_, _, none⟩) (Nat.lt_of_lt_of_le hlo HBr.out.size)).trans ((HBr.out.cell (p := ⟨_, _, none⟩) hlo).trans HQC.out.2.2.1), (hW.cell (p := ⟨_, _, none⟩) (Nat.lt_of_lt_of_le hlo HBr.out.size)).trans ((HBr.out.cell (p := ⟨_, _, none⟩) hlo).trans HQC.out.2.2.2.1), (hW.cell (p := ⟨_, _, none⟩) (Nat.lt_of_lt_of_le hlo HBr.out.size)).trans ((HBr.out.cell (p := ⟨_, _, none⟩) hlo).trans HQC.out.2.2.2.2.1), (hW.cell (p := ⟨_, _, none⟩) (Nat.lt_of_lt_of_le hlo HBr.out.size)).trans ((HBr.out.cell (p := ⟨_, _, none⟩) hlo).trans HQC.out.2.2.2.2.2.1), (hW.cell (p := ⟨_, _, none⟩) (Nat.lt_of_lt_of_le hlo HBr.out.size)).trans ((HBr.out.cell (p := ⟨_, _, none⟩) hlo).trans HQC.out.2.2.2.2.2.2.1), (hW.cell (p := ⟨_, _, none⟩) (Nat.lt_of_lt_of_le hlo HBr.out.size)).trans ((HBr.out.cell (p := ⟨_, _, none⟩) hlo).trans HQC.out.2.2.2.2.2.2.2)⟩, ⟨(hW.cell (p := ⟨_, _, none⟩) (Nat.lt_of_lt_of_le hlo2 HBr.out.size)).trans ((HBr.out.cell (p := ⟨_, _, none⟩) hlo2).trans HQD.out.1), (hW.cell (p := ⟨_, _, none⟩) (Nat.lt_of_lt_of_le hlo2 HBr.out.size)).trans ((HBr.out.cell (p := ⟨_, _, none⟩) hlo2).trans HQD.out.2.1), (hW.cell (p := ⟨_, _, none⟩) (Nat.lt_of_lt_of_le hlo2 HBr.out.size)).trans ((HBr.out.cell (p := ⟨_, _, none⟩) hlo2).trans HQD.out.2.2.1), (hW.cell (p := ⟨_, _, none⟩) (Nat.lt_of_lt_of_le hlo2 HBr.out.size)).trans ((HBr.out.cell (p := ⟨_, _, none⟩) hlo2).trans HQD.out.2.2.2.1), (hW.cell (p := ⟨_, _, none⟩) (Nat.lt_of_lt_of_le hlo2 HBr.out.size)).trans ((HBr.out.cell (p := ⟨_, _, none⟩) hlo2).trans HQD.out.2.2.2.2.1), (hW.cell (p := ⟨_, _, none⟩) (Nat.lt_of_lt_of_le hlo2 HBr.out.size)).trans ((HBr.out.cell (p := ⟨_, _, none⟩) hlo2).trans HQD.out.2.2.2.2.2.1), (hW.cell (p := ⟨_, _, none⟩) (Nat.lt_of_lt_of_le hlo2 HBr.out.size)).trans ((HBr.out.cell (p := ⟨_, _, none⟩) hlo2).trans HQD.out.2.2.2.2.2.2.1), (hW.cell (p := ⟨_, _, none⟩) (Nat.lt_of_lt_of_le hlo2 HBr.out.size)).trans ((HBr.out.cell (p := ⟨_, _, none⟩) hlo2).trans HQD.out.2.2.2.2.2.2.2)⟩⟩ : W.cell? ⟨w.heap.size, 1, none⟩ = some (.slice (some ⟨bb, off, none⟩) ps.length cp) ∧ W.cell? ⟨w.heap.size + 1, 1, none⟩ = some (.slice (some ⟨bb2, off2, none⟩) rs.length cp2) ∧ (W.cell? ⟨bb, off + k * 8, none⟩ = some (.string ⟨x.name.toArray⟩) ∧ W.cell? ⟨bb, off + k * 8 + 1, none⟩ = some (.slice A1 x.params.length c1) ∧ W.cell? ⟨bb, off + k * 8 + 2, none⟩ = some (.string ⟨x.body.op.toArray⟩) ∧ W.cell? ⟨bb, off + k * 8 + 3, none⟩ = some (.string ⟨x.body.name.toArray⟩) ∧ W.cell? ⟨bb, off + k * 8 + 4, none⟩ = some (.int .i64 x.body.num) ∧ W.cell? ⟨bb, off + k * 8 + 5, none⟩ = some (.int .i64 x.body.pos) ∧ W.cell? ⟨bb, off + k * 8 + 6, none⟩ = some (.slice A2 x.body.kids.length c2) ∧ W.cell? ⟨bb, off + k * 8 + 7, none⟩ = some (.int .i64 x.at_)) ∧ (W.cell? ⟨bb2, off2 + k * 8, none⟩ = some (.string ⟨y.name.toArray⟩) ∧ W.cell? ⟨bb2, off2 + k * 8 + 1, none⟩ = some (.slice B1 y.params.length d1) ∧ W.cell? ⟨bb2, off2 + k * 8 + 2, none⟩ = some (.string ⟨y.body.op.toArray⟩) ∧ W.cell? ⟨bb2, off2 + k * 8 + 3, none⟩ = some (.string ⟨y.body.name.toArray⟩) ∧ W.cell? ⟨bb2, off2 + k * 8 + 4, none⟩ = some (.int .i64 y.body.num) ∧ W.cell? ⟨bb2, off2 + k * 8 + 5, none⟩ = some (.int .i64 y.body.pos) ∧ W.cell? ⟨bb2, off2 + k * 8 + 6, none⟩ = some (.slice B2 y.body.kids.length d2) ∧ W.cell? ⟨bb2, off2 + k * 8 + 7, none⟩ = some (.int .i64 y.at_))))
     go_upto_region 6 with fail
     go_cut [6, 7] from 38 to 47 (fun u v wx => ∃ bx by_, u = .pointer (some ⟨bx, 0, none⟩) ∧ v = .pointer (some ⟨by_, 0, none⟩) ∧ Below wr.heap.size wr wx ∧ Blk wx bx 54 #[.string ⟨x.name.toArray⟩, .slice A1 x.params.length c1, .string ⟨x.body.op.toArray⟩, .string ⟨x.body.name.toArray⟩, .int .i64 x.body.num, .int .i64 x.body.pos, .slice A2 x.body.kids.length c2, .int .i64 x.at_] ∧ Blk wx by_ 54 #[.string ⟨y.name.toArray⟩, .slice B1 y.params.length d1, .string ⟨y.body.op.toArray⟩, .string ⟨y.body.name.toArray⟩, .int .i64 y.body.num, .int .i64 y.body.pos, .slice B2 y.body.kids.length d2, .int .i64 y.at_])
     case first =>
      have hb0 := Below.refl wr.heap.size wr
      go_region_held3 (fun W => W.cell? ⟨w.heap.size, 1, none⟩ = some (.slice (some ⟨bb, off, none⟩) ps.length cp) ∧ W.cell? ⟨w.heap.size + 1, 1, none⟩ = some (.slice (some ⟨bb2, off2, none⟩) rs.length cp2) ∧ (W.cell? ⟨bb, off + k * 8, none⟩ = some (.string ⟨x.name.toArray⟩) ∧ W.cell? ⟨bb, off + k * 8 + 1, none⟩ = some (.slice A1 x.params.length c1) ∧ W.cell? ⟨bb, off + k * 8 + 2, none⟩ = some (.string ⟨x.body.op.toArray⟩) ∧ W.cell? ⟨bb, off + k * 8 + 3, none⟩ = some (.string ⟨x.body.name.toArray⟩) ∧ W.cell? ⟨bb, off + k * 8 + 4, none⟩ = some (.int .i64 x.body.num) ∧ W.cell? ⟨bb, off + k * 8 + 5, none⟩ = some (.int .i64 x.body.pos) ∧ W.cell? ⟨bb, off + k * 8 + 6, none⟩ = some (.slice A2 x.body.kids.length c2) ∧ W.cell? ⟨bb, off + k * 8 + 7, none⟩ = some (.int .i64 x.at_)) ∧ (W.cell? ⟨bb2, off2 + k * 8, none⟩ = some (.string ⟨y.name.toArray⟩) ∧ W.cell? ⟨bb2, off2 + k * 8 + 1, none⟩ = some (.slice B1 y.params.length d1) ∧ W.cell? ⟨bb2, off2 + k * 8 + 2, none⟩ = some (.string ⟨y.body.op.toArray⟩) ∧ W.cell? ⟨bb2, off2 + k * 8 + 3, none⟩ = some (.string ⟨y.body.name.toArray⟩) ∧ W.cell? ⟨bb2, off2 + k * 8 + 4, none⟩ = some (.int .i64 y.body.num) ∧ W.cell? ⟨bb2, off2 + k * 8 + 5, none⟩ = some (.int .i64 y.body.pos) ∧ W.cell? ⟨bb2, off2 + k * 8 + 6, none⟩ = some (.slice B2 y.body.kids.length d2) ∧ W.cell? ⟨bb2, off2 + k * 8 + 7, none⟩ = some (.int .i64 y.at_))) ((refine HSS.out _ ?_; repeat' (first | (with_reducible first | exact hb0 | apply Below.drew | apply Below.alloc | apply bel_far) | omega | (simp <;> omega)))) (fail)
      all_goals
       go_wp2_with fail
       go_meet
       case rel =>
        refine ⟨_, _, rfl, rfl, ?_, ?_, ?_⟩
        all_goals repeat' (first | (with_reducible first | exact hb0 | exact blk_new _ _ _) | exact blk_new_at (by simp; done) | (with_reducible first | apply Below.drew | apply Below.alloc | apply bel_far | apply predZ | apply blk_drew | apply blk_alloc | apply Blk.other) | omega | (simp; done) | (simp <;> omega))
     case rest =>
      obtain ⟨bx, by_, rfl, rfl, hb6, hbx, hby⟩ := hcut
      obtain ⟨w6, hw6⟩ : ∃ x, x = wc := ⟨_, rfl⟩
      subst hw6
      have HB6 := Lib.hid (HBr.out.trans (hb6.mono HBr.out.size))
      have HX0_6 := Lib.hid (blk_bel HX0_r.out hb6)
      have HX1_6 := Lib.hid (blk_bel HX1_r.out hb6)
      have HYX_6 := Lib.hid hbx
      have HYY_6 := Lib.hid hby
      obtain ⟨u6_0, u6_1, u6_2, u6_3, u6_4, u6_5, u6_6, u6_7⟩ := blkq8 hbx
      obtain ⟨v6_0, v6_1, v6_2, v6_3, v6_4, v6_5, v6_6, v6_7⟩ := blkq8 hby
      obtain ⟨r6_0_0, r6_0_1, r6_0_2, r6_0_3, r6_0_4, r6_0_5, r6_0_6⟩ := blk7 HX0_6.out
      obtain ⟨r6_1_0, r6_1_1, r6_1_2, r6_1_3, r6_1_4, r6_1_5, r6_1_6⟩ := blk7 HX1_6.out
      clear rr_0_0 rr_0_1 rr_0_2 rr_0_3 rr_0_4 rr_0_5 rr_0_6 rr_1_0 rr_1_1 rr_1_2 rr_1_3 rr_1_4 rr_1_5 rr_1_6
      clear hb6 hbx hby HSS HQC HQD
      go_wp2_with (first
       | (
         go_at_call 49
         have hgd := HB7
         clear hgd
         refine (HMM.out _ HB7.out).mono ?_
         rintro e w8 ⟨rfl, hb⟩
         have HB8 := Lib.hid (HB7.out.trans (hb.mono HB7.out.size))
         have HX0_8 := Lib.hid (blk_bel HX0_7.out hb)
         have HX1_8 := Lib.hid (blk_bel HX1_7.out hb)
         obtain ⟨r8_0_0, r8_0_1, r8_0_2, r8_0_3, r8_0_4, r8_0_5, r8_0_6⟩ := blk7 HX0_8.out
         obtain ⟨r8_1_0, r8_1_1, r8_1_2, r8_1_3, r8_1_4, r8_1_5, r8_1_6⟩ := blk7 HX1_8.out
         clear r7_0_0 r7_0_1 r7_0_2 r7_0_3 r7_0_4 r7_0_5 r7_0_6 r7_1_0 r7_1_1 r7_1_2 r7_1_3 r7_1_4 r7_1_5 r7_1_6
         clear hb)
       | (
         go_at_call 48
         have hgd := HB6
         clear hgd
         refine (HDD.out _ HB6.out).mono ?_
         rintro e w7 ⟨rfl, nn, hw⟩
         have hb : Below w6.heap.size w6 w7 := by rw [hw]; exact Below.drewN_ (Below.refl _ _) _
         clear hw
         have HB7 := Lib.hid (HB6.out.trans (hb.mono HB6.out.size))
         have HX0_7 := Lib.hid (blk_bel HX0_6.out hb)
         have HX1_7 := Lib.hid (blk_bel HX1_6.out hb)
         have HYX_7 := Lib.hid (blk_bel HYX_6.out hb)
         have HYY_7 := Lib.hid (blk_bel HYY_6.out hb)
         obtain ⟨u7_0, u7_1, u7_2, u7_3, u7_4, u7_5, u7_6, u7_7⟩ := blkq8 HYX_7.out
         obtain ⟨v7_0, v7_1, v7_2, v7_3, v7_4, v7_5, v7_6, v7_7⟩ := blkq8 HYY_7.out
         clear u6_0 u6_1 u6_2 u6_3 u6_4 u6_5 u6_6 u6_7 v6_0 v6_1 v6_2 v6_3 v6_4 v6_5 v6_6 v6_7
         obtain ⟨r7_0_0, r7_0_1, r7_0_2, r7_0_3, r7_0_4, r7_0_5, r7_0_6⟩ := blk7 HX0_7.out
         obtain ⟨r7_1_0, r7_1_1, r7_1_2, r7_1_3, r7_1_4, r7_1_5, r7_1_6⟩ := blk7 HX1_7.out
         clear r6_0_0 r6_0_1 r6_0_2 r6_0_3 r6_0_4 r6_0_5 r6_0_6 r6_1_0 r6_1_1 r6_1_2 r6_1_3 r6_1_4 r6_1_5 r6_1_6
         clear hb))
      all_goals
       go_roundg (ps.length - (k + 1))
       case measure => have := HRr.out; omega
       case rel => exact ⟨k + 1, by omega, rfl, by go_num, HB8, HX0_8, HX1_8⟩
   · have g1 : decide ((k : Int) < (ps.length : Int)) = false := decide_eq_false (by omega)
     go_wp2_with fail
     go_ret
     exact ⟨rfl, HBr.out⟩
end Go.Proofs.YteikakoheibnjaaDoor
namespace Go.Proofs.YteikakoheibnjaaDoor
open Go Go.RowKit

theorem fine_of (p : ProgP) (L : ProgL) (w : World) (h : ProgAt w w.heap.size p L) (hT : Tab8 w) : Calls Tryd.prog 16 #[progT p L] w fun e w' => e = .returned (.bool (fineB p)) ∧ Below w.heap.size w w' := by
 obtain ⟨ds, ps, ⟨o, s, n, q, ks⟩⟩ := p
 exact fine_any ds ps o s n q ks L w h hT
theorem sprog_of (p : ProgP) (L : ProgL) (w : World) (h : ProgAt w w.heap.size p L) (hf : fineB p = true) : Calls Tryd.prog 17 #[progT p L] w fun e w' => e = .returned (.string ⟨(progS p).toArray⟩) ∧ Below w.heap.size w w' := by
 obtain ⟨ds, ps, ⟨o, s, n, q, ks⟩⟩ := p
 exact sprog_any ds ps o s n q ks L w h (fine_parts hf).2.2.2.2 (fine_parts hf).1 (fine_parts hf).2.1 (fine_parts hf).2.2.1 (fine_parts hf).2.2.2.1
set_option maxRecDepth 100000 in
set_option maxHeartbeats 16000000 in
theorem lawBack_any (p : ProgP) (L : ProgL) (w : World) (h : ProgAt w w.heap.size p L) (hT : Tab8 w) :
  Calls Tryd.prog 5 #[progT p L] w fun e w' => e = .returned (.bool true) ∧ Below w.heap.size w w' := by
 have HF := Lib.hid (fun W (hW : Below w.heap.size w W) => fine_of p L W (h.later hW hW.size) (Go.Proofs.Utf8Tabs_below hT hW))
 cases hff : fineB p with
 | false =>
   rw [hff] at HF
   clear h hT hff
   obtain ⟨ds, ps, ⟨o, s, n, q, ks⟩⟩ := p
   obtain ⟨Ad, cd, Ap, cp, Ak, ck⟩ := L
   simp only [progW, Node.op, Node.name, Node.num, Node.pos, Node.kids] at HF ⊢
   go_enter Tryd.func5, Tryd.ntmps5
   go_upto_region 1 with fail
   refine wp_named (fun W => Below w.heap.size w W ∧ Blk W w.heap.size 33 #[.slice Ad ds.length cd, .slice Ap ps.length cp, .string ⟨o.toArray⟩, .string ⟨s.toArray⟩, .int .i64 n, .int .i64 q, .slice Ak ks.length ck]) ⟨(Below.refl _ _).alloc (Nat.le_refl _) _, blk_new _ _ _⟩ ?_
   rintro w1 ⟨hb, hx0⟩
   have HB1 := Lib.hid hb
   have HX0_1 := Lib.hid hx0
   obtain ⟨r1_0_0, r1_0_1, r1_0_2, r1_0_3, r1_0_4, r1_0_5, r1_0_6⟩ := blk7 HX0_1.out
   clear hb hx0
   go_wp2_with (
    go_at_call 16
    have hgd := HB1
    clear hgd
    refine (HF.out _ HB1.out).mono ?_
    rintro e w2 ⟨rfl, hb⟩
    have HB2 := Lib.hid (HB1.out.trans (hb.mono HB1.out.size))
    have HX0_2 := Lib.hid (blk_bel HX0_1.out hb)
    obtain ⟨r2_0_0, r2_0_1, r2_0_2, r2_0_3, r2_0_4, r2_0_5, r2_0_6⟩ := blk7 HX0_2.out
    clear r1_0_0 r1_0_1 r1_0_2 r1_0_3 r1_0_4 r1_0_5 r1_0_6
    clear hb)
   all_goals
    go_ret
    exact ⟨rfl, HB2.out⟩
 | true =>
   have HS := Lib.hid (fun W (hW : Below w.heap.size w W) => sprog_of p L W (h.later hW hW.size) hff)
   have HPA := Lib.hid (fun W (hW : Below w.heap.size w W) => parse_any (progS p) (Nat.le_trans (progS_len hff) (by omega)) W (Go.Proofs.Utf8Tabs_below hT hW))
   have HAT := Lib.hid (fun W (hW : Below w.heap.size w W) => h.later hW hW.size)
   have HFQ := Lib.hid (fun q (hq : erP q = erP p) => fineB_same hq)
   have HSQ := Lib.hid (fun q (hq : erP q = erP p) => progS_same hq)
   have hpf := parse_fine hff
   rw [hff] at HF HFQ
   clear h hT hff
   generalize hY : progS p = Y at *
   clear hY
   generalize parseP Y = r at *
   obtain ⟨q, a, e0⟩ := r
   unfold ParsePost at HPA
   simp only at HPA hpf
   have hyy : (Y == Y) = true := beq_self_eq_true Y
   have HC := Lib.hid (show (e0 = 3 ∨ e0 = 4) ∨ (e0 = 0 ∧ erP q = erP p) by
    rcases hpf with h1 | h1 | ⟨q', a', h1, h2⟩
    · exact .inl (.inl h1)
    · exact .inl (.inr h1)
    · injection h1 with h3 h4
      injection h4 with h4 h5
      subst h3
      exact .inr ⟨h5, h2⟩)
   clear hpf
   have HSM := Lib.hid (fun (hq : erP q = erP p) W w4 L2 (hW : Below w.heap.size w W) (h2 : ProgAt w4 w4.heap.size q L2) (hb : Below w4.heap.size w4 W) => psameP_any p q L L2 W (HAT.out W hW) (h2.later hb hb.size) (sameP_of hq.symm))
   have HSP := Lib.hid (fun (hq : erP q = erP p) W w4 L2 (h2 : ProgAt w4 w4.heap.size q L2) (hb : Below w4.heap.size w4 W) => sprog_of q L2 W (h2.later hb hb.size) (HFQ.out q hq))
   have HSQ2 := Lib.hid (fun (hq : erP q = erP p) => HSQ.out q hq)
   clear HAT HFQ HSQ
   generalize progS q = Y2 at *
   generalize hep : erP q = eq_ at *
   generalize erP p = ep_ at *
   clear hep
   obtain ⟨ds, ps, ⟨o, s, n, qq, ks⟩⟩ := p
   obtain ⟨Ad, cd, Ap, cp, Ak, ck⟩ := L
   have HQAT := Lib.hid (fun (W : World) (L2 : ProgL) (h : ProgAt W W.heap.size q L2) => h)
   obtain ⟨es, rs, ⟨o2, s2, n2, q2, ls⟩⟩ := q
   simp only [progW, Node.op, Node.name, Node.num, Node.pos, Node.kids] at HF HS HPA HSM HSP ⊢
   go_enter Tryd.func5, Tryd.ntmps5
   go_upto_region 1 with fail
   refine wp_named (fun W => Below w.heap.size w W ∧ Blk W w.heap.size 33 #[.slice Ad ds.length cd, .slice Ap ps.length cp, .string ⟨o.toArray⟩, .string ⟨s.toArray⟩, .int .i64 n, .int .i64 qq, .slice Ak ks.length ck]) ⟨(Below.refl _ _).alloc (Nat.le_refl _) _, blk_new _ _ _⟩ ?_
   rintro w1 ⟨hb, hx0⟩
   have HB1 := Lib.hid hb
   have HX0_1 := Lib.hid hx0
   obtain ⟨r1_0_0, r1_0_1, r1_0_2, r1_0_3, r1_0_4, r1_0_5, r1_0_6⟩ := blk7 HX0_1.out
   clear hb hx0
   go_upto_region 5 with (first
    | (
      go_at_call 19
      have hgd := HB3
      clear hgd
      refine (HPA.out _ HB3.out).mono ?_
      intro e w4 hpost
      obtain ⟨L2, rfl, hat, hb⟩ := hpost
      obtain ⟨Ad2, cd2, Ap2, cp2, Ak2, ck2⟩ := L2
      simp only
      have HB4 := Lib.hid (HB3.out.trans (hb.mono HB3.out.size))
      have HX0_4 := Lib.hid (blk_bel HX0_3.out hb)
      obtain ⟨r4_0_0, r4_0_1, r4_0_2, r4_0_3, r4_0_4, r4_0_5, r4_0_6⟩ := blk7 HX0_4.out
      clear r3_0_0 r3_0_1 r3_0_2 r3_0_3 r3_0_4 r3_0_5 r3_0_6
      have HQ4 := Lib.hid hat
      clear hat
      clear hb)
    | (
      go_at_call 17
      have hgd := HB2
      clear hgd
      refine (HS.out _ HB2.out).mono ?_
      rintro e w3 ⟨rfl, hb⟩
      have HB3 := Lib.hid (HB2.out.trans (hb.mono HB2.out.size))
      have HX0_3 := Lib.hid (blk_bel HX0_2.out hb)
      obtain ⟨r3_0_0, r3_0_1, r3_0_2, r3_0_3, r3_0_4, r3_0_5, r3_0_6⟩ := blk7 HX0_3.out
      clear r2_0_0 r2_0_1 r2_0_2 r2_0_3 r2_0_4 r2_0_5 r2_0_6
      clear hb)
    | (
      go_at_call 16
      have hgd := HB1
      clear hgd
      refine (HF.out _ HB1.out).mono ?_
      rintro e w2 ⟨rfl, hb⟩
      have HB2 := Lib.hid (HB1.out.trans (hb.mono HB1.out.size))
      have HX0_2 := Lib.hid (blk_bel HX0_1.out hb)
      obtain ⟨r2_0_0, r2_0_1, r2_0_2, r2_0_3, r2_0_4, r2_0_5, r2_0_6⟩ := blk7 HX0_2.out
      clear r1_0_0 r1_0_1 r1_0_2 r1_0_3 r1_0_4 r1_0_5 r1_0_6
      clear hb))
   refine wp_named (fun W => Below w.heap.size w W ∧ Below w4.heap.size w4 W ∧ Blk W w.heap.size 33 #[.slice Ad ds.length cd, .slice Ap ps.length cp, .string ⟨o.toArray⟩, .string ⟨s.toArray⟩, .int .i64 n, .int .i64 qq, .slice Ak ks.length ck] ∧ Blk W w4.heap.size 33 #[.slice Ad2 es.length cd2, .slice Ap2 rs.length cp2, .string ⟨o2.toArray⟩, .string ⟨s2.toArray⟩, .int .i64 n2, .int .i64 q2, .slice Ak2 ls.length ck2]) ⟨HB4.out.alloc HB4.out.size _, (Below.refl _ _).alloc (Nat.le_refl _) _, blk_alloc HX0_4.out _, blk_new _ _ _⟩ ?_
   clear r4_0_0 r4_0_1 r4_0_2 r4_0_3 r4_0_4 r4_0_5 r4_0_6
   rintro w5 ⟨hb, hb4, hx0, hx1⟩
   have HB5 := Lib.hid hb
   have HB45 := Lib.hid hb4
   have HX0_5 := Lib.hid hx0
   have HX1_5 := Lib.hid hx1
   obtain ⟨r5_0_0, r5_0_1, r5_0_2, r5_0_3, r5_0_4, r5_0_5, r5_0_6⟩ := blk7 HX0_5.out
   obtain ⟨r5_1_0, r5_1_1, r5_1_2, r5_1_3, r5_1_4, r5_1_5, r5_1_6⟩ := blk7 HX1_5.out
   clear hb hb4 hx0 hx1
   rcases HC.out with he | ⟨he, hq⟩
   · rcases he with he | he
     all_goals
      subst he
      go_wp2_with (
       go_at_call 15
       have hgd := HB5
       clear hgd
       refine (known5_any _).mono ?_
       rintro e w6 ⟨rfl, hb⟩
       have HB6 := Lib.hid (HB5.out.trans (hb.mono HB5.out.size))
       have HX0_6 := Lib.hid (blk_bel HX0_5.out hb)
       have HX1_6 := Lib.hid (blk_bel HX1_5.out hb)
       obtain ⟨r6_0_0, r6_0_1, r6_0_2, r6_0_3, r6_0_4, r6_0_5, r6_0_6⟩ := blk7 HX0_6.out
       obtain ⟨r6_1_0, r6_1_1, r6_1_2, r6_1_3, r6_1_4, r6_1_5, r6_1_6⟩ := blk7 HX1_6.out
       clear r5_0_0 r5_0_1 r5_0_2 r5_0_3 r5_0_4 r5_0_5 r5_0_6 r5_1_0 r5_1_1 r5_1_2 r5_1_3 r5_1_4 r5_1_5 r5_1_6
       clear hb)
      all_goals
       go_ret
       exact ⟨rfl, HB6.out⟩
   · have HSM2 := Lib.hid (HSM.out hq)
     have HSP2 := Lib.hid (HSP.out hq)
     have hy2 := HSQ2.out hq
     subst he
     subst hy2
     clear hq HSM HSP HSQ2 HC
     go_wp2_with (first
      | (
        go_at_call 15
        have hgd := HB7
        clear hgd
        refine (known5_any _).mono ?_
        rintro e w8 ⟨rfl, hb⟩
        have HB8 := Lib.hid (HB7.out.trans (hb.mono HB7.out.size))
        have HX0_8 := Lib.hid (blk_bel HX0_7.out hb)
        have HX1_8 := Lib.hid (blk_bel HX1_7.out hb)
        obtain ⟨r8_0_0, r8_0_1, r8_0_2, r8_0_3, r8_0_4, r8_0_5, r8_0_6⟩ := blk7 HX0_8.out
        obtain ⟨r8_1_0, r8_1_1, r8_1_2, r8_1_3, r8_1_4, r8_1_5, r8_1_6⟩ := blk7 HX1_8.out
        clear r7_0_0 r7_0_1 r7_0_2 r7_0_3 r7_0_4 r7_0_5 r7_0_6 r7_1_0 r7_1_1 r7_1_2 r7_1_3 r7_1_4 r7_1_5 r7_1_6
        clear hb)
      | (
        go_at_call 17
        have hgd := HB6
        clear hgd
        refine (HSP2.out _ _ _ HQ4.out HB46.out).mono ?_
        rintro e w7 ⟨rfl, hb⟩
        have HB7 := Lib.hid (HB6.out.trans (hb.mono HB6.out.size))
        have HX0_7 := Lib.hid (blk_bel HX0_6.out hb)
        have HX1_7 := Lib.hid (blk_bel HX1_6.out hb)
        obtain ⟨r7_0_0, r7_0_1, r7_0_2, r7_0_3, r7_0_4, r7_0_5, r7_0_6⟩ := blk7 HX0_7.out
        obtain ⟨r7_1_0, r7_1_1, r7_1_2, r7_1_3, r7_1_4, r7_1_5, r7_1_6⟩ := blk7 HX1_7.out
        clear r6_0_0 r6_0_1 r6_0_2 r6_0_3 r6_0_4 r6_0_5 r6_0_6 r6_1_0 r6_1_1 r6_1_2 r6_1_3 r6_1_4 r6_1_5 r6_1_6
        clear hb)
      | (
        go_at_call 20
        have hgd := HB5
        clear hgd
        refine (HSM2.out _ _ _ HB5.out HQ4.out HB45.out).mono ?_
        rintro e w6 ⟨rfl, hb⟩
        have HB6 := Lib.hid (HB5.out.trans (hb.mono HB5.out.size))
        have HX0_6 := Lib.hid (blk_bel HX0_5.out hb)
        have HX1_6 := Lib.hid (blk_bel HX1_5.out hb)
        obtain ⟨r6_0_0, r6_0_1, r6_0_2, r6_0_3, r6_0_4, r6_0_5, r6_0_6⟩ := blk7 HX0_6.out
        obtain ⟨r6_1_0, r6_1_1, r6_1_2, r6_1_3, r6_1_4, r6_1_5, r6_1_6⟩ := blk7 HX1_6.out
        clear r5_0_0 r5_0_1 r5_0_2 r5_0_3 r5_0_4 r5_0_5 r5_0_6 r5_1_0 r5_1_1 r5_1_2 r5_1_3 r5_1_4 r5_1_5 r5_1_6
        have HB46 := Lib.hid (HB45.out.trans (hb.mono HB45.out.size))
        clear hb))
     all_goals
      go_ret
      exact ⟨rfl, HB8.out⟩

set_option maxRecDepth 100000 in
set_option maxHeartbeats 16000000 in
theorem lawText_any (S0 : ByteArray) (w : World) (hs : S0.data.toList.length ≤ 140737488355328) (hT : Tab8 w) :
  Calls Tryd.prog 6 #[.string S0] w fun e w' => e = .returned (.bool true) ∧ Below w.heap.size w w' := by
 have hS0 : S0 = ⟨S0.data.toList.toArray⟩ := by cases S0; rfl
 rw [hS0]
 generalize S0.data.toList = str at *
 clear hS0 S0
 have HPA := Lib.hid (parse_any str hs w hT)
 have HF := Lib.hid (fun p W2 L (h : ProgAt W2 W2.heap.size p L) (hb : Below w.heap.size w W2) W (hW : Below W2.heap.size W2 W) => fine_of p L W (h.later hW hW.size) (Go.Proofs.Utf8Tabs_below hT (hb.trans (hW.mono hb.size))))
 have HTB := Lib.hid (fun W (hW : Below w.heap.size w W) => Go.Proofs.Utf8Tabs_below hT hW)
 have HSZ := Lib.hid (show (⟨str.toArray⟩ : ByteArray).size = str.length by show str.toArray.size = _; simp)
 clear hT
 generalize parseP str = r at *
 obtain ⟨p, a, e0⟩ := r
 unfold ParsePost at HPA
 simp only at HPA
 have HFL := Lib.hid (fun (hf : fineB p = true) => And.intro (progS_len hf) (parse_fine hf))
 have HSP := Lib.hid (fun (hf : fineB p = true) W2 L (h : ProgAt W2 W2.heap.size p L) W (hW : Below W2.heap.size W2 W) => sprog_of p L W (h.later hW hW.size) hf)
 have HSM := Lib.hid (fun q (hq : erP q = erP p) W2 L (h : ProgAt W2 W2.heap.size p L) W4 L2 (h2 : ProgAt W4 W4.heap.size q L2) W (hW : Below W2.heap.size W2 W) (hW4 : Below W4.heap.size W4 W) => psameP_any p q L L2 W (h.later hW hW.size) (h2.later hW4 hW4.size) (sameP_of hq.symm))
 replace HF := Lib.hid (HF.out p)
 generalize hff : fineB p = F at *
 clear hff
 generalize hYY : progS p = Y at *
 clear hYY
 generalize hEP : erP p = ep at *
 clear hEP
 generalize hS : (⟨str.toArray⟩ : ByteArray) = S at *
 clear hS
 obtain ⟨ds, ps, ⟨o, s, n, q, ks⟩⟩ := p
 simp only [progW, Node.op, Node.name, Node.num, Node.pos, Node.kids] at HF HPA HSM HSP
 have hss : (S.size : Int) ≤ 140737488355328 := by have := HSZ.out; omega
 clear HSZ hs
 by_cases hbig : 600 < S.size
 · have g1 : decide ((600 : Int) < (S.size : Int)) = true := decide_eq_true (by omega)
   clear hbig HF HFL HSP HSM HTB
   go_enter Tryd.func6, Tryd.ntmps6
   go_wp2_with (
    go_at_call 19
    refine HPA.out.mono ?_
    intro e w2 hpost
    obtain ⟨L2, rfl, hat, hb⟩ := hpost
    obtain ⟨Ad, cd, Ap, cp, Ak, ck⟩ := L2
    simp only
    have HB2 := Lib.hid hb
    have HQ2 := Lib.hid hat
    clear hat hb)
   all_goals
    go_ret
    exact ⟨rfl, HB2.out.alloc HB2.out.size _⟩
 have g1 : decide ((600 : Int) < (S.size : Int)) = false := decide_eq_false (by omega)
 clear hbig
 by_cases he0 : e0 = 0
 case neg =>
  have g2 : ((e0 : Int) != 0) = true := by simp; omega
  clear he0 HF HFL HSP HSM HTB
  go_enter Tryd.func6, Tryd.ntmps6
  go_wp2_with (
   go_at_call 19
   refine HPA.out.mono ?_
   intro e w2 hpost
   obtain ⟨L2, rfl, hat, hb⟩ := hpost
   obtain ⟨Ad, cd, Ap, cp, Ak, ck⟩ := L2
   simp only
   have HB2 := Lib.hid hb
   have HQ2 := Lib.hid hat
   clear hat hb)
  all_goals
   go_ret
   exact ⟨rfl, HB2.out.alloc HB2.out.size _⟩
 case pos =>
  subst he0
  cases F with
  | false =>
    clear HFL HSP HSM HTB
    go_enter Tryd.func6, Tryd.ntmps6
    go_upto_region 2 with (
     go_at_call 19
     refine HPA.out.mono ?_
     intro e w2 hpost
     obtain ⟨L2, rfl, hat, hb⟩ := hpost
     obtain ⟨Ad, cd, Ap, cp, Ak, ck⟩ := L2
     simp only
     have HB2 := Lib.hid hb
     have HQ2 := Lib.hid hat
     clear hat hb)
    refine wp_named (fun W => Below w.heap.size w W ∧ Below w2.heap.size w2 W ∧ Blk W w2.heap.size 33 #[.slice Ad ds.length cd, .slice Ap ps.length cp, .string ⟨o.toArray⟩, .string ⟨s.toArray⟩, .int .i64 n, .int .i64 q, .slice Ak ks.length ck]) ⟨HB2.out.alloc HB2.out.size _, (Below.refl _ _).alloc (Nat.le_refl _) _, blk_new _ _ _⟩ ?_
    rintro w3 ⟨hb, hb2, hx0⟩
    have HB3 := Lib.hid hb
    have HC3 := Lib.hid hb2
    have HX0_3 := Lib.hid hx0
    obtain ⟨r3_0_0, r3_0_1, r3_0_2, r3_0_3, r3_0_4, r3_0_5, r3_0_6⟩ := blk7 HX0_3.out
    clear hb hb2 hx0
    go_wp2_with (
     go_at_call 16
     have hgd := HB3
     clear hgd
     refine (HF.out _ _ HQ2.out HB2.out _ HC3.out).mono ?_
     rintro e w4 ⟨rfl, hb⟩
     have HB4 := Lib.hid (HB3.out.trans (hb.mono HB3.out.size))
     have HX0_4 := Lib.hid (blk_bel HX0_3.out hb)
     obtain ⟨r4_0_0, r4_0_1, r4_0_2, r4_0_3, r4_0_4, r4_0_5, r4_0_6⟩ := blk7 HX0_4.out
     clear r3_0_0 r3_0_1 r3_0_2 r3_0_3 r3_0_4 r3_0_5 r3_0_6
     have HC4 := Lib.hid (HC3.out.trans (hb.mono HC3.out.size))
     clear hb)
    all_goals
     go_ret
     exact ⟨rfl, HB4.out⟩
  | true =>
    have HFL2 := Lib.hid (HFL.out rfl)
    have HSP2 := Lib.hid (HSP.out rfl)
    clear HFL HSP
    have HPB := Lib.hid (fun W (hW : Below w.heap.size w W) => parse_any Y (Nat.le_trans HFL2.out.1 (by omega)) W (HTB.out W hW))
    have hpf := HFL2.out.2
    clear HFL2 HTB
    generalize parseP Y = r at *
    obtain ⟨qq, a2, e2⟩ := r
    unfold ParsePost at HPB
    simp only at HPB hpf
    have HC := Lib.hid (show (e2 = 3 ∨ e2 = 4) ∨ (e2 = 0 ∧ erP qq = ep) by
     rcases hpf with h1 | h1 | ⟨q', a', h1, h2⟩
     · exact .inl (.inl h1)
     · exact .inl (.inr h1)
     · injection h1 with h3 h4
       injection h4 with h4 h5
       subst h3
       exact .inr ⟨h5, h2⟩)
    clear hpf
    replace HSM := Lib.hid (HSM.out qq)
    generalize hep : erP qq = eq_ at *
    clear hep
    obtain ⟨es, rs, ⟨o2, s2, n2, q2, ls⟩⟩ := qq
    simp only [progW, Node.op, Node.name, Node.num, Node.pos, Node.kids] at HPB HSM
    go_enter Tryd.func6, Tryd.ntmps6
    go_upto_region 2 with (
     go_at_call 19
     refine HPA.out.mono ?_
     intro e w2 hpost
     obtain ⟨L2, rfl, hat, hb⟩ := hpost
     obtain ⟨Ad, cd, Ap, cp, Ak, ck⟩ := L2
     simp only
     have HB2 := Lib.hid hb
     have HQ2 := Lib.hid hat
     clear hat hb)
    refine wp_named (fun W => Below w.heap.size w W ∧ Below w2.heap.size w2 W ∧ Blk W w2.heap.size 33 #[.slice Ad ds.length cd, .slice Ap ps.length cp, .string ⟨o.toArray⟩, .string ⟨s.toArray⟩, .int .i64 n, .int .i64 q, .slice Ak ks.length ck]) ⟨HB2.out.alloc HB2.out.size _, (Below.refl _ _).alloc (Nat.le_refl _) _, blk_new _ _ _⟩ ?_
    rintro w3 ⟨hb, hb2, hx0⟩
    have HB3 := Lib.hid hb
    have HC3 := Lib.hid hb2
    have HX0_3 := Lib.hid hx0
    obtain ⟨r3_0_0, r3_0_1, r3_0_2, r3_0_3, r3_0_4, r3_0_5, r3_0_6⟩ := blk7 HX0_3.out
    clear hb hb2 hx0
    go_upto_region 5 with (first
     | (
       go_at_call 19
       have hgd := HB5
       clear hgd
       refine (HPB.out _ HB5.out).mono ?_
       intro e w6 hpost
       obtain ⟨L2, rfl, hat, hb⟩ := hpost
       obtain ⟨Ad2, cd2, Ap2, cp2, Ak2, ck2⟩ := L2
       simp only
       have HB6 := Lib.hid (HB5.out.trans (hb.mono HB5.out.size))
       have HX0_6 := Lib.hid (blk_bel HX0_5.out hb)
       obtain ⟨r6_0_0, r6_0_1, r6_0_2, r6_0_3, r6_0_4, r6_0_5, r6_0_6⟩ := blk7 HX0_6.out
       clear r5_0_0 r5_0_1 r5_0_2 r5_0_3 r5_0_4 r5_0_5 r5_0_6
       have HC6 := Lib.hid (HC5.out.trans (hb.mono HC5.out.size))
       have HQ6 := Lib.hid hat
       clear hat
       clear hb)
     | (
       go_at_call 17
       have hgd := HB4
       clear hgd
       refine (HSP2.out _ _ HQ2.out _ HC4.out).mono ?_
       rintro e w5 ⟨rfl, hb⟩
       have HB5 := Lib.hid (HB4.out.trans (hb.mono HB4.out.size))
       have HX0_5 := Lib.hid (blk_bel HX0_4.out hb)
       obtain ⟨r5_0_0, r5_0_1, r5_0_2, r5_0_3, r5_0_4, r5_0_5, r5_0_6⟩ := blk7 HX0_5.out
       clear r4_0_0 r4_0_1 r4_0_2 r4_0_3 r4_0_4 r4_0_5 r4_0_6
       have HC5 := Lib.hid (HC4.out.trans (hb.mono HC4.out.size))
       clear hb)
     | (
       go_at_call 16
       have hgd := HB3
       clear hgd
       refine (HF.out _ _ HQ2.out HB2.out _ HC3.out).mono ?_
       rintro e w4 ⟨rfl, hb⟩
       have HB4 := Lib.hid (HB3.out.trans (hb.mono HB3.out.size))
       have HX0_4 := Lib.hid (blk_bel HX0_3.out hb)
       obtain ⟨r4_0_0, r4_0_1, r4_0_2, r4_0_3, r4_0_4, r4_0_5, r4_0_6⟩ := blk7 HX0_4.out
       clear r3_0_0 r3_0_1 r3_0_2 r3_0_3 r3_0_4 r3_0_5 r3_0_6
       have HC4 := Lib.hid (HC3.out.trans (hb.mono HC3.out.size))
       clear hb))
    refine wp_named (fun W => Below w.heap.size w W ∧ Below w2.heap.size w2 W ∧ Below w6.heap.size w6 W ∧ Blk W w2.heap.size 33 #[.slice Ad ds.length cd, .slice Ap ps.length cp, .string ⟨o.toArray⟩, .string ⟨s.toArray⟩, .int .i64 n, .int .i64 q, .slice Ak ks.length ck] ∧ Blk W w6.heap.size 33 #[.slice Ad2 es.length cd2, .slice Ap2 rs.length cp2, .string ⟨o2.toArray⟩, .string ⟨s2.toArray⟩, .int .i64 n2, .int .i64 q2, .slice Ak2 ls.length ck2]) ⟨HB6.out.alloc HB6.out.size _, HC6.out.alloc HC6.out.size _, (Below.refl _ _).alloc (Nat.le_refl _) _, blk_alloc HX0_6.out _, blk_new _ _ _⟩ ?_
    clear r6_0_0 r6_0_1 r6_0_2 r6_0_3 r6_0_4 r6_0_5 r6_0_6
    rintro w7 ⟨hb, hb2, hb6, hx0, hx1⟩
    have HB7 := Lib.hid hb
    have HC7 := Lib.hid hb2
    have HD7 := Lib.hid hb6
    have HX0_7 := Lib.hid hx0
    have HX1_7 := Lib.hid hx1
    obtain ⟨r7_0_0, r7_0_1, r7_0_2, r7_0_3, r7_0_4, r7_0_5, r7_0_6⟩ := blk7 HX0_7.out
    obtain ⟨r7_1_0, r7_1_1, r7_1_2, r7_1_3, r7_1_4, r7_1_5, r7_1_6⟩ := blk7 HX1_7.out
    clear hb hb2 hb6 hx0 hx1
    rcases HC.out with he | ⟨he, hq⟩
    · rcases he with he | he
      all_goals
       subst he
       go_wp2_with (
        go_at_call 15
        have hgd := HB7
        clear hgd
        refine (known5_any _).mono ?_
        rintro e w8 ⟨rfl, hb⟩
        have HB8 := Lib.hid (HB7.out.trans (hb.mono HB7.out.size))
        have HX0_8 := Lib.hid (blk_bel HX0_7.out hb)
        have HX1_8 := Lib.hid (blk_bel HX1_7.out hb)
        obtain ⟨r8_0_0, r8_0_1, r8_0_2, r8_0_3, r8_0_4, r8_0_5, r8_0_6⟩ := blk7 HX0_8.out
        obtain ⟨r8_1_0, r8_1_1, r8_1_2, r8_1_3, r8_1_4, r8_1_5, r8_1_6⟩ := blk7 HX1_8.out
        clear r7_0_0 r7_0_1 r7_0_2 r7_0_3 r7_0_4 r7_0_5 r7_0_6 r7_1_0 r7_1_1 r7_1_2 r7_1_3 r7_1_4 r7_1_5 r7_1_6
        clear hb)
       all_goals
        go_ret
        exact ⟨rfl, HB8.out⟩
    · have HSM2 := Lib.hid (HSM.out hq)
      subst he
      clear hq HSM HC
      go_wp2_with (first
       | (
         go_at_call 15
         have hgd := HB8
         clear hgd
         refine (known5_any _).mono ?_
         rintro e w9 ⟨rfl, hb⟩
         have HB9 := Lib.hid (HB8.out.trans (hb.mono HB8.out.size))
         have HX0_9 := Lib.hid (blk_bel HX0_8.out hb)
         have HX1_9 := Lib.hid (blk_bel HX1_8.out hb)
         obtain ⟨r9_0_0, r9_0_1, r9_0_2, r9_0_3, r9_0_4, r9_0_5, r9_0_6⟩ := blk7 HX0_9.out
         obtain ⟨r9_1_0, r9_1_1, r9_1_2, r9_1_3, r9_1_4, r9_1_5, r9_1_6⟩ := blk7 HX1_9.out
         clear r8_0_0 r8_0_1 r8_0_2 r8_0_3 r8_0_4 r8_0_5 r8_0_6 r8_1_0 r8_1_1 r8_1_2 r8_1_3 r8_1_4 r8_1_5 r8_1_6
         clear hb)
       | (
         go_at_call 20
         have hgd := HB7
         clear hgd
         refine (HSM2.out _ _ HQ2.out _ _ HQ6.out _ HC7.out HD7.out).mono ?_
         rintro e w8 ⟨rfl, hb⟩
         have HB8 := Lib.hid (HB7.out.trans (hb.mono HB7.out.size))
         have HX0_8 := Lib.hid (blk_bel HX0_7.out hb)
         have HX1_8 := Lib.hid (blk_bel HX1_7.out hb)
         obtain ⟨r8_0_0, r8_0_1, r8_0_2, r8_0_3, r8_0_4, r8_0_5, r8_0_6⟩ := blk7 HX0_8.out
         obtain ⟨r8_1_0, r8_1_1, r8_1_2, r8_1_3, r8_1_4, r8_1_5, r8_1_6⟩ := blk7 HX1_8.out
         clear r7_0_0 r7_0_1 r7_0_2 r7_0_3 r7_0_4 r7_0_5 r7_0_6 r7_1_0 r7_1_1 r7_1_2 r7_1_3 r7_1_4 r7_1_5 r7_1_6
         clear hb))
      all_goals
       go_ret
       exact ⟨rfl, HB9.out⟩
end Go.Proofs.YteikakoheibnjaaDoor
namespace Go.Proofs
open Go.Shelf
def Tryd.lays260_ren : Go.Shelf.Ren := ⟨fun | 260 => 116 | n => n, fun | 9 => 9 | 21 => 21 | 3 => 3 | 4 => 4 | 5 => 5 | 119 => 154 | 0 => 0 | 46 => 143 | 139 => 157 | 138 => 156 | n => n, fun | 3 => 2 | 4 => 3 | n => n⟩
theorem Tryd.lays260 : Go.Proofs.Lays.n260 Tryd.prog Tryd.lays260_ren := {
 mixed := by kernel_rfl
 f260 := Tryd.func116.trans (congrArg some (by kernel_rfl))
 t0 := Tryd.underlying0
 a0 := Tryd.isAgg0
 z0 := Tryd.sizeOf0
 v0 := Tryd.zeroValue0
 t3 := Tryd.underlying3
 a3 := Tryd.isAgg3
 z3 := Tryd.sizeOf3
 v3 := Tryd.zeroValue3
 t4 := Tryd.underlying4
 a4 := Tryd.isAgg4
 z4 := Tryd.sizeOf4
 v4 := Tryd.zeroValue4
 t5 := Tryd.underlying5
 a5 := Tryd.isAgg5
 z5 := Tryd.sizeOf5
 v5 := Tryd.zeroValue5
 t9 := Tryd.underlying9
 a9 := Tryd.isAgg9
 z9 := Tryd.sizeOf9
 v9 := Tryd.zeroValue9
 t21 := Tryd.underlying21
 a21 := Tryd.isAgg21
 z21 := Tryd.sizeOf21
 v21 := Tryd.zeroValue21
 t46 := Tryd.underlying143
 a46 := Tryd.isAgg143
 z46 := Tryd.sizeOf143
 v46 := Tryd.zeroValue143
 t119 := Tryd.underlying154
 a119 := Tryd.isAgg154
 z119 := Tryd.sizeOf154
 t138 := Tryd.underlying156
 a138 := Tryd.isAgg156
 z138 := Tryd.sizeOf156
 v138 := Tryd.zeroValue156
 t139 := Tryd.underlying157
 a139 := Tryd.isAgg157
 z139 := Tryd.sizeOf157
 v139 := Tryd.zeroValue157
 g3 := by kernel_rfl
 g4 := by kernel_rfl }
end Go.Proofs
namespace Go.Proofs.YteikakoheibnjaaDoor
open Go Go.ChangeShapes Go.WideShapes Go.ChangeAt Go.RowKit

theorem own : ownKnob Tryd.prog.godebug = none := by kernel_rfl
theorem laidOut : laidOutB Tryd.prog = true := by kernel_rfl
def laidS : List (String × DataW Unit) := [("math/bits.deBruijn32tab", Rows.laid_math_bits_deBruijn32tab), ("math/bits.deBruijn64tab", Rows.laid_math_bits_deBruijn64tab), ("internal/strconv.uint64pow10", Rows.laid_internal_strconv_uint64pow10), ("unicode/utf8.acceptRanges", Rows.laid_unicode_utf8_acceptRanges), ("unicode/utf8.first", Rows.laid_unicode_utf8_first)]
theorem first_data : (Rows.laid_unicode_utf8_first : DataW Unit) = Lib.firstData := by kernel_rfl
theorem accept_data : (Rows.laid_unicode_utf8_acceptRanges : DataW Unit) = Lib.acceptData := by kernel_rfl
theorem u8extra : U8Extra Tryd.prog Tryd.lays260_ren := ⟨by kernel_rfl, by kernel_rfl, by kernel_rfl, by kernel_rfl, by kernel_rfl, by kernel_rfl, by kernel_rfl⟩
theorem tab8_of {W : World} (h : laidMetH Tryd.prog laidS W) : Tab8 W := by
 rw [MakeChecks.laidMetH_plain _ _ _ (by kernel_rfl)] at h
 have h1 := Lib.laidMet.reads h (n := "unicode/utf8.first") (d := Rows.laid_unicode_utf8_first) (by unfold laidS; simp)
 have h2 := Lib.laidMet.reads h (n := "unicode/utf8.acceptRanges") (d := Rows.laid_unicode_utf8_acceptRanges) (by unfold laidS; simp)
 rw [first_data] at h1
 rw [accept_data] at h2
 exact utf8Tabs_of_reads Tryd.lays260 u8extra h1 h2
end Go.Proofs.YteikakoheibnjaaDoor
namespace Go.Proofs.YteikakoheibnjaaDoor
open Go Go.ChangeShapes Go.WideShapes Go.ChangeAt Go.RowKit

theorem KidsAt.mk {w : World} {B : Nat} {A : Option Addr} : ∀ (ks : List Node) (i : Nat), (∀ j (hj : j < ks.length), ∃ b off A' cap', A = some ⟨b, off, none⟩ ∧ b < B ∧ (∀ m u, (cellsN ks[j] A' cap')[m]? = some u → w.cell? ⟨b, off + (i + j) * 5 + m, none⟩ = some u) ∧ NodeAt w B ks[j] A' cap') → KidsAt w B A i ks
 | [], i, _ => by
   unfold KidsAt
   trivial
 | x :: r, i, h => by
   unfold KidsAt
   refine ⟨h 0 (by simp), KidsAt.mk r (i + 1) fun j hj => ?_⟩
   have := h (j + 1) (by simpa using hj)
   rw [show i + (j + 1) = i + 1 + j by omega] at this
   exact this

theorem cells24 : Tryd.prog.cellsOf 24 = 5 := by kernel_rfl
theorem bytes24 : Tryd.prog.bytesOf 24 = 72 := by kernel_rfl
theorem weightsAll_mem {H : Type} {P : Program} {e : TypeId} : ∀ {l : List (DataW H)} {d : DataW H}, d ∈ l → ∀ n ∈ d.weights P e, n ∈ DataW.weightsAll P e l
 | d' :: r, d, hd, n, hn => by
   simp only [DataW.weightsAll, List.mem_append]
   rcases List.mem_cons.1 hd with rfl | h
   · exact Or.inl hn
   · exact Or.inr (weightsAll_mem h n hn)
set_option maxRecDepth 100000 in
theorem node_trod {H : Type} {enc : TypeId × Value → H} {W : World} : ∀ (fuel : Nat) (cs : List Value) (x : DataW H × List MemPlace),
  DataW.trod enc Tryd.prog W 0 (fun _ => true) true fuel 24 cs = some x → (∀ n ∈ x.1.weights Tryd.prog 24, n ≤ reachBytes) → ∃ t A cap, cs = cellsN t A cap ∧ NodeAt W W.heap.size t A cap := by
 intro fuel
 induction fuel using Nat.strongRecOn with
 | ind fuel ih =>
   intro cs x h hw
   obtain ⟨xs, n, rfl, rfl, hl, hxl, hf⟩ := DataW.trod_struct Tryd.underlying24 h
   rw [cells24] at hl
   match cs, hl with
   | [c0, c1, c2, c3, c4], _ =>
     match xs, hxl with
     | [y0, y1, y2, y3, y5], _ =>
       have g0 := hf 0 _ rfl
       have g1 := hf 1 _ rfl
       have g2 := hf 2 _ rfl
       have g3 := hf 3 _ rfl
       have g5 := hf 4 _ rfl
       clear hf
       have hw0 : ∀ n ∈ y0.1.weights Tryd.prog 9, n ≤ reachBytes := fun n hn => hw n (by simp [DataW.weights, Tryd.underlying24, DataW.weightsEach, hn])
       have hw1 : ∀ n ∈ y1.1.weights Tryd.prog 9, n ≤ reachBytes := fun n hn => hw n (by simp [DataW.weights, Tryd.underlying24, DataW.weightsEach, hn])
       have hw5 : ∀ n ∈ y5.1.weights Tryd.prog 22, n ≤ reachBytes := fun n hn => hw n (by simp [DataW.weights, Tryd.underlying24, DataW.weightsEach, hn])
       clear hw
       simp only [List.getElem?_cons_zero, List.getElem?_cons_succ] at g0 g1 g2 g3 g5
       obtain ⟨s, hs, hy0, hsl⟩ := DataW.trod_string Tryd.underlying9 g0
       obtain ⟨s1, hs1, hy1, hsl1⟩ := DataW.trod_string Tryd.underlying9 g1
       obtain ⟨b, hb, _, _⟩ := DataW.trod_int Tryd.underlying3 g2
       obtain ⟨c, hc, _, _⟩ := DataW.trod_int Tryd.underlying3 g3
       injection hs with hs
       injection hs1 with hs1
       injection hb with hb
       injection hc with hc
       subst hs hs1 hb hc
       clear g0 g1 g2 g3
       have hsl' : s.data.toList.length ≤ 140737488355328 := by
        rw [hy0] at hw0
        have h1 := hw0 s.data.toList.length (by simp [DataW.weights])
        have h2 := reachBytes_lt
        omega
       have hsl1' : s1.data.toList.length ≤ 140737488355328 := by
        rw [hy1] at hw1
        have h1 := hw1 s1.data.toList.length (by simp [DataW.weights])
        have h2 := reachBytes_lt
        omega
       have es : (Value.string s) = strV s.data.toList := by simp [strV]
       have es1 : (Value.string s1) = strV s1.data.toList := by simp [strV]
       rcases DataW.trod_slice Tryd.underlying22 g5 with ⟨hc, _⟩ | ⟨ad, len, cap, elems, rest, k, rfl, hc, hy5, hb0, hle, hcap, hlen, hel, hrest, _⟩
       · injection hc with hc
         subst hc
         refine ⟨.node s.data.toList s1.data.toList b c [], none, 0, ?_, ?_⟩
         · rw [es, es1]
           rfl
         · unfold NodeAt KidsAt
           exact ⟨hsl', hsl1', by simp, by simp, trivial⟩
       · injection hc with hc
         subst hc
         rw [cells24] at hel
         have hrl := (hrest rfl).1
         rw [hy5] at hw5
         have hcap : cap ≤ 140737488355328 := by
          have h1 := hw5 ((elems.length + rest.length) * 72) (by simp [DataW.weights, Tryd.underlying22, bytes24])
          have h2 := reachBytes_lt
          omega
         have hwe : ∀ (i : Nat) (y : DataW H × List MemPlace), elems[i]? = some y → ∀ n ∈ y.1.weights Tryd.prog 24, n ≤ reachBytes := fun i y hy n hn => hw5 n (by
          have : y.1 ∈ elems.map (·.1) := List.mem_map.2 ⟨y, List.mem_of_getElem? hy, rfl⟩
          simp only [DataW.weights, Tryd.underlying22, List.mem_cons, List.mem_append]
          exact Or.inr (Or.inl (weightsAll_mem this n hn)))
         have hspot : 0 < len → ad.spot = none := by
          intro h0
          have h1 := hel 0 h0
          rw [List.getElem?_eq_getElem (by omega)] at h1
          obtain ⟨cs', h2, h3⟩ := Option.bind_eq_some_iff.1 h1
          obtain ⟨t, A, cp, rfl, hC⟩ := ih k (by omega) _ _ h3 (hwe _ _ (List.getElem?_eq_getElem (by omega)))
          obtain ⟨_, _, hcell⟩ := World.cells?_some h2
          have h0 := hcell 0 (by omega)
          have h00 : (cellsN t A cp)[0]? = some (strV t.op) := rfl
          rw [h00] at h0
          have h4 := World.cell?_spot h0
          rw [add_of_add] at h4
          simpa [Addr.add] using h4
         have each : ∀ i, i < len → ∃ q : Node × Option Addr × Nat, ∃ b off, ad = ⟨b, off, none⟩ ∧ b < W.heap.size ∧ (∀ m u, (cellsN q.1 q.2.1 q.2.2)[m]? = some u → W.cell? ⟨b, off + i * 5 + m, none⟩ = some u) ∧ NodeAt W W.heap.size q.1 q.2.1 q.2.2 := by
          intro i hi
          have h1 := hel i hi
          rw [List.getElem?_eq_getElem (by omega)] at h1
          obtain ⟨cs', h2, h3⟩ := Option.bind_eq_some_iff.1 h1
          obtain ⟨t, A, cp, rfl, hC⟩ := ih k (by omega) _ _ h3 (hwe _ _ (List.getElem?_eq_getElem (by omega)))
          obtain ⟨_, _, hcell⟩ := World.cells?_some h2
          obtain ⟨b, off, spot⟩ := ad
          have h0 := hcell 0 (by omega)
          have h00 : (cellsN t A cp)[0]? = some (strV t.op) := rfl
          rw [h00] at h0
          have hspot : spot = none := hspot (by omega)
          subst hspot
          refine ⟨(t, A, cp), b, off, rfl, ?_, fun m u hu => ?_, hC⟩
          · have := World.block_lt_of_cell? W _ h0
            rwa [block_of_add, block_of_add] at this
          · have hm : m < 5 := (List.getElem?_eq_some_iff.1 hu).1
            rw [← hu, ← hcell m hm, Go.WideShapes.add_plain, Go.WideShapes.add_plain]
         haveI : Inhabited (Node × Option Addr × Nat) := ⟨(.node [] [] 0 0 [], none, 0)⟩
         obtain ⟨q, hq⟩ := Go.Deep.choose_lt each
         refine ⟨.node s.data.toList s1.data.toList b c ((List.range len).map fun i => (q i).1), some ad, cap, ?_, ?_⟩
         · rw [es, es1]
           simp [cellsN, Node.op, Node.name, Node.num, Node.pos, Node.kids]
         · unfold NodeAt
           refine ⟨hsl', hsl1', by simpa using hle, (by simpa using Nat.le_trans hle hcap), KidsAt.mk _ _ fun j hj => ?_⟩
           have hj' : j < len := by simpa using hj
           obtain ⟨b, off, rfl, hb, hcell, hC⟩ := hq j hj'
           refine ⟨b, off, (q j).2.1, (q j).2.2, rfl, hb, ?_, ?_⟩
           · simpa using hcell
           · simpa using hC

end Go.Proofs.YteikakoheibnjaaDoor
