/- Parts of the proof: PUn. -/
import Derived.Test.YteikakoheibnjaaDoorQ20
namespace Go.Proofs.YteikakoheibnjaaDoor
open Go Go.RowKit

structure One (w w6 : World) (q g : Nat) (A : Option Addr) (c : Nat) (l : List Tok) (s4 : PS) (x : Node) (A6 : Option Addr) (c6 : Nat) : Prop where
 ps : Ps w6 q A c l s4
 kq : Kq q w w6
 res : Blk w6 g 24 zN
 new : NodeF w6 (g + 1) w6.heap.size x A6 c6
 szs : q < g ∧ w.heap.size ≤ g ∧ g < w6.heap.size
theorem one_res {w w6 : World} {q g : Nat} {A : Option Addr} {c : Nat} {l : List Tok} {s4 : PS} {po pn : List UInt8} {pk pp : Int} {ps : List Node} {A6 : Option Addr} {c6 : Nat}
  (h : One w w6 q g A c l s4 (.node po pn pk pp ps) A6 c6) (op nm : List UInt8) (hop : op.length ≤ 140737488355328) (hnm : nm.length ≤ 140737488355328) (k at_ : Int) (W : World)
  (hW : W = ((((((w6.setCell ⟨g, 0, none⟩ (.string ⟨op.toArray⟩)).setCell ⟨g, 1, none⟩ (.string ⟨nm.toArray⟩)).setCell ⟨g, 2, none⟩ (.int .i64 k)).setCell ⟨g, 3, none⟩ (.int .i64 at_)).setCell ⟨g, 4, none⟩ (.slice (some ⟨w6.heap.size, 0, none⟩) 1 1)).alloc
    (.cells #[.string ⟨po.toArray⟩, .string ⟨pn.toArray⟩, .int .i64 pk, .int .i64 pp, .slice A6 ps.length c6] 24))) :
  Ps W q A c l s4 ∧ Kq q w W ∧ Blk W g 24 #[.string ⟨op.toArray⟩, .string ⟨nm.toArray⟩, .int .i64 k, .int .i64 at_, .slice (some ⟨w6.heap.size, 0, none⟩) 1 1] ∧
   NodeF W w.heap.size W.heap.size (.node op nm k at_ [.node po pn pk pp ps]) (some ⟨w6.heap.size, 0, none⟩) 1 := by
 obtain ⟨hps, hkq, hres, hnew, hz⟩ := h
 subst hW
 refine ⟨?_, ?_, ?_, ?_⟩
 · exact (ps5 hps (by omega) _ _ _ _ _).alloc _
 · exact (kq5 hkq (by omega) _ _ _ _ _).alloc _
 · exact blk_alloc (nodZ hres _ _ _ _ _) _
 · refine NodeS.one (A := A6) (c := c6) (b := w6.heap.size) hop hnm (blk_new_at (by simp)) ⟨by omega, by simp⟩ ?_
   refine nodef_wide (lo := g + 1) (hi := w6.heap.size) ?_ (by omega) (by simp)
   refine nodef_alloc ?_ (by simp) _
   repeat' (first | (with_reducible first | exact hnew | refine nodef_far ?_ (Or.inl (by omega)) _ _))
theorem takeP_true {l : List Tok} {s : PS} {x : List UInt8} (h : isW l s x = true) : takeP l s x = (true, nextP l s) := by unfold takeP; rw [if_pos h]
theorem takeP_false {l : List Tok} {s : PS} {x : List UInt8} (h : isW l s x = false) : takeP l s x = (false, s) := by unfold takeP; rw [h]; rfl

theorem nodZ02 {w : World} {g : Nat} {x0 x1 x2 x3 x4 : Value} (h : Blk w g 24 #[x0, x1, x2, x3, x4]) (y0 y2 : Value) :
  Blk ((w.setCell ⟨g, 0, none⟩ y0).setCell ⟨g, 2, none⟩ y2) g 24 #[y0, x1, y2, x3, x4] := by
 have := (h.set_ 0 y0).set_ 2 y2
 simpa using this
theorem nodZ4 {w : World} {g : Nat} {x0 x1 x2 x3 x4 : Value} (h : Blk w g 24 #[x0, x1, x2, x3, x4]) (y4 : Value) :
  Blk (w.setCell ⟨g, 4, none⟩ y4) g 24 #[x0, x1, x2, x3, y4] := by
 have := h.set_ 4 y4
 simpa using this
theorem unP_eq (l : List Tok) (k : Nat) {s : PS} (he : s.e = 0) : unP l (k + 1) s = if isW l s [126] = true then (.node nNot [] 0 (nowP l s).at_ [(unP l k (nextP l s)).1], (unP l k (nextP l s)).2)
  else if 0 ≤ orderP l s nEx ∨ 0 ≤ orderP l s nAll then (.node (if orderP l s nEx < 0 then nAll else nEx) (nameP l (nextP l s)).1.text (if orderP l s nEx < 0 then orderP l s nAll else orderP l s nEx) (nowP l s).at_ [(formulaP l (unP l k) k (mustP l (nameP l (nextP l s)).2 [58])).1], (formulaP l (unP l k) k (mustP l (nameP l (nextP l s)).2 [58])).2)
  else if (isW l s nTrue || isW l s nFalse) = true then (.node (nowP l s).text [] 0 (nowP l s).at_ [], nextP l s)
  else if isW l s [40] = true then ((formulaP l (unP l k) k (nextP l s)).1, mustP l (formulaP l (unP l k) k (nextP l s)).2 [41])
  else atomP l s := by
 rw [unP, if_neg (by simpa using he)]
theorem nlaw_or {l : List Tok} {k d : Nat} (h : NLaw 139 l d (unP l k)) : NLaw 96 l d (orP l (unP l k)) :=
 por_any (pand_any h (unP_i k)) (leftP_i (unP_i k) _ _)
theorem orP_i {l : List Tok} (k : Nat) (s : PS) : s.i ≤ (orP l (unP l k) s).2.i := leftP_i (leftP_i (unP_i k) _ _) _ _ s
theorem nlaw_formula {l : List Tok} {k d : Nat} (hkd : k + d = 30 ∨ (k = 0 ∧ 30 ≤ d)) (hd : d ≤ 100) {k2 : Nat} (h : NLaw 139 l d (unP l k2)) : NLaw 44 l d (formulaP l (unP l k2) k) :=
 pformula_any hkd hd (nlaw_or h) (orP_i k2) (impF_i (unP_i k2) (l.length + 1))

set_option maxRecDepth 100000 in
set_option maxHeartbeats 32000000 in
theorem pun_step {l : List Tok} {k d : Nat} (hkd : k + 1 + d = 30) (HU : NLaw 139 l (d + 1) (unP l k)) {w : World} {q : Nat} {A : Option Addr} {c : Nat} {s : PS} (h : Ps w q A c l s) (he : s.e = 0) :
  Calls Tryd.prog 139 #[.pointer (some ⟨q, 0, none⟩), .int .i64 (d : Nat)] w (NPost w q A c l (unP l (k + 1) s)) := by
 have HF : NLaw 44 l (d + 1) (formulaP l (unP l k) k) := nlaw_formula (Or.inl (by omega)) (by omega) HU
 have HV := Lib.hid (unP_eq l k he)
 have HP0 := Lib.hid h
 have hq := h.qlt
 have HE : Hid (∀ W, Ps W q A c l s → Calls Tryd.prog 76 #[.pointer (some ⟨q, 0, none⟩), .int .i64 (d : Nat)] W (PPost W q A c l (.bool true) s)) := Lib.hid (fun W hW => by
  have := penter_any hW (k + 1) d (Or.inl hkd) (by omega)
  have e : enterP l (k + 1) s = s := by unfold enterP; rw [if_neg (by omega)]
  rw [e, decide_eq_true he] at this
  exact this)
 have HN := Lib.hid (fun W (hW : Ps W q A c l s) => pnow_any hW)
 have HX := Lib.hid (fun W (hW : Ps W q A c l s) => pnext_any hW)
 have HOX := Lib.hid (fun W (hW : Ps W q A c l s) => porder_any hW nEx (by decide))
 have HOA := Lib.hid (fun W (hW : Ps W q A c l s) => porder_any hW nAll (by decide))
 have HTT := Lib.hid (fun W (hW : Ps W q A c l s) => ptake_any hW [126])
 have HTP := Lib.hid (fun W (hW : Ps W q A c l s) => ptake_any hW [40])
 have HT1 := Lib.hid (fun W (hW : Ps W q A c l s) => pis_any hW nTrue)
 have HT2 := Lib.hid (fun W (hW : Ps W q A c l s) => pis_any hW nFalse)
 have HNM := Lib.hid (fun W (hW : Ps W q A c l (nextP l s)) => pname_any hW)
 have HLN := Lib.hid (nameP_len h.small (nextP l s))
 have HAT := Lib.hid (fun W (hW : Ps W q A c l s) => patom_any hW)
 have hsm := h.now_small
 have hd1 : (d : Int) ≤ 30 := by omega
 have hd0 : (0 : Int) ≤ (d : Int) := by omega
 clear h he
 generalize unP l (k + 1) s = V at *
 generalize orderP l s nEx = ox at *
 generalize orderP l s nAll = oa at *
 generalize nowP l s = t at *
 unfold tokV at HN HX
 go_enter Tryd.func139, Tryd.ntmps139
 go_upto_region 5 with (first
  | (
      go_at_call 41
      have hgd := HP2
      clear hgd
      refine calls_at (fun W => Ps W q A c l s ∧ Kq q w W ∧ w2.heap.size ≤ W.heap.size ∧ Blk W (w.heap.size) 24 zN ∧ Blk W (w1.heap.size) 80 (tC t)) (fun W hW => HOA.out W hW.1) ?_ ?_
      · refine ⟨?_, ?_, ?_, ?_, ?_⟩
        all_goals repeat' (first | (with_reducible first | exact HP2.out | exact HK2.out | exact HB0_2.out | exact HB1_2.out | exact Fr.refl _ _ | apply ps_far | apply Ps.alloc | apply Ps.drew | apply Fr.drew | apply blk_drew | apply kq_far | apply Fr.alloc | apply tokZ | apply nodZ0 | exact blk_new _ _ _ | apply blk_alloc | apply Blk.other) | omega | (simp; done) | (simp <;> omega))
      rintro W ⟨hp, hk, hlo, hb0, hb1⟩
      rintro e w3 ⟨rfl, hb⟩
      have hfr := Kq.of_below (q := q) hb
      have hp2 := hp.below hb
      have hsz := hfr.size
      have hmo3 : w2.heap.size ≤ w3.heap.size := Nat.le_trans hlo hsz
      have hqs : q < w3.heap.size := hp2.qlt
      have hl0 := hb0.lt
      have ht0 : Blk w3 (w.heap.size) 24 zN := hfr.blk hb0 (by omega)
      have hl3_0 : w.heap.size < w3.heap.size := ht0.lt
      obtain ⟨r3_0_0, r3_0_1, r3_0_2, r3_0_3, r3_0_4⟩ := blk5 ht0
      obtain ⟨y3_0_0, y3_0_1, y3_0_2, y3_0_3, y3_0_4⟩ := blk5f ht0
      have HB0_3 := Lib.hid ht0
      have hl1 := hb1.lt
      have ht1 : Blk w3 (w1.heap.size) 80 (tC t) := hfr.blk hb1 (by omega)
      have hl3_1 : w1.heap.size < w3.heap.size := ht1.lt
      obtain ⟨r3_1_0, r3_1_1, r3_1_2, r3_1_3⟩ := blk4 ht1
      obtain ⟨y3_1_0, y3_1_1, y3_1_2, y3_1_3⟩ := blk4f ht1
      have HB1_3 := Lib.hid ht1
      have HP3 := Lib.hid hp2
      have HK3 := Lib.hid (hk.trans hfr)
      clear hp hk hp2 hfr hsz hlo hb0 hl0 ht0 hb1 hl1 ht1 hb
      clear r2_0_0 r2_0_1 r2_0_2 r2_0_3 r2_0_4 y2_0_0 y2_0_1 y2_0_2 y2_0_3 y2_0_4 hl2_0 r2_1_0 r2_1_1 r2_1_2 r2_1_3 y2_1_0 y2_1_1 y2_1_2 y2_1_3 hl2_1)
  | (
      go_at_call 41
      have hgd := HP1
      clear hgd
      refine calls_at (fun W => Ps W q A c l s ∧ Kq q w W ∧ w1.heap.size + 1 ≤ W.heap.size ∧ Blk W (w.heap.size) 24 zN ∧ Blk W (w1.heap.size) 80 (tC t)) (fun W hW => HOX.out W hW.1) ?_ ?_
      · refine ⟨?_, ?_, ?_, ?_, ?_⟩
        all_goals repeat' (first | (with_reducible first | exact HP1.out | exact HK1.out | exact HB0_1.out | exact HB1_1.out | exact Fr.refl _ _ | apply ps_far | apply Ps.alloc | apply Ps.drew | apply Fr.drew | apply blk_drew | apply kq_far | apply Fr.alloc | apply tokZ | apply nodZ0 | exact blk_new _ _ _ | apply blk_alloc | apply Blk.other) | omega | (simp; done) | (simp <;> omega))
      rintro W ⟨hp, hk, hlo, hb0, hb1⟩
      rintro e w2 ⟨rfl, hb⟩
      have hfr := Kq.of_below (q := q) hb
      have hp2 := hp.below hb
      have hsz := hfr.size
      have hmo2 : w1.heap.size + 1 ≤ w2.heap.size := Nat.le_trans hlo hsz
      have hqs : q < w2.heap.size := hp2.qlt
      have hl0 := hb0.lt
      have ht0 : Blk w2 (w.heap.size) 24 zN := hfr.blk hb0 (by omega)
      have hl2_0 : w.heap.size < w2.heap.size := ht0.lt
      obtain ⟨r2_0_0, r2_0_1, r2_0_2, r2_0_3, r2_0_4⟩ := blk5 ht0
      obtain ⟨y2_0_0, y2_0_1, y2_0_2, y2_0_3, y2_0_4⟩ := blk5f ht0
      have HB0_2 := Lib.hid ht0
      have hl1 := hb1.lt
      have ht1 : Blk w2 (w1.heap.size) 80 (tC t) := hfr.blk hb1 (by omega)
      have hl2_1 : w1.heap.size < w2.heap.size := ht1.lt
      obtain ⟨r2_1_0, r2_1_1, r2_1_2, r2_1_3⟩ := blk4 ht1
      obtain ⟨y2_1_0, y2_1_1, y2_1_2, y2_1_3⟩ := blk4f ht1
      have HB1_2 := Lib.hid ht1
      have HP2 := Lib.hid hp2
      have HK2 := Lib.hid (hk.trans hfr)
      clear hp hk hp2 hfr hsz hlo hb0 hl0 ht0 hb1 hl1 ht1 hb
      clear r1_0_0 r1_0_1 r1_0_2 r1_0_3 r1_0_4 y1_0_0 y1_0_1 y1_0_2 y1_0_3 y1_0_4 hl1_0)
  | (
      go_at_call 46
      have hgd := HPe
      clear hgd
      refine calls_at (fun W => Ps W q A c l s ∧ Kq q w W ∧ we.heap.size ≤ W.heap.size ∧ Blk W (w.heap.size) 24 zN) (fun W hW => HN.out W hW.1) ?_ ?_
      · refine ⟨?_, ?_, ?_, ?_⟩
        all_goals repeat' (first | (with_reducible first | exact HPe.out | exact HKe.out | exact HB0_e.out | exact Fr.refl _ _ | apply ps_far | apply Ps.alloc | apply Ps.drew | apply Fr.drew | apply blk_drew | apply kq_far | apply Fr.alloc | apply tokZ | apply nodZ0 | exact blk_new _ _ _ | apply blk_alloc | apply Blk.other) | omega | (simp; done) | (simp <;> omega))
      rintro W ⟨hp, hk, hlo, hb0⟩
      rintro e w1 ⟨rfl, hb⟩
      have hfr := Kq.of_below (q := q) hb
      have hp2 := hp.below hb
      have hsz := hfr.size
      have hmo1 : we.heap.size ≤ w1.heap.size := Nat.le_trans hlo hsz
      have hqs : q < w1.heap.size := hp2.qlt
      have hl0 := hb0.lt
      have ht0 : Blk w1 (w.heap.size) 24 zN := hfr.blk hb0 (by omega)
      have hl1_0 : w.heap.size < w1.heap.size := ht0.lt
      obtain ⟨r1_0_0, r1_0_1, r1_0_2, r1_0_3, r1_0_4⟩ := blk5 ht0
      obtain ⟨y1_0_0, y1_0_1, y1_0_2, y1_0_3, y1_0_4⟩ := blk5f ht0
      have HB0_1 := Lib.hid ht0
      have HP1 := Lib.hid hp2
      have HK1 := Lib.hid (hk.trans hfr)
      clear hp hk hp2 hfr hsz hlo hb0 hl0 ht0 hb
      clear re_0_0 re_0_1 re_0_2 re_0_3 re_0_4 ye_0_0 ye_0_1 ye_0_2 ye_0_3 ye_0_4 hle_0)
  | (
      go_at_call 76
      have hgd := HP0
      clear hgd
      refine calls_at (fun W => Ps W q A c l s ∧ Kq q w W ∧ w.heap.size + 1 ≤ W.heap.size ∧ Blk W (w.heap.size) 24 zN) (fun W hW => HE.out W hW.1) ?_ ?_
      · refine ⟨?_, ?_, ?_, ?_⟩
        all_goals repeat' (first | (with_reducible first | exact HP0.out | exact HK0.out | exact HB0_0.out | exact Fr.refl _ _ | apply ps_far | apply Ps.alloc | apply Ps.drew | apply Fr.drew | apply blk_drew | apply kq_far | apply Fr.alloc | apply tokZ | apply nodZ0 | exact blk_new _ _ _ | apply blk_alloc | apply Blk.other) | omega | (simp; done) | (simp <;> omega))
      rintro W ⟨hp, hk, hlo, hb0⟩
      intro e we hpost
      obtain ⟨rfl, hp2, hfr⟩ := hpost
      have hsz := hfr.size
      have hmoe : w.heap.size + 1 ≤ we.heap.size := Nat.le_trans hlo hsz
      have hqs : q < we.heap.size := hp2.qlt
      have hl0 := hb0.lt
      have ht0 : Blk we (w.heap.size) 24 zN := hfr.blk hb0 (by omega)
      have hle_0 : w.heap.size < we.heap.size := ht0.lt
      obtain ⟨re_0_0, re_0_1, re_0_2, re_0_3, re_0_4⟩ := blk5 ht0
      obtain ⟨ye_0_0, ye_0_1, ye_0_2, ye_0_3, ye_0_4⟩ := blk5f ht0
      have HB0_e := Lib.hid ht0
      have HPe := Lib.hid hp2
      have HKe := Lib.hid (hk.trans hfr)
      clear hp hk hp2 hfr hsz hlo hb0 hl0 ht0))
 clear HE HN HOX HOA
 by_cases hb : isW l s [126] = true
 · have HR := Lib.hid (HV.out.trans (if_pos hb))
   have HT := HTT
   rw [takeP_true hb] at HT
   simp only at HT
   have HI : Hid (∀ W, Ps W q A c l (nextP l s) → Calls Tryd.prog 139 #[.pointer (some ⟨q, 0, none⟩), .int .i64 ((d : Int) + 1)] W (NPost W q A c l (unP l k (nextP l s)))) := Lib.hid (fun W hW => HU W q A c _ hW)
   clear HU HF HV hb HTT HTP HT1 HT2 HNM HLN HAT HX
   generalize unP l k (nextP l s) = pr at *
   generalize nextP l s = s3 at *
   obtain ⟨⟨po, pn, pk, pp, ps⟩, s4⟩ := pr
   simp only at HR
   go_upto_region 6 with (
       go_at_call 75
       have hgd := HP3
       clear hgd
       refine calls_at (fun W => Ps W q A c l s ∧ Kq q w W ∧ w3.heap.size ≤ W.heap.size ∧ Blk W (w.heap.size) 24 zN ∧ Blk W (w1.heap.size) 80 (tC t)) (fun W hW => HT.out W hW.1) ?_ ?_
       · refine ⟨?_, ?_, ?_, ?_, ?_⟩
         all_goals repeat' (first | (with_reducible first | exact HP3.out | exact HK3.out | exact HB0_3.out | exact HB1_3.out | exact Fr.refl _ _ | apply ps_far | apply Ps.alloc | apply Ps.drew | apply Fr.drew | apply blk_drew | apply kq_far | apply Fr.alloc | apply tokZ | apply nodZ0 | exact blk_new _ _ _ | apply blk_alloc | apply Blk.other) | omega | (simp; done) | (simp <;> omega))
       rintro W ⟨hp, hk, hlo, hb0, hb1⟩
       intro e w4 hpost
       obtain ⟨rfl, hp2, hfr⟩ := hpost
       have hsz := hfr.size
       have hmo4 : w3.heap.size ≤ w4.heap.size := Nat.le_trans hlo hsz
       have hqs : q < w4.heap.size := hp2.qlt
       have hl0 := hb0.lt
       have ht0 : Blk w4 (w.heap.size) 24 zN := hfr.blk hb0 (by omega)
       have hl4_0 : w.heap.size < w4.heap.size := ht0.lt
       obtain ⟨r4_0_0, r4_0_1, r4_0_2, r4_0_3, r4_0_4⟩ := blk5 ht0
       obtain ⟨y4_0_0, y4_0_1, y4_0_2, y4_0_3, y4_0_4⟩ := blk5f ht0
       have HB0_4 := Lib.hid ht0
       have hl1 := hb1.lt
       have ht1 : Blk w4 (w1.heap.size) 80 (tC t) := hfr.blk hb1 (by omega)
       have hl4_1 : w1.heap.size < w4.heap.size := ht1.lt
       obtain ⟨r4_1_0, r4_1_1, r4_1_2, r4_1_3⟩ := blk4 ht1
       obtain ⟨y4_1_0, y4_1_1, y4_1_2, y4_1_3⟩ := blk4f ht1
       have HB1_4 := Lib.hid ht1
       have HP4 := Lib.hid hp2
       have HK4 := Lib.hid (hk.trans hfr)
       clear hp hk hp2 hfr hsz hlo hb0 hl0 ht0 hb1 hl1 ht1
       clear r3_0_0 r3_0_1 r3_0_2 r3_0_3 r3_0_4 y3_0_0 y3_0_1 y3_0_2 y3_0_3 y3_0_4 hl3_0 r3_1_0 r3_1_1 r3_1_2 r3_1_3 y3_1_0 y3_1_1 y3_1_2 y3_1_3 hl3_1)
   have HC6 : Hid (Calls Tryd.prog 139 #[.pointer (some ⟨q, 0, none⟩), .int .i64 ((d : Int) + 1)] w4.drew fun e w6 => ∃ A6 c6, e = .returned (.agg #[.string ⟨po.toArray⟩, .string ⟨pn.toArray⟩, .int .i64 pk, .int .i64 pp, .slice A6 ps.length c6]) ∧ Blk w6 w1.heap.size 80 (tC t) ∧ One w w6 q w.heap.size A c l s4 (.node po pn pk pp ps) A6 c6) := by
    refine Lib.hid ((HI.out _ HP4.out.drew).mono ?_)
    intro e w6 hpost
    obtain ⟨A6, c6, rfl, hnn, hp6, hk6⟩ := npost_open hpost
    have hs6 : w4.heap.size ≤ w6.heap.size := hk6.size
    exact ⟨A6, c6, rfl, hk6.blk (blk_drew HB1_4.out) (by omega), hp6, HK4.out.drew.trans hk6, hk6.blk (blk_drew HB0_4.out) (by omega), nodef_wide hnn (by show w.heap.size + 1 ≤ w4.heap.size; omega) (Nat.le_refl _), by omega⟩
   clear HI HT
   have hwr : IntKind.i64.wrap ((d : Int) + 1) = (d : Int) + 1 := IntWalk.i64_in _ (by omega)
   go_region_held3 (fun W : World => W.cell? ⟨w1.heap.size, 3, none⟩ = some (.int .i64 (t.at_ : Nat))) (repeat' (first | (with_reducible first | exact r4_1_3 | exact k6t | apply keepS | apply keepA | apply keepD) | omega)) ((
    go_at_call 139
    refine HC6.out.mono ?_
    rintro e w6 ⟨A6, c6, rfl, ht6, hF6⟩
    obtain ⟨k70, k71, k72, k73, k74⟩ := blk5 hF6.res
    obtain ⟨z70, z71, z72, z73, z74⟩ := blk5f hF6.res
    have k6t := (blk4 ht6).2.2.2
    have HF6 := Lib.hid hF6
    have hb9 : w.heap.size < w6.heap.size := hF6.res.lt
    have hb7 : w1.heap.size < w6.heap.size := ht6.lt
    have hb8 : ¬ w1.heap.size = w6.heap.size := by omega
    clear ht6 hF6))
   all_goals
    go_wp2_with fail
    refine bodyPost_ret (res_one (by rfl) _ _ w.heap.size #[.string ⟨nNot.toArray⟩, .string ⟨#[]⟩, .int .i64 0, .int .i64 (t.at_ : Nat), .slice (some ⟨w6.heap.size, 0, none⟩) 1 1] rfl (one_res HF6.out nNot [] (by decide) (by decide) _ _ _ rfl).2.2.1 Tryd.underlying24 inf_node5) rfl ⟨some ⟨w6.heap.size, 0, none⟩, 1, by rw [HR.out]; rfl, ?_, ?_, ?_⟩
    · rw [HR.out]
      exact (one_res HF6.out nNot [] (by decide) (by decide) _ _ _ rfl).2.2.2
    · rw [HR.out]
      exact (one_res HF6.out nNot [] (by decide) (by decide) _ _ _ rfl).1
    · exact (one_res HF6.out nNot [] (by decide) (by decide) _ _ _ rfl).2.1
 by_cases hx : ox < 0
 · by_cases ha : 0 ≤ oa
   · have HR := Lib.hid (HV.out.trans ((if_neg hb).trans (if_pos (by omega))))
     rw [if_pos hx, if_pos hx] at HR
     have HT := HTT
     rw [takeP_false (Bool.eq_false_iff.2 hb)] at HT
     simp only at HT
     clear HTT
     have gx : decide ((0 : Int) ≤ ox) = false := decide_eq_false (by omega)
     have ga : decide ((0 : Int) ≤ oa) = true := decide_eq_true ha
     have gl : decide (ox < (0 : Int)) = true := decide_eq_true hx
     clear hb hx ha HV HTP HT1 HT2 HAT
     generalize nextP l s = s3 at *
     generalize nameP l s3 = na at *
     obtain ⟨a, s4⟩ := na
     have HM := Lib.hid (fun W (hW : Ps W q A c l s4) => pmust_any hW [58])
     have HI : Hid (∀ W, Ps W q A c l (mustP l s4 [58]) → Calls Tryd.prog 44 #[.pointer (some ⟨q, 0, none⟩), .int .i64 ((d : Int) + 1)] W (NPost W q A c l (formulaP l (unP l k) k (mustP l s4 [58])))) := Lib.hid (fun W hW => HF W q A c _ hW)
     clear HF HU
     simp only at HNM HLN HR
     generalize mustP l s4 [58] = s5 at *
     generalize formulaP l (unP l k) k s5 = pr at *
     obtain ⟨⟨po, pn, pk, pp, ps⟩, s6⟩ := pr
     simp only at HR
     unfold tokV at HNM
     have hf1 := fld1
     go_upto_region 9 with (first
      | (
           go_at_call 72
           have hgd := HP4
           clear hgd
           refine calls_at (fun W => Ps W q A c l s ∧ Kq q w W ∧ w4.heap.size ≤ W.heap.size ∧ Blk W (w.heap.size) 24 zN ∧ Blk W (w1.heap.size) 80 (tC t)) (fun W hW => HX.out W hW.1) ?_ ?_
           · refine ⟨?_, ?_, ?_, ?_, ?_⟩
             all_goals repeat' (first | (with_reducible first | exact HP4.out | exact HK4.out | exact HB0_4.out | exact HB1_4.out | exact Fr.refl _ _ | apply ps_far | apply Ps.alloc | apply Ps.drew | apply Fr.drew | apply blk_drew | apply kq_far | apply Fr.alloc | apply tokZ | apply nodZ0 | exact blk_new _ _ _ | apply blk_alloc | apply Blk.other) | omega | (simp; done) | (simp <;> omega))
           rintro W ⟨hp, hk, hlo, hb0, hb1⟩
           intro e w5 hpost
           obtain ⟨rfl, hp2, hfr⟩ := hpost
           have hsz := hfr.size
           have hmo5 : w4.heap.size ≤ w5.heap.size := Nat.le_trans hlo hsz
           have hqs : q < w5.heap.size := hp2.qlt
           have hl0 := hb0.lt
           have ht0 : Blk w5 (w.heap.size) 24 zN := hfr.blk hb0 (by omega)
           have hl5_0 : w.heap.size < w5.heap.size := ht0.lt
           obtain ⟨r5_0_0, r5_0_1, r5_0_2, r5_0_3, r5_0_4⟩ := blk5 ht0
           obtain ⟨y5_0_0, y5_0_1, y5_0_2, y5_0_3, y5_0_4⟩ := blk5f ht0
           have HB0_5 := Lib.hid ht0
           have hl1 := hb1.lt
           have ht1 : Blk w5 (w1.heap.size) 80 (tC t) := hfr.blk hb1 (by omega)
           have hl5_1 : w1.heap.size < w5.heap.size := ht1.lt
           obtain ⟨r5_1_0, r5_1_1, r5_1_2, r5_1_3⟩ := blk4 ht1
           obtain ⟨y5_1_0, y5_1_1, y5_1_2, y5_1_3⟩ := blk4f ht1
           have HB1_5 := Lib.hid ht1
           have HP5 := Lib.hid hp2
           have HK5 := Lib.hid (hk.trans hfr)
           clear hp hk hp2 hfr hsz hlo hb0 hl0 ht0 hb1 hl1 ht1
           clear r4_0_0 r4_0_1 r4_0_2 r4_0_3 r4_0_4 y4_0_0 y4_0_1 y4_0_2 y4_0_3 y4_0_4 hl4_0 r4_1_0 r4_1_1 r4_1_2 r4_1_3 y4_1_0 y4_1_1 y4_1_2 y4_1_3 hl4_1)
      | (
           go_at_call 75
           have hgd := HP3
           clear hgd
           refine calls_at (fun W => Ps W q A c l s ∧ Kq q w W ∧ w3.heap.size ≤ W.heap.size ∧ Blk W (w.heap.size) 24 zN ∧ Blk W (w1.heap.size) 80 (tC t)) (fun W hW => HT.out W hW.1) ?_ ?_
           · refine ⟨?_, ?_, ?_, ?_, ?_⟩
             all_goals repeat' (first | (with_reducible first | exact HP3.out | exact HK3.out | exact HB0_3.out | exact HB1_3.out | exact Fr.refl _ _ | apply ps_far | apply Ps.alloc | apply Ps.drew | apply Fr.drew | apply blk_drew | apply kq_far | apply Fr.alloc | apply tokZ | apply nodZ0 | exact blk_new _ _ _ | apply blk_alloc | apply Blk.other) | omega | (simp; done) | (simp <;> omega))
           rintro W ⟨hp, hk, hlo, hb0, hb1⟩
           intro e w4 hpost
           obtain ⟨rfl, hp2, hfr⟩ := hpost
           have hsz := hfr.size
           have hmo4 : w3.heap.size ≤ w4.heap.size := Nat.le_trans hlo hsz
           have hqs : q < w4.heap.size := hp2.qlt
           have hl0 := hb0.lt
           have ht0 : Blk w4 (w.heap.size) 24 zN := hfr.blk hb0 (by omega)
           have hl4_0 : w.heap.size < w4.heap.size := ht0.lt
           obtain ⟨r4_0_0, r4_0_1, r4_0_2, r4_0_3, r4_0_4⟩ := blk5 ht0
           obtain ⟨y4_0_0, y4_0_1, y4_0_2, y4_0_3, y4_0_4⟩ := blk5f ht0
           have HB0_4 := Lib.hid ht0
           have hl1 := hb1.lt
           have ht1 : Blk w4 (w1.heap.size) 80 (tC t) := hfr.blk hb1 (by omega)
           have hl4_1 : w1.heap.size < w4.heap.size := ht1.lt
           obtain ⟨r4_1_0, r4_1_1, r4_1_2, r4_1_3⟩ := blk4 ht1
           obtain ⟨y4_1_0, y4_1_1, y4_1_2, y4_1_3⟩ := blk4f ht1
           have HB1_4 := Lib.hid ht1
           have HP4 := Lib.hid hp2
           have HK4 := Lib.hid (hk.trans hfr)
           clear hp hk hp2 hfr hsz hlo hb0 hl0 ht0 hb1 hl1 ht1
           clear r3_0_0 r3_0_1 r3_0_2 r3_0_3 r3_0_4 y3_0_0 y3_0_1 y3_0_2 y3_0_3 y3_0_4 hl3_0 r3_1_0 r3_1_1 r3_1_2 r3_1_3 y3_1_0 y3_1_1 y3_1_2 y3_1_3 hl3_1))
     have hb5 : w1.heap.size < w5.heap.size := HB1_5.out.lt
     have hb4 : w.heap.size < w5.heap.size := HB0_5.out.lt
     have HCb : Hid (Calls Tryd.prog 73 #[.pointer (some ⟨q, 0, none⟩)] w5.drew fun e w6 => e = .returned (.agg #[.int .i64 (a.kind : Nat), .string ⟨a.text.toArray⟩, .int .i64 (a.n : Nat), .int .i64 (a.at_ : Nat)]) ∧ Ps w6 q A c l s4 ∧ Kq q w w6 ∧ Blk w6 w.heap.size 24 zN ∧ Blk w6 w1.heap.size 80 (tC t) ∧ w5.heap.size ≤ w6.heap.size) := by
      refine Lib.hid ((HNM.out _ HP5.out.drew).mono ?_)
      intro e w6 hpost
      obtain ⟨rfl, hp6, hk6⟩ := hpost
      have hs6 : w5.heap.size ≤ w6.heap.size := hk6.size
      exact ⟨rfl, hp6, HK5.out.drew.trans hk6, hk6.blk (blk_drew HB0_5.out) (by omega), hk6.blk (blk_drew HB1_5.out) (by omega), hs6⟩
     have HCa : Hid (Calls Tryd.prog 73 #[.pointer (some ⟨q, 0, none⟩)] (w5.alloc (.cells #[.string ⟨#[]⟩, .string ⟨#[]⟩, .int .i64 0, .int .i64 0, .slice none 0 0] 24)).drew fun e w6 => e = .returned (.agg #[.int .i64 (a.kind : Nat), .string ⟨a.text.toArray⟩, .int .i64 (a.n : Nat), .int .i64 (a.at_ : Nat)]) ∧ Ps w6 q A c l s4 ∧ Kq q w w6 ∧ Blk w6 w.heap.size 24 zN ∧ Blk w6 w1.heap.size 80 (tC t) ∧ Blk w6 w5.heap.size 24 zN) := by
      refine Lib.hid ((HNM.out _ (HP5.out.alloc _).drew).mono ?_)
      intro e w6 hpost
      obtain ⟨rfl, hp6, hk6⟩ := hpost
      exact ⟨rfl, hp6, ((HK5.out.alloc _).drew).trans hk6, hk6.blk (blk_drew (blk_alloc HB0_5.out _)) (by omega), hk6.blk (blk_drew (blk_alloc HB1_5.out _)) (by omega), hk6.blk (blk_drew (blk_new _ _ _)) (by omega)⟩
     clear HNM HX HT
     go_cut [8] from 41 to 47 (fun v wx => ∃ bn, v = .pointer (some ⟨bn, 0, none⟩) ∧ w5.heap.size ≤ bn ∧ bn < wx.heap.size ∧ Ps wx q A c l s4 ∧ Kq q w wx ∧ Blk wx w.heap.size 24 zN ∧ Blk wx w1.heap.size 80 (tC t) ∧ Blk wx bn 24 #[.string ⟨#[101, 120]⟩, .string ⟨a.text.toArray⟩, .int .i64 ox, .int .i64 (t.at_ : Nat), .slice none 0 0])
     case first =>
      go_region_held3 (fun W : World => W.cell? ⟨w1.heap.size, 3, none⟩ = some (.int .i64 (t.at_ : Nat))) (repeat' (first | (with_reducible first | exact r5_1_3 | exact r6_1_3 | apply keepS | apply keepA | apply keepD) | omega)) ((
       go_at_call 73
       first
        | (with_reducible refine HCa.out.mono ?_
           rintro e w6 ⟨rfl, hp6, hk6, hb60, hb61, hb62⟩
           have hz6 : w5.heap.size < w6.heap.size := hb62.lt
           obtain ⟨r6_2_0, r6_2_1, r6_2_2, r6_2_3, r6_2_4⟩ := blk5 hb62
           obtain ⟨y6_2_0, y6_2_1, y6_2_2, y6_2_3, y6_2_4⟩ := blk5f hb62
           have HB2_6 := Lib.hid hb62
           clear hb62)
        | (with_reducible refine HCb.out.mono ?_
           rintro e w6 ⟨rfl, hp6, hk6, hb60, hb61, hz6⟩)
       have hqs : q < w6.heap.size := hp6.qlt
       obtain ⟨r6_1_0, r6_1_1, r6_1_2, r6_1_3⟩ := blk4 hb61
       have HP6 := Lib.hid hp6
       have HK6 := Lib.hid hk6
       have HB0_6 := Lib.hid hb60
       have HB1_6 := Lib.hid hb61
       clear hp6 hk6 hb60 hb61))
      all_goals
       go_wp2_with fail
       go_meet
       case rel =>
        refine ⟨_, rfl, ?_, ?_, ?_, ?_, ?_, ?_, ?_⟩
        all_goals repeat' (first | (with_reducible first | exact HP6.out | exact HK6.out | exact HB0_6.out | exact HB1_6.out | exact HB2_6.out | apply ps_far | apply Ps.alloc | apply kq_far | apply Fr.alloc | apply nodZ0 | exact blk_new _ _ _ | apply blk_alloc | apply Blk.other) | omega | (simp; done) | (simp <;> omega))
     case rest =>
      obtain ⟨bn, rfl, hbn, hl7_2, hp7, hk7, hb70, hb71, hb72⟩ := hcut
      obtain ⟨w7, hw7⟩ : ∃ x, x = wc := ⟨_, rfl⟩
      subst hw7
      have hmo7 : w5.heap.size ≤ w7.heap.size := by omega
      have hqs : q < w7.heap.size := hp7.qlt
      have hl7_0 : w.heap.size < w7.heap.size := hb70.lt
      have hl7_1 : w1.heap.size < w7.heap.size := hb71.lt
      obtain ⟨r7_0_0, r7_0_1, r7_0_2, r7_0_3, r7_0_4⟩ := blk5 hb70
      obtain ⟨y7_0_0, y7_0_1, y7_0_2, y7_0_3, y7_0_4⟩ := blk5f hb70
      obtain ⟨r7_1_0, r7_1_1, r7_1_2, r7_1_3⟩ := blk4 hb71
      obtain ⟨y7_1_0, y7_1_1, y7_1_2, y7_1_3⟩ := blk4f hb71
      obtain ⟨r7_2_0, r7_2_1, r7_2_2, r7_2_3, r7_2_4⟩ := blk5 hb72
      obtain ⟨y7_2_0, y7_2_1, y7_2_2, y7_2_3, y7_2_4⟩ := blk5f hb72
      have HP7 := Lib.hid hp7
      have HK7 := Lib.hid hk7
      have HB0_7 := Lib.hid hb70
      have HB1_7 := Lib.hid hb71
      have HB2_7 := Lib.hid hb72
      clear hp7 hk7 hb70 hb71 hb72 HCa HCb
      clear r5_0_0 r5_0_1 r5_0_2 r5_0_3 r5_0_4 y5_0_0 y5_0_1 y5_0_2 y5_0_3 y5_0_4 hl5_0 r5_1_0 r5_1_1 r5_1_2 r5_1_3 y5_1_0 y5_1_1 y5_1_2 y5_1_3 hl5_1
      go_upto_region 12 with fail
      refine wp_named (fun W => Ps W q A c l s4 ∧ Kq q w W ∧ w7.heap.size ≤ W.heap.size ∧ Blk W (w.heap.size) 24 zN ∧ Blk W (w1.heap.size) 80 (tC t) ∧ Blk W (bn) 24 #[.string ⟨#[97, 108, 108]⟩, .string ⟨a.text.toArray⟩, .int .i64 oa, .int .i64 (t.at_ : Nat), .slice none 0 0]) ?_ ?_
      · refine ⟨?_, ?_, ?_, ?_, ?_, ?_⟩
        all_goals repeat' (first | (with_reducible first | exact HP7.out | exact HK7.out | exact HB0_7.out | exact HB1_7.out | exact HB2_7.out | exact Fr.refl _ _ | apply ps_far | apply Ps.alloc | apply Ps.drew | apply Fr.drew | apply blk_drew | apply kq_far | apply Fr.alloc | apply tokZ | apply nodZ0 | refine nodZ02 (x0 := .string ⟨#[101, 120]⟩) (x2 := .int .i64 ox) ?_ _ _ | exact blk_new _ _ _ | apply blk_alloc | apply Blk.other | apply nodex_far | apply nodex_alloc | apply nodex_drew) | omega | (simp; done) | (simp <;> omega))
      clear r7_0_0 r7_0_1 r7_0_2 r7_0_3 r7_0_4 r7_1_0 r7_1_1 r7_1_2 r7_1_3 r7_2_0 r7_2_1 r7_2_2 r7_2_3 r7_2_4 y7_0_0 y7_0_1 y7_0_2 y7_0_3 y7_0_4 y7_1_0 y7_1_1 y7_1_2 y7_1_3 y7_2_0 y7_2_1 y7_2_2 y7_2_3 y7_2_4
      rintro w17 ⟨hp2, hk2, hmo17, ht0, ht1, ht2⟩
      have hqs : q < w17.heap.size := hp2.qlt
      have hl17_0 : w.heap.size < w17.heap.size := ht0.lt
      obtain ⟨r17_0_0, r17_0_1, r17_0_2, r17_0_3, r17_0_4⟩ := blk5 ht0
      obtain ⟨y17_0_0, y17_0_1, y17_0_2, y17_0_3, y17_0_4⟩ := blk5f ht0
      have HB0_17 := Lib.hid ht0
      have hl17_1 : w1.heap.size < w17.heap.size := ht1.lt
      obtain ⟨r17_1_0, r17_1_1, r17_1_2, r17_1_3⟩ := blk4 ht1
      obtain ⟨y17_1_0, y17_1_1, y17_1_2, y17_1_3⟩ := blk4f ht1
      have HB1_17 := Lib.hid ht1
      have hl17_2 : bn < w17.heap.size := ht2.lt
      obtain ⟨r17_2_0, r17_2_1, r17_2_2, r17_2_3, r17_2_4⟩ := blk5 ht2
      obtain ⟨y17_2_0, y17_2_1, y17_2_2, y17_2_3, y17_2_4⟩ := blk5f ht2
      have HB2_17 := Lib.hid ht2
      have HP17 := Lib.hid hp2
      have HK17 := Lib.hid hk2
      clear hp2 hk2 ht0 ht1 ht2
      go_wp2_with (first
       | (
            go_at_call 44
            have hgd := HP8
            clear hgd
            refine calls_at (fun W => Ps W q A c l s5 ∧ Kq q w W ∧ w8.heap.size ≤ W.heap.size ∧ Blk W (w.heap.size) 24 zN ∧ Blk W (w1.heap.size) 80 (tC t) ∧ Blk W (bn) 24 #[.string ⟨#[97, 108, 108]⟩, .string ⟨a.text.toArray⟩, .int .i64 oa, .int .i64 (t.at_ : Nat), .slice none 0 0]) (fun W hW => HI.out W hW.1) ?_ ?_
            · refine ⟨?_, ?_, ?_, ?_, ?_, ?_⟩
              all_goals repeat' (first | (with_reducible first | exact HP8.out | exact HK8.out | exact HB0_8.out | exact HB1_8.out | exact HB2_8.out | exact Fr.refl _ _ | apply ps_far | apply Ps.alloc | apply Ps.drew | apply Fr.drew | apply blk_drew | apply kq_far | apply Fr.alloc | apply tokZ | apply nodZ0 | exact blk_new _ _ _ | apply blk_alloc | apply Blk.other) | omega | (simp; done) | (simp <;> omega))
            rintro W ⟨hp, hk, hlo, hb0, hb1, hb2⟩
            intro e w9 hpost
            obtain ⟨A9, c9, rfl, hnn, hp2, hfr⟩ := npost_open hpost
            have hsz := hfr.size
            have hmo9 : w8.heap.size ≤ w9.heap.size := Nat.le_trans hlo hsz
            have HNN9 := Lib.hid (show NodeF w9 (w8.heap.size) w9.heap.size _ A9 c9 from nodef_wide hnn hlo (Nat.le_refl _))
            have hqs : q < w9.heap.size := hp2.qlt
            have hl0 := hb0.lt
            have ht0 : Blk w9 (w.heap.size) 24 zN := hfr.blk hb0 (by omega)
            have hl9_0 : w.heap.size < w9.heap.size := ht0.lt
            obtain ⟨r9_0_0, r9_0_1, r9_0_2, r9_0_3, r9_0_4⟩ := blk5 ht0
            obtain ⟨y9_0_0, y9_0_1, y9_0_2, y9_0_3, y9_0_4⟩ := blk5f ht0
            have HB0_9 := Lib.hid ht0
            have hl1 := hb1.lt
            have ht1 : Blk w9 (w1.heap.size) 80 (tC t) := hfr.blk hb1 (by omega)
            have hl9_1 : w1.heap.size < w9.heap.size := ht1.lt
            obtain ⟨r9_1_0, r9_1_1, r9_1_2, r9_1_3⟩ := blk4 ht1
            obtain ⟨y9_1_0, y9_1_1, y9_1_2, y9_1_3⟩ := blk4f ht1
            have HB1_9 := Lib.hid ht1
            have hl2 := hb2.lt
            have ht2 : Blk w9 (bn) 24 #[.string ⟨#[97, 108, 108]⟩, .string ⟨a.text.toArray⟩, .int .i64 oa, .int .i64 (t.at_ : Nat), .slice none 0 0] := hfr.blk hb2 (by omega)
            have hl9_2 : bn < w9.heap.size := ht2.lt
            obtain ⟨r9_2_0, r9_2_1, r9_2_2, r9_2_3, r9_2_4⟩ := blk5 ht2
            obtain ⟨y9_2_0, y9_2_1, y9_2_2, y9_2_3, y9_2_4⟩ := blk5f ht2
            have HB2_9 := Lib.hid ht2
            have HP9 := Lib.hid hp2
            have HK9 := Lib.hid (hk.trans hfr)
            clear hp hk hp2 hfr hsz hlo hb0 hl0 ht0 hb1 hl1 ht1 hb2 hl2 ht2 hnn
            clear r8_0_0 r8_0_1 r8_0_2 r8_0_3 r8_0_4 y8_0_0 y8_0_1 y8_0_2 y8_0_3 y8_0_4 hl8_0 r8_1_0 r8_1_1 r8_1_2 r8_1_3 y8_1_0 y8_1_1 y8_1_2 y8_1_3 hl8_1 r8_2_0 r8_2_1 r8_2_2 r8_2_3 r8_2_4 y8_2_0 y8_2_1 y8_2_2 y8_2_3 y8_2_4 hl8_2)
       | (
            go_at_call 45
            have hgd := HP17
            clear hgd
            refine calls_at (fun W => Ps W q A c l s4 ∧ Kq q w W ∧ w17.heap.size ≤ W.heap.size ∧ Blk W (w.heap.size) 24 zN ∧ Blk W (w1.heap.size) 80 (tC t) ∧ Blk W (bn) 24 #[.string ⟨#[97, 108, 108]⟩, .string ⟨a.text.toArray⟩, .int .i64 oa, .int .i64 (t.at_ : Nat), .slice none 0 0]) (fun W hW => HM.out W hW.1) ?_ ?_
            · refine ⟨?_, ?_, ?_, ?_, ?_, ?_⟩
              all_goals repeat' (first | (with_reducible first | exact HP17.out | exact HK17.out | exact HB0_17.out | exact HB1_17.out | exact HB2_17.out | exact Fr.refl _ _ | apply ps_far | apply Ps.alloc | apply Ps.drew | apply Fr.drew | apply blk_drew | apply kq_far | apply Fr.alloc | apply tokZ | apply nodZ0 | exact blk_new _ _ _ | apply blk_alloc | apply Blk.other) | omega | (simp; done) | (simp <;> omega))
            rintro W ⟨hp, hk, hlo, hb0, hb1, hb2⟩
            intro e w8 hpost
            obtain ⟨rfl, hp2, hfr⟩ := hpost
            have hsz := hfr.size
            have hmo8 : w17.heap.size ≤ w8.heap.size := Nat.le_trans hlo hsz
            have hqs : q < w8.heap.size := hp2.qlt
            have hl0 := hb0.lt
            have ht0 : Blk w8 (w.heap.size) 24 zN := hfr.blk hb0 (by omega)
            have hl8_0 : w.heap.size < w8.heap.size := ht0.lt
            obtain ⟨r8_0_0, r8_0_1, r8_0_2, r8_0_3, r8_0_4⟩ := blk5 ht0
            obtain ⟨y8_0_0, y8_0_1, y8_0_2, y8_0_3, y8_0_4⟩ := blk5f ht0
            have HB0_8 := Lib.hid ht0
            have hl1 := hb1.lt
            have ht1 : Blk w8 (w1.heap.size) 80 (tC t) := hfr.blk hb1 (by omega)
            have hl8_1 : w1.heap.size < w8.heap.size := ht1.lt
            obtain ⟨r8_1_0, r8_1_1, r8_1_2, r8_1_3⟩ := blk4 ht1
            obtain ⟨y8_1_0, y8_1_1, y8_1_2, y8_1_3⟩ := blk4f ht1
            have HB1_8 := Lib.hid ht1
            have hl2 := hb2.lt
            have ht2 : Blk w8 (bn) 24 #[.string ⟨#[97, 108, 108]⟩, .string ⟨a.text.toArray⟩, .int .i64 oa, .int .i64 (t.at_ : Nat), .slice none 0 0] := hfr.blk hb2 (by omega)
            have hl8_2 : bn < w8.heap.size := ht2.lt
            obtain ⟨r8_2_0, r8_2_1, r8_2_2, r8_2_3, r8_2_4⟩ := blk5 ht2
            obtain ⟨y8_2_0, y8_2_1, y8_2_2, y8_2_3, y8_2_4⟩ := blk5f ht2
            have HB2_8 := Lib.hid ht2
            have HP8 := Lib.hid hp2
            have HK8 := Lib.hid (hk.trans hfr)
            clear hp hk hp2 hfr hsz hlo hb0 hl0 ht0 hb1 hl1 ht1 hb2 hl2 ht2
            clear r17_0_0 r17_0_1 r17_0_2 r17_0_3 r17_0_4 y17_0_0 y17_0_1 y17_0_2 y17_0_3 y17_0_4 r17_1_0 r17_1_1 r17_1_2 r17_1_3 y17_1_0 y17_1_1 y17_1_2 y17_1_3 r17_2_0 r17_2_1 r17_2_2 r17_2_3 r17_2_4 y17_2_0 y17_2_1 y17_2_2 y17_2_3 y17_2_4))
      all_goals
       have hh9 : bn < w9.heap.size := HB2_9.out.lt
       refine bodyPost_ret (res_one (by rfl) _ _ w.heap.size #[.string ⟨#[97, 108, 108]⟩, .string ⟨a.text.toArray⟩, .int .i64 oa, .int .i64 (t.at_ : Nat), .slice (some ⟨w9.heap.size, 0, none⟩) 1 1] rfl ?_ Tryd.underlying24 inf_node5) rfl ⟨some ⟨w9.heap.size, 0, none⟩, 1, by rw [HR.out]; rfl, ?_, ?_, ?_⟩
       · repeat' (first | (with_reducible first | exact HP9.out | exact HK9.out | exact HB0_9.out | exact HB1_9.out | exact HB2_9.out | apply ps_far | apply Ps.alloc | apply Ps.drew | apply kq_far | apply Fr.alloc | apply Fr.drew | apply nodZ0 | apply nodZ4 | exact blk_new _ _ _ | apply blk_drew | apply blk_alloc | apply Blk.other | apply nodex_far | apply nodex_alloc | apply nodex_drew) | omega | (simp; done) | (simp <;> omega))
       · rw [HR.out]
         refine NodeS.one (A := A9) (c := c9) (b := w9.heap.size) (by decide) (by have := HLN.out; omega) ?_ ⟨by omega, by simp <;> omega⟩ ?_
         · repeat' (first | (with_reducible exact blk_new _ _ _) | exact blk_new_at (by simp) | (with_reducible refine Blk.other ?_ ?_ _) | omega | (simp <;> omega))
         · refine nodef_wide (lo := w8.heap.size) (hi := w9.heap.size) ?_ (by omega) (by simp)
           repeat' (first | (with_reducible first | exact HNN9.out | apply nodef_far | apply nodef_alloc | apply nodef_drew) | omega | (simp; done) | (simp <;> omega))
       · rw [HR.out]
         repeat' (first | (with_reducible first | exact HP9.out | exact HK9.out | exact HB0_9.out | exact HB1_9.out | exact HB2_9.out | apply ps_far | apply Ps.alloc | apply Ps.drew | apply kq_far | apply Fr.alloc | apply Fr.drew | apply nodZ0 | apply nodZ4 | exact blk_new _ _ _ | apply blk_drew | apply blk_alloc | apply Blk.other | apply nodex_far | apply nodex_alloc | apply nodex_drew) | omega | (simp; done) | (simp <;> omega))
       · repeat' (first | (with_reducible first | exact HP9.out | exact HK9.out | exact HB0_9.out | exact HB1_9.out | exact HB2_9.out | apply ps_far | apply Ps.alloc | apply Ps.drew | apply kq_far | apply Fr.alloc | apply Fr.drew | apply nodZ0 | apply nodZ4 | exact blk_new _ _ _ | apply blk_drew | apply blk_alloc | apply Blk.other | apply nodex_far | apply nodex_alloc | apply nodex_drew) | omega | (simp; done) | (simp <;> omega))
   · have HT := HTT
     rw [takeP_false (Bool.eq_false_iff.2 hb)] at HT
     simp only at HT
     clear HTT
     have gx : decide ((0 : Int) ≤ ox) = false := decide_eq_false (by omega)
     have ga : decide ((0 : Int) ≤ oa) = false := decide_eq_false (by omega)
     by_cases h1 : isW l s nTrue = true
     · have HR := Lib.hid (HV.out.trans ((if_neg hb).trans ((if_neg (by omega)).trans (if_pos (by rw [h1]; rfl)))))
       rw [h1] at HT1
       clear h1 HT2
       clear HU HF HV hb hx ha HTP HNM HLN HAT
       generalize nextP l s = s3 at *
       go_wp2_with (first
        | (
             go_at_call 72
             have hgd := HP5
             clear hgd
             refine calls_at (fun W => Ps W q A c l s ∧ Kq q w W ∧ w5.heap.size ≤ W.heap.size ∧ Blk W (w.heap.size) 24 zN ∧ Blk W (w1.heap.size) 80 (tC t)) (fun W hW => HX.out W hW.1) ?_ ?_
             · refine ⟨?_, ?_, ?_, ?_, ?_⟩
               all_goals repeat' (first | (with_reducible first | exact HP5.out | exact HK5.out | exact HB0_5.out | exact HB1_5.out | exact Fr.refl _ _ | apply ps_far | apply Ps.alloc | apply Ps.drew | apply Fr.drew | apply blk_drew | apply kq_far | apply Fr.alloc | apply tokZ | apply nodZ0 | exact blk_new _ _ _ | apply blk_alloc | apply Blk.other) | omega | (simp; done) | (simp <;> omega))
             rintro W ⟨hp, hk, hlo, hb0, hb1⟩
             intro e w6 hpost
             obtain ⟨rfl, hp2, hfr⟩ := hpost
             have hsz := hfr.size
             have hmo6 : w5.heap.size ≤ w6.heap.size := Nat.le_trans hlo hsz
             have hqs : q < w6.heap.size := hp2.qlt
             have hl0 := hb0.lt
             have ht0 : Blk w6 (w.heap.size) 24 zN := hfr.blk hb0 (by omega)
             have hl6_0 : w.heap.size < w6.heap.size := ht0.lt
             obtain ⟨r6_0_0, r6_0_1, r6_0_2, r6_0_3, r6_0_4⟩ := blk5 ht0
             obtain ⟨y6_0_0, y6_0_1, y6_0_2, y6_0_3, y6_0_4⟩ := blk5f ht0
             have HB0_6 := Lib.hid ht0
             have hl1 := hb1.lt
             have ht1 : Blk w6 (w1.heap.size) 80 (tC t) := hfr.blk hb1 (by omega)
             have hl6_1 : w1.heap.size < w6.heap.size := ht1.lt
             obtain ⟨r6_1_0, r6_1_1, r6_1_2, r6_1_3⟩ := blk4 ht1
             obtain ⟨y6_1_0, y6_1_1, y6_1_2, y6_1_3⟩ := blk4f ht1
             have HB1_6 := Lib.hid ht1
             have HP6 := Lib.hid hp2
             have HK6 := Lib.hid (hk.trans hfr)
             clear hp hk hp2 hfr hsz hlo hb0 hl0 ht0 hb1 hl1 ht1
             clear r5_0_0 r5_0_1 r5_0_2 r5_0_3 r5_0_4 y5_0_0 y5_0_1 y5_0_2 y5_0_3 y5_0_4 hl5_0 r5_1_0 r5_1_1 r5_1_2 r5_1_3 y5_1_0 y5_1_1 y5_1_2 y5_1_3 hl5_1)
        | (
             go_at_call 40
             have hgd := HP4
             clear hgd
             refine calls_at (fun W => Ps W q A c l s ∧ Kq q w W ∧ w4.heap.size ≤ W.heap.size ∧ Blk W (w.heap.size) 24 zN ∧ Blk W (w1.heap.size) 80 (tC t)) (fun W hW => HT1.out W hW.1) ?_ ?_
             · refine ⟨?_, ?_, ?_, ?_, ?_⟩
               all_goals repeat' (first | (with_reducible first | exact HP4.out | exact HK4.out | exact HB0_4.out | exact HB1_4.out | exact Fr.refl _ _ | apply ps_far | apply Ps.alloc | apply Ps.drew | apply Fr.drew | apply blk_drew | apply kq_far | apply Fr.alloc | apply tokZ | apply nodZ0 | exact blk_new _ _ _ | apply blk_alloc | apply Blk.other) | omega | (simp; done) | (simp <;> omega))
             rintro W ⟨hp, hk, hlo, hb0, hb1⟩
             rintro e w5 ⟨rfl, hb⟩
             have hfr := Kq.of_below (q := q) hb
             have hp2 := hp.below hb
             have hsz := hfr.size
             have hmo5 : w4.heap.size ≤ w5.heap.size := Nat.le_trans hlo hsz
             have hqs : q < w5.heap.size := hp2.qlt
             have hl0 := hb0.lt
             have ht0 : Blk w5 (w.heap.size) 24 zN := hfr.blk hb0 (by omega)
             have hl5_0 : w.heap.size < w5.heap.size := ht0.lt
             obtain ⟨r5_0_0, r5_0_1, r5_0_2, r5_0_3, r5_0_4⟩ := blk5 ht0
             obtain ⟨y5_0_0, y5_0_1, y5_0_2, y5_0_3, y5_0_4⟩ := blk5f ht0
             have HB0_5 := Lib.hid ht0
             have hl1 := hb1.lt
             have ht1 : Blk w5 (w1.heap.size) 80 (tC t) := hfr.blk hb1 (by omega)
             have hl5_1 : w1.heap.size < w5.heap.size := ht1.lt
             obtain ⟨r5_1_0, r5_1_1, r5_1_2, r5_1_3⟩ := blk4 ht1
             obtain ⟨y5_1_0, y5_1_1, y5_1_2, y5_1_3⟩ := blk4f ht1
             have HB1_5 := Lib.hid ht1
             have HP5 := Lib.hid hp2
             have HK5 := Lib.hid (hk.trans hfr)
             clear hp hk hp2 hfr hsz hlo hb0 hl0 ht0 hb1 hl1 ht1 hb
             clear r4_0_0 r4_0_1 r4_0_2 r4_0_3 r4_0_4 y4_0_0 y4_0_1 y4_0_2 y4_0_3 y4_0_4 hl4_0 r4_1_0 r4_1_1 r4_1_2 r4_1_3 y4_1_0 y4_1_1 y4_1_2 y4_1_3 hl4_1)
        | (
             go_at_call 75
             have hgd := HP3
             clear hgd
             refine calls_at (fun W => Ps W q A c l s ∧ Kq q w W ∧ w3.heap.size ≤ W.heap.size ∧ Blk W (w.heap.size) 24 zN ∧ Blk W (w1.heap.size) 80 (tC t)) (fun W hW => HT.out W hW.1) ?_ ?_
             · refine ⟨?_, ?_, ?_, ?_, ?_⟩
               all_goals repeat' (first | (with_reducible first | exact HP3.out | exact HK3.out | exact HB0_3.out | exact HB1_3.out | exact Fr.refl _ _ | apply ps_far | apply Ps.alloc | apply Ps.drew | apply Fr.drew | apply blk_drew | apply kq_far | apply Fr.alloc | apply tokZ | apply nodZ0 | exact blk_new _ _ _ | apply blk_alloc | apply Blk.other) | omega | (simp; done) | (simp <;> omega))
             rintro W ⟨hp, hk, hlo, hb0, hb1⟩
             intro e w4 hpost
             obtain ⟨rfl, hp2, hfr⟩ := hpost
             have hsz := hfr.size
             have hmo4 : w3.heap.size ≤ w4.heap.size := Nat.le_trans hlo hsz
             have hqs : q < w4.heap.size := hp2.qlt
             have hl0 := hb0.lt
             have ht0 : Blk w4 (w.heap.size) 24 zN := hfr.blk hb0 (by omega)
             have hl4_0 : w.heap.size < w4.heap.size := ht0.lt
             obtain ⟨r4_0_0, r4_0_1, r4_0_2, r4_0_3, r4_0_4⟩ := blk5 ht0
             obtain ⟨y4_0_0, y4_0_1, y4_0_2, y4_0_3, y4_0_4⟩ := blk5f ht0
             have HB0_4 := Lib.hid ht0
             have hl1 := hb1.lt
             have ht1 : Blk w4 (w1.heap.size) 80 (tC t) := hfr.blk hb1 (by omega)
             have hl4_1 : w1.heap.size < w4.heap.size := ht1.lt
             obtain ⟨r4_1_0, r4_1_1, r4_1_2, r4_1_3⟩ := blk4 ht1
             obtain ⟨y4_1_0, y4_1_1, y4_1_2, y4_1_3⟩ := blk4f ht1
             have HB1_4 := Lib.hid ht1
             have HP4 := Lib.hid hp2
             have HK4 := Lib.hid (hk.trans hfr)
             clear hp hk hp2 hfr hsz hlo hb0 hl0 ht0 hb1 hl1 ht1
             clear r3_0_0 r3_0_1 r3_0_2 r3_0_3 r3_0_4 y3_0_0 y3_0_1 y3_0_2 y3_0_3 y3_0_4 hl3_0 r3_1_0 r3_1_1 r3_1_2 r3_1_3 y3_1_0 y3_1_1 y3_1_2 y3_1_3 hl3_1))
       all_goals
        refine bodyPost_ret (res_one (by rfl) _ _ w.heap.size #[.string ⟨t.text.toArray⟩, .string ⟨#[]⟩, .int .i64 0, .int .i64 (t.at_ : Nat), .slice none 0 0] rfl ?_ Tryd.underlying24 inf_node5) rfl ⟨none, 0, by rw [HR.out]; rfl, ?_, ?_, ?_⟩
        · repeat' (first | (with_reducible first | exact HP6.out | exact HK6.out | exact HB0_6.out | exact HB1_6.out | apply ps_far | apply Ps.alloc | apply Ps.drew | apply kq_far | apply Fr.alloc | apply Fr.drew | apply nodZ0 | exact blk_new _ _ _ | apply blk_drew | apply blk_alloc | apply Blk.other | apply nodex_far | apply nodex_alloc | apply nodex_drew) | omega | (simp; done) | (simp <;> omega))
        · rw [HR.out]
          exact NodeS.leaf _ _ _ _ _ _ (by have := hsm.2.1; omega) (by decide) _
        · rw [HR.out]
          repeat' (first | (with_reducible first | exact HP6.out | exact HK6.out | exact HB0_6.out | exact HB1_6.out | apply ps_far | apply Ps.alloc | apply Ps.drew | apply kq_far | apply Fr.alloc | apply Fr.drew | apply nodZ0 | exact blk_new _ _ _ | apply blk_drew | apply blk_alloc | apply Blk.other | apply nodex_far | apply nodex_alloc | apply nodex_drew) | omega | (simp; done) | (simp <;> omega))
        · repeat' (first | (with_reducible first | exact HP6.out | exact HK6.out | exact HB0_6.out | exact HB1_6.out | apply ps_far | apply Ps.alloc | apply Ps.drew | apply kq_far | apply Fr.alloc | apply Fr.drew | apply nodZ0 | exact blk_new _ _ _ | apply blk_drew | apply blk_alloc | apply Blk.other | apply nodex_far | apply nodex_alloc | apply nodex_drew) | omega | (simp; done) | (simp <;> omega))
     have h1 := Bool.eq_false_iff.2 h1
     rw [h1] at HT1
     by_cases h2 : isW l s nFalse = true
     · have HR := Lib.hid (HV.out.trans ((if_neg hb).trans ((if_neg (by omega)).trans (if_pos (by rw [h1, h2]; rfl)))))
       rw [h2] at HT2
       clear h1 h2
       clear HU HF HV hb hx ha HTP HNM HLN HAT
       generalize nextP l s = s3 at *
       go_wp2_with (first
        | (
             go_at_call 72
             have hgd := HP6
             clear hgd
             refine calls_at (fun W => Ps W q A c l s ∧ Kq q w W ∧ w6.heap.size ≤ W.heap.size ∧ Blk W (w.heap.size) 24 zN ∧ Blk W (w1.heap.size) 80 (tC t)) (fun W hW => HX.out W hW.1) ?_ ?_
             · refine ⟨?_, ?_, ?_, ?_, ?_⟩
               all_goals repeat' (first | (with_reducible first | exact HP6.out | exact HK6.out | exact HB0_6.out | exact HB1_6.out | exact Fr.refl _ _ | apply ps_far | apply Ps.alloc | apply Ps.drew | apply Fr.drew | apply blk_drew | apply kq_far | apply Fr.alloc | apply tokZ | apply nodZ0 | exact blk_new _ _ _ | apply blk_alloc | apply Blk.other) | omega | (simp; done) | (simp <;> omega))
             rintro W ⟨hp, hk, hlo, hb0, hb1⟩
             intro e w7 hpost
             obtain ⟨rfl, hp2, hfr⟩ := hpost
             have hsz := hfr.size
             have hmo7 : w6.heap.size ≤ w7.heap.size := Nat.le_trans hlo hsz
             have hqs : q < w7.heap.size := hp2.qlt
             have hl0 := hb0.lt
             have ht0 : Blk w7 (w.heap.size) 24 zN := hfr.blk hb0 (by omega)
             have hl7_0 : w.heap.size < w7.heap.size := ht0.lt
             obtain ⟨r7_0_0, r7_0_1, r7_0_2, r7_0_3, r7_0_4⟩ := blk5 ht0
             obtain ⟨y7_0_0, y7_0_1, y7_0_2, y7_0_3, y7_0_4⟩ := blk5f ht0
             have HB0_7 := Lib.hid ht0
             have hl1 := hb1.lt
             have ht1 : Blk w7 (w1.heap.size) 80 (tC t) := hfr.blk hb1 (by omega)
             have hl7_1 : w1.heap.size < w7.heap.size := ht1.lt
             obtain ⟨r7_1_0, r7_1_1, r7_1_2, r7_1_3⟩ := blk4 ht1
             obtain ⟨y7_1_0, y7_1_1, y7_1_2, y7_1_3⟩ := blk4f ht1
             have HB1_7 := Lib.hid ht1
             have HP7 := Lib.hid hp2
             have HK7 := Lib.hid (hk.trans hfr)
             clear hp hk hp2 hfr hsz hlo hb0 hl0 ht0 hb1 hl1 ht1
             clear r6_0_0 r6_0_1 r6_0_2 r6_0_3 r6_0_4 y6_0_0 y6_0_1 y6_0_2 y6_0_3 y6_0_4 hl6_0 r6_1_0 r6_1_1 r6_1_2 r6_1_3 y6_1_0 y6_1_1 y6_1_2 y6_1_3 hl6_1)
        | (
             go_at_call 40
             have hgd := HP5
             clear hgd
             refine calls_at (fun W => Ps W q A c l s ∧ Kq q w W ∧ w5.heap.size ≤ W.heap.size ∧ Blk W (w.heap.size) 24 zN ∧ Blk W (w1.heap.size) 80 (tC t)) (fun W hW => HT2.out W hW.1) ?_ ?_
             · refine ⟨?_, ?_, ?_, ?_, ?_⟩
               all_goals repeat' (first | (with_reducible first | exact HP5.out | exact HK5.out | exact HB0_5.out | exact HB1_5.out | exact Fr.refl _ _ | apply ps_far | apply Ps.alloc | apply Ps.drew | apply Fr.drew | apply blk_drew | apply kq_far | apply Fr.alloc | apply tokZ | apply nodZ0 | exact blk_new _ _ _ | apply blk_alloc | apply Blk.other) | omega | (simp; done) | (simp <;> omega))
             rintro W ⟨hp, hk, hlo, hb0, hb1⟩
             rintro e w6 ⟨rfl, hb⟩
             have hfr := Kq.of_below (q := q) hb
             have hp2 := hp.below hb
             have hsz := hfr.size
             have hmo6 : w5.heap.size ≤ w6.heap.size := Nat.le_trans hlo hsz
             have hqs : q < w6.heap.size := hp2.qlt
             have hl0 := hb0.lt
             have ht0 : Blk w6 (w.heap.size) 24 zN := hfr.blk hb0 (by omega)
             have hl6_0 : w.heap.size < w6.heap.size := ht0.lt
             obtain ⟨r6_0_0, r6_0_1, r6_0_2, r6_0_3, r6_0_4⟩ := blk5 ht0
             obtain ⟨y6_0_0, y6_0_1, y6_0_2, y6_0_3, y6_0_4⟩ := blk5f ht0
             have HB0_6 := Lib.hid ht0
             have hl1 := hb1.lt
             have ht1 : Blk w6 (w1.heap.size) 80 (tC t) := hfr.blk hb1 (by omega)
             have hl6_1 : w1.heap.size < w6.heap.size := ht1.lt
             obtain ⟨r6_1_0, r6_1_1, r6_1_2, r6_1_3⟩ := blk4 ht1
             obtain ⟨y6_1_0, y6_1_1, y6_1_2, y6_1_3⟩ := blk4f ht1
             have HB1_6 := Lib.hid ht1
             have HP6 := Lib.hid hp2
             have HK6 := Lib.hid (hk.trans hfr)
             clear hp hk hp2 hfr hsz hlo hb0 hl0 ht0 hb1 hl1 ht1 hb
             clear r5_0_0 r5_0_1 r5_0_2 r5_0_3 r5_0_4 y5_0_0 y5_0_1 y5_0_2 y5_0_3 y5_0_4 hl5_0 r5_1_0 r5_1_1 r5_1_2 r5_1_3 y5_1_0 y5_1_1 y5_1_2 y5_1_3 hl5_1)
        | (
             go_at_call 40
             have hgd := HP4
             clear hgd
             refine calls_at (fun W => Ps W q A c l s ∧ Kq q w W ∧ w4.heap.size ≤ W.heap.size ∧ Blk W (w.heap.size) 24 zN ∧ Blk W (w1.heap.size) 80 (tC t)) (fun W hW => HT1.out W hW.1) ?_ ?_
             · refine ⟨?_, ?_, ?_, ?_, ?_⟩
               all_goals repeat' (first | (with_reducible first | exact HP4.out | exact HK4.out | exact HB0_4.out | exact HB1_4.out | exact Fr.refl _ _ | apply ps_far | apply Ps.alloc | apply Ps.drew | apply Fr.drew | apply blk_drew | apply kq_far | apply Fr.alloc | apply tokZ | apply nodZ0 | exact blk_new _ _ _ | apply blk_alloc | apply Blk.other) | omega | (simp; done) | (simp <;> omega))
             rintro W ⟨hp, hk, hlo, hb0, hb1⟩
             rintro e w5 ⟨rfl, hb⟩
             have hfr := Kq.of_below (q := q) hb
             have hp2 := hp.below hb
             have hsz := hfr.size
             have hmo5 : w4.heap.size ≤ w5.heap.size := Nat.le_trans hlo hsz
             have hqs : q < w5.heap.size := hp2.qlt
             have hl0 := hb0.lt
             have ht0 : Blk w5 (w.heap.size) 24 zN := hfr.blk hb0 (by omega)
             have hl5_0 : w.heap.size < w5.heap.size := ht0.lt
             obtain ⟨r5_0_0, r5_0_1, r5_0_2, r5_0_3, r5_0_4⟩ := blk5 ht0
             obtain ⟨y5_0_0, y5_0_1, y5_0_2, y5_0_3, y5_0_4⟩ := blk5f ht0
             have HB0_5 := Lib.hid ht0
             have hl1 := hb1.lt
             have ht1 : Blk w5 (w1.heap.size) 80 (tC t) := hfr.blk hb1 (by omega)
             have hl5_1 : w1.heap.size < w5.heap.size := ht1.lt
             obtain ⟨r5_1_0, r5_1_1, r5_1_2, r5_1_3⟩ := blk4 ht1
             obtain ⟨y5_1_0, y5_1_1, y5_1_2, y5_1_3⟩ := blk4f ht1
             have HB1_5 := Lib.hid ht1
             have HP5 := Lib.hid hp2
             have HK5 := Lib.hid (hk.trans hfr)
             clear hp hk hp2 hfr hsz hlo hb0 hl0 ht0 hb1 hl1 ht1 hb
             clear r4_0_0 r4_0_1 r4_0_2 r4_0_3 r4_0_4 y4_0_0 y4_0_1 y4_0_2 y4_0_3 y4_0_4 hl4_0 r4_1_0 r4_1_1 r4_1_2 r4_1_3 y4_1_0 y4_1_1 y4_1_2 y4_1_3 hl4_1)
        | (
             go_at_call 75
             have hgd := HP3
             clear hgd
             refine calls_at (fun W => Ps W q A c l s ∧ Kq q w W ∧ w3.heap.size ≤ W.heap.size ∧ Blk W (w.heap.size) 24 zN ∧ Blk W (w1.heap.size) 80 (tC t)) (fun W hW => HT.out W hW.1) ?_ ?_
             · refine ⟨?_, ?_, ?_, ?_, ?_⟩
               all_goals repeat' (first | (with_reducible first | exact HP3.out | exact HK3.out | exact HB0_3.out | exact HB1_3.out | exact Fr.refl _ _ | apply ps_far | apply Ps.alloc | apply Ps.drew | apply Fr.drew | apply blk_drew | apply kq_far | apply Fr.alloc | apply tokZ | apply nodZ0 | exact blk_new _ _ _ | apply blk_alloc | apply Blk.other) | omega | (simp; done) | (simp <;> omega))
             rintro W ⟨hp, hk, hlo, hb0, hb1⟩
             intro e w4 hpost
             obtain ⟨rfl, hp2, hfr⟩ := hpost
             have hsz := hfr.size
             have hmo4 : w3.heap.size ≤ w4.heap.size := Nat.le_trans hlo hsz
             have hqs : q < w4.heap.size := hp2.qlt
             have hl0 := hb0.lt
             have ht0 : Blk w4 (w.heap.size) 24 zN := hfr.blk hb0 (by omega)
             have hl4_0 : w.heap.size < w4.heap.size := ht0.lt
             obtain ⟨r4_0_0, r4_0_1, r4_0_2, r4_0_3, r4_0_4⟩ := blk5 ht0
             obtain ⟨y4_0_0, y4_0_1, y4_0_2, y4_0_3, y4_0_4⟩ := blk5f ht0
             have HB0_4 := Lib.hid ht0
             have hl1 := hb1.lt
             have ht1 : Blk w4 (w1.heap.size) 80 (tC t) := hfr.blk hb1 (by omega)
             have hl4_1 : w1.heap.size < w4.heap.size := ht1.lt
             obtain ⟨r4_1_0, r4_1_1, r4_1_2, r4_1_3⟩ := blk4 ht1
             obtain ⟨y4_1_0, y4_1_1, y4_1_2, y4_1_3⟩ := blk4f ht1
             have HB1_4 := Lib.hid ht1
             have HP4 := Lib.hid hp2
             have HK4 := Lib.hid (hk.trans hfr)
             clear hp hk hp2 hfr hsz hlo hb0 hl0 ht0 hb1 hl1 ht1
             clear r3_0_0 r3_0_1 r3_0_2 r3_0_3 r3_0_4 y3_0_0 y3_0_1 y3_0_2 y3_0_3 y3_0_4 hl3_0 r3_1_0 r3_1_1 r3_1_2 r3_1_3 y3_1_0 y3_1_1 y3_1_2 y3_1_3 hl3_1))
       all_goals
        refine bodyPost_ret (res_one (by rfl) _ _ w.heap.size #[.string ⟨t.text.toArray⟩, .string ⟨#[]⟩, .int .i64 0, .int .i64 (t.at_ : Nat), .slice none 0 0] rfl ?_ Tryd.underlying24 inf_node5) rfl ⟨none, 0, by rw [HR.out]; rfl, ?_, ?_, ?_⟩
        · repeat' (first | (with_reducible first | exact HP7.out | exact HK7.out | exact HB0_7.out | exact HB1_7.out | apply ps_far | apply Ps.alloc | apply Ps.drew | apply kq_far | apply Fr.alloc | apply Fr.drew | apply nodZ0 | exact blk_new _ _ _ | apply blk_drew | apply blk_alloc | apply Blk.other | apply nodex_far | apply nodex_alloc | apply nodex_drew) | omega | (simp; done) | (simp <;> omega))
        · rw [HR.out]
          exact NodeS.leaf _ _ _ _ _ _ (by have := hsm.2.1; omega) (by decide) _
        · rw [HR.out]
          repeat' (first | (with_reducible first | exact HP7.out | exact HK7.out | exact HB0_7.out | exact HB1_7.out | apply ps_far | apply Ps.alloc | apply Ps.drew | apply kq_far | apply Fr.alloc | apply Fr.drew | apply nodZ0 | exact blk_new _ _ _ | apply blk_drew | apply blk_alloc | apply Blk.other | apply nodex_far | apply nodex_alloc | apply nodex_drew) | omega | (simp; done) | (simp <;> omega))
        · repeat' (first | (with_reducible first | exact HP7.out | exact HK7.out | exact HB0_7.out | exact HB1_7.out | apply ps_far | apply Ps.alloc | apply Ps.drew | apply kq_far | apply Fr.alloc | apply Fr.drew | apply nodZ0 | exact blk_new _ _ _ | apply blk_drew | apply blk_alloc | apply Blk.other | apply nodex_far | apply nodex_alloc | apply nodex_drew) | omega | (simp; done) | (simp <;> omega))
     have h2 := Bool.eq_false_iff.2 h2
     rw [h2] at HT2
     by_cases h3 : isW l s [40] = true
     · have HR := Lib.hid (HV.out.trans ((if_neg hb).trans ((if_neg (by omega)).trans ((if_neg (by rw [h1, h2]; decide)).trans (if_pos h3)))))
       clear h1 h2
       have HT3 := HTP
       rw [takeP_true h3] at HT3
       simp only at HT3
       have HI : Hid (∀ W, Ps W q A c l (nextP l s) → Calls Tryd.prog 44 #[.pointer (some ⟨q, 0, none⟩), .int .i64 ((d : Int) + 1)] W (NPost W q A c l (formulaP l (unP l k) k (nextP l s)))) := Lib.hid (fun W hW => HF W q A c _ hW)
       clear HU HF HV hb hx ha h3 HX HTP HNM HLN HAT
       generalize formulaP l (unP l k) k (nextP l s) = pr at *
       generalize nextP l s = s3 at *
       obtain ⟨⟨no, nn, nk, np, ns⟩, s4⟩ := pr
       have HM := Lib.hid (fun W (hW : Ps W q A c l s4) => pmust_any hW [41])
       simp only at HR
       generalize mustP l s4 [41] = s5 at *
       go_wp2_with (first
        | (
             go_at_call 45
             have hgd := HP8
             clear hgd
             refine calls_at (fun W => Ps W q A c l s4 ∧ Kq q w W ∧ w8.heap.size + 1 ≤ W.heap.size ∧ Blk W (w.heap.size) 24 zN ∧ Blk W (w1.heap.size) 80 (tC t) ∧ Blk W (w8.heap.size) 24 (nC no nn nk np NA ns.length nc) ∧ NodeX W (w7.heap.size) (w8.heap.size) (w8.heap.size) (.node no nn nk np ns) NA nc) (fun W hW => HM.out W hW.1) ?_ ?_
             · refine ⟨?_, ?_, ?_, ?_, ?_, ?_, ?_⟩
               all_goals repeat' (first | (with_reducible first | exact HP8.out | exact HK8.out | exact HB0_8.out | exact HB1_8.out | exact HB2_8.out | exact HNn_8.out | exact Fr.refl _ _ | apply ps_far | apply Ps.alloc | apply Ps.drew | apply Fr.drew | apply blk_drew | apply kq_far | apply Fr.alloc | apply tokZ | apply nodZ0 | exact blk_new _ _ _ | apply blk_alloc | apply Blk.other | apply nodex_far | apply nodex_alloc | apply nodex_drew) | omega | (simp; done) | (simp <;> omega))
             rintro W ⟨hp, hk, hlo, hb0, hb1, hb2, hxn⟩
             intro e w9 hpost
             obtain ⟨rfl, hp2, hfr⟩ := hpost
             have hsz := hfr.size
             have hmo9 : w8.heap.size + 1 ≤ w9.heap.size := Nat.le_trans hlo hsz
             have hqs : q < w9.heap.size := hp2.qlt
             have hl0 := hb0.lt
             have ht0 : Blk w9 (w.heap.size) 24 zN := hfr.blk hb0 (by omega)
             have hl9_0 : w.heap.size < w9.heap.size := ht0.lt
             obtain ⟨r9_0_0, r9_0_1, r9_0_2, r9_0_3, r9_0_4⟩ := blk5 ht0
             obtain ⟨y9_0_0, y9_0_1, y9_0_2, y9_0_3, y9_0_4⟩ := blk5f ht0
             have HB0_9 := Lib.hid ht0
             have hl1 := hb1.lt
             have ht1 : Blk w9 (w1.heap.size) 80 (tC t) := hfr.blk hb1 (by omega)
             have hl9_1 : w1.heap.size < w9.heap.size := ht1.lt
             obtain ⟨r9_1_0, r9_1_1, r9_1_2, r9_1_3⟩ := blk4 ht1
             obtain ⟨y9_1_0, y9_1_1, y9_1_2, y9_1_3⟩ := blk4f ht1
             have HB1_9 := Lib.hid ht1
             have hl2 := hb2.lt
             have ht2 : Blk w9 (w8.heap.size) 24 (nC no nn nk np NA ns.length nc) := hfr.blk hb2 (by omega)
             have hl9_2 : w8.heap.size < w9.heap.size := ht2.lt
             obtain ⟨r9_2_0, r9_2_1, r9_2_2, r9_2_3, r9_2_4⟩ := blk5 ht2
             obtain ⟨y9_2_0, y9_2_1, y9_2_2, y9_2_3, y9_2_4⟩ := blk5f ht2
             have HB2_9 := Lib.hid ht2
             have HNn_9 := Lib.hid (nodex_kq hxn hfr (by omega) (by omega))
             have HP9 := Lib.hid hp2
             have HK9 := Lib.hid (hk.trans hfr)
             clear hp hk hp2 hfr hsz hlo hb0 hl0 ht0 hb1 hl1 ht1 hb2 hl2 ht2 hxn
             clear r8_0_0 r8_0_1 r8_0_2 r8_0_3 r8_0_4 y8_0_0 y8_0_1 y8_0_2 y8_0_3 y8_0_4 hl8_0 r8_1_0 r8_1_1 r8_1_2 r8_1_3 y8_1_0 y8_1_1 y8_1_2 y8_1_3 hl8_1)
        | (
             go_at_call 44
             have hgd := HP7
             clear hgd
             refine calls_at (fun W => Ps W q A c l s3 ∧ Kq q w W ∧ w7.heap.size ≤ W.heap.size ∧ Blk W (w.heap.size) 24 zN ∧ Blk W (w1.heap.size) 80 (tC t)) (fun W hW => HI.out W hW.1) ?_ ?_
             · refine ⟨?_, ?_, ?_, ?_, ?_⟩
               all_goals repeat' (first | (with_reducible first | exact HP7.out | exact HK7.out | exact HB0_7.out | exact HB1_7.out | exact Fr.refl _ _ | apply ps_far | apply Ps.alloc | apply Ps.drew | apply Fr.drew | apply blk_drew | apply kq_far | apply Fr.alloc | apply tokZ | apply nodZ0 | exact blk_new _ _ _ | apply blk_alloc | apply Blk.other) | omega | (simp; done) | (simp <;> omega))
             rintro W ⟨hp, hk, hlo, hb0, hb1⟩
             intro e w8 hpost
             obtain ⟨NA, nc, rfl, hnn, hp2, hfr⟩ := npost_open hpost
             have hsz := hfr.size
             have hmo8 : w7.heap.size ≤ w8.heap.size := Nat.le_trans hlo hsz
             have HNN8 := Lib.hid (show NodeF w8 (w7.heap.size) w8.heap.size _ NA nc from nodef_wide hnn hlo (Nat.le_refl _))
             have hqs : q < w8.heap.size := hp2.qlt
             have hl0 := hb0.lt
             have ht0 : Blk w8 (w.heap.size) 24 zN := hfr.blk hb0 (by omega)
             have hl8_0 : w.heap.size < w8.heap.size := ht0.lt
             obtain ⟨r8_0_0, r8_0_1, r8_0_2, r8_0_3, r8_0_4⟩ := blk5 ht0
             obtain ⟨y8_0_0, y8_0_1, y8_0_2, y8_0_3, y8_0_4⟩ := blk5f ht0
             have HB0_8 := Lib.hid ht0
             have hl1 := hb1.lt
             have ht1 : Blk w8 (w1.heap.size) 80 (tC t) := hfr.blk hb1 (by omega)
             have hl8_1 : w1.heap.size < w8.heap.size := ht1.lt
             obtain ⟨r8_1_0, r8_1_1, r8_1_2, r8_1_3⟩ := blk4 ht1
             obtain ⟨y8_1_0, y8_1_1, y8_1_2, y8_1_3⟩ := blk4f ht1
             have HB1_8 := Lib.hid ht1
             have HP8 := Lib.hid hp2
             have HK8 := Lib.hid (hk.trans hfr)
             have HNn_8 := Lib.hid (nodex_of (g := w8.heap.size) HNN8.out (Or.inr (Nat.le_refl _)))
             clear hp hk hp2 hfr hsz hlo hb0 hl0 ht0 hb1 hl1 ht1 hnn
             clear r7_0_0 r7_0_1 r7_0_2 r7_0_3 r7_0_4 y7_0_0 y7_0_1 y7_0_2 y7_0_3 y7_0_4 hl7_0 r7_1_0 r7_1_1 r7_1_2 r7_1_3 y7_1_0 y7_1_1 y7_1_2 y7_1_3 hl7_1)
        | (
             go_at_call 75
             have hgd := HP6
             clear hgd
             refine calls_at (fun W => Ps W q A c l s ∧ Kq q w W ∧ w6.heap.size ≤ W.heap.size ∧ Blk W (w.heap.size) 24 zN ∧ Blk W (w1.heap.size) 80 (tC t)) (fun W hW => HT3.out W hW.1) ?_ ?_
             · refine ⟨?_, ?_, ?_, ?_, ?_⟩
               all_goals repeat' (first | (with_reducible first | exact HP6.out | exact HK6.out | exact HB0_6.out | exact HB1_6.out | exact Fr.refl _ _ | apply ps_far | apply Ps.alloc | apply Ps.drew | apply Fr.drew | apply blk_drew | apply kq_far | apply Fr.alloc | apply tokZ | apply nodZ0 | exact blk_new _ _ _ | apply blk_alloc | apply Blk.other) | omega | (simp; done) | (simp <;> omega))
             rintro W ⟨hp, hk, hlo, hb0, hb1⟩
             intro e w7 hpost
             obtain ⟨rfl, hp2, hfr⟩ := hpost
             have hsz := hfr.size
             have hmo7 : w6.heap.size ≤ w7.heap.size := Nat.le_trans hlo hsz
             have hqs : q < w7.heap.size := hp2.qlt
             have hl0 := hb0.lt
             have ht0 : Blk w7 (w.heap.size) 24 zN := hfr.blk hb0 (by omega)
             have hl7_0 : w.heap.size < w7.heap.size := ht0.lt
             obtain ⟨r7_0_0, r7_0_1, r7_0_2, r7_0_3, r7_0_4⟩ := blk5 ht0
             obtain ⟨y7_0_0, y7_0_1, y7_0_2, y7_0_3, y7_0_4⟩ := blk5f ht0
             have HB0_7 := Lib.hid ht0
             have hl1 := hb1.lt
             have ht1 : Blk w7 (w1.heap.size) 80 (tC t) := hfr.blk hb1 (by omega)
             have hl7_1 : w1.heap.size < w7.heap.size := ht1.lt
             obtain ⟨r7_1_0, r7_1_1, r7_1_2, r7_1_3⟩ := blk4 ht1
             obtain ⟨y7_1_0, y7_1_1, y7_1_2, y7_1_3⟩ := blk4f ht1
             have HB1_7 := Lib.hid ht1
             have HP7 := Lib.hid hp2
             have HK7 := Lib.hid (hk.trans hfr)
             clear hp hk hp2 hfr hsz hlo hb0 hl0 ht0 hb1 hl1 ht1
             clear r6_0_0 r6_0_1 r6_0_2 r6_0_3 r6_0_4 y6_0_0 y6_0_1 y6_0_2 y6_0_3 y6_0_4 hl6_0 r6_1_0 r6_1_1 r6_1_2 r6_1_3 y6_1_0 y6_1_1 y6_1_2 y6_1_3 hl6_1)
        | (
             go_at_call 40
             have hgd := HP5
             clear hgd
             refine calls_at (fun W => Ps W q A c l s ∧ Kq q w W ∧ w5.heap.size ≤ W.heap.size ∧ Blk W (w.heap.size) 24 zN ∧ Blk W (w1.heap.size) 80 (tC t)) (fun W hW => HT2.out W hW.1) ?_ ?_
             · refine ⟨?_, ?_, ?_, ?_, ?_⟩
               all_goals repeat' (first | (with_reducible first | exact HP5.out | exact HK5.out | exact HB0_5.out | exact HB1_5.out | exact Fr.refl _ _ | apply ps_far | apply Ps.alloc | apply Ps.drew | apply Fr.drew | apply blk_drew | apply kq_far | apply Fr.alloc | apply tokZ | apply nodZ0 | exact blk_new _ _ _ | apply blk_alloc | apply Blk.other) | omega | (simp; done) | (simp <;> omega))
             rintro W ⟨hp, hk, hlo, hb0, hb1⟩
             rintro e w6 ⟨rfl, hb⟩
             have hfr := Kq.of_below (q := q) hb
             have hp2 := hp.below hb
             have hsz := hfr.size
             have hmo6 : w5.heap.size ≤ w6.heap.size := Nat.le_trans hlo hsz
             have hqs : q < w6.heap.size := hp2.qlt
             have hl0 := hb0.lt
             have ht0 : Blk w6 (w.heap.size) 24 zN := hfr.blk hb0 (by omega)
             have hl6_0 : w.heap.size < w6.heap.size := ht0.lt
             obtain ⟨r6_0_0, r6_0_1, r6_0_2, r6_0_3, r6_0_4⟩ := blk5 ht0
             obtain ⟨y6_0_0, y6_0_1, y6_0_2, y6_0_3, y6_0_4⟩ := blk5f ht0
             have HB0_6 := Lib.hid ht0
             have hl1 := hb1.lt
             have ht1 : Blk w6 (w1.heap.size) 80 (tC t) := hfr.blk hb1 (by omega)
             have hl6_1 : w1.heap.size < w6.heap.size := ht1.lt
             obtain ⟨r6_1_0, r6_1_1, r6_1_2, r6_1_3⟩ := blk4 ht1
             obtain ⟨y6_1_0, y6_1_1, y6_1_2, y6_1_3⟩ := blk4f ht1
             have HB1_6 := Lib.hid ht1
             have HP6 := Lib.hid hp2
             have HK6 := Lib.hid (hk.trans hfr)
             clear hp hk hp2 hfr hsz hlo hb0 hl0 ht0 hb1 hl1 ht1 hb
             clear r5_0_0 r5_0_1 r5_0_2 r5_0_3 r5_0_4 y5_0_0 y5_0_1 y5_0_2 y5_0_3 y5_0_4 hl5_0 r5_1_0 r5_1_1 r5_1_2 r5_1_3 y5_1_0 y5_1_1 y5_1_2 y5_1_3 hl5_1)
        | (
             go_at_call 40
             have hgd := HP4
             clear hgd
             refine calls_at (fun W => Ps W q A c l s ∧ Kq q w W ∧ w4.heap.size ≤ W.heap.size ∧ Blk W (w.heap.size) 24 zN ∧ Blk W (w1.heap.size) 80 (tC t)) (fun W hW => HT1.out W hW.1) ?_ ?_
             · refine ⟨?_, ?_, ?_, ?_, ?_⟩
               all_goals repeat' (first | (with_reducible first | exact HP4.out | exact HK4.out | exact HB0_4.out | exact HB1_4.out | exact Fr.refl _ _ | apply ps_far | apply Ps.alloc | apply Ps.drew | apply Fr.drew | apply blk_drew | apply kq_far | apply Fr.alloc | apply tokZ | apply nodZ0 | exact blk_new _ _ _ | apply blk_alloc | apply Blk.other) | omega | (simp; done) | (simp <;> omega))
             rintro W ⟨hp, hk, hlo, hb0, hb1⟩
             rintro e w5 ⟨rfl, hb⟩
             have hfr := Kq.of_below (q := q) hb
             have hp2 := hp.below hb
             have hsz := hfr.size
             have hmo5 : w4.heap.size ≤ w5.heap.size := Nat.le_trans hlo hsz
             have hqs : q < w5.heap.size := hp2.qlt
             have hl0 := hb0.lt
             have ht0 : Blk w5 (w.heap.size) 24 zN := hfr.blk hb0 (by omega)
             have hl5_0 : w.heap.size < w5.heap.size := ht0.lt
             obtain ⟨r5_0_0, r5_0_1, r5_0_2, r5_0_3, r5_0_4⟩ := blk5 ht0
             obtain ⟨y5_0_0, y5_0_1, y5_0_2, y5_0_3, y5_0_4⟩ := blk5f ht0
             have HB0_5 := Lib.hid ht0
             have hl1 := hb1.lt
             have ht1 : Blk w5 (w1.heap.size) 80 (tC t) := hfr.blk hb1 (by omega)
             have hl5_1 : w1.heap.size < w5.heap.size := ht1.lt
             obtain ⟨r5_1_0, r5_1_1, r5_1_2, r5_1_3⟩ := blk4 ht1
             obtain ⟨y5_1_0, y5_1_1, y5_1_2, y5_1_3⟩ := blk4f ht1
             have HB1_5 := Lib.hid ht1
             have HP5 := Lib.hid hp2
             have HK5 := Lib.hid (hk.trans hfr)
             clear hp hk hp2 hfr hsz hlo hb0 hl0 ht0 hb1 hl1 ht1 hb
             clear r4_0_0 r4_0_1 r4_0_2 r4_0_3 r4_0_4 y4_0_0 y4_0_1 y4_0_2 y4_0_3 y4_0_4 hl4_0 r4_1_0 r4_1_1 r4_1_2 r4_1_3 y4_1_0 y4_1_1 y4_1_2 y4_1_3 hl4_1)
        | (
             go_at_call 75
             have hgd := HP3
             clear hgd
             refine calls_at (fun W => Ps W q A c l s ∧ Kq q w W ∧ w3.heap.size ≤ W.heap.size ∧ Blk W (w.heap.size) 24 zN ∧ Blk W (w1.heap.size) 80 (tC t)) (fun W hW => HT.out W hW.1) ?_ ?_
             · refine ⟨?_, ?_, ?_, ?_, ?_⟩
               all_goals repeat' (first | (with_reducible first | exact HP3.out | exact HK3.out | exact HB0_3.out | exact HB1_3.out | exact Fr.refl _ _ | apply ps_far | apply Ps.alloc | apply Ps.drew | apply Fr.drew | apply blk_drew | apply kq_far | apply Fr.alloc | apply tokZ | apply nodZ0 | exact blk_new _ _ _ | apply blk_alloc | apply Blk.other) | omega | (simp; done) | (simp <;> omega))
             rintro W ⟨hp, hk, hlo, hb0, hb1⟩
             intro e w4 hpost
             obtain ⟨rfl, hp2, hfr⟩ := hpost
             have hsz := hfr.size
             have hmo4 : w3.heap.size ≤ w4.heap.size := Nat.le_trans hlo hsz
             have hqs : q < w4.heap.size := hp2.qlt
             have hl0 := hb0.lt
             have ht0 : Blk w4 (w.heap.size) 24 zN := hfr.blk hb0 (by omega)
             have hl4_0 : w.heap.size < w4.heap.size := ht0.lt
             obtain ⟨r4_0_0, r4_0_1, r4_0_2, r4_0_3, r4_0_4⟩ := blk5 ht0
             obtain ⟨y4_0_0, y4_0_1, y4_0_2, y4_0_3, y4_0_4⟩ := blk5f ht0
             have HB0_4 := Lib.hid ht0
             have hl1 := hb1.lt
             have ht1 : Blk w4 (w1.heap.size) 80 (tC t) := hfr.blk hb1 (by omega)
             have hl4_1 : w1.heap.size < w4.heap.size := ht1.lt
             obtain ⟨r4_1_0, r4_1_1, r4_1_2, r4_1_3⟩ := blk4 ht1
             obtain ⟨y4_1_0, y4_1_1, y4_1_2, y4_1_3⟩ := blk4f ht1
             have HB1_4 := Lib.hid ht1
             have HP4 := Lib.hid hp2
             have HK4 := Lib.hid (hk.trans hfr)
             clear hp hk hp2 hfr hsz hlo hb0 hl0 ht0 hb1 hl1 ht1
             clear r3_0_0 r3_0_1 r3_0_2 r3_0_3 r3_0_4 y3_0_0 y3_0_1 y3_0_2 y3_0_3 y3_0_4 hl3_0 r3_1_0 r3_1_1 r3_1_2 r3_1_3 y3_1_0 y3_1_1 y3_1_2 y3_1_3 hl3_1))
       all_goals
        refine bodyPost_ret (res_one (by rfl) _ _ w.heap.size #[.string ⟨no.toArray⟩, .string ⟨nn.toArray⟩, .int .i64 nk, .int .i64 np, .slice NA ns.length nc] rfl ?_ Tryd.underlying24 inf_node5) rfl ⟨NA, nc, by rw [HR.out]; rfl, ?_, ?_, ?_⟩
        · repeat' (first | (with_reducible first | exact HP9.out | exact HK9.out | exact HB0_9.out | exact HB1_9.out | exact HB2_9.out | exact HNn_9.out | apply ps_far | apply Ps.alloc | apply Ps.drew | apply kq_far | apply Fr.alloc | apply Fr.drew | apply nodZ0 | exact blk_new _ _ _ | apply blk_drew | apply blk_alloc | apply Blk.other | apply nodex_far | apply nodex_alloc | apply nodex_drew) | omega | (simp; done) | (simp <;> omega))
        · rw [HR.out]
          refine nodef_of (g := w8.heap.size) (nodex_wide (lo := w7.heap.size) (hi := w8.heap.size) ?_ (by omega) (by simp <;> omega))
          repeat' (first | (with_reducible first | exact HP9.out | exact HK9.out | exact HB0_9.out | exact HB1_9.out | exact HB2_9.out | exact HNn_9.out | apply ps_far | apply Ps.alloc | apply Ps.drew | apply kq_far | apply Fr.alloc | apply Fr.drew | apply nodZ0 | exact blk_new _ _ _ | apply blk_drew | apply blk_alloc | apply Blk.other | apply nodex_far | apply nodex_alloc | apply nodex_drew) | omega | (simp; done) | (simp <;> omega))
        · rw [HR.out]
          repeat' (first | (with_reducible first | exact HP9.out | exact HK9.out | exact HB0_9.out | exact HB1_9.out | exact HB2_9.out | exact HNn_9.out | apply ps_far | apply Ps.alloc | apply Ps.drew | apply kq_far | apply Fr.alloc | apply Fr.drew | apply nodZ0 | exact blk_new _ _ _ | apply blk_drew | apply blk_alloc | apply Blk.other | apply nodex_far | apply nodex_alloc | apply nodex_drew) | omega | (simp; done) | (simp <;> omega))
        · repeat' (first | (with_reducible first | exact HP9.out | exact HK9.out | exact HB0_9.out | exact HB1_9.out | exact HB2_9.out | exact HNn_9.out | apply ps_far | apply Ps.alloc | apply Ps.drew | apply kq_far | apply Fr.alloc | apply Fr.drew | apply nodZ0 | exact blk_new _ _ _ | apply blk_drew | apply blk_alloc | apply Blk.other | apply nodex_far | apply nodex_alloc | apply nodex_drew) | omega | (simp; done) | (simp <;> omega))
     · have HR := Lib.hid (HV.out.trans ((if_neg hb).trans ((if_neg (by omega)).trans ((if_neg (by rw [h1, h2]; decide)).trans (if_neg h3)))))
       clear h1 h2
       have HT3 := HTP
       rw [takeP_false (Bool.eq_false_iff.2 h3)] at HT3
       simp only at HT3
       clear HU HF HV hb hx ha h3 HX HTP HNM HLN
       generalize atomP l s = pr at *
       obtain ⟨⟨no, nn, nk, np, ns⟩, s4⟩ := pr
       go_wp2_with (first
        | (
             go_at_call 150
             have hgd := HP7
             clear hgd
             refine calls_at (fun W => Ps W q A c l s ∧ Kq q w W ∧ w7.heap.size ≤ W.heap.size ∧ Blk W (w.heap.size) 24 zN ∧ Blk W (w1.heap.size) 80 (tC t)) (fun W hW => HAT.out W hW.1) ?_ ?_
             · refine ⟨?_, ?_, ?_, ?_, ?_⟩
               all_goals repeat' (first | (with_reducible first | exact HP7.out | exact HK7.out | exact HB0_7.out | exact HB1_7.out | exact Fr.refl _ _ | apply ps_far | apply Ps.alloc | apply Ps.drew | apply Fr.drew | apply blk_drew | apply kq_far | apply Fr.alloc | apply tokZ | apply nodZ0 | exact blk_new _ _ _ | apply blk_alloc | apply Blk.other) | omega | (simp; done) | (simp <;> omega))
             rintro W ⟨hp, hk, hlo, hb0, hb1⟩
             intro e w8 hpost
             obtain ⟨NA, nc, rfl, hnn, hp2, hfr⟩ := npost_open hpost
             have hsz := hfr.size
             have hmo8 : w7.heap.size ≤ w8.heap.size := Nat.le_trans hlo hsz
             have HNN8 := Lib.hid (show NodeF w8 (w7.heap.size) w8.heap.size _ NA nc from nodef_wide hnn hlo (Nat.le_refl _))
             have hqs : q < w8.heap.size := hp2.qlt
             have hl0 := hb0.lt
             have ht0 : Blk w8 (w.heap.size) 24 zN := hfr.blk hb0 (by omega)
             have hl8_0 : w.heap.size < w8.heap.size := ht0.lt
             obtain ⟨r8_0_0, r8_0_1, r8_0_2, r8_0_3, r8_0_4⟩ := blk5 ht0
             obtain ⟨y8_0_0, y8_0_1, y8_0_2, y8_0_3, y8_0_4⟩ := blk5f ht0
             have HB0_8 := Lib.hid ht0
             have hl1 := hb1.lt
             have ht1 : Blk w8 (w1.heap.size) 80 (tC t) := hfr.blk hb1 (by omega)
             have hl8_1 : w1.heap.size < w8.heap.size := ht1.lt
             obtain ⟨r8_1_0, r8_1_1, r8_1_2, r8_1_3⟩ := blk4 ht1
             obtain ⟨y8_1_0, y8_1_1, y8_1_2, y8_1_3⟩ := blk4f ht1
             have HB1_8 := Lib.hid ht1
             have HP8 := Lib.hid hp2
             have HK8 := Lib.hid (hk.trans hfr)
             clear hp hk hp2 hfr hsz hlo hb0 hl0 ht0 hb1 hl1 ht1 hnn
             clear r7_0_0 r7_0_1 r7_0_2 r7_0_3 r7_0_4 y7_0_0 y7_0_1 y7_0_2 y7_0_3 y7_0_4 hl7_0 r7_1_0 r7_1_1 r7_1_2 r7_1_3 y7_1_0 y7_1_1 y7_1_2 y7_1_3 hl7_1)
        | (
             go_at_call 75
             have hgd := HP6
             clear hgd
             refine calls_at (fun W => Ps W q A c l s ∧ Kq q w W ∧ w6.heap.size ≤ W.heap.size ∧ Blk W (w.heap.size) 24 zN ∧ Blk W (w1.heap.size) 80 (tC t)) (fun W hW => HT3.out W hW.1) ?_ ?_
             · refine ⟨?_, ?_, ?_, ?_, ?_⟩
               all_goals repeat' (first | (with_reducible first | exact HP6.out | exact HK6.out | exact HB0_6.out | exact HB1_6.out | exact Fr.refl _ _ | apply ps_far | apply Ps.alloc | apply Ps.drew | apply Fr.drew | apply blk_drew | apply kq_far | apply Fr.alloc | apply tokZ | apply nodZ0 | exact blk_new _ _ _ | apply blk_alloc | apply Blk.other) | omega | (simp; done) | (simp <;> omega))
             rintro W ⟨hp, hk, hlo, hb0, hb1⟩
             intro e w7 hpost
             obtain ⟨rfl, hp2, hfr⟩ := hpost
             have hsz := hfr.size
             have hmo7 : w6.heap.size ≤ w7.heap.size := Nat.le_trans hlo hsz
             have hqs : q < w7.heap.size := hp2.qlt
             have hl0 := hb0.lt
             have ht0 : Blk w7 (w.heap.size) 24 zN := hfr.blk hb0 (by omega)
             have hl7_0 : w.heap.size < w7.heap.size := ht0.lt
             obtain ⟨r7_0_0, r7_0_1, r7_0_2, r7_0_3, r7_0_4⟩ := blk5 ht0
             obtain ⟨y7_0_0, y7_0_1, y7_0_2, y7_0_3, y7_0_4⟩ := blk5f ht0
             have HB0_7 := Lib.hid ht0
             have hl1 := hb1.lt
             have ht1 : Blk w7 (w1.heap.size) 80 (tC t) := hfr.blk hb1 (by omega)
             have hl7_1 : w1.heap.size < w7.heap.size := ht1.lt
             obtain ⟨r7_1_0, r7_1_1, r7_1_2, r7_1_3⟩ := blk4 ht1
             obtain ⟨y7_1_0, y7_1_1, y7_1_2, y7_1_3⟩ := blk4f ht1
             have HB1_7 := Lib.hid ht1
             have HP7 := Lib.hid hp2
             have HK7 := Lib.hid (hk.trans hfr)
             clear hp hk hp2 hfr hsz hlo hb0 hl0 ht0 hb1 hl1 ht1
             clear r6_0_0 r6_0_1 r6_0_2 r6_0_3 r6_0_4 y6_0_0 y6_0_1 y6_0_2 y6_0_3 y6_0_4 hl6_0 r6_1_0 r6_1_1 r6_1_2 r6_1_3 y6_1_0 y6_1_1 y6_1_2 y6_1_3 hl6_1)
        | (
             go_at_call 40
             have hgd := HP5
             clear hgd
             refine calls_at (fun W => Ps W q A c l s ∧ Kq q w W ∧ w5.heap.size ≤ W.heap.size ∧ Blk W (w.heap.size) 24 zN ∧ Blk W (w1.heap.size) 80 (tC t)) (fun W hW => HT2.out W hW.1) ?_ ?_
             · refine ⟨?_, ?_, ?_, ?_, ?_⟩
               all_goals repeat' (first | (with_reducible first | exact HP5.out | exact HK5.out | exact HB0_5.out | exact HB1_5.out | exact Fr.refl _ _ | apply ps_far | apply Ps.alloc | apply Ps.drew | apply Fr.drew | apply blk_drew | apply kq_far | apply Fr.alloc | apply tokZ | apply nodZ0 | exact blk_new _ _ _ | apply blk_alloc | apply Blk.other) | omega | (simp; done) | (simp <;> omega))
             rintro W ⟨hp, hk, hlo, hb0, hb1⟩
             rintro e w6 ⟨rfl, hb⟩
             have hfr := Kq.of_below (q := q) hb
             have hp2 := hp.below hb
             have hsz := hfr.size
             have hmo6 : w5.heap.size ≤ w6.heap.size := Nat.le_trans hlo hsz
             have hqs : q < w6.heap.size := hp2.qlt
             have hl0 := hb0.lt
             have ht0 : Blk w6 (w.heap.size) 24 zN := hfr.blk hb0 (by omega)
             have hl6_0 : w.heap.size < w6.heap.size := ht0.lt
             obtain ⟨r6_0_0, r6_0_1, r6_0_2, r6_0_3, r6_0_4⟩ := blk5 ht0
             obtain ⟨y6_0_0, y6_0_1, y6_0_2, y6_0_3, y6_0_4⟩ := blk5f ht0
             have HB0_6 := Lib.hid ht0
             have hl1 := hb1.lt
             have ht1 : Blk w6 (w1.heap.size) 80 (tC t) := hfr.blk hb1 (by omega)
             have hl6_1 : w1.heap.size < w6.heap.size := ht1.lt
             obtain ⟨r6_1_0, r6_1_1, r6_1_2, r6_1_3⟩ := blk4 ht1
             obtain ⟨y6_1_0, y6_1_1, y6_1_2, y6_1_3⟩ := blk4f ht1
             have HB1_6 := Lib.hid ht1
             have HP6 := Lib.hid hp2
             have HK6 := Lib.hid (hk.trans hfr)
             clear hp hk hp2 hfr hsz hlo hb0 hl0 ht0 hb1 hl1 ht1 hb
             clear r5_0_0 r5_0_1 r5_0_2 r5_0_3 r5_0_4 y5_0_0 y5_0_1 y5_0_2 y5_0_3 y5_0_4 hl5_0 r5_1_0 r5_1_1 r5_1_2 r5_1_3 y5_1_0 y5_1_1 y5_1_2 y5_1_3 hl5_1)
        | (
             go_at_call 40
             have hgd := HP4
             clear hgd
             refine calls_at (fun W => Ps W q A c l s ∧ Kq q w W ∧ w4.heap.size ≤ W.heap.size ∧ Blk W (w.heap.size) 24 zN ∧ Blk W (w1.heap.size) 80 (tC t)) (fun W hW => HT1.out W hW.1) ?_ ?_
             · refine ⟨?_, ?_, ?_, ?_, ?_⟩
               all_goals repeat' (first | (with_reducible first | exact HP4.out | exact HK4.out | exact HB0_4.out | exact HB1_4.out | exact Fr.refl _ _ | apply ps_far | apply Ps.alloc | apply Ps.drew | apply Fr.drew | apply blk_drew | apply kq_far | apply Fr.alloc | apply tokZ | apply nodZ0 | exact blk_new _ _ _ | apply blk_alloc | apply Blk.other) | omega | (simp; done) | (simp <;> omega))
             rintro W ⟨hp, hk, hlo, hb0, hb1⟩
             rintro e w5 ⟨rfl, hb⟩
             have hfr := Kq.of_below (q := q) hb
             have hp2 := hp.below hb
             have hsz := hfr.size
             have hmo5 : w4.heap.size ≤ w5.heap.size := Nat.le_trans hlo hsz
             have hqs : q < w5.heap.size := hp2.qlt
             have hl0 := hb0.lt
             have ht0 : Blk w5 (w.heap.size) 24 zN := hfr.blk hb0 (by omega)
             have hl5_0 : w.heap.size < w5.heap.size := ht0.lt
             obtain ⟨r5_0_0, r5_0_1, r5_0_2, r5_0_3, r5_0_4⟩ := blk5 ht0
             obtain ⟨y5_0_0, y5_0_1, y5_0_2, y5_0_3, y5_0_4⟩ := blk5f ht0
             have HB0_5 := Lib.hid ht0
             have hl1 := hb1.lt
             have ht1 : Blk w5 (w1.heap.size) 80 (tC t) := hfr.blk hb1 (by omega)
             have hl5_1 : w1.heap.size < w5.heap.size := ht1.lt
             obtain ⟨r5_1_0, r5_1_1, r5_1_2, r5_1_3⟩ := blk4 ht1
             obtain ⟨y5_1_0, y5_1_1, y5_1_2, y5_1_3⟩ := blk4f ht1
             have HB1_5 := Lib.hid ht1
             have HP5 := Lib.hid hp2
             have HK5 := Lib.hid (hk.trans hfr)
             clear hp hk hp2 hfr hsz hlo hb0 hl0 ht0 hb1 hl1 ht1 hb
             clear r4_0_0 r4_0_1 r4_0_2 r4_0_3 r4_0_4 y4_0_0 y4_0_1 y4_0_2 y4_0_3 y4_0_4 hl4_0 r4_1_0 r4_1_1 r4_1_2 r4_1_3 y4_1_0 y4_1_1 y4_1_2 y4_1_3 hl4_1)
        | (
             go_at_call 75
             have hgd := HP3
             clear hgd
             refine calls_at (fun W => Ps W q A c l s ∧ Kq q w W ∧ w3.heap.size ≤ W.heap.size ∧ Blk W (w.heap.size) 24 zN ∧ Blk W (w1.heap.size) 80 (tC t)) (fun W hW => HT.out W hW.1) ?_ ?_
             · refine ⟨?_, ?_, ?_, ?_, ?_⟩
               all_goals repeat' (first | (with_reducible first | exact HP3.out | exact HK3.out | exact HB0_3.out | exact HB1_3.out | exact Fr.refl _ _ | apply ps_far | apply Ps.alloc | apply Ps.drew | apply Fr.drew | apply blk_drew | apply kq_far | apply Fr.alloc | apply tokZ | apply nodZ0 | exact blk_new _ _ _ | apply blk_alloc | apply Blk.other) | omega | (simp; done) | (simp <;> omega))
             rintro W ⟨hp, hk, hlo, hb0, hb1⟩
             intro e w4 hpost
             obtain ⟨rfl, hp2, hfr⟩ := hpost
             have hsz := hfr.size
             have hmo4 : w3.heap.size ≤ w4.heap.size := Nat.le_trans hlo hsz
             have hqs : q < w4.heap.size := hp2.qlt
             have hl0 := hb0.lt
             have ht0 : Blk w4 (w.heap.size) 24 zN := hfr.blk hb0 (by omega)
             have hl4_0 : w.heap.size < w4.heap.size := ht0.lt
             obtain ⟨r4_0_0, r4_0_1, r4_0_2, r4_0_3, r4_0_4⟩ := blk5 ht0
             obtain ⟨y4_0_0, y4_0_1, y4_0_2, y4_0_3, y4_0_4⟩ := blk5f ht0
             have HB0_4 := Lib.hid ht0
             have hl1 := hb1.lt
             have ht1 : Blk w4 (w1.heap.size) 80 (tC t) := hfr.blk hb1 (by omega)
             have hl4_1 : w1.heap.size < w4.heap.size := ht1.lt
             obtain ⟨r4_1_0, r4_1_1, r4_1_2, r4_1_3⟩ := blk4 ht1
             obtain ⟨y4_1_0, y4_1_1, y4_1_2, y4_1_3⟩ := blk4f ht1
             have HB1_4 := Lib.hid ht1
             have HP4 := Lib.hid hp2
             have HK4 := Lib.hid (hk.trans hfr)
             clear hp hk hp2 hfr hsz hlo hb0 hl0 ht0 hb1 hl1 ht1
             clear r3_0_0 r3_0_1 r3_0_2 r3_0_3 r3_0_4 y3_0_0 y3_0_1 y3_0_2 y3_0_3 y3_0_4 hl3_0 r3_1_0 r3_1_1 r3_1_2 r3_1_3 y3_1_0 y3_1_1 y3_1_2 y3_1_3 hl3_1))
       all_goals
        refine bodyPost_ret (res_one (by rfl) _ _ w.heap.size #[.string ⟨no.toArray⟩, .string ⟨nn.toArray⟩, .int .i64 nk, .int .i64 np, .slice NA ns.length nc] rfl ?_ Tryd.underlying24 inf_node5) rfl ⟨NA, nc, by rw [HR.out]; rfl, ?_, ?_, ?_⟩
        · repeat' (first | (with_reducible first | exact HP8.out | exact HK8.out | exact HB0_8.out | exact HB1_8.out | apply ps_far | apply Ps.alloc | apply Ps.drew | apply kq_far | apply Fr.alloc | apply Fr.drew | apply nodZ0 | exact blk_new _ _ _ | apply blk_drew | apply blk_alloc | apply Blk.other | apply nodex_far | apply nodex_alloc | apply nodex_drew) | omega | (simp; done) | (simp <;> omega))
        · rw [HR.out]
          refine nodef_wide (lo := w7.heap.size) (hi := w8.heap.size) ?_ (by omega) (by simp <;> omega)
          repeat' (first | (with_reducible first | exact HNN8.out | apply nodef_far | apply nodef_drew) | omega)
        · rw [HR.out]
          repeat' (first | (with_reducible first | exact HP8.out | exact HK8.out | exact HB0_8.out | exact HB1_8.out | apply ps_far | apply Ps.alloc | apply Ps.drew | apply kq_far | apply Fr.alloc | apply Fr.drew | apply nodZ0 | exact blk_new _ _ _ | apply blk_drew | apply blk_alloc | apply Blk.other | apply nodex_far | apply nodex_alloc | apply nodex_drew) | omega | (simp; done) | (simp <;> omega))
        · repeat' (first | (with_reducible first | exact HP8.out | exact HK8.out | exact HB0_8.out | exact HB1_8.out | apply ps_far | apply Ps.alloc | apply Ps.drew | apply kq_far | apply Fr.alloc | apply Fr.drew | apply nodZ0 | exact blk_new _ _ _ | apply blk_drew | apply blk_alloc | apply Blk.other | apply nodex_far | apply nodex_alloc | apply nodex_drew) | omega | (simp; done) | (simp <;> omega))
 · have HR := Lib.hid (HV.out.trans ((if_neg hb).trans (if_pos (by omega))))
   rw [if_neg hx, if_neg hx] at HR
   have HT := HTT
   rw [takeP_false (Bool.eq_false_iff.2 hb)] at HT
   simp only at HT
   clear HTT
   have gx : decide ((0 : Int) ≤ ox) = true := decide_eq_true (by omega)
   have gl : decide (ox < (0 : Int)) = false := decide_eq_false hx
   clear hb hx HV HTP HT1 HT2 HAT
   generalize nextP l s = s3 at *
   generalize nameP l s3 = na at *
   obtain ⟨a, s4⟩ := na
   have HM := Lib.hid (fun W (hW : Ps W q A c l s4) => pmust_any hW [58])
   have HI : Hid (∀ W, Ps W q A c l (mustP l s4 [58]) → Calls Tryd.prog 44 #[.pointer (some ⟨q, 0, none⟩), .int .i64 ((d : Int) + 1)] W (NPost W q A c l (formulaP l (unP l k) k (mustP l s4 [58])))) := Lib.hid (fun W hW => HF W q A c _ hW)
   clear HF HU
   simp only at HNM HLN HR
   generalize mustP l s4 [58] = s5 at *
   generalize formulaP l (unP l k) k s5 = pr at *
   obtain ⟨⟨po, pn, pk, pp, ps⟩, s6⟩ := pr
   simp only at HR
   unfold tokV at HNM
   have hf1 := fld1
   go_upto_region 9 with (first
    | (
         go_at_call 72
         have hgd := HP4
         clear hgd
         refine calls_at (fun W => Ps W q A c l s ∧ Kq q w W ∧ w4.heap.size ≤ W.heap.size ∧ Blk W (w.heap.size) 24 zN ∧ Blk W (w1.heap.size) 80 (tC t)) (fun W hW => HX.out W hW.1) ?_ ?_
         · refine ⟨?_, ?_, ?_, ?_, ?_⟩
           all_goals repeat' (first | (with_reducible first | exact HP4.out | exact HK4.out | exact HB0_4.out | exact HB1_4.out | exact Fr.refl _ _ | apply ps_far | apply Ps.alloc | apply Ps.drew | apply Fr.drew | apply blk_drew | apply kq_far | apply Fr.alloc | apply tokZ | apply nodZ0 | exact blk_new _ _ _ | apply blk_alloc | apply Blk.other) | omega | (simp; done) | (simp <;> omega))
         rintro W ⟨hp, hk, hlo, hb0, hb1⟩
         intro e w5 hpost
         obtain ⟨rfl, hp2, hfr⟩ := hpost
         have hsz := hfr.size
         have hmo5 : w4.heap.size ≤ w5.heap.size := Nat.le_trans hlo hsz
         have hqs : q < w5.heap.size := hp2.qlt
         have hl0 := hb0.lt
         have ht0 : Blk w5 (w.heap.size) 24 zN := hfr.blk hb0 (by omega)
         have hl5_0 : w.heap.size < w5.heap.size := ht0.lt
         obtain ⟨r5_0_0, r5_0_1, r5_0_2, r5_0_3, r5_0_4⟩ := blk5 ht0
         obtain ⟨y5_0_0, y5_0_1, y5_0_2, y5_0_3, y5_0_4⟩ := blk5f ht0
         have HB0_5 := Lib.hid ht0
         have hl1 := hb1.lt
         have ht1 : Blk w5 (w1.heap.size) 80 (tC t) := hfr.blk hb1 (by omega)
         have hl5_1 : w1.heap.size < w5.heap.size := ht1.lt
         obtain ⟨r5_1_0, r5_1_1, r5_1_2, r5_1_3⟩ := blk4 ht1
         obtain ⟨y5_1_0, y5_1_1, y5_1_2, y5_1_3⟩ := blk4f ht1
         have HB1_5 := Lib.hid ht1
         have HP5 := Lib.hid hp2
         have HK5 := Lib.hid (hk.trans hfr)
         clear hp hk hp2 hfr hsz hlo hb0 hl0 ht0 hb1 hl1 ht1
         clear r4_0_0 r4_0_1 r4_0_2 r4_0_3 r4_0_4 y4_0_0 y4_0_1 y4_0_2 y4_0_3 y4_0_4 hl4_0 r4_1_0 r4_1_1 r4_1_2 r4_1_3 y4_1_0 y4_1_1 y4_1_2 y4_1_3 hl4_1)
    | (
         go_at_call 75
         have hgd := HP3
         clear hgd
         refine calls_at (fun W => Ps W q A c l s ∧ Kq q w W ∧ w3.heap.size ≤ W.heap.size ∧ Blk W (w.heap.size) 24 zN ∧ Blk W (w1.heap.size) 80 (tC t)) (fun W hW => HT.out W hW.1) ?_ ?_
         · refine ⟨?_, ?_, ?_, ?_, ?_⟩
           all_goals repeat' (first | (with_reducible first | exact HP3.out | exact HK3.out | exact HB0_3.out | exact HB1_3.out | exact Fr.refl _ _ | apply ps_far | apply Ps.alloc | apply Ps.drew | apply Fr.drew | apply blk_drew | apply kq_far | apply Fr.alloc | apply tokZ | apply nodZ0 | exact blk_new _ _ _ | apply blk_alloc | apply Blk.other) | omega | (simp; done) | (simp <;> omega))
         rintro W ⟨hp, hk, hlo, hb0, hb1⟩
         intro e w4 hpost
         obtain ⟨rfl, hp2, hfr⟩ := hpost
         have hsz := hfr.size
         have hmo4 : w3.heap.size ≤ w4.heap.size := Nat.le_trans hlo hsz
         have hqs : q < w4.heap.size := hp2.qlt
         have hl0 := hb0.lt
         have ht0 : Blk w4 (w.heap.size) 24 zN := hfr.blk hb0 (by omega)
         have hl4_0 : w.heap.size < w4.heap.size := ht0.lt
         obtain ⟨r4_0_0, r4_0_1, r4_0_2, r4_0_3, r4_0_4⟩ := blk5 ht0
         obtain ⟨y4_0_0, y4_0_1, y4_0_2, y4_0_3, y4_0_4⟩ := blk5f ht0
         have HB0_4 := Lib.hid ht0
         have hl1 := hb1.lt
         have ht1 : Blk w4 (w1.heap.size) 80 (tC t) := hfr.blk hb1 (by omega)
         have hl4_1 : w1.heap.size < w4.heap.size := ht1.lt
         obtain ⟨r4_1_0, r4_1_1, r4_1_2, r4_1_3⟩ := blk4 ht1
         obtain ⟨y4_1_0, y4_1_1, y4_1_2, y4_1_3⟩ := blk4f ht1
         have HB1_4 := Lib.hid ht1
         have HP4 := Lib.hid hp2
         have HK4 := Lib.hid (hk.trans hfr)
         clear hp hk hp2 hfr hsz hlo hb0 hl0 ht0 hb1 hl1 ht1
         clear r3_0_0 r3_0_1 r3_0_2 r3_0_3 r3_0_4 y3_0_0 y3_0_1 y3_0_2 y3_0_3 y3_0_4 hl3_0 r3_1_0 r3_1_1 r3_1_2 r3_1_3 y3_1_0 y3_1_1 y3_1_2 y3_1_3 hl3_1))
   have hb5 : w1.heap.size < w5.heap.size := HB1_5.out.lt
   have hb4 : w.heap.size < w5.heap.size := HB0_5.out.lt
   have HCb : Hid (Calls Tryd.prog 73 #[.pointer (some ⟨q, 0, none⟩)] w5.drew fun e w6 => e = .returned (.agg #[.int .i64 (a.kind : Nat), .string ⟨a.text.toArray⟩, .int .i64 (a.n : Nat), .int .i64 (a.at_ : Nat)]) ∧ Ps w6 q A c l s4 ∧ Kq q w w6 ∧ Blk w6 w.heap.size 24 zN ∧ Blk w6 w1.heap.size 80 (tC t) ∧ w5.heap.size ≤ w6.heap.size) := by
    refine Lib.hid ((HNM.out _ HP5.out.drew).mono ?_)
    intro e w6 hpost
    obtain ⟨rfl, hp6, hk6⟩ := hpost
    have hs6 : w5.heap.size ≤ w6.heap.size := hk6.size
    exact ⟨rfl, hp6, HK5.out.drew.trans hk6, hk6.blk (blk_drew HB0_5.out) (by omega), hk6.blk (blk_drew HB1_5.out) (by omega), hs6⟩
   have HCa : Hid (Calls Tryd.prog 73 #[.pointer (some ⟨q, 0, none⟩)] (w5.alloc (.cells #[.string ⟨#[]⟩, .string ⟨#[]⟩, .int .i64 0, .int .i64 0, .slice none 0 0] 24)).drew fun e w6 => e = .returned (.agg #[.int .i64 (a.kind : Nat), .string ⟨a.text.toArray⟩, .int .i64 (a.n : Nat), .int .i64 (a.at_ : Nat)]) ∧ Ps w6 q A c l s4 ∧ Kq q w w6 ∧ Blk w6 w.heap.size 24 zN ∧ Blk w6 w1.heap.size 80 (tC t) ∧ Blk w6 w5.heap.size 24 zN) := by
    refine Lib.hid ((HNM.out _ (HP5.out.alloc _).drew).mono ?_)
    intro e w6 hpost
    obtain ⟨rfl, hp6, hk6⟩ := hpost
    exact ⟨rfl, hp6, ((HK5.out.alloc _).drew).trans hk6, hk6.blk (blk_drew (blk_alloc HB0_5.out _)) (by omega), hk6.blk (blk_drew (blk_alloc HB1_5.out _)) (by omega), hk6.blk (blk_drew (blk_new _ _ _)) (by omega)⟩
   clear HNM HX HT
   go_cut [8] from 41 to 47 (fun v wx => ∃ bn, v = .pointer (some ⟨bn, 0, none⟩) ∧ w5.heap.size ≤ bn ∧ bn < wx.heap.size ∧ Ps wx q A c l s4 ∧ Kq q w wx ∧ Blk wx w.heap.size 24 zN ∧ Blk wx w1.heap.size 80 (tC t) ∧ Blk wx bn 24 #[.string ⟨#[101, 120]⟩, .string ⟨a.text.toArray⟩, .int .i64 ox, .int .i64 (t.at_ : Nat), .slice none 0 0])
   case first =>
    go_region_held3 (fun W : World => W.cell? ⟨w1.heap.size, 3, none⟩ = some (.int .i64 (t.at_ : Nat))) (repeat' (first | (with_reducible first | exact r5_1_3 | exact r6_1_3 | apply keepS | apply keepA | apply keepD) | omega)) ((
     go_at_call 73
     first
      | (with_reducible refine HCa.out.mono ?_
         rintro e w6 ⟨rfl, hp6, hk6, hb60, hb61, hb62⟩
         have hz6 : w5.heap.size < w6.heap.size := hb62.lt
         obtain ⟨r6_2_0, r6_2_1, r6_2_2, r6_2_3, r6_2_4⟩ := blk5 hb62
         obtain ⟨y6_2_0, y6_2_1, y6_2_2, y6_2_3, y6_2_4⟩ := blk5f hb62
         have HB2_6 := Lib.hid hb62
         clear hb62)
      | (with_reducible refine HCb.out.mono ?_
         rintro e w6 ⟨rfl, hp6, hk6, hb60, hb61, hz6⟩)
     have hqs : q < w6.heap.size := hp6.qlt
     obtain ⟨r6_1_0, r6_1_1, r6_1_2, r6_1_3⟩ := blk4 hb61
     have HP6 := Lib.hid hp6
     have HK6 := Lib.hid hk6
     have HB0_6 := Lib.hid hb60
     have HB1_6 := Lib.hid hb61
     clear hp6 hk6 hb60 hb61))
    all_goals
     go_wp2_with fail
     go_meet
     case rel =>
      refine ⟨_, rfl, ?_, ?_, ?_, ?_, ?_, ?_, ?_⟩
      all_goals repeat' (first | (with_reducible first | exact HP6.out | exact HK6.out | exact HB0_6.out | exact HB1_6.out | exact HB2_6.out | apply ps_far | apply Ps.alloc | apply kq_far | apply Fr.alloc | apply nodZ0 | exact blk_new _ _ _ | apply blk_alloc | apply Blk.other) | omega | (simp; done) | (simp <;> omega))
   case rest =>
    obtain ⟨bn, rfl, hbn, hl7_2, hp7, hk7, hb70, hb71, hb72⟩ := hcut
    obtain ⟨w7, hw7⟩ : ∃ x, x = wc := ⟨_, rfl⟩
    subst hw7
    have hmo7 : w5.heap.size ≤ w7.heap.size := by omega
    have hqs : q < w7.heap.size := hp7.qlt
    have hl7_0 : w.heap.size < w7.heap.size := hb70.lt
    have hl7_1 : w1.heap.size < w7.heap.size := hb71.lt
    obtain ⟨r7_0_0, r7_0_1, r7_0_2, r7_0_3, r7_0_4⟩ := blk5 hb70
    obtain ⟨y7_0_0, y7_0_1, y7_0_2, y7_0_3, y7_0_4⟩ := blk5f hb70
    obtain ⟨r7_1_0, r7_1_1, r7_1_2, r7_1_3⟩ := blk4 hb71
    obtain ⟨y7_1_0, y7_1_1, y7_1_2, y7_1_3⟩ := blk4f hb71
    obtain ⟨r7_2_0, r7_2_1, r7_2_2, r7_2_3, r7_2_4⟩ := blk5 hb72
    obtain ⟨y7_2_0, y7_2_1, y7_2_2, y7_2_3, y7_2_4⟩ := blk5f hb72
    have HP7 := Lib.hid hp7
    have HK7 := Lib.hid hk7
    have HB0_7 := Lib.hid hb70
    have HB1_7 := Lib.hid hb71
    have HB2_7 := Lib.hid hb72
    clear hp7 hk7 hb70 hb71 hb72 HCa HCb
    clear r5_0_0 r5_0_1 r5_0_2 r5_0_3 r5_0_4 y5_0_0 y5_0_1 y5_0_2 y5_0_3 y5_0_4 hl5_0 r5_1_0 r5_1_1 r5_1_2 r5_1_3 y5_1_0 y5_1_1 y5_1_2 y5_1_3 hl5_1
    skip
    go_wp2_with (first
     | (
          go_at_call 44
          have hgd := HP8
          clear hgd
          refine calls_at (fun W => Ps W q A c l s5 ∧ Kq q w W ∧ w8.heap.size ≤ W.heap.size ∧ Blk W (w.heap.size) 24 zN ∧ Blk W (w1.heap.size) 80 (tC t) ∧ Blk W (bn) 24 #[.string ⟨#[101, 120]⟩, .string ⟨a.text.toArray⟩, .int .i64 ox, .int .i64 (t.at_ : Nat), .slice none 0 0]) (fun W hW => HI.out W hW.1) ?_ ?_
          · refine ⟨?_, ?_, ?_, ?_, ?_, ?_⟩
            all_goals repeat' (first | (with_reducible first | exact HP8.out | exact HK8.out | exact HB0_8.out | exact HB1_8.out | exact HB2_8.out | exact Fr.refl _ _ | apply ps_far | apply Ps.alloc | apply Ps.drew | apply Fr.drew | apply blk_drew | apply kq_far | apply Fr.alloc | apply tokZ | apply nodZ0 | exact blk_new _ _ _ | apply blk_alloc | apply Blk.other) | omega | (simp; done) | (simp <;> omega))
          rintro W ⟨hp, hk, hlo, hb0, hb1, hb2⟩
          intro e w9 hpost
          obtain ⟨A9, c9, rfl, hnn, hp2, hfr⟩ := npost_open hpost
          have hsz := hfr.size
          have hmo9 : w8.heap.size ≤ w9.heap.size := Nat.le_trans hlo hsz
          have HNN9 := Lib.hid (show NodeF w9 (w8.heap.size) w9.heap.size _ A9 c9 from nodef_wide hnn hlo (Nat.le_refl _))
          have hqs : q < w9.heap.size := hp2.qlt
          have hl0 := hb0.lt
          have ht0 : Blk w9 (w.heap.size) 24 zN := hfr.blk hb0 (by omega)
          have hl9_0 : w.heap.size < w9.heap.size := ht0.lt
          obtain ⟨r9_0_0, r9_0_1, r9_0_2, r9_0_3, r9_0_4⟩ := blk5 ht0
          obtain ⟨y9_0_0, y9_0_1, y9_0_2, y9_0_3, y9_0_4⟩ := blk5f ht0
          have HB0_9 := Lib.hid ht0
          have hl1 := hb1.lt
          have ht1 : Blk w9 (w1.heap.size) 80 (tC t) := hfr.blk hb1 (by omega)
          have hl9_1 : w1.heap.size < w9.heap.size := ht1.lt
          obtain ⟨r9_1_0, r9_1_1, r9_1_2, r9_1_3⟩ := blk4 ht1
          obtain ⟨y9_1_0, y9_1_1, y9_1_2, y9_1_3⟩ := blk4f ht1
          have HB1_9 := Lib.hid ht1
          have hl2 := hb2.lt
          have ht2 : Blk w9 (bn) 24 #[.string ⟨#[101, 120]⟩, .string ⟨a.text.toArray⟩, .int .i64 ox, .int .i64 (t.at_ : Nat), .slice none 0 0] := hfr.blk hb2 (by omega)
          have hl9_2 : bn < w9.heap.size := ht2.lt
          obtain ⟨r9_2_0, r9_2_1, r9_2_2, r9_2_3, r9_2_4⟩ := blk5 ht2
          obtain ⟨y9_2_0, y9_2_1, y9_2_2, y9_2_3, y9_2_4⟩ := blk5f ht2
          have HB2_9 := Lib.hid ht2
          have HP9 := Lib.hid hp2
          have HK9 := Lib.hid (hk.trans hfr)
          clear hp hk hp2 hfr hsz hlo hb0 hl0 ht0 hb1 hl1 ht1 hb2 hl2 ht2 hnn
          clear r8_0_0 r8_0_1 r8_0_2 r8_0_3 r8_0_4 y8_0_0 y8_0_1 y8_0_2 y8_0_3 y8_0_4 hl8_0 r8_1_0 r8_1_1 r8_1_2 r8_1_3 y8_1_0 y8_1_1 y8_1_2 y8_1_3 hl8_1 r8_2_0 r8_2_1 r8_2_2 r8_2_3 r8_2_4 y8_2_0 y8_2_1 y8_2_2 y8_2_3 y8_2_4 hl8_2)
     | (
          go_at_call 45
          have hgd := HP7
          clear hgd
          refine calls_at (fun W => Ps W q A c l s4 ∧ Kq q w W ∧ w7.heap.size ≤ W.heap.size ∧ Blk W (w.heap.size) 24 zN ∧ Blk W (w1.heap.size) 80 (tC t) ∧ Blk W (bn) 24 #[.string ⟨#[101, 120]⟩, .string ⟨a.text.toArray⟩, .int .i64 ox, .int .i64 (t.at_ : Nat), .slice none 0 0]) (fun W hW => HM.out W hW.1) ?_ ?_
          · refine ⟨?_, ?_, ?_, ?_, ?_, ?_⟩
            all_goals repeat' (first | (with_reducible first | exact HP7.out | exact HK7.out | exact HB0_7.out | exact HB1_7.out | exact HB2_7.out | exact Fr.refl _ _ | apply ps_far | apply Ps.alloc | apply Ps.drew | apply Fr.drew | apply blk_drew | apply kq_far | apply Fr.alloc | apply tokZ | apply nodZ0 | exact blk_new _ _ _ | apply blk_alloc | apply Blk.other) | omega | (simp; done) | (simp <;> omega))
          rintro W ⟨hp, hk, hlo, hb0, hb1, hb2⟩
          intro e w8 hpost
          obtain ⟨rfl, hp2, hfr⟩ := hpost
          have hsz := hfr.size
          have hmo8 : w7.heap.size ≤ w8.heap.size := Nat.le_trans hlo hsz
          have hqs : q < w8.heap.size := hp2.qlt
          have hl0 := hb0.lt
          have ht0 : Blk w8 (w.heap.size) 24 zN := hfr.blk hb0 (by omega)
          have hl8_0 : w.heap.size < w8.heap.size := ht0.lt
          obtain ⟨r8_0_0, r8_0_1, r8_0_2, r8_0_3, r8_0_4⟩ := blk5 ht0
          obtain ⟨y8_0_0, y8_0_1, y8_0_2, y8_0_3, y8_0_4⟩ := blk5f ht0
          have HB0_8 := Lib.hid ht0
          have hl1 := hb1.lt
          have ht1 : Blk w8 (w1.heap.size) 80 (tC t) := hfr.blk hb1 (by omega)
          have hl8_1 : w1.heap.size < w8.heap.size := ht1.lt
          obtain ⟨r8_1_0, r8_1_1, r8_1_2, r8_1_3⟩ := blk4 ht1
          obtain ⟨y8_1_0, y8_1_1, y8_1_2, y8_1_3⟩ := blk4f ht1
          have HB1_8 := Lib.hid ht1
          have hl2 := hb2.lt
          have ht2 : Blk w8 (bn) 24 #[.string ⟨#[101, 120]⟩, .string ⟨a.text.toArray⟩, .int .i64 ox, .int .i64 (t.at_ : Nat), .slice none 0 0] := hfr.blk hb2 (by omega)
          have hl8_2 : bn < w8.heap.size := ht2.lt
          obtain ⟨r8_2_0, r8_2_1, r8_2_2, r8_2_3, r8_2_4⟩ := blk5 ht2
          obtain ⟨y8_2_0, y8_2_1, y8_2_2, y8_2_3, y8_2_4⟩ := blk5f ht2
          have HB2_8 := Lib.hid ht2
          have HP8 := Lib.hid hp2
          have HK8 := Lib.hid (hk.trans hfr)
          clear hp hk hp2 hfr hsz hlo hb0 hl0 ht0 hb1 hl1 ht1 hb2 hl2 ht2
          clear r7_0_0 r7_0_1 r7_0_2 r7_0_3 r7_0_4 r7_1_0 r7_1_1 r7_1_2 r7_1_3 r7_2_0 r7_2_1 r7_2_2 r7_2_3 r7_2_4 y7_0_0 y7_0_1 y7_0_2 y7_0_3 y7_0_4 y7_1_0 y7_1_1 y7_1_2 y7_1_3 y7_2_0 y7_2_1 y7_2_2 y7_2_3 y7_2_4))
    all_goals
     have hh9 : bn < w9.heap.size := HB2_9.out.lt
     refine bodyPost_ret (res_one (by rfl) _ _ w.heap.size #[.string ⟨#[101, 120]⟩, .string ⟨a.text.toArray⟩, .int .i64 ox, .int .i64 (t.at_ : Nat), .slice (some ⟨w9.heap.size, 0, none⟩) 1 1] rfl ?_ Tryd.underlying24 inf_node5) rfl ⟨some ⟨w9.heap.size, 0, none⟩, 1, by rw [HR.out]; rfl, ?_, ?_, ?_⟩
     · repeat' (first | (with_reducible first | exact HP9.out | exact HK9.out | exact HB0_9.out | exact HB1_9.out | exact HB2_9.out | apply ps_far | apply Ps.alloc | apply Ps.drew | apply kq_far | apply Fr.alloc | apply Fr.drew | apply nodZ0 | apply nodZ4 | exact blk_new _ _ _ | apply blk_drew | apply blk_alloc | apply Blk.other | apply nodex_far | apply nodex_alloc | apply nodex_drew) | omega | (simp; done) | (simp <;> omega))
     · rw [HR.out]
       refine NodeS.one (A := A9) (c := c9) (b := w9.heap.size) (by decide) (by have := HLN.out; omega) ?_ ⟨by omega, by simp <;> omega⟩ ?_
       · repeat' (first | (with_reducible exact blk_new _ _ _) | exact blk_new_at (by simp) | (with_reducible refine Blk.other ?_ ?_ _) | omega | (simp <;> omega))
       · refine nodef_wide (lo := w8.heap.size) (hi := w9.heap.size) ?_ (by omega) (by simp)
         repeat' (first | (with_reducible first | exact HNN9.out | apply nodef_far | apply nodef_alloc | apply nodef_drew) | omega | (simp; done) | (simp <;> omega))
     · rw [HR.out]
       repeat' (first | (with_reducible first | exact HP9.out | exact HK9.out | exact HB0_9.out | exact HB1_9.out | exact HB2_9.out | apply ps_far | apply Ps.alloc | apply Ps.drew | apply kq_far | apply Fr.alloc | apply Fr.drew | apply nodZ0 | apply nodZ4 | exact blk_new _ _ _ | apply blk_drew | apply blk_alloc | apply Blk.other | apply nodex_far | apply nodex_alloc | apply nodex_drew) | omega | (simp; done) | (simp <;> omega))
     · repeat' (first | (with_reducible first | exact HP9.out | exact HK9.out | exact HB0_9.out | exact HB1_9.out | exact HB2_9.out | apply ps_far | apply Ps.alloc | apply Ps.drew | apply kq_far | apply Fr.alloc | apply Fr.drew | apply nodZ0 | apply nodZ4 | exact blk_new _ _ _ | apply blk_drew | apply blk_alloc | apply Blk.other | apply nodex_far | apply nodex_alloc | apply nodex_drew) | omega | (simp; done) | (simp <;> omega))
end Go.Proofs.YteikakoheibnjaaDoor
