/- Parts of the proof: PTerm. -/
import Derived.Test.YteikakoheibnjaaDoorQ15
namespace Go.Proofs.YteikakoheibnjaaDoor
open Go Go.RowKit

theorem ppart_any {w : World} {q : Nat} {A : Option Addr} {c : Nat} {l : List Tok} {s : PS} (h : Ps w q A c l s) :
  Calls Tryd.prog 161 #[.pointer (some ⟨q, 0, none⟩), .bool false] w (NPost w q A c l (part l s)) := by
 have e : part l s = if (nowP l s).kind = 1 then partName l s else if (nowP l s).kind = 2 then (.node nNum [] (nowP l s).n (nowP l s).at_ [], nextP l s) else
   if isW l s [123] = true then (.node nSet [] 0 (nowP l s).at_ (rowP l (partT l) [125] (nextP l s)).1, (rowP l (partT l) [125] (nextP l s)).2) else (zNode, failP s (nowP l s).at_ 2) := rfl
 rw [e]
 by_cases h1 : (nowP l s).kind = 1
 · rw [if_pos h1]
   exact ppart_name h false h1
 · rw [if_neg h1]
   by_cases h2 : (nowP l s).kind = 2
   · rw [if_pos h2]
     exact ppart_num h false h2
   · rw [if_neg h2]
     by_cases h3 : isW l s [123] = true
     · rw [if_pos h3]
       exact ppart_set h h1 h2 h3 fun W hW => prowT_any hW [125]
     · rw [if_neg h3]
       exact ppart_none h false h1 h2 (by simpa using h3)
theorem termF_step (l : List Tok) (f : Nat) (n : Node) (s : PS) : termF l (f + 1) n s = if s.e = 0 then (if (isW l s nUnion || isW l s nInter) = true then termF l f (.node (nowP l s).text [] 0 (nowP l s).at_ [n, (part l (nextP l s)).1]) (part l (nextP l s)).2 else
  if isW l s [92] = true then termF l f (.node nMinus [] 0 (nowP l s).at_ [n, (part l (nextP l s)).1]) (part l (nextP l s)).2 else (n, s)) else (n, s) := rfl
theorem termP_eq (l : List Tok) (s : PS) : termP l s = termF l (l.length + 1) (part l s).1 (part l s).2 := rfl

set_option maxRecDepth 100000 in
set_option maxHeartbeats 80000000 in
theorem pterm_any {w : World} {q : Nat} {A : Option Addr} {c : Nat} {l : List Tok} {s : PS} (h : Ps w q A c l s) :
  Calls Tryd.prog 155 #[.pointer (some ⟨q, 0, none⟩)] w (NPost w q A c l (termP l s)) := by
 have HP0 := Lib.hid h
 have hq := h.qlt
 have HI := Lib.hid (fun W s' (hW : Ps W q A c l s') => ppart_any hW)
 have HIS := Lib.hid (fun W s' x (hW : Ps W q A c l s') => pis_any hW x)
 have HNW := Lib.hid (fun W s' (hW : Ps W q A c l s') => pnow_any hW)
 have HNX := Lib.hid (fun W s' (hW : Ps W q A c l s') => pnext_any hW)
 have HADV := Lib.hid (part_i (l := l))
 have HV := Lib.hid (termP_eq l s)
 clear h
 generalize termP l s = V at *
 have HI1 := Lib.hid (fun W (hW : Ps W q A c l s) => HI.out W s hW)
 generalize part l s = r at *
 obtain ⟨⟨ro, rn, rk, rp, rs⟩, s1⟩ := r
 simp only at HV
 go_enter Tryd.func155, Tryd.ntmps155
 go_upto_region 2 with (
    go_at_call 161
    have hgd := HP0
    clear hgd
    refine calls_at (fun W => Ps W q A c l s ∧ Kq q w W ∧ w.heap.size + 1 ≤ W.heap.size ∧ Blk W (w.heap.size) 24 zN) (fun W hW => HI1.out W hW.1) ?_ ?_
    · refine ⟨?_, ?_, ?_, ?_⟩
      all_goals repeat' (first | (with_reducible first | exact HP0.out | exact HK0.out | exact HB0_0.out | exact Fr.refl _ _ | apply ps_far | apply Ps.alloc | apply Ps.drew | apply Fr.drew | apply blk_drew | apply kq_far | apply Fr.alloc | apply tokZ | apply nodZ0 | exact blk_new _ _ _ | apply blk_alloc | apply Blk.other) | omega | (simp; done) | (simp <;> omega))
    rintro W ⟨hp, hk, hlo, hb0⟩
    intro e w1 hpost
    obtain ⟨A1, c1, rfl, hnn, hp2, hfr⟩ := npost_open hpost
    have hsz := hfr.size
    have hmo1 : w.heap.size + 1 ≤ w1.heap.size := Nat.le_trans hlo hsz
    have HNN1 := Lib.hid (show NodeF w1 (w.heap.size + 1) w1.heap.size _ A1 c1 from nodef_wide hnn hlo (Nat.le_refl _))
    have hqs : q < w1.heap.size := hp2.qlt
    have hl0 := hb0.lt
    have ht0 : Blk w1 (w.heap.size) 24 zN := hfr.blk hb0 (by omega)
    have hl1_0 : w.heap.size < w1.heap.size := ht0.lt
    obtain ⟨r1_0_0, r1_0_1, r1_0_2, r1_0_3, r1_0_4⟩ := blk5 ht0
    obtain ⟨y1_0_0, y1_0_1, y1_0_2, y1_0_3, y1_0_4⟩ := blk5f ht0
    have HB0_1 := Lib.hid ht0
    have HP1 := Lib.hid hp2
    have HK1 := Lib.hid (hk.trans hfr)
    clear hp hk hp2 hfr hsz hlo hb0 hl0 ht0 hnn)
 go_loopg [] (l.length + 2) (fun g wr => ∃ (f : Nat) (no nn : List UInt8) (nk np : Int) (ns : List Node) (NA : Option Addr) (nc : Nat) (s2 : PS), f ≤ l.length + 1 ∧ g = f + 1 ∧ l.length < f + s2.i + 1 ∧ Hid (V = termF l f (.node no nn nk np ns) s2) ∧ Hid (Ps wr q A c l s2) ∧ Hid (Kq q w wr) ∧
  Hid (Blk wr w.heap.size 24 zN) ∧ Hid (Blk wr w1.heap.size 24 (nC no nn nk np NA ns.length nc)) ∧ Hid (NodeX wr (w.heap.size + 1) wr.heap.size w1.heap.size (.node no nn nk np ns) NA nc))
 case atStart =>
  refine ⟨l.length + 1, ro, rn, rk, rp, rs, A1, c1, s1, Nat.le_refl _, rfl, by omega, HV, Lib.hid ?_, Lib.hid ?_, Lib.hid ?_, Lib.hid ?_, Lib.hid ?_⟩
  · repeat' (first | (with_reducible first | exact HP1.out | exact HK1.out | exact HB0_1.out | apply ps_far | apply Ps.alloc | apply Ps.drew | apply kq_far | apply Fr.alloc | apply Fr.drew | apply nodZ0 | exact blk_new _ _ _ | apply blk_drew | apply blk_alloc | apply Blk.other | apply nodex_far | apply nodex_alloc | apply nodex_drew) | omega | (simp; done) | (simp <;> omega))
  · repeat' (first | (with_reducible first | exact HP1.out | exact HK1.out | exact HB0_1.out | apply ps_far | apply Ps.alloc | apply Ps.drew | apply kq_far | apply Fr.alloc | apply Fr.drew | apply nodZ0 | exact blk_new _ _ _ | apply blk_drew | apply blk_alloc | apply Blk.other | apply nodex_far | apply nodex_alloc | apply nodex_drew) | omega | (simp; done) | (simp <;> omega))
  · repeat' (first | (with_reducible first | exact HP1.out | exact HK1.out | exact HB0_1.out | apply ps_far | apply Ps.alloc | apply Ps.drew | apply kq_far | apply Fr.alloc | apply Fr.drew | apply nodZ0 | exact blk_new _ _ _ | apply blk_drew | apply blk_alloc | apply Blk.other | apply nodex_far | apply nodex_alloc | apply nodex_drew) | omega | (simp; done) | (simp <;> omega))
  · repeat' (first | (with_reducible first | exact HP1.out | exact HK1.out | exact HB0_1.out | apply ps_far | apply Ps.alloc | apply Ps.drew | apply kq_far | apply Fr.alloc | apply Fr.drew | apply nodZ0 | exact blk_new _ _ _ | apply blk_drew | apply blk_alloc | apply Blk.other | apply nodex_far | apply nodex_alloc | apply nodex_drew) | omega | (simp; done) | (simp <;> omega))
  · refine nodex_wide (lo := w.heap.size + 1) (hi := w1.heap.size) (nodex_of ?_ (Or.inr (Nat.le_refl _))) (Nat.le_refl _) (by simp)
    exact nodef_alloc HNN1.out (Nat.le_refl _) _
 case round =>
  obtain ⟨f, no, nn, nk, np, ns, NA, nc, s2, hf1, hg, hfs, HR, HP2, HK2, HB0_2, HB1_2, HNn_2⟩ := hrel
  obtain ⟨w2, hw2⟩ : ∃ x, x = wr := ⟨_, rfl⟩
  subst hw2
  have HG := Lib.hid hg
  clear hg HV HI1
  have hi2 := HP2.out.lt
  have hl2_0 := HB0_2.out.lt
  have hl2_1 := HB1_2.out.lt
  obtain ⟨c0, c1', c2, c3⟩ := HP2.out.cells
  obtain ⟨r2_0_0, r2_0_1, r2_0_2, r2_0_3, r2_0_4⟩ := blk5 HB0_2.out
  obtain ⟨y2_0_0, y2_0_1, y2_0_2, y2_0_3, y2_0_4⟩ := blk5f HB0_2.out
  obtain ⟨r2_1_0, r2_1_1, r2_1_2, r2_1_3, r2_1_4⟩ := blk5 HB1_2.out
  obtain ⟨y2_1_0, y2_1_1, y2_1_2, y2_1_3, y2_1_4⟩ := blk5f HB1_2.out
  obtain ⟨f, rfl⟩ : ∃ k, f = k + 1 := ⟨f - 1, by omega⟩
  rw [termF_step] at HR
  by_cases he : s2.e = 0
  · rw [if_pos he] at HR
    rw [he] at c2
    have HNW2 := Lib.hid (fun W (hW : Ps W q A c l s2) => HNW.out W s2 hW)
    have HNX2 := Lib.hid (fun W (hW : Ps W q A c l s2) => HNX.out W s2 hW)
    have HIS2 := Lib.hid (fun W x (hW : Ps W q A c l s2) => HIS.out W s2 x hW)
    have hsm := HP2.out.now_small
    have hup : isW l s2 nUnion = true ∨ isW l s2 nInter = true ∨ isW l s2 [92] = true → s2.i + 1 ≤ (part l (nextP l s2)).2.i := by
     intro hh
     have h1 := HADV.out (nextP l s2)
     rcases hh with hh | hh | hh <;> (have h2 := isW_next hh; omega)
    have HU := Lib.hid (rfl : isW l s2 nUnion = isW l s2 nUnion)
    have HIU := Lib.hid (fun W (hW : Ps W q A c l s2) => HIS2.out W nUnion hW)
    have HIN := Lib.hid (fun W (hW : Ps W q A c l s2) => HIS2.out W nInter hW)
    have HIM := Lib.hid (fun W (hW : Ps W q A c l s2) => HIS2.out W [92] hW)
    clear HU HIS2 HNW HNX HIS HADV he
    have HI2 := Lib.hid (fun W (hW : Ps W q A c l (nextP l s2)) => HI.out W (nextP l s2) hW)
    clear HI
    generalize part l (nextP l s2) = pr at *
    generalize nextP l s2 = s3 at *
    generalize nowP l s2 = t at *
    generalize isW l s2 nUnion = bu at *
    generalize isW l s2 nInter = bi at *
    generalize isW l s2 [92] = bm at *
    obtain ⟨⟨po, pn, pk, pp, ps⟩, s4⟩ := pr
    simp only at HR hup
    have HI3 := HI2
    clear HI2
    unfold tokV at HNW2 HNX2
    cases bu with
    | true =>
      replace HR := Lib.hid (HR.out.trans (if_pos (by rfl)))
      have hup2 := hup (Or.inl rfl)
      clear hup HIN HIM
      go_upto_region 12 with (first
       | (
    go_at_call 72
    have hgd := HP4
    clear hgd
    refine calls_at (fun W => Ps W q A c l s2 ∧ Kq q w W ∧ w4.heap.size ≤ W.heap.size ∧ Blk W (w.heap.size) 24 zN ∧ Blk W (w1.heap.size) 24 (nC no nn nk np NA ns.length nc) ∧ Blk W (w3.heap.size) 80 (tC t) ∧ NodeX W (w.heap.size + 1) (w2.heap.size) (w1.heap.size) (.node no nn nk np ns) NA nc) (fun W hW => HNX2.out W hW.1) ?_ ?_
    · refine ⟨?_, ?_, ?_, ?_, ?_, ?_, ?_⟩
      all_goals repeat' (first | (with_reducible first | exact HP4.out | exact HK4.out | exact HB0_4.out | exact HB1_4.out | exact HB2_4.out | exact HNn_4.out | exact Fr.refl _ _ | apply ps_far | apply Ps.alloc | apply Ps.drew | apply Fr.drew | apply blk_drew | apply kq_far | apply Fr.alloc | apply tokZ | apply nodZ0 | exact blk_new _ _ _ | apply blk_alloc | apply Blk.other | apply nodex_far | apply nodex_alloc | apply nodex_drew) | omega | (simp; done) | (simp <;> omega))
    rintro W ⟨hp, hk, hlo, hb0, hb1, hb2, hxn⟩
    intro e w5 hpost
    obtain ⟨rfl, hp2, hfr⟩ := hpost
    have hsz := hfr.size
    have hmo5 : w4.heap.size ≤ w5.heap.size := Nat.le_trans hlo hsz
    have hqs : q < w5.heap.size := hp2.qlt
    have hl0 := hb0.lt
    have ht0 : Blk w5 (w.heap.size) 24 zN := hfr.blk hb0 (by omega)
    have hl5_0 : w.heap.size < w5.heap.size := ht0.lt
    obtain ⟨r5_0_0, r5_0_1, r5_0_2, r5_0_3, r5_0_4⟩ := blk5 ht0
    obtain ⟨y5_0_0, y5_0_1, y5_0_2, y5_0_3, y5_0_4⟩ := blk5f ht0
    have HB0_5 := Lib.hid ht0
    have hl1 := hb1.lt
    have ht1 : Blk w5 (w1.heap.size) 24 (nC no nn nk np NA ns.length nc) := hfr.blk hb1 (by omega)
    have hl5_1 : w1.heap.size < w5.heap.size := ht1.lt
    obtain ⟨r5_1_0, r5_1_1, r5_1_2, r5_1_3, r5_1_4⟩ := blk5 ht1
    obtain ⟨y5_1_0, y5_1_1, y5_1_2, y5_1_3, y5_1_4⟩ := blk5f ht1
    have HB1_5 := Lib.hid ht1
    have hl2 := hb2.lt
    have ht2 : Blk w5 (w3.heap.size) 80 (tC t) := hfr.blk hb2 (by omega)
    have hl5_2 : w3.heap.size < w5.heap.size := ht2.lt
    obtain ⟨r5_2_0, r5_2_1, r5_2_2, r5_2_3⟩ := blk4 ht2
    obtain ⟨y5_2_0, y5_2_1, y5_2_2, y5_2_3⟩ := blk4f ht2
    have HB2_5 := Lib.hid ht2
    have HNn_5 := Lib.hid (nodex_kq hxn hfr (by omega) (by omega))
    have HP5 := Lib.hid hp2
    have HK5 := Lib.hid (hk.trans hfr)
    clear hp hk hp2 hfr hsz hlo hb0 hl0 ht0 hb1 hl1 ht1 hb2 hl2 ht2 hxn
    clear r4_0_0 r4_0_1 r4_0_2 r4_0_3 r4_0_4 y4_0_0 y4_0_1 y4_0_2 y4_0_3 y4_0_4 hl4_0 r4_1_0 r4_1_1 r4_1_2 r4_1_3 r4_1_4 y4_1_0 y4_1_1 y4_1_2 y4_1_3 y4_1_4 hl4_1 r4_2_0 r4_2_1 r4_2_2 r4_2_3 y4_2_0 y4_2_1 y4_2_2 y4_2_3 hl4_2)
       | (
    go_at_call 40
    have hgd := HP3
    clear hgd
    refine calls_at (fun W => Ps W q A c l s2 ∧ Kq q w W ∧ w3.heap.size + 1 ≤ W.heap.size ∧ Blk W (w.heap.size) 24 zN ∧ Blk W (w1.heap.size) 24 (nC no nn nk np NA ns.length nc) ∧ Blk W (w3.heap.size) 80 (tC t) ∧ NodeX W (w.heap.size + 1) (w2.heap.size) (w1.heap.size) (.node no nn nk np ns) NA nc) (fun W hW => HIU.out W hW.1) ?_ ?_
    · refine ⟨?_, ?_, ?_, ?_, ?_, ?_, ?_⟩
      all_goals repeat' (first | (with_reducible first | exact HP3.out | exact HK3.out | exact HB0_3.out | exact HB1_3.out | exact HB2_3.out | exact HNn_3.out | exact Fr.refl _ _ | apply ps_far | apply Ps.alloc | apply Ps.drew | apply Fr.drew | apply blk_drew | apply kq_far | apply Fr.alloc | apply tokZ | apply nodZ0 | exact blk_new _ _ _ | apply blk_alloc | apply Blk.other | apply nodex_far | apply nodex_alloc | apply nodex_drew) | omega | (simp; done) | (simp <;> omega))
    rintro W ⟨hp, hk, hlo, hb0, hb1, hb2, hxn⟩
    rintro e w4 ⟨rfl, hb⟩
    have hfr := Kq.of_below (q := q) hb
    have hp2 := hp.below hb
    have hsz := hfr.size
    have hmo4 : w3.heap.size + 1 ≤ w4.heap.size := Nat.le_trans hlo hsz
    have hqs : q < w4.heap.size := hp2.qlt
    have hl0 := hb0.lt
    have ht0 : Blk w4 (w.heap.size) 24 zN := hfr.blk hb0 (by omega)
    have hl4_0 : w.heap.size < w4.heap.size := ht0.lt
    obtain ⟨r4_0_0, r4_0_1, r4_0_2, r4_0_3, r4_0_4⟩ := blk5 ht0
    obtain ⟨y4_0_0, y4_0_1, y4_0_2, y4_0_3, y4_0_4⟩ := blk5f ht0
    have HB0_4 := Lib.hid ht0
    have hl1 := hb1.lt
    have ht1 : Blk w4 (w1.heap.size) 24 (nC no nn nk np NA ns.length nc) := hfr.blk hb1 (by omega)
    have hl4_1 : w1.heap.size < w4.heap.size := ht1.lt
    obtain ⟨r4_1_0, r4_1_1, r4_1_2, r4_1_3, r4_1_4⟩ := blk5 ht1
    obtain ⟨y4_1_0, y4_1_1, y4_1_2, y4_1_3, y4_1_4⟩ := blk5f ht1
    have HB1_4 := Lib.hid ht1
    have hl2 := hb2.lt
    have ht2 : Blk w4 (w3.heap.size) 80 (tC t) := hfr.blk hb2 (by omega)
    have hl4_2 : w3.heap.size < w4.heap.size := ht2.lt
    obtain ⟨r4_2_0, r4_2_1, r4_2_2, r4_2_3⟩ := blk4 ht2
    obtain ⟨y4_2_0, y4_2_1, y4_2_2, y4_2_3⟩ := blk4f ht2
    have HB2_4 := Lib.hid ht2
    have HNn_4 := Lib.hid (nodex_kq hxn hfr (by omega) (by omega))
    have HP4 := Lib.hid hp2
    have HK4 := Lib.hid (hk.trans hfr)
    clear hp hk hp2 hfr hsz hlo hb0 hl0 ht0 hb1 hl1 ht1 hb2 hl2 ht2 hxn hb
    clear r3_0_0 r3_0_1 r3_0_2 r3_0_3 r3_0_4 y3_0_0 y3_0_1 y3_0_2 y3_0_3 y3_0_4 hl3_0 r3_1_0 r3_1_1 r3_1_2 r3_1_3 r3_1_4 y3_1_0 y3_1_1 y3_1_2 y3_1_3 y3_1_4 hl3_1)
       | (
    go_at_call 46
    have hgd := HP2
    clear hgd
    refine calls_at (fun W => Ps W q A c l s2 ∧ Kq q w W ∧ w2.heap.size ≤ W.heap.size ∧ Blk W (w.heap.size) 24 zN ∧ Blk W (w1.heap.size) 24 (nC no nn nk np NA ns.length nc) ∧ NodeX W (w.heap.size + 1) (w2.heap.size) (w1.heap.size) (.node no nn nk np ns) NA nc) (fun W hW => HNW2.out W hW.1) ?_ ?_
    · refine ⟨?_, ?_, ?_, ?_, ?_, ?_⟩
      all_goals repeat' (first | (with_reducible first | exact HP2.out | exact HK2.out | exact HB0_2.out | exact HB1_2.out | exact HNn_2.out | exact Fr.refl _ _ | apply ps_far | apply Ps.alloc | apply Ps.drew | apply Fr.drew | apply blk_drew | apply kq_far | apply Fr.alloc | apply tokZ | apply nodZ0 | exact blk_new _ _ _ | apply blk_alloc | apply Blk.other | apply nodex_far | apply nodex_alloc | apply nodex_drew) | omega | (simp; done) | (simp <;> omega))
    rintro W ⟨hp, hk, hlo, hb0, hb1, hxn⟩
    rintro e w3 ⟨rfl, hb⟩
    have hfr := Kq.of_below (q := q) hb
    have hp2 := hp.below hb
    have hsz := hfr.size
    have hmo3 : w2.heap.size ≤ w3.heap.size := Nat.le_trans hlo hsz
    have hqs : q < w3.heap.size := hp2.qlt
    have hl0 := hb0.lt
    have ht0 : Blk w3 (w.heap.size) 24 zN := hfr.blk hb0 (by omega)
    have hl3_0 : w.heap.size < w3.heap.size := ht0.lt
    obtain ⟨r3_0_0, r3_0_1, r3_0_2, r3_0_3, r3_0_4⟩ := blk5 ht0
    obtain ⟨y3_0_0, y3_0_1, y3_0_2, y3_0_3, y3_0_4⟩ := blk5f ht0
    have HB0_3 := Lib.hid ht0
    have hl1 := hb1.lt
    have ht1 : Blk w3 (w1.heap.size) 24 (nC no nn nk np NA ns.length nc) := hfr.blk hb1 (by omega)
    have hl3_1 : w1.heap.size < w3.heap.size := ht1.lt
    obtain ⟨r3_1_0, r3_1_1, r3_1_2, r3_1_3, r3_1_4⟩ := blk5 ht1
    obtain ⟨y3_1_0, y3_1_1, y3_1_2, y3_1_3, y3_1_4⟩ := blk5f ht1
    have HB1_3 := Lib.hid ht1
    have HNn_3 := Lib.hid (nodex_kq hxn hfr (by omega) (by omega))
    have HP3 := Lib.hid hp2
    have HK3 := Lib.hid (hk.trans hfr)
    clear hp hk hp2 hfr hsz hlo hb0 hl0 ht0 hb1 hl1 ht1 hxn hb))
      have hw4 : w3.heap.size < w5.heap.size := HB2_5.out.lt
      have hw5 : w1.heap.size < w5.heap.size := HB1_5.out.lt
      have HC6 : Hid (Calls Tryd.prog 161 #[.pointer (some ⟨q, 0, none⟩), .bool false] w5.drew fun e w9 => ∃ A6 c6, e = .returned (.agg #[.string ⟨po.toArray⟩, .string ⟨pn.toArray⟩, .int .i64 pk, .int .i64 pp, .slice A6 ps.length c6]) ∧ Blk w9 w3.heap.size 80 (tC t) ∧ Fold w w9 q w.heap.size w1.heap.size (w.heap.size + 1) w2.heap.size A c l s4 no nn nk np ns NA nc (.node po pn pk pp ps) A6 c6) := by
       refine Lib.hid ((HI3.out _ HP5.out.drew).mono ?_)
       intro e w9 hpost
       obtain ⟨A6, c6, rfl, hnn, hp6, hk6⟩ := npost_open hpost
       have hs6 : w5.heap.size ≤ w9.heap.size := hk6.size
       refine ⟨A6, c6, rfl, hk6.blk (blk_drew HB2_5.out) (by omega), hp6, HK5.out.drew.trans hk6, hk6.blk (blk_drew HB0_5.out) (by omega), hk6.blk (blk_drew HB1_5.out) (by omega), nodex_kq (nodex_drew HNn_5.out) hk6 (by omega) (by show w2.heap.size ≤ w5.heap.size; omega), ?_, by omega⟩
       exact nodex_wide (nodex_of hnn (Or.inl (by show w1.heap.size < w5.heap.size; omega))) (by show w.heap.size + 1 ≤ w5.heap.size; omega) (Nat.le_refl _)
      clear HI3 HNX2 HNW2 HIU
      go_region_with (
       go_at_call 161
       refine HC6.out.mono ?_
       rintro e w9 ⟨A6, c6, rfl, ht6, hF6⟩
       obtain ⟨k60, k61, k62, k63, k64⟩ := blk5 hF6.box
       obtain ⟨z60, z61, z62, z63, z64⟩ := blk5f hF6.box
       have k6t := (blk4 ht6).2.2.2
       have HF6 := Lib.hid hF6
       have hb6 : w1.heap.size < w9.heap.size := hF6.box.lt
       have hb7 : w3.heap.size < w9.heap.size := ht6.lt
       have hb8 : ¬ w3.heap.size = w9.heap.size := by omega
       clear ht6 hF6)
      all_goals
       go_wp2_with fail
       go_roundg (f + 1)
       case measure => have := HG.out; omega
       case rel => exact ⟨f, t.text, [], 0, (t.at_ : Nat), [.node no nn nk np ns, .node po pn pk pp ps], some ⟨w9.heap.size, 0, none⟩, 2, s4, by omega, rfl, by omega, HR, fold_end HF6.out t.text (by have := hsm.2.1; omega) _ _ rfl⟩
    | false =>
      cases bi with
      | true =>
        replace HR := Lib.hid (HR.out.trans (if_pos (by rfl)))
        have hup2 := hup (Or.inr (Or.inl rfl))
        clear hup HIM
        go_upto_region 12 with (first
         | (
    go_at_call 72
    have hgd := HP5
    clear hgd
    refine calls_at (fun W => Ps W q A c l s2 ∧ Kq q w W ∧ w5.heap.size ≤ W.heap.size ∧ Blk W (w.heap.size) 24 zN ∧ Blk W (w1.heap.size) 24 (nC no nn nk np NA ns.length nc) ∧ Blk W (w3.heap.size) 80 (tC t) ∧ NodeX W (w.heap.size + 1) (w2.heap.size) (w1.heap.size) (.node no nn nk np ns) NA nc) (fun W hW => HNX2.out W hW.1) ?_ ?_
    · refine ⟨?_, ?_, ?_, ?_, ?_, ?_, ?_⟩
      all_goals repeat' (first | (with_reducible first | exact HP5.out | exact HK5.out | exact HB0_5.out | exact HB1_5.out | exact HB2_5.out | exact HNn_5.out | exact Fr.refl _ _ | apply ps_far | apply Ps.alloc | apply Ps.drew | apply Fr.drew | apply blk_drew | apply kq_far | apply Fr.alloc | apply tokZ | apply nodZ0 | exact blk_new _ _ _ | apply blk_alloc | apply Blk.other | apply nodex_far | apply nodex_alloc | apply nodex_drew) | omega | (simp; done) | (simp <;> omega))
    rintro W ⟨hp, hk, hlo, hb0, hb1, hb2, hxn⟩
    intro e w6 hpost
    obtain ⟨rfl, hp2, hfr⟩ := hpost
    have hsz := hfr.size
    have hmo6 : w5.heap.size ≤ w6.heap.size := Nat.le_trans hlo hsz
    have hqs : q < w6.heap.size := hp2.qlt
    have hl0 := hb0.lt
    have ht0 : Blk w6 (w.heap.size) 24 zN := hfr.blk hb0 (by omega)
    have hl6_0 : w.heap.size < w6.heap.size := ht0.lt
    obtain ⟨r6_0_0, r6_0_1, r6_0_2, r6_0_3, r6_0_4⟩ := blk5 ht0
    obtain ⟨y6_0_0, y6_0_1, y6_0_2, y6_0_3, y6_0_4⟩ := blk5f ht0
    have HB0_6 := Lib.hid ht0
    have hl1 := hb1.lt
    have ht1 : Blk w6 (w1.heap.size) 24 (nC no nn nk np NA ns.length nc) := hfr.blk hb1 (by omega)
    have hl6_1 : w1.heap.size < w6.heap.size := ht1.lt
    obtain ⟨r6_1_0, r6_1_1, r6_1_2, r6_1_3, r6_1_4⟩ := blk5 ht1
    obtain ⟨y6_1_0, y6_1_1, y6_1_2, y6_1_3, y6_1_4⟩ := blk5f ht1
    have HB1_6 := Lib.hid ht1
    have hl2 := hb2.lt
    have ht2 : Blk w6 (w3.heap.size) 80 (tC t) := hfr.blk hb2 (by omega)
    have hl6_2 : w3.heap.size < w6.heap.size := ht2.lt
    obtain ⟨r6_2_0, r6_2_1, r6_2_2, r6_2_3⟩ := blk4 ht2
    obtain ⟨y6_2_0, y6_2_1, y6_2_2, y6_2_3⟩ := blk4f ht2
    have HB2_6 := Lib.hid ht2
    have HNn_6 := Lib.hid (nodex_kq hxn hfr (by omega) (by omega))
    have HP6 := Lib.hid hp2
    have HK6 := Lib.hid (hk.trans hfr)
    clear hp hk hp2 hfr hsz hlo hb0 hl0 ht0 hb1 hl1 ht1 hb2 hl2 ht2 hxn
    clear r5_0_0 r5_0_1 r5_0_2 r5_0_3 r5_0_4 y5_0_0 y5_0_1 y5_0_2 y5_0_3 y5_0_4 hl5_0 r5_1_0 r5_1_1 r5_1_2 r5_1_3 r5_1_4 y5_1_0 y5_1_1 y5_1_2 y5_1_3 y5_1_4 hl5_1 r5_2_0 r5_2_1 r5_2_2 r5_2_3 y5_2_0 y5_2_1 y5_2_2 y5_2_3 hl5_2)
         | (
    go_at_call 40
    have hgd := HP4
    clear hgd
    refine calls_at (fun W => Ps W q A c l s2 ∧ Kq q w W ∧ w4.heap.size ≤ W.heap.size ∧ Blk W (w.heap.size) 24 zN ∧ Blk W (w1.heap.size) 24 (nC no nn nk np NA ns.length nc) ∧ Blk W (w3.heap.size) 80 (tC t) ∧ NodeX W (w.heap.size + 1) (w2.heap.size) (w1.heap.size) (.node no nn nk np ns) NA nc) (fun W hW => HIN.out W hW.1) ?_ ?_
    · refine ⟨?_, ?_, ?_, ?_, ?_, ?_, ?_⟩
      all_goals repeat' (first | (with_reducible first | exact HP4.out | exact HK4.out | exact HB0_4.out | exact HB1_4.out | exact HB2_4.out | exact HNn_4.out | exact Fr.refl _ _ | apply ps_far | apply Ps.alloc | apply Ps.drew | apply Fr.drew | apply blk_drew | apply kq_far | apply Fr.alloc | apply tokZ | apply nodZ0 | exact blk_new _ _ _ | apply blk_alloc | apply Blk.other | apply nodex_far | apply nodex_alloc | apply nodex_drew) | omega | (simp; done) | (simp <;> omega))
    rintro W ⟨hp, hk, hlo, hb0, hb1, hb2, hxn⟩
    rintro e w5 ⟨rfl, hb⟩
    have hfr := Kq.of_below (q := q) hb
    have hp2 := hp.below hb
    have hsz := hfr.size
    have hmo5 : w4.heap.size ≤ w5.heap.size := Nat.le_trans hlo hsz
    have hqs : q < w5.heap.size := hp2.qlt
    have hl0 := hb0.lt
    have ht0 : Blk w5 (w.heap.size) 24 zN := hfr.blk hb0 (by omega)
    have hl5_0 : w.heap.size < w5.heap.size := ht0.lt
    obtain ⟨r5_0_0, r5_0_1, r5_0_2, r5_0_3, r5_0_4⟩ := blk5 ht0
    obtain ⟨y5_0_0, y5_0_1, y5_0_2, y5_0_3, y5_0_4⟩ := blk5f ht0
    have HB0_5 := Lib.hid ht0
    have hl1 := hb1.lt
    have ht1 : Blk w5 (w1.heap.size) 24 (nC no nn nk np NA ns.length nc) := hfr.blk hb1 (by omega)
    have hl5_1 : w1.heap.size < w5.heap.size := ht1.lt
    obtain ⟨r5_1_0, r5_1_1, r5_1_2, r5_1_3, r5_1_4⟩ := blk5 ht1
    obtain ⟨y5_1_0, y5_1_1, y5_1_2, y5_1_3, y5_1_4⟩ := blk5f ht1
    have HB1_5 := Lib.hid ht1
    have hl2 := hb2.lt
    have ht2 : Blk w5 (w3.heap.size) 80 (tC t) := hfr.blk hb2 (by omega)
    have hl5_2 : w3.heap.size < w5.heap.size := ht2.lt
    obtain ⟨r5_2_0, r5_2_1, r5_2_2, r5_2_3⟩ := blk4 ht2
    obtain ⟨y5_2_0, y5_2_1, y5_2_2, y5_2_3⟩ := blk4f ht2
    have HB2_5 := Lib.hid ht2
    have HNn_5 := Lib.hid (nodex_kq hxn hfr (by omega) (by omega))
    have HP5 := Lib.hid hp2
    have HK5 := Lib.hid (hk.trans hfr)
    clear hp hk hp2 hfr hsz hlo hb0 hl0 ht0 hb1 hl1 ht1 hb2 hl2 ht2 hxn hb
    clear r4_0_0 r4_0_1 r4_0_2 r4_0_3 r4_0_4 y4_0_0 y4_0_1 y4_0_2 y4_0_3 y4_0_4 hl4_0 r4_1_0 r4_1_1 r4_1_2 r4_1_3 r4_1_4 y4_1_0 y4_1_1 y4_1_2 y4_1_3 y4_1_4 hl4_1 r4_2_0 r4_2_1 r4_2_2 r4_2_3 y4_2_0 y4_2_1 y4_2_2 y4_2_3 hl4_2)
         | (
    go_at_call 40
    have hgd := HP3
    clear hgd
    refine calls_at (fun W => Ps W q A c l s2 ∧ Kq q w W ∧ w3.heap.size + 1 ≤ W.heap.size ∧ Blk W (w.heap.size) 24 zN ∧ Blk W (w1.heap.size) 24 (nC no nn nk np NA ns.length nc) ∧ Blk W (w3.heap.size) 80 (tC t) ∧ NodeX W (w.heap.size + 1) (w2.heap.size) (w1.heap.size) (.node no nn nk np ns) NA nc) (fun W hW => HIU.out W hW.1) ?_ ?_
    · refine ⟨?_, ?_, ?_, ?_, ?_, ?_, ?_⟩
      all_goals repeat' (first | (with_reducible first | exact HP3.out | exact HK3.out | exact HB0_3.out | exact HB1_3.out | exact HB2_3.out | exact HNn_3.out | exact Fr.refl _ _ | apply ps_far | apply Ps.alloc | apply Ps.drew | apply Fr.drew | apply blk_drew | apply kq_far | apply Fr.alloc | apply tokZ | apply nodZ0 | exact blk_new _ _ _ | apply blk_alloc | apply Blk.other | apply nodex_far | apply nodex_alloc | apply nodex_drew) | omega | (simp; done) | (simp <;> omega))
    rintro W ⟨hp, hk, hlo, hb0, hb1, hb2, hxn⟩
    rintro e w4 ⟨rfl, hb⟩
    have hfr := Kq.of_below (q := q) hb
    have hp2 := hp.below hb
    have hsz := hfr.size
    have hmo4 : w3.heap.size + 1 ≤ w4.heap.size := Nat.le_trans hlo hsz
    have hqs : q < w4.heap.size := hp2.qlt
    have hl0 := hb0.lt
    have ht0 : Blk w4 (w.heap.size) 24 zN := hfr.blk hb0 (by omega)
    have hl4_0 : w.heap.size < w4.heap.size := ht0.lt
    obtain ⟨r4_0_0, r4_0_1, r4_0_2, r4_0_3, r4_0_4⟩ := blk5 ht0
    obtain ⟨y4_0_0, y4_0_1, y4_0_2, y4_0_3, y4_0_4⟩ := blk5f ht0
    have HB0_4 := Lib.hid ht0
    have hl1 := hb1.lt
    have ht1 : Blk w4 (w1.heap.size) 24 (nC no nn nk np NA ns.length nc) := hfr.blk hb1 (by omega)
    have hl4_1 : w1.heap.size < w4.heap.size := ht1.lt
    obtain ⟨r4_1_0, r4_1_1, r4_1_2, r4_1_3, r4_1_4⟩ := blk5 ht1
    obtain ⟨y4_1_0, y4_1_1, y4_1_2, y4_1_3, y4_1_4⟩ := blk5f ht1
    have HB1_4 := Lib.hid ht1
    have hl2 := hb2.lt
    have ht2 : Blk w4 (w3.heap.size) 80 (tC t) := hfr.blk hb2 (by omega)
    have hl4_2 : w3.heap.size < w4.heap.size := ht2.lt
    obtain ⟨r4_2_0, r4_2_1, r4_2_2, r4_2_3⟩ := blk4 ht2
    obtain ⟨y4_2_0, y4_2_1, y4_2_2, y4_2_3⟩ := blk4f ht2
    have HB2_4 := Lib.hid ht2
    have HNn_4 := Lib.hid (nodex_kq hxn hfr (by omega) (by omega))
    have HP4 := Lib.hid hp2
    have HK4 := Lib.hid (hk.trans hfr)
    clear hp hk hp2 hfr hsz hlo hb0 hl0 ht0 hb1 hl1 ht1 hb2 hl2 ht2 hxn hb
    clear r3_0_0 r3_0_1 r3_0_2 r3_0_3 r3_0_4 y3_0_0 y3_0_1 y3_0_2 y3_0_3 y3_0_4 hl3_0 r3_1_0 r3_1_1 r3_1_2 r3_1_3 r3_1_4 y3_1_0 y3_1_1 y3_1_2 y3_1_3 y3_1_4 hl3_1)
         | (
    go_at_call 46
    have hgd := HP2
    clear hgd
    refine calls_at (fun W => Ps W q A c l s2 ∧ Kq q w W ∧ w2.heap.size ≤ W.heap.size ∧ Blk W (w.heap.size) 24 zN ∧ Blk W (w1.heap.size) 24 (nC no nn nk np NA ns.length nc) ∧ NodeX W (w.heap.size + 1) (w2.heap.size) (w1.heap.size) (.node no nn nk np ns) NA nc) (fun W hW => HNW2.out W hW.1) ?_ ?_
    · refine ⟨?_, ?_, ?_, ?_, ?_, ?_⟩
      all_goals repeat' (first | (with_reducible first | exact HP2.out | exact HK2.out | exact HB0_2.out | exact HB1_2.out | exact HNn_2.out | exact Fr.refl _ _ | apply ps_far | apply Ps.alloc | apply Ps.drew | apply Fr.drew | apply blk_drew | apply kq_far | apply Fr.alloc | apply tokZ | apply nodZ0 | exact blk_new _ _ _ | apply blk_alloc | apply Blk.other | apply nodex_far | apply nodex_alloc | apply nodex_drew) | omega | (simp; done) | (simp <;> omega))
    rintro W ⟨hp, hk, hlo, hb0, hb1, hxn⟩
    rintro e w3 ⟨rfl, hb⟩
    have hfr := Kq.of_below (q := q) hb
    have hp2 := hp.below hb
    have hsz := hfr.size
    have hmo3 : w2.heap.size ≤ w3.heap.size := Nat.le_trans hlo hsz
    have hqs : q < w3.heap.size := hp2.qlt
    have hl0 := hb0.lt
    have ht0 : Blk w3 (w.heap.size) 24 zN := hfr.blk hb0 (by omega)
    have hl3_0 : w.heap.size < w3.heap.size := ht0.lt
    obtain ⟨r3_0_0, r3_0_1, r3_0_2, r3_0_3, r3_0_4⟩ := blk5 ht0
    obtain ⟨y3_0_0, y3_0_1, y3_0_2, y3_0_3, y3_0_4⟩ := blk5f ht0
    have HB0_3 := Lib.hid ht0
    have hl1 := hb1.lt
    have ht1 : Blk w3 (w1.heap.size) 24 (nC no nn nk np NA ns.length nc) := hfr.blk hb1 (by omega)
    have hl3_1 : w1.heap.size < w3.heap.size := ht1.lt
    obtain ⟨r3_1_0, r3_1_1, r3_1_2, r3_1_3, r3_1_4⟩ := blk5 ht1
    obtain ⟨y3_1_0, y3_1_1, y3_1_2, y3_1_3, y3_1_4⟩ := blk5f ht1
    have HB1_3 := Lib.hid ht1
    have HNn_3 := Lib.hid (nodex_kq hxn hfr (by omega) (by omega))
    have HP3 := Lib.hid hp2
    have HK3 := Lib.hid (hk.trans hfr)
    clear hp hk hp2 hfr hsz hlo hb0 hl0 ht0 hb1 hl1 ht1 hxn hb))
        have hw4 : w3.heap.size < w6.heap.size := HB2_6.out.lt
        have hw5 : w1.heap.size < w6.heap.size := HB1_6.out.lt
        have HC6 : Hid (Calls Tryd.prog 161 #[.pointer (some ⟨q, 0, none⟩), .bool false] w6.drew fun e w9 => ∃ A6 c6, e = .returned (.agg #[.string ⟨po.toArray⟩, .string ⟨pn.toArray⟩, .int .i64 pk, .int .i64 pp, .slice A6 ps.length c6]) ∧ Blk w9 w3.heap.size 80 (tC t) ∧ Fold w w9 q w.heap.size w1.heap.size (w.heap.size + 1) w2.heap.size A c l s4 no nn nk np ns NA nc (.node po pn pk pp ps) A6 c6) := by
         refine Lib.hid ((HI3.out _ HP6.out.drew).mono ?_)
         intro e w9 hpost
         obtain ⟨A6, c6, rfl, hnn, hp6, hk6⟩ := npost_open hpost
         have hs6 : w6.heap.size ≤ w9.heap.size := hk6.size
         refine ⟨A6, c6, rfl, hk6.blk (blk_drew HB2_6.out) (by omega), hp6, HK6.out.drew.trans hk6, hk6.blk (blk_drew HB0_6.out) (by omega), hk6.blk (blk_drew HB1_6.out) (by omega), nodex_kq (nodex_drew HNn_6.out) hk6 (by omega) (by show w2.heap.size ≤ w6.heap.size; omega), ?_, by omega⟩
         exact nodex_wide (nodex_of hnn (Or.inl (by show w1.heap.size < w6.heap.size; omega))) (by show w.heap.size + 1 ≤ w6.heap.size; omega) (Nat.le_refl _)
        clear HI3 HNX2 HNW2 HIU HIN
        go_region_with (
         go_at_call 161
         refine HC6.out.mono ?_
         rintro e w9 ⟨A6, c6, rfl, ht6, hF6⟩
         obtain ⟨k60, k61, k62, k63, k64⟩ := blk5 hF6.box
         obtain ⟨z60, z61, z62, z63, z64⟩ := blk5f hF6.box
         have k6t := (blk4 ht6).2.2.2
         have HF6 := Lib.hid hF6
         have hb6 : w1.heap.size < w9.heap.size := hF6.box.lt
         have hb7 : w3.heap.size < w9.heap.size := ht6.lt
         have hb8 : ¬ w3.heap.size = w9.heap.size := by omega
         clear ht6 hF6)
        all_goals
         go_wp2_with fail
         go_roundg (f + 1)
         case measure => have := HG.out; omega
         case rel => exact ⟨f, t.text, [], 0, (t.at_ : Nat), [.node no nn nk np ns, .node po pn pk pp ps], some ⟨w9.heap.size, 0, none⟩, 2, s4, by omega, rfl, by omega, HR, fold_end HF6.out t.text (by have := hsm.2.1; omega) _ _ rfl⟩
      | false =>
        cases bm with
        | true =>
          replace HR := Lib.hid ((HR.out.trans (if_neg (by decide))).trans (if_pos rfl))
          have hup2 := hup (Or.inr (Or.inr rfl))
          clear hup
          go_upto_region 12 with (first
           | (
    go_at_call 72
    have hgd := HP6
    clear hgd
    refine calls_at (fun W => Ps W q A c l s2 ∧ Kq q w W ∧ w6.heap.size ≤ W.heap.size ∧ Blk W (w.heap.size) 24 zN ∧ Blk W (w1.heap.size) 24 (nC no nn nk np NA ns.length nc) ∧ Blk W (w3.heap.size) 80 (tC t) ∧ NodeX W (w.heap.size + 1) (w2.heap.size) (w1.heap.size) (.node no nn nk np ns) NA nc) (fun W hW => HNX2.out W hW.1) ?_ ?_
    · refine ⟨?_, ?_, ?_, ?_, ?_, ?_, ?_⟩
      all_goals repeat' (first | (with_reducible first | exact HP6.out | exact HK6.out | exact HB0_6.out | exact HB1_6.out | exact HB2_6.out | exact HNn_6.out | exact Fr.refl _ _ | apply ps_far | apply Ps.alloc | apply Ps.drew | apply Fr.drew | apply blk_drew | apply kq_far | apply Fr.alloc | apply tokZ | apply nodZ0 | exact blk_new _ _ _ | apply blk_alloc | apply Blk.other | apply nodex_far | apply nodex_alloc | apply nodex_drew) | omega | (simp; done) | (simp <;> omega))
    rintro W ⟨hp, hk, hlo, hb0, hb1, hb2, hxn⟩
    intro e w7 hpost
    obtain ⟨rfl, hp2, hfr⟩ := hpost
    have hsz := hfr.size
    have hmo7 : w6.heap.size ≤ w7.heap.size := Nat.le_trans hlo hsz
    have hqs : q < w7.heap.size := hp2.qlt
    have hl0 := hb0.lt
    have ht0 : Blk w7 (w.heap.size) 24 zN := hfr.blk hb0 (by omega)
    have hl7_0 : w.heap.size < w7.heap.size := ht0.lt
    obtain ⟨r7_0_0, r7_0_1, r7_0_2, r7_0_3, r7_0_4⟩ := blk5 ht0
    obtain ⟨y7_0_0, y7_0_1, y7_0_2, y7_0_3, y7_0_4⟩ := blk5f ht0
    have HB0_7 := Lib.hid ht0
    have hl1 := hb1.lt
    have ht1 : Blk w7 (w1.heap.size) 24 (nC no nn nk np NA ns.length nc) := hfr.blk hb1 (by omega)
    have hl7_1 : w1.heap.size < w7.heap.size := ht1.lt
    obtain ⟨r7_1_0, r7_1_1, r7_1_2, r7_1_3, r7_1_4⟩ := blk5 ht1
    obtain ⟨y7_1_0, y7_1_1, y7_1_2, y7_1_3, y7_1_4⟩ := blk5f ht1
    have HB1_7 := Lib.hid ht1
    have hl2 := hb2.lt
    have ht2 : Blk w7 (w3.heap.size) 80 (tC t) := hfr.blk hb2 (by omega)
    have hl7_2 : w3.heap.size < w7.heap.size := ht2.lt
    obtain ⟨r7_2_0, r7_2_1, r7_2_2, r7_2_3⟩ := blk4 ht2
    obtain ⟨y7_2_0, y7_2_1, y7_2_2, y7_2_3⟩ := blk4f ht2
    have HB2_7 := Lib.hid ht2
    have HNn_7 := Lib.hid (nodex_kq hxn hfr (by omega) (by omega))
    have HP7 := Lib.hid hp2
    have HK7 := Lib.hid (hk.trans hfr)
    clear hp hk hp2 hfr hsz hlo hb0 hl0 ht0 hb1 hl1 ht1 hb2 hl2 ht2 hxn
    clear r6_0_0 r6_0_1 r6_0_2 r6_0_3 r6_0_4 y6_0_0 y6_0_1 y6_0_2 y6_0_3 y6_0_4 hl6_0 r6_1_0 r6_1_1 r6_1_2 r6_1_3 r6_1_4 y6_1_0 y6_1_1 y6_1_2 y6_1_3 y6_1_4 hl6_1 r6_2_0 r6_2_1 r6_2_2 r6_2_3 y6_2_0 y6_2_1 y6_2_2 y6_2_3 hl6_2)
           | (
    go_at_call 40
    have hgd := HP5
    clear hgd
    refine calls_at (fun W => Ps W q A c l s2 ∧ Kq q w W ∧ w5.heap.size ≤ W.heap.size ∧ Blk W (w.heap.size) 24 zN ∧ Blk W (w1.heap.size) 24 (nC no nn nk np NA ns.length nc) ∧ Blk W (w3.heap.size) 80 (tC t) ∧ NodeX W (w.heap.size + 1) (w2.heap.size) (w1.heap.size) (.node no nn nk np ns) NA nc) (fun W hW => HIM.out W hW.1) ?_ ?_
    · refine ⟨?_, ?_, ?_, ?_, ?_, ?_, ?_⟩
      all_goals repeat' (first | (with_reducible first | exact HP5.out | exact HK5.out | exact HB0_5.out | exact HB1_5.out | exact HB2_5.out | exact HNn_5.out | exact Fr.refl _ _ | apply ps_far | apply Ps.alloc | apply Ps.drew | apply Fr.drew | apply blk_drew | apply kq_far | apply Fr.alloc | apply tokZ | apply nodZ0 | exact blk_new _ _ _ | apply blk_alloc | apply Blk.other | apply nodex_far | apply nodex_alloc | apply nodex_drew) | omega | (simp; done) | (simp <;> omega))
    rintro W ⟨hp, hk, hlo, hb0, hb1, hb2, hxn⟩
    rintro e w6 ⟨rfl, hb⟩
    have hfr := Kq.of_below (q := q) hb
    have hp2 := hp.below hb
    have hsz := hfr.size
    have hmo6 : w5.heap.size ≤ w6.heap.size := Nat.le_trans hlo hsz
    have hqs : q < w6.heap.size := hp2.qlt
    have hl0 := hb0.lt
    have ht0 : Blk w6 (w.heap.size) 24 zN := hfr.blk hb0 (by omega)
    have hl6_0 : w.heap.size < w6.heap.size := ht0.lt
    obtain ⟨r6_0_0, r6_0_1, r6_0_2, r6_0_3, r6_0_4⟩ := blk5 ht0
    obtain ⟨y6_0_0, y6_0_1, y6_0_2, y6_0_3, y6_0_4⟩ := blk5f ht0
    have HB0_6 := Lib.hid ht0
    have hl1 := hb1.lt
    have ht1 : Blk w6 (w1.heap.size) 24 (nC no nn nk np NA ns.length nc) := hfr.blk hb1 (by omega)
    have hl6_1 : w1.heap.size < w6.heap.size := ht1.lt
    obtain ⟨r6_1_0, r6_1_1, r6_1_2, r6_1_3, r6_1_4⟩ := blk5 ht1
    obtain ⟨y6_1_0, y6_1_1, y6_1_2, y6_1_3, y6_1_4⟩ := blk5f ht1
    have HB1_6 := Lib.hid ht1
    have hl2 := hb2.lt
    have ht2 : Blk w6 (w3.heap.size) 80 (tC t) := hfr.blk hb2 (by omega)
    have hl6_2 : w3.heap.size < w6.heap.size := ht2.lt
    obtain ⟨r6_2_0, r6_2_1, r6_2_2, r6_2_3⟩ := blk4 ht2
    obtain ⟨y6_2_0, y6_2_1, y6_2_2, y6_2_3⟩ := blk4f ht2
    have HB2_6 := Lib.hid ht2
    have HNn_6 := Lib.hid (nodex_kq hxn hfr (by omega) (by omega))
    have HP6 := Lib.hid hp2
    have HK6 := Lib.hid (hk.trans hfr)
    clear hp hk hp2 hfr hsz hlo hb0 hl0 ht0 hb1 hl1 ht1 hb2 hl2 ht2 hxn hb
    clear r5_0_0 r5_0_1 r5_0_2 r5_0_3 r5_0_4 y5_0_0 y5_0_1 y5_0_2 y5_0_3 y5_0_4 hl5_0 r5_1_0 r5_1_1 r5_1_2 r5_1_3 r5_1_4 y5_1_0 y5_1_1 y5_1_2 y5_1_3 y5_1_4 hl5_1 r5_2_0 r5_2_1 r5_2_2 r5_2_3 y5_2_0 y5_2_1 y5_2_2 y5_2_3 hl5_2)
           | (
    go_at_call 40
    have hgd := HP4
    clear hgd
    refine calls_at (fun W => Ps W q A c l s2 ∧ Kq q w W ∧ w4.heap.size ≤ W.heap.size ∧ Blk W (w.heap.size) 24 zN ∧ Blk W (w1.heap.size) 24 (nC no nn nk np NA ns.length nc) ∧ Blk W (w3.heap.size) 80 (tC t) ∧ NodeX W (w.heap.size + 1) (w2.heap.size) (w1.heap.size) (.node no nn nk np ns) NA nc) (fun W hW => HIN.out W hW.1) ?_ ?_
    · refine ⟨?_, ?_, ?_, ?_, ?_, ?_, ?_⟩
      all_goals repeat' (first | (with_reducible first | exact HP4.out | exact HK4.out | exact HB0_4.out | exact HB1_4.out | exact HB2_4.out | exact HNn_4.out | exact Fr.refl _ _ | apply ps_far | apply Ps.alloc | apply Ps.drew | apply Fr.drew | apply blk_drew | apply kq_far | apply Fr.alloc | apply tokZ | apply nodZ0 | exact blk_new _ _ _ | apply blk_alloc | apply Blk.other | apply nodex_far | apply nodex_alloc | apply nodex_drew) | omega | (simp; done) | (simp <;> omega))
    rintro W ⟨hp, hk, hlo, hb0, hb1, hb2, hxn⟩
    rintro e w5 ⟨rfl, hb⟩
    have hfr := Kq.of_below (q := q) hb
    have hp2 := hp.below hb
    have hsz := hfr.size
    have hmo5 : w4.heap.size ≤ w5.heap.size := Nat.le_trans hlo hsz
    have hqs : q < w5.heap.size := hp2.qlt
    have hl0 := hb0.lt
    have ht0 : Blk w5 (w.heap.size) 24 zN := hfr.blk hb0 (by omega)
    have hl5_0 : w.heap.size < w5.heap.size := ht0.lt
    obtain ⟨r5_0_0, r5_0_1, r5_0_2, r5_0_3, r5_0_4⟩ := blk5 ht0
    obtain ⟨y5_0_0, y5_0_1, y5_0_2, y5_0_3, y5_0_4⟩ := blk5f ht0
    have HB0_5 := Lib.hid ht0
    have hl1 := hb1.lt
    have ht1 : Blk w5 (w1.heap.size) 24 (nC no nn nk np NA ns.length nc) := hfr.blk hb1 (by omega)
    have hl5_1 : w1.heap.size < w5.heap.size := ht1.lt
    obtain ⟨r5_1_0, r5_1_1, r5_1_2, r5_1_3, r5_1_4⟩ := blk5 ht1
    obtain ⟨y5_1_0, y5_1_1, y5_1_2, y5_1_3, y5_1_4⟩ := blk5f ht1
    have HB1_5 := Lib.hid ht1
    have hl2 := hb2.lt
    have ht2 : Blk w5 (w3.heap.size) 80 (tC t) := hfr.blk hb2 (by omega)
    have hl5_2 : w3.heap.size < w5.heap.size := ht2.lt
    obtain ⟨r5_2_0, r5_2_1, r5_2_2, r5_2_3⟩ := blk4 ht2
    obtain ⟨y5_2_0, y5_2_1, y5_2_2, y5_2_3⟩ := blk4f ht2
    have HB2_5 := Lib.hid ht2
    have HNn_5 := Lib.hid (nodex_kq hxn hfr (by omega) (by omega))
    have HP5 := Lib.hid hp2
    have HK5 := Lib.hid (hk.trans hfr)
    clear hp hk hp2 hfr hsz hlo hb0 hl0 ht0 hb1 hl1 ht1 hb2 hl2 ht2 hxn hb
    clear r4_0_0 r4_0_1 r4_0_2 r4_0_3 r4_0_4 y4_0_0 y4_0_1 y4_0_2 y4_0_3 y4_0_4 hl4_0 r4_1_0 r4_1_1 r4_1_2 r4_1_3 r4_1_4 y4_1_0 y4_1_1 y4_1_2 y4_1_3 y4_1_4 hl4_1 r4_2_0 r4_2_1 r4_2_2 r4_2_3 y4_2_0 y4_2_1 y4_2_2 y4_2_3 hl4_2)
           | (
    go_at_call 40
    have hgd := HP3
    clear hgd
    refine calls_at (fun W => Ps W q A c l s2 ∧ Kq q w W ∧ w3.heap.size + 1 ≤ W.heap.size ∧ Blk W (w.heap.size) 24 zN ∧ Blk W (w1.heap.size) 24 (nC no nn nk np NA ns.length nc) ∧ Blk W (w3.heap.size) 80 (tC t) ∧ NodeX W (w.heap.size + 1) (w2.heap.size) (w1.heap.size) (.node no nn nk np ns) NA nc) (fun W hW => HIU.out W hW.1) ?_ ?_
    · refine ⟨?_, ?_, ?_, ?_, ?_, ?_, ?_⟩
      all_goals repeat' (first | (with_reducible first | exact HP3.out | exact HK3.out | exact HB0_3.out | exact HB1_3.out | exact HB2_3.out | exact HNn_3.out | exact Fr.refl _ _ | apply ps_far | apply Ps.alloc | apply Ps.drew | apply Fr.drew | apply blk_drew | apply kq_far | apply Fr.alloc | apply tokZ | apply nodZ0 | exact blk_new _ _ _ | apply blk_alloc | apply Blk.other | apply nodex_far | apply nodex_alloc | apply nodex_drew) | omega | (simp; done) | (simp <;> omega))
    rintro W ⟨hp, hk, hlo, hb0, hb1, hb2, hxn⟩
    rintro e w4 ⟨rfl, hb⟩
    have hfr := Kq.of_below (q := q) hb
    have hp2 := hp.below hb
    have hsz := hfr.size
    have hmo4 : w3.heap.size + 1 ≤ w4.heap.size := Nat.le_trans hlo hsz
    have hqs : q < w4.heap.size := hp2.qlt
    have hl0 := hb0.lt
    have ht0 : Blk w4 (w.heap.size) 24 zN := hfr.blk hb0 (by omega)
    have hl4_0 : w.heap.size < w4.heap.size := ht0.lt
    obtain ⟨r4_0_0, r4_0_1, r4_0_2, r4_0_3, r4_0_4⟩ := blk5 ht0
    obtain ⟨y4_0_0, y4_0_1, y4_0_2, y4_0_3, y4_0_4⟩ := blk5f ht0
    have HB0_4 := Lib.hid ht0
    have hl1 := hb1.lt
    have ht1 : Blk w4 (w1.heap.size) 24 (nC no nn nk np NA ns.length nc) := hfr.blk hb1 (by omega)
    have hl4_1 : w1.heap.size < w4.heap.size := ht1.lt
    obtain ⟨r4_1_0, r4_1_1, r4_1_2, r4_1_3, r4_1_4⟩ := blk5 ht1
    obtain ⟨y4_1_0, y4_1_1, y4_1_2, y4_1_3, y4_1_4⟩ := blk5f ht1
    have HB1_4 := Lib.hid ht1
    have hl2 := hb2.lt
    have ht2 : Blk w4 (w3.heap.size) 80 (tC t) := hfr.blk hb2 (by omega)
    have hl4_2 : w3.heap.size < w4.heap.size := ht2.lt
    obtain ⟨r4_2_0, r4_2_1, r4_2_2, r4_2_3⟩ := blk4 ht2
    obtain ⟨y4_2_0, y4_2_1, y4_2_2, y4_2_3⟩ := blk4f ht2
    have HB2_4 := Lib.hid ht2
    have HNn_4 := Lib.hid (nodex_kq hxn hfr (by omega) (by omega))
    have HP4 := Lib.hid hp2
    have HK4 := Lib.hid (hk.trans hfr)
    clear hp hk hp2 hfr hsz hlo hb0 hl0 ht0 hb1 hl1 ht1 hb2 hl2 ht2 hxn hb
    clear r3_0_0 r3_0_1 r3_0_2 r3_0_3 r3_0_4 y3_0_0 y3_0_1 y3_0_2 y3_0_3 y3_0_4 hl3_0 r3_1_0 r3_1_1 r3_1_2 r3_1_3 r3_1_4 y3_1_0 y3_1_1 y3_1_2 y3_1_3 y3_1_4 hl3_1)
           | (
    go_at_call 46
    have hgd := HP2
    clear hgd
    refine calls_at (fun W => Ps W q A c l s2 ∧ Kq q w W ∧ w2.heap.size ≤ W.heap.size ∧ Blk W (w.heap.size) 24 zN ∧ Blk W (w1.heap.size) 24 (nC no nn nk np NA ns.length nc) ∧ NodeX W (w.heap.size + 1) (w2.heap.size) (w1.heap.size) (.node no nn nk np ns) NA nc) (fun W hW => HNW2.out W hW.1) ?_ ?_
    · refine ⟨?_, ?_, ?_, ?_, ?_, ?_⟩
      all_goals repeat' (first | (with_reducible first | exact HP2.out | exact HK2.out | exact HB0_2.out | exact HB1_2.out | exact HNn_2.out | exact Fr.refl _ _ | apply ps_far | apply Ps.alloc | apply Ps.drew | apply Fr.drew | apply blk_drew | apply kq_far | apply Fr.alloc | apply tokZ | apply nodZ0 | exact blk_new _ _ _ | apply blk_alloc | apply Blk.other | apply nodex_far | apply nodex_alloc | apply nodex_drew) | omega | (simp; done) | (simp <;> omega))
    rintro W ⟨hp, hk, hlo, hb0, hb1, hxn⟩
    rintro e w3 ⟨rfl, hb⟩
    have hfr := Kq.of_below (q := q) hb
    have hp2 := hp.below hb
    have hsz := hfr.size
    have hmo3 : w2.heap.size ≤ w3.heap.size := Nat.le_trans hlo hsz
    have hqs : q < w3.heap.size := hp2.qlt
    have hl0 := hb0.lt
    have ht0 : Blk w3 (w.heap.size) 24 zN := hfr.blk hb0 (by omega)
    have hl3_0 : w.heap.size < w3.heap.size := ht0.lt
    obtain ⟨r3_0_0, r3_0_1, r3_0_2, r3_0_3, r3_0_4⟩ := blk5 ht0
    obtain ⟨y3_0_0, y3_0_1, y3_0_2, y3_0_3, y3_0_4⟩ := blk5f ht0
    have HB0_3 := Lib.hid ht0
    have hl1 := hb1.lt
    have ht1 : Blk w3 (w1.heap.size) 24 (nC no nn nk np NA ns.length nc) := hfr.blk hb1 (by omega)
    have hl3_1 : w1.heap.size < w3.heap.size := ht1.lt
    obtain ⟨r3_1_0, r3_1_1, r3_1_2, r3_1_3, r3_1_4⟩ := blk5 ht1
    obtain ⟨y3_1_0, y3_1_1, y3_1_2, y3_1_3, y3_1_4⟩ := blk5f ht1
    have HB1_3 := Lib.hid ht1
    have HNn_3 := Lib.hid (nodex_kq hxn hfr (by omega) (by omega))
    have HP3 := Lib.hid hp2
    have HK3 := Lib.hid (hk.trans hfr)
    clear hp hk hp2 hfr hsz hlo hb0 hl0 ht0 hb1 hl1 ht1 hxn hb))
          have hw4 : w3.heap.size < w7.heap.size := HB2_7.out.lt
          have hw5 : w1.heap.size < w7.heap.size := HB1_7.out.lt
          have HC6 : Hid (Calls Tryd.prog 161 #[.pointer (some ⟨q, 0, none⟩), .bool false] w7.drew fun e w9 => ∃ A6 c6, e = .returned (.agg #[.string ⟨po.toArray⟩, .string ⟨pn.toArray⟩, .int .i64 pk, .int .i64 pp, .slice A6 ps.length c6]) ∧ Blk w9 w3.heap.size 80 (tC t) ∧ Fold w w9 q w.heap.size w1.heap.size (w.heap.size + 1) w2.heap.size A c l s4 no nn nk np ns NA nc (.node po pn pk pp ps) A6 c6) := by
           refine Lib.hid ((HI3.out _ HP7.out.drew).mono ?_)
           intro e w9 hpost
           obtain ⟨A6, c6, rfl, hnn, hp6, hk6⟩ := npost_open hpost
           have hs6 : w7.heap.size ≤ w9.heap.size := hk6.size
           refine ⟨A6, c6, rfl, hk6.blk (blk_drew HB2_7.out) (by omega), hp6, HK7.out.drew.trans hk6, hk6.blk (blk_drew HB0_7.out) (by omega), hk6.blk (blk_drew HB1_7.out) (by omega), nodex_kq (nodex_drew HNn_7.out) hk6 (by omega) (by show w2.heap.size ≤ w7.heap.size; omega), ?_, by omega⟩
           exact nodex_wide (nodex_of hnn (Or.inl (by show w1.heap.size < w7.heap.size; omega))) (by show w.heap.size + 1 ≤ w7.heap.size; omega) (Nat.le_refl _)
          clear HI3 HNX2 HNW2 HIU HIN HIM
          go_region_with (
           go_at_call 161
           refine HC6.out.mono ?_
           rintro e w9 ⟨A6, c6, rfl, ht6, hF6⟩
           obtain ⟨k60, k61, k62, k63, k64⟩ := blk5 hF6.box
           obtain ⟨z60, z61, z62, z63, z64⟩ := blk5f hF6.box
           have k6t := (blk4 ht6).2.2.2
           have HF6 := Lib.hid hF6
           have hb6 : w1.heap.size < w9.heap.size := hF6.box.lt
           have hb7 : w3.heap.size < w9.heap.size := ht6.lt
           have hb8 : ¬ w3.heap.size = w9.heap.size := by omega
           clear ht6 hF6)
          all_goals
           go_wp2_with fail
           go_roundg (f + 1)
           case measure => have := HG.out; omega
           case rel => exact ⟨f, nMinus, [], 0, (t.at_ : Nat), [.node no nn nk np ns, .node po pn pk pp ps], some ⟨w9.heap.size, 0, none⟩, 2, s4, by omega, rfl, by omega, HR, fold_end HF6.out nMinus (by decide) _ _ rfl⟩
        | false =>
          replace HR := Lib.hid ((HR.out.trans (if_neg (by decide))).trans (if_neg (by decide)))
          clear hup
          go_wp2_with (first
   | (
     go_at_call 40
     have hgd := HP5
     clear hgd
     refine calls_at (fun W => Ps W q A c l s2 ∧ Kq q w W ∧ w5.heap.size ≤ W.heap.size ∧ Blk W (w.heap.size) 24 zN ∧ Blk W (w1.heap.size) 24 (nC no nn nk np NA ns.length nc) ∧ Blk W (w3.heap.size) 80 (tC t) ∧ NodeX W (w.heap.size + 1) (w2.heap.size) (w1.heap.size) (.node no nn nk np ns) NA nc) (fun W hW => HIM.out W hW.1) ?_ ?_
     · refine ⟨?_, ?_, ?_, ?_, ?_, ?_, ?_⟩
       all_goals repeat' (first | (with_reducible first | exact HP5.out | exact HK5.out | exact HB0_5.out | exact HB1_5.out | exact HB2_5.out | exact HNn_5.out | exact Fr.refl _ _ | apply ps_far | apply Ps.alloc | apply Ps.drew | apply Fr.drew | apply blk_drew | apply kq_far | apply Fr.alloc | apply tokZ | apply nodZ0 | exact blk_new _ _ _ | apply blk_alloc | apply Blk.other | apply nodex_far | apply nodex_alloc | apply nodex_drew) | omega | (simp; done) | (simp <;> omega))
     rintro W ⟨hp, hk, hlo, hb0, hb1, hb2, hxn⟩
     rintro e w6 ⟨rfl, hb⟩
     have hfr := Kq.of_below (q := q) hb
     have hp2 := hp.below hb
     have hsz := hfr.size
     have hmo6 : w5.heap.size ≤ w6.heap.size := Nat.le_trans hlo hsz
     have hqs : q < w6.heap.size := hp2.qlt
     have hl0 := hb0.lt
     have ht0 : Blk w6 (w.heap.size) 24 zN := hfr.blk hb0 (by omega)
     have hl6_0 : w.heap.size < w6.heap.size := ht0.lt
     obtain ⟨r6_0_0, r6_0_1, r6_0_2, r6_0_3, r6_0_4⟩ := blk5 ht0
     obtain ⟨y6_0_0, y6_0_1, y6_0_2, y6_0_3, y6_0_4⟩ := blk5f ht0
     have HB0_6 := Lib.hid ht0
     have hl1 := hb1.lt
     have ht1 : Blk w6 (w1.heap.size) 24 (nC no nn nk np NA ns.length nc) := hfr.blk hb1 (by omega)
     have hl6_1 : w1.heap.size < w6.heap.size := ht1.lt
     obtain ⟨r6_1_0, r6_1_1, r6_1_2, r6_1_3, r6_1_4⟩ := blk5 ht1
     obtain ⟨y6_1_0, y6_1_1, y6_1_2, y6_1_3, y6_1_4⟩ := blk5f ht1
     have HB1_6 := Lib.hid ht1
     have hl2 := hb2.lt
     have ht2 : Blk w6 (w3.heap.size) 80 (tC t) := hfr.blk hb2 (by omega)
     have hl6_2 : w3.heap.size < w6.heap.size := ht2.lt
     obtain ⟨r6_2_0, r6_2_1, r6_2_2, r6_2_3⟩ := blk4 ht2
     obtain ⟨y6_2_0, y6_2_1, y6_2_2, y6_2_3⟩ := blk4f ht2
     have HB2_6 := Lib.hid ht2
     have HNn_6 := Lib.hid (nodex_kq hxn hfr (by omega) (by omega))
     have HP6 := Lib.hid hp2
     have HK6 := Lib.hid (hk.trans hfr)
     clear hp hk hp2 hfr hsz hlo hb0 hl0 ht0 hb1 hl1 ht1 hb2 hl2 ht2 hxn hb
     clear r5_0_0 r5_0_1 r5_0_2 r5_0_3 r5_0_4 y5_0_0 y5_0_1 y5_0_2 y5_0_3 y5_0_4 hl5_0 r5_1_0 r5_1_1 r5_1_2 r5_1_3 r5_1_4 y5_1_0 y5_1_1 y5_1_2 y5_1_3 y5_1_4 hl5_1 r5_2_0 r5_2_1 r5_2_2 r5_2_3 y5_2_0 y5_2_1 y5_2_2 y5_2_3 hl5_2)
   | (
     go_at_call 40
     have hgd := HP4
     clear hgd
     refine calls_at (fun W => Ps W q A c l s2 ∧ Kq q w W ∧ w4.heap.size ≤ W.heap.size ∧ Blk W (w.heap.size) 24 zN ∧ Blk W (w1.heap.size) 24 (nC no nn nk np NA ns.length nc) ∧ Blk W (w3.heap.size) 80 (tC t) ∧ NodeX W (w.heap.size + 1) (w2.heap.size) (w1.heap.size) (.node no nn nk np ns) NA nc) (fun W hW => HIN.out W hW.1) ?_ ?_
     · refine ⟨?_, ?_, ?_, ?_, ?_, ?_, ?_⟩
       all_goals repeat' (first | (with_reducible first | exact HP4.out | exact HK4.out | exact HB0_4.out | exact HB1_4.out | exact HB2_4.out | exact HNn_4.out | exact Fr.refl _ _ | apply ps_far | apply Ps.alloc | apply Ps.drew | apply Fr.drew | apply blk_drew | apply kq_far | apply Fr.alloc | apply tokZ | apply nodZ0 | exact blk_new _ _ _ | apply blk_alloc | apply Blk.other | apply nodex_far | apply nodex_alloc | apply nodex_drew) | omega | (simp; done) | (simp <;> omega))
     rintro W ⟨hp, hk, hlo, hb0, hb1, hb2, hxn⟩
     rintro e w5 ⟨rfl, hb⟩
     have hfr := Kq.of_below (q := q) hb
     have hp2 := hp.below hb
     have hsz := hfr.size
     have hmo5 : w4.heap.size ≤ w5.heap.size := Nat.le_trans hlo hsz
     have hqs : q < w5.heap.size := hp2.qlt
     have hl0 := hb0.lt
     have ht0 : Blk w5 (w.heap.size) 24 zN := hfr.blk hb0 (by omega)
     have hl5_0 : w.heap.size < w5.heap.size := ht0.lt
     obtain ⟨r5_0_0, r5_0_1, r5_0_2, r5_0_3, r5_0_4⟩ := blk5 ht0
     obtain ⟨y5_0_0, y5_0_1, y5_0_2, y5_0_3, y5_0_4⟩ := blk5f ht0
     have HB0_5 := Lib.hid ht0
     have hl1 := hb1.lt
     have ht1 : Blk w5 (w1.heap.size) 24 (nC no nn nk np NA ns.length nc) := hfr.blk hb1 (by omega)
     have hl5_1 : w1.heap.size < w5.heap.size := ht1.lt
     obtain ⟨r5_1_0, r5_1_1, r5_1_2, r5_1_3, r5_1_4⟩ := blk5 ht1
     obtain ⟨y5_1_0, y5_1_1, y5_1_2, y5_1_3, y5_1_4⟩ := blk5f ht1
     have HB1_5 := Lib.hid ht1
     have hl2 := hb2.lt
     have ht2 : Blk w5 (w3.heap.size) 80 (tC t) := hfr.blk hb2 (by omega)
     have hl5_2 : w3.heap.size < w5.heap.size := ht2.lt
     obtain ⟨r5_2_0, r5_2_1, r5_2_2, r5_2_3⟩ := blk4 ht2
     obtain ⟨y5_2_0, y5_2_1, y5_2_2, y5_2_3⟩ := blk4f ht2
     have HB2_5 := Lib.hid ht2
     have HNn_5 := Lib.hid (nodex_kq hxn hfr (by omega) (by omega))
     have HP5 := Lib.hid hp2
     have HK5 := Lib.hid (hk.trans hfr)
     clear hp hk hp2 hfr hsz hlo hb0 hl0 ht0 hb1 hl1 ht1 hb2 hl2 ht2 hxn hb
     clear r4_0_0 r4_0_1 r4_0_2 r4_0_3 r4_0_4 y4_0_0 y4_0_1 y4_0_2 y4_0_3 y4_0_4 hl4_0 r4_1_0 r4_1_1 r4_1_2 r4_1_3 r4_1_4 y4_1_0 y4_1_1 y4_1_2 y4_1_3 y4_1_4 hl4_1 r4_2_0 r4_2_1 r4_2_2 r4_2_3 y4_2_0 y4_2_1 y4_2_2 y4_2_3 hl4_2)
   | (
     go_at_call 40
     have hgd := HP3
     clear hgd
     refine calls_at (fun W => Ps W q A c l s2 ∧ Kq q w W ∧ w3.heap.size + 1 ≤ W.heap.size ∧ Blk W (w.heap.size) 24 zN ∧ Blk W (w1.heap.size) 24 (nC no nn nk np NA ns.length nc) ∧ Blk W (w3.heap.size) 80 (tC t) ∧ NodeX W (w.heap.size + 1) (w2.heap.size) (w1.heap.size) (.node no nn nk np ns) NA nc) (fun W hW => HIU.out W hW.1) ?_ ?_
     · refine ⟨?_, ?_, ?_, ?_, ?_, ?_, ?_⟩
       all_goals repeat' (first | (with_reducible first | exact HP3.out | exact HK3.out | exact HB0_3.out | exact HB1_3.out | exact HB2_3.out | exact HNn_3.out | exact Fr.refl _ _ | apply ps_far | apply Ps.alloc | apply Ps.drew | apply Fr.drew | apply blk_drew | apply kq_far | apply Fr.alloc | apply tokZ | apply nodZ0 | exact blk_new _ _ _ | apply blk_alloc | apply Blk.other | apply nodex_far | apply nodex_alloc | apply nodex_drew) | omega | (simp; done) | (simp <;> omega))
     rintro W ⟨hp, hk, hlo, hb0, hb1, hb2, hxn⟩
     rintro e w4 ⟨rfl, hb⟩
     have hfr := Kq.of_below (q := q) hb
     have hp2 := hp.below hb
     have hsz := hfr.size
     have hmo4 : w3.heap.size + 1 ≤ w4.heap.size := Nat.le_trans hlo hsz
     have hqs : q < w4.heap.size := hp2.qlt
     have hl0 := hb0.lt
     have ht0 : Blk w4 (w.heap.size) 24 zN := hfr.blk hb0 (by omega)
     have hl4_0 : w.heap.size < w4.heap.size := ht0.lt
     obtain ⟨r4_0_0, r4_0_1, r4_0_2, r4_0_3, r4_0_4⟩ := blk5 ht0
     obtain ⟨y4_0_0, y4_0_1, y4_0_2, y4_0_3, y4_0_4⟩ := blk5f ht0
     have HB0_4 := Lib.hid ht0
     have hl1 := hb1.lt
     have ht1 : Blk w4 (w1.heap.size) 24 (nC no nn nk np NA ns.length nc) := hfr.blk hb1 (by omega)
     have hl4_1 : w1.heap.size < w4.heap.size := ht1.lt
     obtain ⟨r4_1_0, r4_1_1, r4_1_2, r4_1_3, r4_1_4⟩ := blk5 ht1
     obtain ⟨y4_1_0, y4_1_1, y4_1_2, y4_1_3, y4_1_4⟩ := blk5f ht1
     have HB1_4 := Lib.hid ht1
     have hl2 := hb2.lt
     have ht2 : Blk w4 (w3.heap.size) 80 (tC t) := hfr.blk hb2 (by omega)
     have hl4_2 : w3.heap.size < w4.heap.size := ht2.lt
     obtain ⟨r4_2_0, r4_2_1, r4_2_2, r4_2_3⟩ := blk4 ht2
     obtain ⟨y4_2_0, y4_2_1, y4_2_2, y4_2_3⟩ := blk4f ht2
     have HB2_4 := Lib.hid ht2
     have HNn_4 := Lib.hid (nodex_kq hxn hfr (by omega) (by omega))
     have HP4 := Lib.hid hp2
     have HK4 := Lib.hid (hk.trans hfr)
     clear hp hk hp2 hfr hsz hlo hb0 hl0 ht0 hb1 hl1 ht1 hb2 hl2 ht2 hxn hb
     clear r3_0_0 r3_0_1 r3_0_2 r3_0_3 r3_0_4 y3_0_0 y3_0_1 y3_0_2 y3_0_3 y3_0_4 hl3_0 r3_1_0 r3_1_1 r3_1_2 r3_1_3 r3_1_4 y3_1_0 y3_1_1 y3_1_2 y3_1_3 y3_1_4 hl3_1)
   | (
     go_at_call 46
     have hgd := HP2
     clear hgd
     refine calls_at (fun W => Ps W q A c l s2 ∧ Kq q w W ∧ w2.heap.size ≤ W.heap.size ∧ Blk W (w.heap.size) 24 zN ∧ Blk W (w1.heap.size) 24 (nC no nn nk np NA ns.length nc) ∧ NodeX W (w.heap.size + 1) (w2.heap.size) (w1.heap.size) (.node no nn nk np ns) NA nc) (fun W hW => HNW2.out W hW.1) ?_ ?_
     · refine ⟨?_, ?_, ?_, ?_, ?_, ?_⟩
       all_goals repeat' (first | (with_reducible first | exact HP2.out | exact HK2.out | exact HB0_2.out | exact HB1_2.out | exact HNn_2.out | exact Fr.refl _ _ | apply ps_far | apply Ps.alloc | apply Ps.drew | apply Fr.drew | apply blk_drew | apply kq_far | apply Fr.alloc | apply tokZ | apply nodZ0 | exact blk_new _ _ _ | apply blk_alloc | apply Blk.other | apply nodex_far | apply nodex_alloc | apply nodex_drew) | omega | (simp; done) | (simp <;> omega))
     rintro W ⟨hp, hk, hlo, hb0, hb1, hxn⟩
     rintro e w3 ⟨rfl, hb⟩
     have hfr := Kq.of_below (q := q) hb
     have hp2 := hp.below hb
     have hsz := hfr.size
     have hmo3 : w2.heap.size ≤ w3.heap.size := Nat.le_trans hlo hsz
     have hqs : q < w3.heap.size := hp2.qlt
     have hl0 := hb0.lt
     have ht0 : Blk w3 (w.heap.size) 24 zN := hfr.blk hb0 (by omega)
     have hl3_0 : w.heap.size < w3.heap.size := ht0.lt
     obtain ⟨r3_0_0, r3_0_1, r3_0_2, r3_0_3, r3_0_4⟩ := blk5 ht0
     obtain ⟨y3_0_0, y3_0_1, y3_0_2, y3_0_3, y3_0_4⟩ := blk5f ht0
     have HB0_3 := Lib.hid ht0
     have hl1 := hb1.lt
     have ht1 : Blk w3 (w1.heap.size) 24 (nC no nn nk np NA ns.length nc) := hfr.blk hb1 (by omega)
     have hl3_1 : w1.heap.size < w3.heap.size := ht1.lt
     obtain ⟨r3_1_0, r3_1_1, r3_1_2, r3_1_3, r3_1_4⟩ := blk5 ht1
     obtain ⟨y3_1_0, y3_1_1, y3_1_2, y3_1_3, y3_1_4⟩ := blk5f ht1
     have HB1_3 := Lib.hid ht1
     have HNn_3 := Lib.hid (nodex_kq hxn hfr (by omega) (by omega))
     have HP3 := Lib.hid hp2
     have HK3 := Lib.hid (hk.trans hfr)
     clear hp hk hp2 hfr hsz hlo hb0 hl0 ht0 hb1 hl1 ht1 hxn hb))
          all_goals
           refine bodyPost_ret (res_one (by rfl) _ _ w.heap.size #[.string ⟨no.toArray⟩, .string ⟨nn.toArray⟩, .int .i64 nk, .int .i64 np, .slice NA ns.length nc] rfl ?_ Tryd.underlying24 inf_node5) rfl ⟨NA, nc, by rw [HR.out]; rfl, ?_, ?_, ?_⟩
           · repeat' (first | (with_reducible first | exact HP6.out | exact HK6.out | exact HB0_6.out | exact HB1_6.out | exact HB2_6.out | exact HNn_6.out | apply ps_far | apply Ps.alloc | apply Ps.drew | apply kq_far | apply Fr.alloc | apply Fr.drew | apply nodZ0 | exact blk_new _ _ _ | apply blk_drew | apply blk_alloc | apply Blk.other | apply nodex_far | apply nodex_alloc | apply nodex_drew) | omega | (simp; done) | (simp <;> omega))
           · rw [HR.out]
             refine nodef_of (g := w1.heap.size) (nodex_wide (lo := w.heap.size + 1) (hi := w2.heap.size) ?_ (by omega) (by simp <;> omega))
             repeat' (first | (with_reducible first | exact HP6.out | exact HK6.out | exact HB0_6.out | exact HB1_6.out | exact HB2_6.out | exact HNn_6.out | apply ps_far | apply Ps.alloc | apply Ps.drew | apply kq_far | apply Fr.alloc | apply Fr.drew | apply nodZ0 | exact blk_new _ _ _ | apply blk_drew | apply blk_alloc | apply Blk.other | apply nodex_far | apply nodex_alloc | apply nodex_drew) | omega | (simp; done) | (simp <;> omega))
           · rw [HR.out]
             repeat' (first | (with_reducible first | exact HP6.out | exact HK6.out | exact HB0_6.out | exact HB1_6.out | exact HB2_6.out | exact HNn_6.out | apply ps_far | apply Ps.alloc | apply Ps.drew | apply kq_far | apply Fr.alloc | apply Fr.drew | apply nodZ0 | exact blk_new _ _ _ | apply blk_drew | apply blk_alloc | apply Blk.other | apply nodex_far | apply nodex_alloc | apply nodex_drew) | omega | (simp; done) | (simp <;> omega))
           · repeat' (first | (with_reducible first | exact HP6.out | exact HK6.out | exact HB0_6.out | exact HB1_6.out | exact HB2_6.out | exact HNn_6.out | apply ps_far | apply Ps.alloc | apply Ps.drew | apply kq_far | apply Fr.alloc | apply Fr.drew | apply nodZ0 | exact blk_new _ _ _ | apply blk_drew | apply blk_alloc | apply Blk.other | apply nodex_far | apply nodex_alloc | apply nodex_drew) | omega | (simp; done) | (simp <;> omega))
  · have g0 : ((s2.e : Int) == 0) = false := by simp; omega
    rw [if_neg he] at HR
    clear he
    go_wp2_with fail
    refine bodyPost_ret (res_one (by rfl) _ _ w.heap.size #[.string ⟨no.toArray⟩, .string ⟨nn.toArray⟩, .int .i64 nk, .int .i64 np, .slice NA ns.length nc] rfl ?_ Tryd.underlying24 inf_node5) rfl ⟨NA, nc, by rw [HR.out]; rfl, ?_, ?_, ?_⟩
    · repeat' (first | (with_reducible first | exact HP2.out | exact HK2.out | exact HB0_2.out | exact HB1_2.out | exact HNn_2.out | apply ps_far | apply Ps.alloc | apply Ps.drew | apply kq_far | apply Fr.alloc | apply Fr.drew | apply nodZ0 | exact blk_new _ _ _ | apply blk_drew | apply blk_alloc | apply Blk.other | apply nodex_far | apply nodex_alloc | apply nodex_drew) | omega | (simp; done) | (simp <;> omega))
    · rw [HR.out]
      refine nodef_of (g := w1.heap.size) (nodex_wide (lo := w.heap.size + 1) (hi := w2.heap.size) ?_ (by omega) (by simp <;> omega))
      repeat' (first | (with_reducible first | exact HP2.out | exact HK2.out | exact HB0_2.out | exact HB1_2.out | exact HNn_2.out | apply ps_far | apply Ps.alloc | apply Ps.drew | apply kq_far | apply Fr.alloc | apply Fr.drew | apply nodZ0 | exact blk_new _ _ _ | apply blk_drew | apply blk_alloc | apply Blk.other | apply nodex_far | apply nodex_alloc | apply nodex_drew) | omega | (simp; done) | (simp <;> omega))
    · rw [HR.out]
      repeat' (first | (with_reducible first | exact HP2.out | exact HK2.out | exact HB0_2.out | exact HB1_2.out | exact HNn_2.out | apply ps_far | apply Ps.alloc | apply Ps.drew | apply kq_far | apply Fr.alloc | apply Fr.drew | apply nodZ0 | exact blk_new _ _ _ | apply blk_drew | apply blk_alloc | apply Blk.other | apply nodex_far | apply nodex_alloc | apply nodex_drew) | omega | (simp; done) | (simp <;> omega))
    · repeat' (first | (with_reducible first | exact HP2.out | exact HK2.out | exact HB0_2.out | exact HB1_2.out | exact HNn_2.out | apply ps_far | apply Ps.alloc | apply Ps.drew | apply kq_far | apply Fr.alloc | apply Fr.drew | apply nodZ0 | exact blk_new _ _ _ | apply blk_drew | apply blk_alloc | apply Blk.other | apply nodex_far | apply nodex_alloc | apply nodex_drew) | omega | (simp; done) | (simp <;> omega))
end Go.Proofs.YteikakoheibnjaaDoor
