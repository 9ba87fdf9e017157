/- Parts of the proof: PImp, PRowT, PKeep. -/
import Derived.Test.YteikakoheibnjaaDoorQ17
namespace Go.Proofs.YteikakoheibnjaaDoor
open Go Go.RowKit

theorem impF_step (l : List Tok) (u : PS → Node × PS) (f : Nat) (s : PS) : impF l u (f + 1) s = if isW l (orP l u s).2 [61, 62] = true then (.node nImp [] 0 (nowP l (orP l u s).2).at_ [(orP l u s).1, (impF l u f (nextP l (orP l u s).2)).1], (impF l u f (nextP l (orP l u s).2)).2) else orP l u s := rfl

set_option maxRecDepth 100000 in
set_option maxHeartbeats 8000000 in
theorem pimp_any {l : List Tok} {d : Nat} {u : PS → Node × PS} (HU : NLaw 96 l d (orP l u)) (hu : ∀ s, s.i ≤ (orP l u s).2.i) : ∀ (f : Nat) (w : World) (q : Nat) (A : Option Addr) (c : Nat) (s : PS), Ps w q A c l s → l.length < f + s.i + 1 →
  Calls Tryd.prog 77 #[.pointer (some ⟨q, 0, none⟩), .int .i64 (d : Nat)] w (NPost w q A c l (impF l u f s)) := by
 intro f
 induction f with
 | zero => exact fun w q A c s h hf => absurd h.lt (by omega)
 | succ f ih =>
   intro w q A c s h hf
   have HP0 := Lib.hid h
   have hq := h.qlt
   have HI1 := Lib.hid (fun W (hW : Ps W q A c l s) => HU W q A c s hW)
   have HV := Lib.hid (impF_step l u f s)
   have hadv := hu s
   clear h HU hu
   generalize impF l u (f + 1) s = V at *
   generalize orP l u s = r at *
   obtain ⟨⟨no, nn, nk, np, ns⟩, s2⟩ := r
   simp only at HV hadv
   have HIS2 := Lib.hid (fun W (hW : Ps W q A c l s2) => pis_any hW [61, 62])
   have HNX2 := Lib.hid (fun W (hW : Ps W q A c l s2) => pnext_any hW)
   have hup : isW l s2 [61, 62] = true → l.length < f + (nextP l s2).i + 1 := fun hh => by
    have h2 := isW_next hh
    omega
   have HIH := Lib.hid (fun W (hW : Ps W q A c l (nextP l s2)) hx => ih W q A c (nextP l s2) hW hx)
   clear ih
   generalize impF l u f (nextP l s2) = pr at *
   generalize nextP l s2 = s3 at *
   generalize nowP l s2 = t at *
   generalize isW l s2 [61, 62] = b at *
   obtain ⟨⟨po, pn, pk, pp, ps⟩, s4⟩ := pr
   simp only at HV
   unfold tokV at HNX2
   go_enter Tryd.func77, Tryd.ntmps77
   go_upto_region 2 with (
     go_at_call 96
     refine calls_at (fun W => Ps W q A c l s ∧ Kq q w W ∧ w.heap.size + 1 ≤ W.heap.size ∧ Blk W (w.heap.size) 24 zN) (fun W hW => HI1.out W hW.1) ?_ ?_
     · refine ⟨?_, ?_, ?_, ?_⟩
       all_goals repeat' (first | (with_reducible first | exact HP0.out | exact HK0.out | exact HB0_0.out | exact Fr.refl _ _ | apply ps_far | apply Ps.alloc | apply Ps.drew | apply Fr.drew | apply blk_drew | apply kq_far | apply Fr.alloc | apply tokZ | apply nodZ0 | exact blk_new _ _ _ | apply blk_alloc | apply Blk.other) | omega | (simp; done) | (simp <;> omega))
     rintro W ⟨hp, hk, hlo, hb0⟩
     intro e w1 hpost
     obtain ⟨NA, nc, rfl, hnn, hp2, hfr⟩ := npost_open hpost
     have hsz := hfr.size
     have hmo1 : w.heap.size + 1 ≤ w1.heap.size := Nat.le_trans hlo hsz
     have HNN1 := Lib.hid (show NodeF w1 (w.heap.size + 1) w1.heap.size _ NA nc from nodef_wide hnn hlo (Nat.le_refl _))
     have hqs : q < w1.heap.size := hp2.qlt
     have hl0 := hb0.lt
     have ht0 : Blk w1 (w.heap.size) 24 zN := hfr.blk hb0 (by omega)
     have hl1_0 : w.heap.size < w1.heap.size := ht0.lt
     obtain ⟨r1_0_0, r1_0_1, r1_0_2, r1_0_3, r1_0_4⟩ := blk5 ht0
     obtain ⟨y1_0_0, y1_0_1, y1_0_2, y1_0_3, y1_0_4⟩ := blk5f ht0
     have HB0_1 := Lib.hid ht0
     have HP1 := Lib.hid hp2
     have HK1 := Lib.hid (hk.trans hfr)
     clear hp hk hp2 hfr hsz hlo hb0 hl0 ht0 hnn)
   have HNn_1 := Lib.hid (nodex_of (g := w1.heap.size) HNN1.out (Or.inr (Nat.le_refl _)))
   clear HI1
   cases b with
   | false =>
     have HR := Lib.hid (HV.out.trans (if_neg (by decide)))
     clear hup HIH HNX2 HV
     go_wp2_with (first
   | (
     go_at_call 40
     refine calls_at (fun W => Ps W q A c l s2 ∧ Kq q w W ∧ w1.heap.size + 1 ≤ W.heap.size ∧ Blk W (w.heap.size) 24 zN ∧ Blk W (w1.heap.size) 24 (nC no nn nk np NA ns.length nc) ∧ NodeX W (w.heap.size + 1) (w1.heap.size) (w1.heap.size) (.node no nn nk np ns) NA nc) (fun W hW => HIS2.out W hW.1) ?_ ?_
     · refine ⟨?_, ?_, ?_, ?_, ?_, ?_⟩
       all_goals repeat' (first | (with_reducible first | exact HP1.out | exact HK1.out | exact HB0_1.out | exact HB1_1.out | exact HNn_1.out | exact Fr.refl _ _ | apply ps_far | apply Ps.alloc | apply Ps.drew | apply Fr.drew | apply blk_drew | apply kq_far | apply Fr.alloc | apply tokZ | apply nodZ0 | exact blk_new _ _ _ | apply blk_alloc | apply Blk.other | apply nodex_far | apply nodex_alloc | apply nodex_drew) | omega | (simp; done) | (simp <;> omega))
     rintro W ⟨hp, hk, hlo, hb0, hb1, hxn⟩
     rintro e w2 ⟨rfl, hb⟩
     have hfr := Kq.of_below (q := q) hb
     have hp2 := hp.below hb
     have hsz := hfr.size
     have hmo2 : w1.heap.size + 1 ≤ w2.heap.size := Nat.le_trans hlo hsz
     have hqs : q < w2.heap.size := hp2.qlt
     have hl0 := hb0.lt
     have ht0 : Blk w2 (w.heap.size) 24 zN := hfr.blk hb0 (by omega)
     have hl2_0 : w.heap.size < w2.heap.size := ht0.lt
     obtain ⟨r2_0_0, r2_0_1, r2_0_2, r2_0_3, r2_0_4⟩ := blk5 ht0
     obtain ⟨y2_0_0, y2_0_1, y2_0_2, y2_0_3, y2_0_4⟩ := blk5f ht0
     have HB0_2 := Lib.hid ht0
     have hl1 := hb1.lt
     have ht1 : Blk w2 (w1.heap.size) 24 (nC no nn nk np NA ns.length nc) := hfr.blk hb1 (by omega)
     have hl2_1 : w1.heap.size < w2.heap.size := ht1.lt
     obtain ⟨r2_1_0, r2_1_1, r2_1_2, r2_1_3, r2_1_4⟩ := blk5 ht1
     obtain ⟨y2_1_0, y2_1_1, y2_1_2, y2_1_3, y2_1_4⟩ := blk5f ht1
     have HB1_2 := Lib.hid ht1
     have HNn_2 := Lib.hid (nodex_kq hxn hfr (by omega) (by omega))
     have HP2 := Lib.hid hp2
     have HK2 := Lib.hid (hk.trans hfr)
     clear hp hk hp2 hfr hsz hlo hb0 hl0 ht0 hb1 hl1 ht1 hxn hb
     clear r1_0_0 r1_0_1 r1_0_2 r1_0_3 r1_0_4 y1_0_0 y1_0_1 y1_0_2 y1_0_3 y1_0_4 hl1_0))
     all_goals
      refine bodyPost_ret (res_one (by rfl) _ _ w.heap.size #[.string ⟨no.toArray⟩, .string ⟨nn.toArray⟩, .int .i64 nk, .int .i64 np, .slice NA ns.length nc] rfl ?_ Tryd.underlying24 inf_node5) rfl ⟨NA, nc, by rw [HR.out]; rfl, ?_, ?_, ?_⟩
      · repeat' (first | (with_reducible first | exact HP2.out | exact HK2.out | exact HB0_2.out | exact HB1_2.out | exact HNn_2.out | apply ps_far | apply Ps.alloc | apply Ps.drew | apply kq_far | apply Fr.alloc | apply Fr.drew | apply nodZ0 | exact blk_new _ _ _ | apply blk_drew | apply blk_alloc | apply Blk.other | apply nodex_far | apply nodex_alloc | apply nodex_drew) | omega | (simp; done) | (simp <;> omega))
      · rw [HR.out]
        refine nodef_of (g := w1.heap.size) (nodex_wide (lo := w.heap.size + 1) (hi := w1.heap.size) ?_ (by omega) (by simp <;> omega))
        repeat' (first | (with_reducible first | exact HP2.out | exact HK2.out | exact HB0_2.out | exact HB1_2.out | exact HNn_2.out | apply ps_far | apply Ps.alloc | apply Ps.drew | apply kq_far | apply Fr.alloc | apply Fr.drew | apply nodZ0 | exact blk_new _ _ _ | apply blk_drew | apply blk_alloc | apply Blk.other | apply nodex_far | apply nodex_alloc | apply nodex_drew) | omega | (simp; done) | (simp <;> omega))
      · rw [HR.out]
        repeat' (first | (with_reducible first | exact HP2.out | exact HK2.out | exact HB0_2.out | exact HB1_2.out | exact HNn_2.out | apply ps_far | apply Ps.alloc | apply Ps.drew | apply kq_far | apply Fr.alloc | apply Fr.drew | apply nodZ0 | exact blk_new _ _ _ | apply blk_drew | apply blk_alloc | apply Blk.other | apply nodex_far | apply nodex_alloc | apply nodex_drew) | omega | (simp; done) | (simp <;> omega))
      · repeat' (first | (with_reducible first | exact HP2.out | exact HK2.out | exact HB0_2.out | exact HB1_2.out | exact HNn_2.out | apply ps_far | apply Ps.alloc | apply Ps.drew | apply kq_far | apply Fr.alloc | apply Fr.drew | apply nodZ0 | exact blk_new _ _ _ | apply blk_drew | apply blk_alloc | apply Blk.other | apply nodex_far | apply nodex_alloc | apply nodex_drew) | omega | (simp; done) | (simp <;> omega))
   | true =>
     have HR := Lib.hid (HV.out.trans (if_pos rfl))
     have hup2 := hup rfl
     have HI3 := Lib.hid (fun W (hW : Ps W q A c l s3) => HIH.out W hW hup2)
     clear hup HIH HV
     go_upto_region 5 with (first
      | (
    go_at_call 40
    refine calls_at (fun W => Ps W q A c l s2 ∧ Kq q w W ∧ w1.heap.size + 1 ≤ W.heap.size ∧ Blk W (w.heap.size) 24 zN ∧ Blk W (w1.heap.size) 24 (nC no nn nk np NA ns.length nc) ∧ NodeX W (w.heap.size + 1) (w1.heap.size) (w1.heap.size) (.node no nn nk np ns) NA nc) (fun W hW => HIS2.out W hW.1) ?_ ?_
    · refine ⟨?_, ?_, ?_, ?_, ?_, ?_⟩
      all_goals repeat' (first | (with_reducible first | exact HP1.out | exact HK1.out | exact HB0_1.out | exact HB1_1.out | exact HNn_1.out | exact Fr.refl _ _ | apply ps_far | apply Ps.alloc | apply Ps.drew | apply Fr.drew | apply blk_drew | apply kq_far | apply Fr.alloc | apply tokZ | apply nodZ0 | exact blk_new _ _ _ | apply blk_alloc | apply Blk.other | apply nodex_far | apply nodex_alloc | apply nodex_drew) | omega | (simp; done) | (simp <;> omega))
    rintro W ⟨hp, hk, hlo, hb0, hb1, hxn⟩
    rintro e w2 ⟨rfl, hb⟩
    have hfr := Kq.of_below (q := q) hb
    have hp2 := hp.below hb
    have hsz := hfr.size
    have hmo2 : w1.heap.size + 1 ≤ w2.heap.size := Nat.le_trans hlo hsz
    have hqs : q < w2.heap.size := hp2.qlt
    have hl0 := hb0.lt
    have ht0 : Blk w2 (w.heap.size) 24 zN := hfr.blk hb0 (by omega)
    have hl2_0 : w.heap.size < w2.heap.size := ht0.lt
    obtain ⟨r2_0_0, r2_0_1, r2_0_2, r2_0_3, r2_0_4⟩ := blk5 ht0
    obtain ⟨y2_0_0, y2_0_1, y2_0_2, y2_0_3, y2_0_4⟩ := blk5f ht0
    have HB0_2 := Lib.hid ht0
    have hl1 := hb1.lt
    have ht1 : Blk w2 (w1.heap.size) 24 (nC no nn nk np NA ns.length nc) := hfr.blk hb1 (by omega)
    have hl2_1 : w1.heap.size < w2.heap.size := ht1.lt
    obtain ⟨r2_1_0, r2_1_1, r2_1_2, r2_1_3, r2_1_4⟩ := blk5 ht1
    obtain ⟨y2_1_0, y2_1_1, y2_1_2, y2_1_3, y2_1_4⟩ := blk5f ht1
    have HB1_2 := Lib.hid ht1
    have HNn_2 := Lib.hid (nodex_kq hxn hfr (by omega) (by omega))
    have HP2 := Lib.hid hp2
    have HK2 := Lib.hid (hk.trans hfr)
    clear hp hk hp2 hfr hsz hlo hb0 hl0 ht0 hb1 hl1 ht1 hxn hb
    clear r1_0_0 r1_0_1 r1_0_2 r1_0_3 r1_0_4 y1_0_0 y1_0_1 y1_0_2 y1_0_3 y1_0_4 hl1_0)
      | (
    go_at_call 72
    refine calls_at (fun W => Ps W q A c l s2 ∧ Kq q w W ∧ w2.heap.size ≤ W.heap.size ∧ Blk W (w.heap.size) 24 zN ∧ Blk W (w1.heap.size) 24 (nC no nn nk np NA ns.length nc) ∧ NodeX W (w.heap.size + 1) (w1.heap.size) (w1.heap.size) (.node no nn nk np ns) NA nc) (fun W hW => HNX2.out W hW.1) ?_ ?_
    · refine ⟨?_, ?_, ?_, ?_, ?_, ?_⟩
      all_goals repeat' (first | (with_reducible first | exact HP2.out | exact HK2.out | exact HB0_2.out | exact HB1_2.out | exact HNn_2.out | exact Fr.refl _ _ | apply ps_far | apply Ps.alloc | apply Ps.drew | apply Fr.drew | apply blk_drew | apply kq_far | apply Fr.alloc | apply tokZ | apply nodZ0 | exact blk_new _ _ _ | apply blk_alloc | apply Blk.other | apply nodex_far | apply nodex_alloc | apply nodex_drew) | omega | (simp; done) | (simp <;> omega))
    rintro W ⟨hp, hk, hlo, hb0, hb1, hxn⟩
    intro e w3 hpost
    obtain ⟨rfl, hp2, hfr⟩ := hpost
    have hsz := hfr.size
    have hmo3 : w2.heap.size ≤ w3.heap.size := Nat.le_trans hlo hsz
    have hqs : q < w3.heap.size := hp2.qlt
    have hl0 := hb0.lt
    have ht0 : Blk w3 (w.heap.size) 24 zN := hfr.blk hb0 (by omega)
    have hl3_0 : w.heap.size < w3.heap.size := ht0.lt
    obtain ⟨r3_0_0, r3_0_1, r3_0_2, r3_0_3, r3_0_4⟩ := blk5 ht0
    obtain ⟨y3_0_0, y3_0_1, y3_0_2, y3_0_3, y3_0_4⟩ := blk5f ht0
    have HB0_3 := Lib.hid ht0
    have hl1 := hb1.lt
    have ht1 : Blk w3 (w1.heap.size) 24 (nC no nn nk np NA ns.length nc) := hfr.blk hb1 (by omega)
    have hl3_1 : w1.heap.size < w3.heap.size := ht1.lt
    obtain ⟨r3_1_0, r3_1_1, r3_1_2, r3_1_3, r3_1_4⟩ := blk5 ht1
    obtain ⟨y3_1_0, y3_1_1, y3_1_2, y3_1_3, y3_1_4⟩ := blk5f ht1
    have HB1_3 := Lib.hid ht1
    have HNn_3 := Lib.hid (nodex_kq hxn hfr (by omega) (by omega))
    have HP3 := Lib.hid hp2
    have HK3 := Lib.hid (hk.trans hfr)
    clear hp hk hp2 hfr hsz hlo hb0 hl0 ht0 hb1 hl1 ht1 hxn
    clear r2_0_0 r2_0_1 r2_0_2 r2_0_3 r2_0_4 y2_0_0 y2_0_1 y2_0_2 y2_0_3 y2_0_4 hl2_0 r2_1_0 r2_1_1 r2_1_2 r2_1_3 r2_1_4 y2_1_0 y2_1_1 y2_1_2 y2_1_3 y2_1_4 hl2_1))
     refine wp_named (fun W => Ps W q A c l s3 ∧ Kq q w W ∧ w3.heap.size + 1 ≤ W.heap.size ∧ Blk W (w.heap.size) 24 zN ∧ Blk W (w1.heap.size) 24 (nC no nn nk np NA ns.length nc) ∧ Blk W (w3.heap.size) 80 (tC t) ∧ NodeX W (w.heap.size + 1) (w1.heap.size) (w1.heap.size) (.node no nn nk np ns) NA nc) ?_ ?_
     · refine ⟨?_, ?_, ?_, ?_, ?_, ?_, ?_⟩
       all_goals repeat' (first | (with_reducible first | exact HP3.out | exact HK3.out | exact HB0_3.out | exact HB1_3.out | exact HB2_3.out | exact HNn_3.out | exact Fr.refl _ _ | apply ps_far | apply Ps.alloc | apply Ps.drew | apply Fr.drew | apply blk_drew | apply kq_far | apply Fr.alloc | apply tokZ | apply nodZ0 | exact blk_new _ _ _ | apply blk_alloc | apply Blk.other | apply nodex_far | apply nodex_alloc | apply nodex_drew) | omega | (simp; done) | (simp <;> omega))
     clear r3_0_0 r3_0_1 r3_0_2 r3_0_3 r3_0_4 y3_0_0 y3_0_1 y3_0_2 y3_0_3 y3_0_4 hl3_0 r3_1_0 r3_1_1 r3_1_2 r3_1_3 r3_1_4 y3_1_0 y3_1_1 y3_1_2 y3_1_3 y3_1_4 hl3_1
     rintro w4 ⟨hp2, hk2, hmo4, ht0, ht1, ht2, hxn⟩
     have hqs : q < w4.heap.size := hp2.qlt
     have hl4_0 : w.heap.size < w4.heap.size := ht0.lt
     obtain ⟨r4_0_0, r4_0_1, r4_0_2, r4_0_3, r4_0_4⟩ := blk5 ht0
     obtain ⟨y4_0_0, y4_0_1, y4_0_2, y4_0_3, y4_0_4⟩ := blk5f ht0
     have HB0_4 := Lib.hid ht0
     have hl4_1 : w1.heap.size < w4.heap.size := ht1.lt
     obtain ⟨r4_1_0, r4_1_1, r4_1_2, r4_1_3, r4_1_4⟩ := blk5 ht1
     obtain ⟨y4_1_0, y4_1_1, y4_1_2, y4_1_3, y4_1_4⟩ := blk5f ht1
     have HB1_4 := Lib.hid ht1
     have hl4_2 : w3.heap.size < w4.heap.size := ht2.lt
     obtain ⟨r4_2_0, r4_2_1, r4_2_2, r4_2_3⟩ := blk4 ht2
     obtain ⟨y4_2_0, y4_2_1, y4_2_2, y4_2_3⟩ := blk4f ht2
     have HB2_4 := Lib.hid ht2
     have HNn_4 := Lib.hid hxn
     have HP4 := Lib.hid hp2
     have HK4 := Lib.hid hk2
     clear hp2 hk2 ht0 ht1 ht2 hxn
     have hbn4 : w1.heap.size < w4.heap.size := HB1_4.out.lt
     have HC6 : Hid (Calls Tryd.prog 77 #[.pointer (some ⟨q, 0, none⟩), .int .i64 (d : Nat)] w4.drew fun e w6 => ∃ A6 c6, e = .returned (.agg #[.string ⟨po.toArray⟩, .string ⟨pn.toArray⟩, .int .i64 pk, .int .i64 pp, .slice A6 ps.length c6]) ∧ Blk w6 w3.heap.size 80 (tC t) ∧ Fold w w6 q w.heap.size w1.heap.size (w.heap.size + 1) (w1.heap.size + 1) A c l s4 no nn nk np ns NA nc (.node po pn pk pp ps) A6 c6) := by
      refine Lib.hid ((HI3.out _ HP4.out.drew).mono ?_)
      intro e w6 hpost
      obtain ⟨A6, c6, rfl, hnn, hp6, hk6⟩ := npost_open hpost
      have hs6 : w4.heap.size ≤ w6.heap.size := hk6.size
      refine ⟨A6, c6, rfl, hk6.blk (blk_drew HB2_4.out) (by omega), hp6, HK4.out.drew.trans hk6, hk6.blk (blk_drew HB0_4.out) (by omega), hk6.blk (blk_drew HB1_4.out) (by omega), nodex_wide (nodex_kq (nodex_drew HNn_4.out) hk6 (by omega) (by show w1.heap.size ≤ w4.heap.size; omega)) (Nat.le_refl _) (by omega), ?_, by omega⟩
      exact nodex_wide (nodex_of hnn (Or.inl (by show w1.heap.size < w4.heap.size; omega))) (by show w.heap.size + 1 ≤ w4.heap.size; omega) (Nat.le_refl _)
     clear HI3 HNX2 HIS2
     go_region_with (
      go_at_call 77
      refine HC6.out.mono ?_
      rintro e w6 ⟨A6, c6, rfl, ht6, hF6⟩
      obtain ⟨k60, k61, k62, k63, k64⟩ := blk5 hF6.box
      obtain ⟨z60, z61, z62, z63, z64⟩ := blk5f hF6.box
      obtain ⟨k70, k71, k72, k73, k74⟩ := blk5 hF6.res
      obtain ⟨z70, z71, z72, z73, z74⟩ := blk5f hF6.res
      have k6t := (blk4 ht6).2.2.2
      have HF6 := Lib.hid hF6
      have hb6 : w1.heap.size < w6.heap.size := hF6.box.lt
      have hb9 : w.heap.size < w6.heap.size := hF6.res.lt
      have hb7 : w3.heap.size < w6.heap.size := ht6.lt
      have hb8 : ¬ w3.heap.size = w6.heap.size := by omega
      clear ht6 hF6)
     all_goals
      go_wp2_with fail
      refine bodyPost_ret (res_one (by rfl) _ _ w.heap.size #[.string ⟨nImp.toArray⟩, .string ⟨#[]⟩, .int .i64 0, .int .i64 (t.at_ : Nat), .slice (some ⟨w6.heap.size, 0, none⟩) 2 2] rfl (fold_res HF6.out nImp (by decide) _ _ rfl).2.2.1 Tryd.underlying24 inf_node5) rfl ⟨some ⟨w6.heap.size, 0, none⟩, 2, by rw [HR.out]; rfl, ?_, ?_, ?_⟩
      · rw [HR.out]
        exact (fold_res HF6.out nImp (by decide) _ _ rfl).2.2.2
      · rw [HR.out]
        exact (fold_res HF6.out nImp (by decide) _ _ rfl).1
      · exact (fold_res HF6.out nImp (by decide) _ _ rfl).2.1

theorem formulaP_eq (l : List Tok) (u : PS → Node × PS) (k : Nat) (s : PS) : formulaP l u k s = if (enterP l k s).e = 0 then leftF l (impP l u) [60, 61, 62] nIff (l.length + 1) (impP l u (enterP l k s)).1 (impP l u (enterP l k s)).2 else (zNode, enterP l k s) := rfl
set_option maxRecDepth 100000 in
set_option maxHeartbeats 8000000 in
theorem pformula_any {l : List Tok} {d k : Nat} {u : PS → Node × PS} (hkd : k + d = 30 ∨ (k = 0 ∧ 30 ≤ d)) (hd : d ≤ 100) (HU : NLaw 96 l d (orP l u)) (hu : ∀ s, s.i ≤ (orP l u s).2.i) (hu2 : ∀ s, s.i ≤ (impP l u s).2.i) : NLaw 44 l d (formulaP l u k) := by
 intro w q A c s h
 have HP0 := Lib.hid h
 have hq := h.qlt
 have HI := Lib.hid (show NLaw 77 l d (impP l u) from fun W q A c s hW => pimp_any HU hu (l.length + 1) W q A c s hW (by omega))
 have HE := Lib.hid (fun W (hW : Ps W q A c l s) => penter_any hW k d hkd hd)
 have HADV := Lib.hid hu2
 have HV := Lib.hid (formulaP_eq l u k s)
 clear h HU hu hu2 hkd hd
 generalize formulaP l u k s = V at *
 generalize enterP l k s = s0 at *
 have HI1 := Lib.hid (fun W (hW : Ps W q A c l s0) => HI.out W q A c s0 hW)
 have HIS := Lib.hid (fun W s' (hW : Ps W q A c l s') => pis_any hW [60, 61, 62])
 have HNX := Lib.hid (fun W s' (hW : Ps W q A c l s') => pnext_any hW)
 generalize impP l u = g at *
 generalize hr : g s0 = r at *
 clear hr
 obtain ⟨⟨ro, rn, rk, rp, rs⟩, s1⟩ := r
 simp only at HV
 by_cases he0 : s0.e = 0
 · replace HV := Lib.hid (HV.out.trans (if_pos he0))
   have hde : decide (s0.e = 0) = true := decide_eq_true he0
   rw [hde] at HE
   clear he0 hde
   go_enter Tryd.func44, Tryd.ntmps44
   go_upto_region 4 with (first
    | (
      go_at_call 76
      refine calls_at (fun W => Ps W q A c l s ∧ Kq q w W ∧ w.heap.size + 1 ≤ W.heap.size ∧ Blk W (w.heap.size) 24 zN) (fun W hW => HE.out W hW.1) ?_ ?_
      · refine ⟨?_, ?_, ?_, ?_⟩
        all_goals repeat' (first | (with_reducible first | exact HP0.out | exact HK0.out | exact HB0_0.out | exact Fr.refl _ _ | apply ps_far | apply Ps.alloc | apply Ps.drew | apply Fr.drew | apply blk_drew | apply kq_far | apply Fr.alloc | apply tokZ | apply nodZ0 | exact blk_new _ _ _ | apply blk_alloc | apply Blk.other) | omega | (simp; done) | (simp <;> omega))
      rintro W ⟨hp, hk, hlo, hb0⟩
      intro e we hpost
      obtain ⟨rfl, hp2, hfr⟩ := hpost
      have hsz := hfr.size
      have hmoe : w.heap.size + 1 ≤ we.heap.size := Nat.le_trans hlo hsz
      have hqs : q < we.heap.size := hp2.qlt
      have hl0 := hb0.lt
      have ht0 : Blk we (w.heap.size) 24 zN := hfr.blk hb0 (by omega)
      have hle_0 : w.heap.size < we.heap.size := ht0.lt
      obtain ⟨re_0_0, re_0_1, re_0_2, re_0_3, re_0_4⟩ := blk5 ht0
      obtain ⟨ye_0_0, ye_0_1, ye_0_2, ye_0_3, ye_0_4⟩ := blk5f ht0
      have HB0_e := Lib.hid ht0
      have HPe := Lib.hid hp2
      have HKe := Lib.hid (hk.trans hfr)
      clear hp hk hp2 hfr hsz hlo hb0 hl0 ht0)
    | (
      go_at_call 77
      refine calls_at (fun W => Ps W q A c l s0 ∧ Kq q w W ∧ we.heap.size ≤ W.heap.size ∧ Blk W (w.heap.size) 24 zN) (fun W hW => HI1.out W hW.1) ?_ ?_
      · refine ⟨?_, ?_, ?_, ?_⟩
        all_goals repeat' (first | (with_reducible first | exact HPe.out | exact HKe.out | exact HB0_e.out | exact Fr.refl _ _ | apply ps_far | apply Ps.alloc | apply Ps.drew | apply Fr.drew | apply blk_drew | apply kq_far | apply Fr.alloc | apply tokZ | apply nodZ0 | exact blk_new _ _ _ | apply blk_alloc | apply Blk.other) | omega | (simp; done) | (simp <;> omega))
      rintro W ⟨hp, hk, hlo, hb0⟩
      intro e w1 hpost
      obtain ⟨A1, c1, rfl, hnn, hp2, hfr⟩ := npost_open hpost
      have hsz := hfr.size
      have hmo1 : we.heap.size ≤ w1.heap.size := Nat.le_trans hlo hsz
      have HNN1 := Lib.hid (show NodeF w1 (we.heap.size) w1.heap.size _ A1 c1 from nodef_wide hnn hlo (Nat.le_refl _))
      have hqs : q < w1.heap.size := hp2.qlt
      have hl0 := hb0.lt
      have ht0 : Blk w1 (w.heap.size) 24 zN := hfr.blk hb0 (by omega)
      have hl1_0 : w.heap.size < w1.heap.size := ht0.lt
      obtain ⟨r1_0_0, r1_0_1, r1_0_2, r1_0_3, r1_0_4⟩ := blk5 ht0
      obtain ⟨y1_0_0, y1_0_1, y1_0_2, y1_0_3, y1_0_4⟩ := blk5f ht0
      have HB0_1 := Lib.hid ht0
      have HP1 := Lib.hid hp2
      have HK1 := Lib.hid (hk.trans hfr)
      clear hp hk hp2 hfr hsz hlo hb0 hl0 ht0 hnn))
   have hnx1 : w.heap.size + 1 ≤ we.heap.size := hle_0
   go_loopg [] (l.length + 2) (fun gg wr => ∃ (f : Nat) (no nn : List UInt8) (nk np : Int) (ns : List Node) (NA : Option Addr) (nc : Nat) (s2 : PS), f ≤ l.length + 1 ∧ gg = f + 1 ∧ l.length < f + s2.i + 1 ∧ Hid (V = leftF l g [60, 61, 62] nIff f (.node no nn nk np ns) s2) ∧ Hid (Ps wr q A c l s2) ∧ Hid (Kq q w wr) ∧
    Hid (Blk wr w.heap.size 24 zN) ∧ Hid (Blk wr w1.heap.size 24 (nC no nn nk np NA ns.length nc)) ∧ Hid (NodeX wr (w.heap.size + 1) wr.heap.size w1.heap.size (.node no nn nk np ns) NA nc))
   case atStart =>
    refine ⟨l.length + 1, ro, rn, rk, rp, rs, A1, c1, s1, Nat.le_refl _, rfl, by omega, HV, Lib.hid ?_, Lib.hid ?_, Lib.hid ?_, Lib.hid ?_, Lib.hid ?_⟩
    · repeat' (first | (with_reducible first | exact HP1.out | exact HK1.out | exact HB0_1.out | apply ps_far | apply Ps.alloc | apply Ps.drew | apply kq_far | apply Fr.alloc | apply Fr.drew | apply nodZ0 | exact blk_new _ _ _ | apply blk_drew | apply blk_alloc | apply Blk.other | apply nodex_far | apply nodex_alloc | apply nodex_drew) | omega | (simp; done) | (simp <;> omega))
    · repeat' (first | (with_reducible first | exact HP1.out | exact HK1.out | exact HB0_1.out | apply ps_far | apply Ps.alloc | apply Ps.drew | apply kq_far | apply Fr.alloc | apply Fr.drew | apply nodZ0 | exact blk_new _ _ _ | apply blk_drew | apply blk_alloc | apply Blk.other | apply nodex_far | apply nodex_alloc | apply nodex_drew) | omega | (simp; done) | (simp <;> omega))
    · repeat' (first | (with_reducible first | exact HP1.out | exact HK1.out | exact HB0_1.out | apply ps_far | apply Ps.alloc | apply Ps.drew | apply kq_far | apply Fr.alloc | apply Fr.drew | apply nodZ0 | exact blk_new _ _ _ | apply blk_drew | apply blk_alloc | apply Blk.other | apply nodex_far | apply nodex_alloc | apply nodex_drew) | omega | (simp; done) | (simp <;> omega))
    · repeat' (first | (with_reducible first | exact HP1.out | exact HK1.out | exact HB0_1.out | apply ps_far | apply Ps.alloc | apply Ps.drew | apply kq_far | apply Fr.alloc | apply Fr.drew | apply nodZ0 | exact blk_new _ _ _ | apply blk_drew | apply blk_alloc | apply Blk.other | apply nodex_far | apply nodex_alloc | apply nodex_drew) | omega | (simp; done) | (simp <;> omega))
    · refine nodex_wide (lo := w.heap.size + 1) (hi := w1.heap.size) (nodex_of ?_ (Or.inr (Nat.le_refl _))) (Nat.le_refl _) (by simp)
      exact nodef_alloc (nodef_wide HNN1.out (by omega) (Nat.le_refl _)) (Nat.le_refl _) _
   case round =>
    obtain ⟨f, no, nn, nk, np, ns, NA, nc, s2, hf1, hg, hfs, HR, HP2, HK2, HB0_2, HB1_2, HNn_2⟩ := hrel
    obtain ⟨w2, hw2⟩ : ∃ x, x = wr := ⟨_, rfl⟩
    subst hw2
    have HG := Lib.hid hg
    clear hg HV
    have hi2 := HP2.out.lt
    have hl2_0 := HB0_2.out.lt
    have hl2_1 := HB1_2.out.lt
    obtain ⟨r2_0_0, r2_0_1, r2_0_2, r2_0_3, r2_0_4⟩ := blk5 HB0_2.out
    obtain ⟨y2_0_0, y2_0_1, y2_0_2, y2_0_3, y2_0_4⟩ := blk5f HB0_2.out
    obtain ⟨r2_1_0, r2_1_1, r2_1_2, r2_1_3, r2_1_4⟩ := blk5 HB1_2.out
    obtain ⟨y2_1_0, y2_1_1, y2_1_2, y2_1_3, y2_1_4⟩ := blk5f HB1_2.out
    obtain ⟨f, rfl⟩ : ∃ k, f = k + 1 := ⟨f - 1, by omega⟩
    clear HI1
    rw [leftF_step] at HR
    have HNX2 := Lib.hid (fun W (hW : Ps W q A c l s2) => HNX.out W s2 hW)
    have HIS2 := Lib.hid (fun W (hW : Ps W q A c l s2) => HIS.out W s2 hW)
    have hup : isW l s2 [60, 61, 62] = true → s2.i + 1 ≤ (g (nextP l s2)).2.i := fun hh => by
     have h1 := HADV.out (nextP l s2)
     have h2 := isW_next hh
     omega
    clear HNX HIS HADV
    have HI3 := Lib.hid (fun W (hW : Ps W q A c l (nextP l s2)) => HI.out W q A c (nextP l s2) hW)
    clear HI
    generalize g (nextP l s2) = pr at *
    generalize nextP l s2 = s3 at *
    generalize nowP l s2 = t at *
    generalize isW l s2 [60, 61, 62] = b at *
    obtain ⟨⟨po, pn, pk, pp, ps⟩, s4⟩ := pr
    simp only at HR hup
    unfold tokV at HNX2
    cases b with
    | false =>
      replace HR := Lib.hid (HR.out.trans (if_neg (by decide)))
      clear hup
      go_wp2_with (first
   | (
     go_at_call 40
     refine calls_at (fun W => Ps W q A c l s2 ∧ Kq q w W ∧ w2.heap.size ≤ W.heap.size ∧ Blk W (w.heap.size) 24 zN ∧ Blk W (w1.heap.size) 24 (nC no nn nk np NA ns.length nc) ∧ NodeX W (w.heap.size + 1) (w2.heap.size) (w1.heap.size) (.node no nn nk np ns) NA nc) (fun W hW => HIS2.out W hW.1) ?_ ?_
     · refine ⟨?_, ?_, ?_, ?_, ?_, ?_⟩
       all_goals repeat' (first | (with_reducible first | exact HP2.out | exact HK2.out | exact HB0_2.out | exact HB1_2.out | exact HNn_2.out | exact Fr.refl _ _ | apply ps_far | apply Ps.alloc | apply Ps.drew | apply Fr.drew | apply blk_drew | apply kq_far | apply Fr.alloc | apply tokZ | apply nodZ0 | exact blk_new _ _ _ | apply blk_alloc | apply Blk.other | apply nodex_far | apply nodex_alloc | apply nodex_drew) | omega | (simp; done) | (simp <;> omega))
     rintro W ⟨hp, hk, hlo, hb0, hb1, hxn⟩
     rintro e w3 ⟨rfl, hb⟩
     have hfr := Kq.of_below (q := q) hb
     have hp2 := hp.below hb
     have hsz := hfr.size
     have hmo3 : w2.heap.size ≤ w3.heap.size := Nat.le_trans hlo hsz
     have hqs : q < w3.heap.size := hp2.qlt
     have hl0 := hb0.lt
     have ht0 : Blk w3 (w.heap.size) 24 zN := hfr.blk hb0 (by omega)
     have hl3_0 : w.heap.size < w3.heap.size := ht0.lt
     obtain ⟨r3_0_0, r3_0_1, r3_0_2, r3_0_3, r3_0_4⟩ := blk5 ht0
     obtain ⟨y3_0_0, y3_0_1, y3_0_2, y3_0_3, y3_0_4⟩ := blk5f ht0
     have HB0_3 := Lib.hid ht0
     have hl1 := hb1.lt
     have ht1 : Blk w3 (w1.heap.size) 24 (nC no nn nk np NA ns.length nc) := hfr.blk hb1 (by omega)
     have hl3_1 : w1.heap.size < w3.heap.size := ht1.lt
     obtain ⟨r3_1_0, r3_1_1, r3_1_2, r3_1_3, r3_1_4⟩ := blk5 ht1
     obtain ⟨y3_1_0, y3_1_1, y3_1_2, y3_1_3, y3_1_4⟩ := blk5f ht1
     have HB1_3 := Lib.hid ht1
     have HNn_3 := Lib.hid (nodex_kq hxn hfr (by omega) (by omega))
     have HP3 := Lib.hid hp2
     have HK3 := Lib.hid (hk.trans hfr)
     clear hp hk hp2 hfr hsz hlo hb0 hl0 ht0 hb1 hl1 ht1 hxn hb
     clear r2_0_0 r2_0_1 r2_0_2 r2_0_3 r2_0_4 y2_0_0 y2_0_1 y2_0_2 y2_0_3 y2_0_4 r2_1_0 r2_1_1 r2_1_2 r2_1_3 r2_1_4 y2_1_0 y2_1_1 y2_1_2 y2_1_3 y2_1_4))
      all_goals
       refine bodyPost_ret (res_one (by rfl) _ _ w.heap.size #[.string ⟨no.toArray⟩, .string ⟨nn.toArray⟩, .int .i64 nk, .int .i64 np, .slice NA ns.length nc] rfl ?_ Tryd.underlying24 inf_node5) rfl ⟨NA, nc, by rw [HR.out]; rfl, ?_, ?_, ?_⟩
       · repeat' (first | (with_reducible first | exact HP3.out | exact HK3.out | exact HB0_3.out | exact HB1_3.out | exact HNn_3.out | apply ps_far | apply Ps.alloc | apply Ps.drew | apply kq_far | apply Fr.alloc | apply Fr.drew | apply nodZ0 | exact blk_new _ _ _ | apply blk_drew | apply blk_alloc | apply Blk.other | apply nodex_far | apply nodex_alloc | apply nodex_drew) | omega | (simp; done) | (simp <;> omega))
       · rw [HR.out]
         refine nodef_of (g := w1.heap.size) (nodex_wide (lo := w.heap.size + 1) (hi := w2.heap.size) ?_ (by omega) (by simp <;> omega))
         repeat' (first | (with_reducible first | exact HP3.out | exact HK3.out | exact HB0_3.out | exact HB1_3.out | exact HNn_3.out | apply ps_far | apply Ps.alloc | apply Ps.drew | apply kq_far | apply Fr.alloc | apply Fr.drew | apply nodZ0 | exact blk_new _ _ _ | apply blk_drew | apply blk_alloc | apply Blk.other | apply nodex_far | apply nodex_alloc | apply nodex_drew) | omega | (simp; done) | (simp <;> omega))
       · rw [HR.out]
         repeat' (first | (with_reducible first | exact HP3.out | exact HK3.out | exact HB0_3.out | exact HB1_3.out | exact HNn_3.out | apply ps_far | apply Ps.alloc | apply Ps.drew | apply kq_far | apply Fr.alloc | apply Fr.drew | apply nodZ0 | exact blk_new _ _ _ | apply blk_drew | apply blk_alloc | apply Blk.other | apply nodex_far | apply nodex_alloc | apply nodex_drew) | omega | (simp; done) | (simp <;> omega))
       · repeat' (first | (with_reducible first | exact HP3.out | exact HK3.out | exact HB0_3.out | exact HB1_3.out | exact HNn_3.out | apply ps_far | apply Ps.alloc | apply Ps.drew | apply kq_far | apply Fr.alloc | apply Fr.drew | apply nodZ0 | exact blk_new _ _ _ | apply blk_drew | apply blk_alloc | apply Blk.other | apply nodex_far | apply nodex_alloc | apply nodex_drew) | omega | (simp; done) | (simp <;> omega))
    | true =>
      replace HR := Lib.hid (HR.out.trans (if_pos rfl))
      have hup2 := hup rfl
      clear hup
      go_upto_region 6 with (first
       | (
    go_at_call 40
    refine calls_at (fun W => Ps W q A c l s2 ∧ Kq q w W ∧ w2.heap.size ≤ W.heap.size ∧ Blk W (w.heap.size) 24 zN ∧ Blk W (w1.heap.size) 24 (nC no nn nk np NA ns.length nc) ∧ NodeX W (w.heap.size + 1) (w2.heap.size) (w1.heap.size) (.node no nn nk np ns) NA nc) (fun W hW => HIS2.out W hW.1) ?_ ?_
    · refine ⟨?_, ?_, ?_, ?_, ?_, ?_⟩
      all_goals repeat' (first | (with_reducible first | exact HP2.out | exact HK2.out | exact HB0_2.out | exact HB1_2.out | exact HNn_2.out | exact Fr.refl _ _ | apply ps_far | apply Ps.alloc | apply Ps.drew | apply Fr.drew | apply blk_drew | apply kq_far | apply Fr.alloc | apply tokZ | apply nodZ0 | exact blk_new _ _ _ | apply blk_alloc | apply Blk.other | apply nodex_far | apply nodex_alloc | apply nodex_drew) | omega | (simp; done) | (simp <;> omega))
    rintro W ⟨hp, hk, hlo, hb0, hb1, hxn⟩
    rintro e w3 ⟨rfl, hb⟩
    have hfr := Kq.of_below (q := q) hb
    have hp2 := hp.below hb
    have hsz := hfr.size
    have hmo3 : w2.heap.size ≤ w3.heap.size := Nat.le_trans hlo hsz
    have hqs : q < w3.heap.size := hp2.qlt
    have hl0 := hb0.lt
    have ht0 : Blk w3 (w.heap.size) 24 zN := hfr.blk hb0 (by omega)
    have hl3_0 : w.heap.size < w3.heap.size := ht0.lt
    obtain ⟨r3_0_0, r3_0_1, r3_0_2, r3_0_3, r3_0_4⟩ := blk5 ht0
    obtain ⟨y3_0_0, y3_0_1, y3_0_2, y3_0_3, y3_0_4⟩ := blk5f ht0
    have HB0_3 := Lib.hid ht0
    have hl1 := hb1.lt
    have ht1 : Blk w3 (w1.heap.size) 24 (nC no nn nk np NA ns.length nc) := hfr.blk hb1 (by omega)
    have hl3_1 : w1.heap.size < w3.heap.size := ht1.lt
    obtain ⟨r3_1_0, r3_1_1, r3_1_2, r3_1_3, r3_1_4⟩ := blk5 ht1
    obtain ⟨y3_1_0, y3_1_1, y3_1_2, y3_1_3, y3_1_4⟩ := blk5f ht1
    have HB1_3 := Lib.hid ht1
    have HNn_3 := Lib.hid (nodex_kq hxn hfr (by omega) (by omega))
    have HP3 := Lib.hid hp2
    have HK3 := Lib.hid (hk.trans hfr)
    clear hp hk hp2 hfr hsz hlo hb0 hl0 ht0 hb1 hl1 ht1 hxn hb
    clear r2_0_0 r2_0_1 r2_0_2 r2_0_3 r2_0_4 y2_0_0 y2_0_1 y2_0_2 y2_0_3 y2_0_4 r2_1_0 r2_1_1 r2_1_2 r2_1_3 r2_1_4 y2_1_0 y2_1_1 y2_1_2 y2_1_3 y2_1_4)
       | (
    go_at_call 72
    refine calls_at (fun W => Ps W q A c l s2 ∧ Kq q w W ∧ w3.heap.size ≤ W.heap.size ∧ Blk W (w.heap.size) 24 zN ∧ Blk W (w1.heap.size) 24 (nC no nn nk np NA ns.length nc) ∧ NodeX W (w.heap.size + 1) (w2.heap.size) (w1.heap.size) (.node no nn nk np ns) NA nc) (fun W hW => HNX2.out W hW.1) ?_ ?_
    · refine ⟨?_, ?_, ?_, ?_, ?_, ?_⟩
      all_goals repeat' (first | (with_reducible first | exact HP3.out | exact HK3.out | exact HB0_3.out | exact HB1_3.out | exact HNn_3.out | exact Fr.refl _ _ | apply ps_far | apply Ps.alloc | apply Ps.drew | apply Fr.drew | apply blk_drew | apply kq_far | apply Fr.alloc | apply tokZ | apply nodZ0 | exact blk_new _ _ _ | apply blk_alloc | apply Blk.other | apply nodex_far | apply nodex_alloc | apply nodex_drew) | omega | (simp; done) | (simp <;> omega))
    rintro W ⟨hp, hk, hlo, hb0, hb1, hxn⟩
    intro e w4 hpost
    obtain ⟨rfl, hp2, hfr⟩ := hpost
    have hsz := hfr.size
    have hmo4 : w3.heap.size ≤ w4.heap.size := Nat.le_trans hlo hsz
    have hqs : q < w4.heap.size := hp2.qlt
    have hl0 := hb0.lt
    have ht0 : Blk w4 (w.heap.size) 24 zN := hfr.blk hb0 (by omega)
    have hl4_0 : w.heap.size < w4.heap.size := ht0.lt
    obtain ⟨r4_0_0, r4_0_1, r4_0_2, r4_0_3, r4_0_4⟩ := blk5 ht0
    obtain ⟨y4_0_0, y4_0_1, y4_0_2, y4_0_3, y4_0_4⟩ := blk5f ht0
    have HB0_4 := Lib.hid ht0
    have hl1 := hb1.lt
    have ht1 : Blk w4 (w1.heap.size) 24 (nC no nn nk np NA ns.length nc) := hfr.blk hb1 (by omega)
    have hl4_1 : w1.heap.size < w4.heap.size := ht1.lt
    obtain ⟨r4_1_0, r4_1_1, r4_1_2, r4_1_3, r4_1_4⟩ := blk5 ht1
    obtain ⟨y4_1_0, y4_1_1, y4_1_2, y4_1_3, y4_1_4⟩ := blk5f ht1
    have HB1_4 := Lib.hid ht1
    have HNn_4 := Lib.hid (nodex_kq hxn hfr (by omega) (by omega))
    have HP4 := Lib.hid hp2
    have HK4 := Lib.hid (hk.trans hfr)
    clear hp hk hp2 hfr hsz hlo hb0 hl0 ht0 hb1 hl1 ht1 hxn
    clear r3_0_0 r3_0_1 r3_0_2 r3_0_3 r3_0_4 y3_0_0 y3_0_1 y3_0_2 y3_0_3 y3_0_4 hl3_0 r3_1_0 r3_1_1 r3_1_2 r3_1_3 r3_1_4 y3_1_0 y3_1_1 y3_1_2 y3_1_3 y3_1_4 hl3_1))
      refine wp_named (fun W => Ps W q A c l s3 ∧ Kq q w W ∧ w4.heap.size + 1 ≤ W.heap.size ∧ Blk W (w.heap.size) 24 zN ∧ Blk W (w1.heap.size) 24 (nC no nn nk np NA ns.length nc) ∧ Blk W (w4.heap.size) 80 (tC t) ∧ NodeX W (w.heap.size + 1) (w2.heap.size) (w1.heap.size) (.node no nn nk np ns) NA nc) ?_ ?_
      · refine ⟨?_, ?_, ?_, ?_, ?_, ?_, ?_⟩
        all_goals repeat' (first | (with_reducible first | exact HP4.out | exact HK4.out | exact HB0_4.out | exact HB1_4.out | exact HB2_4.out | exact HNn_4.out | exact Fr.refl _ _ | apply ps_far | apply Ps.alloc | apply Ps.drew | apply Fr.drew | apply blk_drew | apply kq_far | apply Fr.alloc | apply tokZ | apply nodZ0 | exact blk_new _ _ _ | apply blk_alloc | apply Blk.other | apply nodex_far | apply nodex_alloc | apply nodex_drew) | omega | (simp; done) | (simp <;> omega))
      clear r4_0_0 r4_0_1 r4_0_2 r4_0_3 r4_0_4 y4_0_0 y4_0_1 y4_0_2 y4_0_3 y4_0_4 hl4_0 r4_1_0 r4_1_1 r4_1_2 r4_1_3 r4_1_4 y4_1_0 y4_1_1 y4_1_2 y4_1_3 y4_1_4 hl4_1
      rintro w5 ⟨hp2, hk2, hmo5, ht0, ht1, ht2, hxn⟩
      have hqs : q < w5.heap.size := hp2.qlt
      have hl5_0 : w.heap.size < w5.heap.size := ht0.lt
      obtain ⟨r5_0_0, r5_0_1, r5_0_2, r5_0_3, r5_0_4⟩ := blk5 ht0
      obtain ⟨y5_0_0, y5_0_1, y5_0_2, y5_0_3, y5_0_4⟩ := blk5f ht0
      have HB0_5 := Lib.hid ht0
      have hl5_1 : w1.heap.size < w5.heap.size := ht1.lt
      obtain ⟨r5_1_0, r5_1_1, r5_1_2, r5_1_3, r5_1_4⟩ := blk5 ht1
      obtain ⟨y5_1_0, y5_1_1, y5_1_2, y5_1_3, y5_1_4⟩ := blk5f ht1
      have HB1_5 := Lib.hid ht1
      have hl5_2 : w4.heap.size < w5.heap.size := ht2.lt
      obtain ⟨r5_2_0, r5_2_1, r5_2_2, r5_2_3⟩ := blk4 ht2
      obtain ⟨y5_2_0, y5_2_1, y5_2_2, y5_2_3⟩ := blk4f ht2
      have HB2_5 := Lib.hid ht2
      have HNn_5 := Lib.hid hxn
      have HP5 := Lib.hid hp2
      have HK5 := Lib.hid hk2
      clear hp2 hk2 ht0 ht1 ht2 hxn
      have HC6 : Hid (Calls Tryd.prog 77 #[.pointer (some ⟨q, 0, none⟩), .int .i64 (d : Nat)] w5.drew fun e w6 => ∃ A6 c6, e = .returned (.agg #[.string ⟨po.toArray⟩, .string ⟨pn.toArray⟩, .int .i64 pk, .int .i64 pp, .slice A6 ps.length c6]) ∧ Blk w6 w4.heap.size 80 (tC t) ∧ Fold w w6 q w.heap.size w1.heap.size (w.heap.size + 1) w2.heap.size A c l s4 no nn nk np ns NA nc (.node po pn pk pp ps) A6 c6) := by
       refine Lib.hid ((HI3.out _ HP5.out.drew).mono ?_)
       intro e w6 hpost
       obtain ⟨A6, c6, rfl, hnn, hp6, hk6⟩ := npost_open hpost
       have hs6 : w5.heap.size ≤ w6.heap.size := hk6.size
       refine ⟨A6, c6, rfl, hk6.blk (blk_drew HB2_5.out) (by omega), hp6, HK5.out.drew.trans hk6, hk6.blk (blk_drew HB0_5.out) (by omega), hk6.blk (blk_drew HB1_5.out) (by omega), nodex_kq (nodex_drew HNn_5.out) hk6 (by omega) (by show w2.heap.size ≤ w5.heap.size; omega), ?_, by omega⟩
       exact nodex_wide (nodex_of hnn (Or.inl (by show w1.heap.size < w5.heap.size; omega))) (by show w.heap.size + 1 ≤ w5.heap.size; omega) (Nat.le_refl _)
      clear HI3 HNX2 HIS2
      go_region_with (
       go_at_call 77
       refine HC6.out.mono ?_
       rintro e w6 ⟨A6, c6, rfl, ht6, hF6⟩
       obtain ⟨k60, k61, k62, k63, k64⟩ := blk5 hF6.box
       obtain ⟨z60, z61, z62, z63, z64⟩ := blk5f hF6.box
       obtain ⟨k70, k71, k72, k73, k74⟩ := blk5 hF6.res
       obtain ⟨z70, z71, z72, z73, z74⟩ := blk5f hF6.res
       have k6t := (blk4 ht6).2.2.2
       have HF6 := Lib.hid hF6
       have hb6 : w1.heap.size < w6.heap.size := hF6.box.lt
       have hb9 : w.heap.size < w6.heap.size := hF6.res.lt
       have hb7 : w4.heap.size < w6.heap.size := ht6.lt
       have hb8 : ¬ w4.heap.size = w6.heap.size := by omega
       clear ht6 hF6)
      all_goals
       go_wp2_with fail
       go_roundg (f + 1)
       case measure => have := HG.out; omega
       case rel => exact ⟨f, nIff, [], 0, (t.at_ : Nat), [.node no nn nk np ns, .node po pn pk pp ps], some ⟨w6.heap.size, 0, none⟩, 2, s4, by omega, rfl, by omega, HR, fold_end HF6.out nIff (by decide) _ _ rfl⟩
 · replace HV := Lib.hid (HV.out.trans (if_neg he0))
   have hde : decide (s0.e = 0) = false := decide_eq_false he0
   rw [hde] at HE
   clear he0 hde HI HI1 HIS HNX HADV
   go_enter Tryd.func44, Tryd.ntmps44
   go_wp2_with (first
    | (
      go_at_call 76
      refine calls_at (fun W => Ps W q A c l s ∧ Kq q w W ∧ w.heap.size + 1 ≤ W.heap.size ∧ Blk W (w.heap.size) 24 zN) (fun W hW => HE.out W hW.1) ?_ ?_
      · refine ⟨?_, ?_, ?_, ?_⟩
        all_goals repeat' (first | (with_reducible first | exact HP0.out | exact HK0.out | exact HB0_0.out | exact Fr.refl _ _ | apply ps_far | apply Ps.alloc | apply Ps.drew | apply Fr.drew | apply blk_drew | apply kq_far | apply Fr.alloc | apply tokZ | apply nodZ0 | exact blk_new _ _ _ | apply blk_alloc | apply Blk.other) | omega | (simp; done) | (simp <;> omega))
      rintro W ⟨hp, hk, hlo, hb0⟩
      intro e we hpost
      obtain ⟨rfl, hp2, hfr⟩ := hpost
      have hsz := hfr.size
      have hmoe : w.heap.size + 1 ≤ we.heap.size := Nat.le_trans hlo hsz
      have hqs : q < we.heap.size := hp2.qlt
      have hl0 := hb0.lt
      have ht0 : Blk we (w.heap.size) 24 zN := hfr.blk hb0 (by omega)
      have hle_0 : w.heap.size < we.heap.size := ht0.lt
      obtain ⟨re_0_0, re_0_1, re_0_2, re_0_3, re_0_4⟩ := blk5 ht0
      obtain ⟨ye_0_0, ye_0_1, ye_0_2, ye_0_3, ye_0_4⟩ := blk5f ht0
      have HB0_e := Lib.hid ht0
      have HPe := Lib.hid hp2
      have HKe := Lib.hid (hk.trans hfr)
      clear hp hk hp2 hfr hsz hlo hb0 hl0 ht0))
   all_goals
    refine bodyPost_ret (res_one (by rfl) _ _ w.heap.size #[.string ⟨#[]⟩, .string ⟨#[]⟩, .int .i64 0, .int .i64 0, .slice none 0 0] rfl ?_ Tryd.underlying24 inf_node5) rfl ⟨none, 0, by rw [HV.out]; rfl, ?_, ?_, ?_⟩
    · repeat' (first | (with_reducible first | exact HPe.out | exact HKe.out | exact HB0_e.out | apply ps_far | apply Ps.alloc | apply Ps.drew | apply kq_far | apply Fr.alloc | apply Fr.drew | apply nodZ0 | exact blk_new _ _ _ | apply blk_drew | apply blk_alloc | apply Blk.other | apply nodex_far | apply nodex_alloc | apply nodex_drew) | omega | (simp; done) | (simp <;> omega))
    · rw [HV.out]
      exact NodeS.leaf _ _ _ _ _ _ (by decide) (by decide) _
    · rw [HV.out]
      repeat' (first | (with_reducible first | exact HPe.out | exact HKe.out | exact HB0_e.out | apply ps_far | apply Ps.alloc | apply Ps.drew | apply kq_far | apply Fr.alloc | apply Fr.drew | apply nodZ0 | exact blk_new _ _ _ | apply blk_drew | apply blk_alloc | apply Blk.other | apply nodex_far | apply nodex_alloc | apply nodex_drew) | omega | (simp; done) | (simp <;> omega))
    · repeat' (first | (with_reducible first | exact HPe.out | exact HKe.out | exact HB0_e.out | apply ps_far | apply Ps.alloc | apply Ps.drew | apply kq_far | apply Fr.alloc | apply Fr.drew | apply nodZ0 | exact blk_new _ _ _ | apply blk_drew | apply blk_alloc | apply Blk.other | apply nodex_far | apply nodex_alloc | apply nodex_drew) | omega | (simp; done) | (simp <;> omega))
end Go.Proofs.YteikakoheibnjaaDoor
namespace Go.Proofs.YteikakoheibnjaaDoor
open Go Go.RowKit


set_option maxRecDepth 100000 in
set_option maxHeartbeats 4000000 in
theorem prowTerm_any {w : World} {q : Nat} {A : Option Addr} {c : Nat} {l : List Tok} {s : PS} (h : Ps w q A c l s) (x : List UInt8) :
  Calls Tryd.prog 154 #[.pointer (some ⟨q, 0, none⟩), .string ⟨x.toArray⟩, .bool false] w (KPost w q A c l (rowP l (termP l) x s)) := by
 have HP0 := Lib.hid h
 have hq := h.qlt
 have HT := Lib.hid (fun W (hW : Ps W q A c l s) => ptake_any hW x)
 have HV := Lib.hid (rowP_eq l (termP l) x s)
 clear h
 generalize rowP l (termP l) x s = V at *
 generalize takeP l s x = ta at *
 obtain ⟨tb, s1⟩ := ta
 cases tb with
 | true =>
   go_enter Tryd.func154, Tryd.ntmps154
   go_wp2_with (
    go_at_call 75
    refine (HT.out w HP0.out).mono ?_
    intro e w2 hpost
    obtain ⟨rfl, hp2, hk2⟩ := hpost
    have HP2 := Lib.hid hp2
    have HK2 := Lib.hid hk2
    clear hp2 hk2)
   all_goals
    go_ret
    rw [HV.out]
    exact ⟨none, 0, rfl, NodeS.leaf _ _ _ _ _ _ (by decide) (by decide) _, HP2.out, HK2.out⟩
 | false =>
   have HI := Lib.hid (fun W s' (hW : Ps W q A c l s') => pterm_any hW)
   have HFA := Lib.hid (fun W s' (hW : Ps W q A c l s') => pfail_any hW (nowP l s').at_ 2 hW.now_small.2.2.2 (by decide))
   have HNW := Lib.hid (fun W s' (hW : Ps W q A c l s') => pnow_any hW)
   have HTK := Lib.hid (fun W s' (hW : Ps W q A c l s') => ptake_any hW [44])
   have HMU := Lib.hid (fun W s' (hW : Ps W q A c l s') => pmust_any hW x)
   have HVV := Lib.hid (show V = rowF l (termP l) x 8 [] s1 by rw [HV.out]; rfl)
   clear HV
   unfold tokV at HNW
   obtain ⟨i9, hi9, hz0, hz1, hz2⟩ := info_parts inf_node3
   have hf3 := fld3
   go_enter Tryd.func154, Tryd.ntmps154
   go_wp2_with (
    go_at_call 75
    refine (HT.out w HP0.out).mono ?_
    intro e w1 hpost
    obtain ⟨rfl, hp2, hk2⟩ := hpost
    have HP1 := Lib.hid hp2
    have HK1 := Lib.hid hk2
    have hs1 := hk2.size
    clear hp2 hk2)
   go_loopg [7] 9 (fun g lv wr => ∃ (xs : List (Node × Option Addr × Nat)) (s2 : PS), xs.length ≤ 6 ∧ g = 9 - xs.length ∧ Hid (V = rowF l (termP l) x (8 - xs.length) (xs.map (·.1)) s2) ∧ Hid (Ps wr q A c l s2) ∧ Hid (Kq q w wr) ∧ Hid (RowS w.heap.size wr lv xs) ∧ w.heap.size ≤ wr.heap.size)
   case atStart => exact ⟨[], s1, by simp, rfl, HVV, HP1, HK1, Lib.hid (RowS.nil _ _), hs1⟩
   case round =>
    obtain ⟨xs, s2, hxl, hg, HR, HPr, HKr, HRW, hwr⟩ := hrel
    have HG := Lib.hid hg
    clear hg HVV HP1 HK1
    obtain ⟨c0, c1, c2, c3⟩ := HPr.out.cells
    obtain ⟨A1, c5, rfl⟩ := own_slice HRW.out.own
    rw [show 8 - xs.length = (7 - xs.length) + 1 by omega, rowF_step] at HR
    by_cases he : s2.e = 0
    · rw [if_pos he] at HR
      rw [he] at c2
      by_cases h6 : xs.length = 6
      · have g6 : ((xs.length : Int) == 6) = true := by rw [h6]; rfl
        rw [if_pos (by rw [List.length_map]; exact h6)] at HR
        have HFA2 := Lib.hid (fun W (hW : Ps W q A c l s2) => HFA.out W s2 hW)
        have HNW2 := Lib.hid (fun W (hW : Ps W q A c l s2) => HNW.out W s2 hW)
        clear he h6 HFA HNW HI HTK HMU
        generalize nowP l s2 = t at *
        generalize failP s2 t.at_ 2 = s3 at *
        go_wp2_with (first
         | (
           go_at_call 46
           refine (HNW2.out _ HPr.out).mono ?_
           rintro e w3 ⟨rfl, hb⟩
           have HP3 := Lib.hid (HPr.out.below hb)
           have HK3 := Lib.hid (Kq.of_below (q := q) hb)
           clear hb)
         | (
           go_at_call 47
           refine (HFA2.out _ HP3.out).mono ?_
           intro e w4 hpost
           obtain ⟨rfl, hp4, hk4⟩ := hpost
           have HP4 := Lib.hid hp4
           have HK4 := Lib.hid (HK3.out.trans hk4)
           clear hp4 hk4))
        all_goals
         go_ret
         rw [HR.out]
         refine ⟨A1, c5, by rw [List.length_map]; rfl, ?_, HP4.out, HKr.out.trans HK4.out⟩
         exact RowS.node (HRW.out.kq HK4.out hq) (by omega)
      · have g6 : ((xs.length : Int) == 6) = false := by simp; omega
        rw [if_neg (by rw [List.length_map]; exact h6)] at HR
        clear he
        have HI2 := Lib.hid (fun W (hW : Ps W q A c l s2) => HI.out W s2 hW)
        generalize termP l s2 = r at *
        obtain ⟨⟨ro, rn, rm, rp, rk⟩, s3⟩ := r
        have HTK2 := Lib.hid (fun W (hW : Ps W q A c l s3) => HTK.out W s3 hW)
        simp only at HR
        generalize takeP l s3 [44] = tk at *
        obtain ⟨tb, s4⟩ := tk
        have HMU2 := Lib.hid (fun W (hW : Ps W q A c l s4) => HMU.out W s4 hW)
        clear HI HTK HNW HFA HMU
        simp only at HR
        go_wp2_with (first
         | (
           go_at_call 155
           refine (HI2.out _ HPr.out).mono ?_
           intro e w3 hpost
           obtain ⟨A3, c3', rfl, hnn, hp3, hk3⟩ := npost_open hpost
           have HNN := Lib.hid hnn
           have HP3 := Lib.hid hp3
           have HK3 := Lib.hid hk3
           have hs3 := hk3.size
           have HRW3 := Lib.hid (HRW.out.kq hk3 hq)
           clear hnn hp3 hk3)
         | (at_builtin; refine wpList_append_any _ rfl (.tmp 32) (.tmp 35) 22 rfl w.heap.size 24 i9 _ 5 72 und_nodes hi9 hz0 hz1 hz2 rfl (by decide) _ xs.length (cellsK xs) rfl (HRW3.out.own.alloc _) (w3.heap.size + 1) (some ⟨w3.heap.size, 0, none⟩) 1 1 [.string ⟨ro.toArray⟩, .string ⟨rn.toArray⟩, .int .i64 rm, .int .i64 rp, .slice A3 rk.length c3'] rfl ?_ (node_one _ _ _ _ _ _ _) (by simp only [maxLen]; omega) (by omega) (by simp <;> omega) ?_))
        · exact reads_five (t := 24) (heap_alloc_new w3 _)
        intro v7 w7 hown7 hg7 hor7
        have hpo := HP3.out.qlt
        have HRW7 := Lib.hid (RowS.app (HRW3.out.alloc _) (t := .node ro rn rm rp rk) (A := A3) (c := c3') (NodeS.turn (fun p hp => World.cell?_of_block (Below.heap_alloc _ _ p.block hp.2)) (fun b hb => ⟨by have := hb.1; omega, by have := hb.2; simp; omega, fun e => by
         have h1 := (HRW.out.own.lt b e).2
         have h2 := hb.1
         omega⟩) _ _ _ HNN.out) hown7 hg7 (hor7.imp id fun e => by rw [e]; simp))
        have HP7 := Lib.hid ((HP3.out.alloc _).grown hg7 (fun k hk => by have := (HRW3.out.own.lt k hk).1; omega))
        have HK7 := Lib.hid (((HKr.out.trans HK3.out).alloc _).grown hg7 (fun k hk => .inr (HRW3.out.own.lt k hk).1))
        have hs7 : w.heap.size ≤ w7.heap.size := HK7.out.size
        obtain ⟨A7, c7, rfl⟩ := own_slice hown7
        have hlen : (xs ++ [(Node.node ro rn rm rp rk, A3, c3')]).length = xs.length + 1 := by simp
        have hend : ∀ v, v = Value.slice A7 (xs.length + 1) c7 → Ending.returned v = Ending.returned (Value.slice A7 (xs.map (·.1) ++ [Node.node ro rn rm rp rk]).length c7) := fun v e => by
         rw [e, List.length_append, List.length_map]
         rfl
        clear hown7 hg7 hor7
        cases tb with
        | true =>
          rw [if_pos rfl] at HR
          go_wp2_with (
           go_at_call 75
           refine (HTK2.out _ HP7.out).mono ?_
           intro e w8 hpost
           obtain ⟨rfl, hp8, hk8⟩ := hpost
           have HP8 := Lib.hid hp8
           have HK8 := Lib.hid (HK7.out.trans hk8)
           have HRW8 := Lib.hid (HRW7.out.kq hk8 hq)
           clear hp8 hk8)
          all_goals
           go_roundg (9 - (xs.length + 1))
           case measure => have := HG.out; omega
           case rel => exact ⟨xs ++ [(.node ro rn rm rp rk, A3, c3')], s4, by rw [hlen]; omega, by rw [hlen], Lib.hid (by rw [HR.out, List.map_append, hlen, show 8 - (xs.length + 1) = 7 - xs.length by omega]; rfl), HP8, HK8, HRW8, HK8.out.size⟩
        | false =>
          rw [if_neg (by decide)] at HR
          go_wp2_with (first
           | (
             go_at_call 75
             refine (HTK2.out _ HP7.out).mono ?_
             intro e w8 hpost
             obtain ⟨rfl, hp8, hk8⟩ := hpost
             have HP8 := Lib.hid hp8
             have HK8 := Lib.hid hk8
             clear hp8 hk8)
           | (
             go_at_call 45
             refine (HMU2.out _ HP8.out).mono ?_
             intro e w9 hpost
             obtain ⟨rfl, hp9, hk9⟩ := hpost
             have HP9 := Lib.hid hp9
             have HK9 := Lib.hid (HK8.out.trans hk9)
             clear hp9 hk9))
          all_goals
           go_ret
           rw [HR.out]
           refine ⟨A7, c7, hend _ rfl, ?_, HP9.out, HK7.out.trans HK9.out⟩
           have := RowS.node (HRW7.out.kq HK9.out hq) (by rw [hlen]; omega)
           rw [List.map_append] at this
           exact this
    · rw [if_neg he] at HR
      have g0 : ((s2.e : Int) == 0) = false := by simp; omega
      clear he
      go_wp2_with fail
      go_ret
      rw [HR.out]
      exact ⟨A1, c5, by rw [List.length_map]; rfl, RowS.node HRW.out (by omega), HPr.out, HKr.out⟩
end Go.Proofs.YteikakoheibnjaaDoor
namespace Go.Proofs.YteikakoheibnjaaDoor
open Go Go.RowKit

theorem keepS {W : World} {b o g o2 : Nat} {u : Value} (h : W.cell? ⟨b, o, none⟩ = some u) (hb : b ≠ g) (y : Value) : (W.setCell ⟨g, o2, none⟩ y).cell? ⟨b, o, none⟩ = some u :=
 (World.cell?_setCell_other _ _ _ _ (by rintro h2; injection h2 with h3; exact hb h3.symm)).trans h
theorem keepA {W : World} {b o : Nat} {u : Value} (h : W.cell? ⟨b, o, none⟩ = some u) (x : Obj) : (W.alloc x).cell? ⟨b, o, none⟩ = some u :=
 (World.cell?_alloc_lt W x ⟨b, o, none⟩ (World.block_lt_of_cell? _ _ h)).trans h
theorem keepD {W : World} {b o : Nat} {u : Value} (h : W.cell? ⟨b, o, none⟩ = some u) : W.drew.cell? ⟨b, o, none⟩ = some u := h
end Go.Proofs.YteikakoheibnjaaDoor
