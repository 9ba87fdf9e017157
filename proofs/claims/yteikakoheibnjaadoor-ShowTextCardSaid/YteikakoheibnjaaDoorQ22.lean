/- Parts of the proof: PForm, PPred, TokSmall. -/
import Derived.Test.YteikakoheibnjaaDoorQ21
namespace Go.Proofs.YteikakoheibnjaaDoor
open Go Go.RowKit

set_option maxRecDepth 100000 in
set_option maxHeartbeats 4000000 in
theorem pun_stop {l : List Tok} {k d : Nat} (hkd : k + d = 30) {w : World} {q : Nat} {A : Option Addr} {c : Nat} {s : PS} (h : Ps w q A c l s) (he : (enterP l k s).e ≠ 0) :
  Calls Tryd.prog 139 #[.pointer (some ⟨q, 0, none⟩), .int .i64 (d : Nat)] w (NPost w q A c l (zNode, enterP l k s)) := by
 have HP0 := Lib.hid h
 have hq := h.qlt
 have HE := Lib.hid (fun W (hW : Ps W q A c l s) => penter_any hW k d (Or.inl hkd) (by omega))
 rw [decide_eq_false he] at HE
 clear h he hkd
 generalize enterP l k s = s0 at *
 go_enter Tryd.func139, Tryd.ntmps139
 go_wp2_with (first
   | (
     go_at_call 76
     have hgd := HP0
     clear hgd
     refine calls_at (fun W => Ps W q A c l s ∧ Kq q w W ∧ w.heap.size + 1 ≤ W.heap.size ∧ Blk W (w.heap.size) 24 zN) (fun W hW => HE.out W hW.1) ?_ ?_
     · refine ⟨?_, ?_, ?_, ?_⟩
       all_goals repeat' (first | (with_reducible first | exact HP0.out | exact HK0.out | exact HB0_0.out | exact Fr.refl _ _ | apply ps_far | apply Ps.alloc | apply Ps.drew | apply Fr.drew | apply blk_drew | apply kq_far | apply Fr.alloc | apply tokZ | apply nodZ0 | exact blk_new _ _ _ | apply blk_alloc | apply Blk.other) | omega | (simp; done) | (simp <;> omega))
     rintro W ⟨hp, hk, hlo, hb0⟩
     intro e we hpost
     obtain ⟨rfl, hp2, hfr⟩ := hpost
     have hsz := hfr.size
     have hmoe : w.heap.size + 1 ≤ we.heap.size := Nat.le_trans hlo hsz
     have hqs : q < we.heap.size := hp2.qlt
     have hl0 := hb0.lt
     have ht0 : Blk we (w.heap.size) 24 zN := hfr.blk hb0 (by omega)
     have hle_0 : w.heap.size < we.heap.size := ht0.lt
     obtain ⟨re_0_0, re_0_1, re_0_2, re_0_3, re_0_4⟩ := blk5 ht0
     obtain ⟨ye_0_0, ye_0_1, ye_0_2, ye_0_3, ye_0_4⟩ := blk5f ht0
     have HB0_e := Lib.hid ht0
     have HPe := Lib.hid hp2
     have HKe := Lib.hid (hk.trans hfr)
     clear hp hk hp2 hfr hsz hlo hb0 hl0 ht0))
 all_goals
  refine bodyPost_ret (res_one (by rfl) _ _ w.heap.size #[.string ⟨#[]⟩, .string ⟨#[]⟩, .int .i64 0, .int .i64 0, .slice none 0 0] rfl ?_ Tryd.underlying24 inf_node5) rfl ⟨none, 0, rfl, ?_, ?_, ?_⟩
  · repeat' (first | (with_reducible first | exact HPe.out | exact HKe.out | exact HB0_e.out | apply ps_far | apply Ps.alloc | apply Ps.drew | apply kq_far | apply Fr.alloc | apply Fr.drew | apply nodZ0 | exact blk_new _ _ _ | apply blk_drew | apply blk_alloc | apply Blk.other | apply nodex_far | apply nodex_alloc | apply nodex_drew) | omega | (simp; done) | (simp <;> omega))
  · exact NodeS.leaf _ _ _ _ _ _ (by decide) (by decide) _
  · repeat' (first | (with_reducible first | exact HPe.out | exact HKe.out | exact HB0_e.out | apply ps_far | apply Ps.alloc | apply Ps.drew | apply kq_far | apply Fr.alloc | apply Fr.drew | apply nodZ0 | exact blk_new _ _ _ | apply blk_drew | apply blk_alloc | apply Blk.other | apply nodex_far | apply nodex_alloc | apply nodex_drew) | omega | (simp; done) | (simp <;> omega))
  · repeat' (first | (with_reducible first | exact HPe.out | exact HKe.out | exact HB0_e.out | apply ps_far | apply Ps.alloc | apply Ps.drew | apply kq_far | apply Fr.alloc | apply Fr.drew | apply nodZ0 | exact blk_new _ _ _ | apply blk_drew | apply blk_alloc | apply Blk.other | apply nodex_far | apply nodex_alloc | apply nodex_drew) | omega | (simp; done) | (simp <;> omega))
theorem un_law (l : List Tok) : ∀ k d : Nat, k + d = 30 → NLaw 139 l d (unP l k)
 | 0, d, hkd => by
   intro W q A c s h
   show Calls Tryd.prog 139 #[.pointer (some ⟨q, 0, none⟩), .int .i64 (d : Nat)] W (NPost W q A c l (zNode, enterP l 0 s))
   refine pun_stop hkd h ?_
   unfold enterP failP
   rw [if_pos rfl]
   split
   · exact (show (4 : Nat) ≠ 0 by decide)
   · next hh => exact hh
 | k + 1, d, hkd => by
   intro W q A c s h
   have ent : enterP l (k + 1) s = s := by unfold enterP; rw [if_neg (by omega)]
   have HU := un_law l k (d + 1) (by omega)
   by_cases he : s.e = 0
   · exact pun_step hkd HU h he
   · have e : unP l (k + 1) s = (zNode, enterP l (k + 1) s) := by rw [unP, if_pos he, ent]
     rw [e]
     exact pun_stop hkd h (by rw [ent]; exact he)
theorem nform_law (l : List Tok) : NLaw 44 l 0 (formP l) := nlaw_formula (Or.inl rfl) (by omega) (un_law l 30 0 rfl)
end Go.Proofs.YteikakoheibnjaaDoor
namespace Go.Proofs.YteikakoheibnjaaDoor
open Go Go.RowKit

structure DeclS (w : World) (S : Nat → Prop) (A : Option Addr) (cap : Nat) (ds : List DeclP) : Prop where
 cap_ : ds.length ≤ cap
 small : ds.length ≤ 140737488355328
 name : ∀ d ∈ ds, d.name.length ≤ 140737488355328
 at_ : ∀ k (_ : k < ds.length), ∃ b off, A = some ⟨b, off, none⟩ ∧ S b ∧ w.cell? ⟨b, off + k * 3, none⟩ = some (.string ⟨ds[k].name.toArray⟩) ∧ w.cell? ⟨b, off + k * 3 + 1, none⟩ = some (.int .i64 ds[k].order) ∧ w.cell? ⟨b, off + k * 3 + 2, none⟩ = some (.int .i64 ds[k].at_)
theorem DeclS.turn {w w' : World} {S S' : Nat → Prop} {A : Option Addr} {cap : Nat} {ds : List DeclP} (h : DeclS w S A cap ds) (hk : ∀ p : Addr, S p.block → w'.cell? p = w.cell? p) (hS : ∀ b, S b → S' b) : DeclS w' S' A cap ds :=
 ⟨h.cap_, h.small, h.name, fun k hl => by
  obtain ⟨b, off, e, hb, c0, c1, c2⟩ := h.at_ k hl
  exact ⟨b, off, e, hS b hb, (hk ⟨b, _, none⟩ hb).trans c0, (hk ⟨b, _, none⟩ hb).trans c1, (hk ⟨b, _, none⟩ hb).trans c2⟩⟩
theorem DeclS.plain {w : World} {S : Nat → Prop} {B : Nat} {A : Option Addr} {cap : Nat} {ds : List DeclP} (h : DeclS w S A cap ds) (hS : ∀ b, S b → b < B) : DeclsAt w B A cap ds :=
 ⟨h.cap_, h.small, h.name, fun k hl => by
  obtain ⟨b, off, e, hb, hc⟩ := h.at_ k hl
  exact ⟨b, off, e, hS b hb, hc⟩⟩
abbrev DeclX (w : World) (lo hi : Nat) (A : Option Addr) (cap : Nat) (ds : List DeclP) : Prop := DeclS w (fun b => lo ≤ b ∧ b < hi) A cap ds
section
variable {w w' : World} {lo hi lo' hi' g' q : Nat} {A : Option Addr} {cap : Nat} {ds : List DeclP}
theorem declx_turn (h : DeclX w lo hi A cap ds) (hk : ∀ b, lo ≤ b → b < hi → w'.heap[b]? = w.heap[b]?) : DeclX w' lo hi A cap ds :=
 h.turn (fun p hp => World.cell?_of_block (hk p.block hp.1 hp.2)) (fun _ hb => hb)
theorem declx_wide (h : DeclX w lo hi A cap ds) (h1 : lo' ≤ lo) (h2 : hi ≤ hi') : DeclX w lo' hi' A cap ds :=
 h.turn (fun _ _ => rfl) (fun _ hb => ⟨Nat.le_trans h1 hb.1, Nat.lt_of_lt_of_le hb.2 h2⟩)
theorem declx_kq (h : DeclX w lo hi A cap ds) (hk : Kq q w w') (h1 : q < lo) (h2 : hi ≤ w.heap.size) : DeclX w' lo hi A cap ds := declx_turn h fun b hb hb2 => hk.block b (by omega) (by omega)
theorem declx_far (h : DeclX w lo hi A cap ds) (hg : g' < lo ∨ hi ≤ g') (o : Nat) (u : Value) : DeclX (w.setCell ⟨g', o, none⟩ u) lo hi A cap ds := declx_turn h fun b hb hb2 => Below.heap_setCell w ⟨g', o, none⟩ u b (by show b ≠ g'; omega)
theorem declx_alloc (h : DeclX w lo hi A cap ds) (h2 : hi ≤ w.heap.size) (o : Obj) : DeclX (w.alloc o) lo hi A cap ds := declx_turn h fun b _ hb2 => Below.heap_alloc w o b (by omega)
theorem declx_drew (h : DeclX w lo hi A cap ds) : DeclX w.drew lo hi A cap ds := declx_turn h fun _ _ _ => rfl
theorem RowD.declx {B c : Nat} (h : RowD B w (.slice A ds.length c) ds) (hl : ds.length ≤ 100000) : DeclX w B w.heap.size A c ds := by
 obtain ⟨⟨h1, h2, h3, h4⟩, h5⟩ := h.at_ hl
 refine ⟨h1, h2, h3, fun k hk => ?_⟩
 obtain ⟨b, off, e, hb, hc⟩ := h4 k hk
 exact ⟨b, off, e, ⟨h5 b off e, hb⟩, hc⟩
end
def QPost (w : World) (q : Nat) (A : Option Addr) (c : Nat) (l : List Tok) (r : PredP × PS) (e : Ending) (w' : World) : Prop :=
 ∃ A1 c1 A2 c2, e = .returned (.agg #[.string ⟨r.1.name.toArray⟩, .slice A1 r.1.params.length c1, .string ⟨r.1.body.op.toArray⟩, .string ⟨r.1.body.name.toArray⟩, .int .i64 r.1.body.num, .int .i64 r.1.body.pos, .slice A2 r.1.body.kids.length c2, .int .i64 r.1.at_]) ∧
   r.1.name.length ≤ 2000 ∧ DeclX w' w.heap.size w'.heap.size A1 c1 r.1.params ∧ NodeF w' w.heap.size w'.heap.size r.1.body A2 c2 ∧ Ps w' q A c l r.2 ∧ Kq q w w'
theorem inf_pred8 : (Tryd.prog.info? 54).map (·.size) = some 8 := by kernel_rfl
section
variable {W w : World} {g : Nat} {t : TypeId} {c0 c1 c2 c3 c4 c5 c6 c7 : Value}
theorem blkq8 (h : Blk W g t #[c0, c1, c2, c3, c4, c5, c6, c7]) : W.cell? ⟨g, 0, none⟩ = some c0 ∧ W.cell? ⟨g, 1, none⟩ = some c1 ∧ W.cell? ⟨g, 2, none⟩ = some c2 ∧ W.cell? ⟨g, 3, none⟩ = some c3 ∧ W.cell? ⟨g, 4, none⟩ = some c4 ∧ W.cell? ⟨g, 5, none⟩ = some c5 ∧ W.cell? ⟨g, 6, none⟩ = some c6 ∧ W.cell? ⟨g, 7, none⟩ = some c7 :=
 ⟨h.cell 0, h.cell 1, h.cell 2, h.cell 3, h.cell 4, h.cell 5, h.cell 6, h.cell 7⟩
theorem blkq8f (h : Blk W g t #[c0, c1, c2, c3, c4, c5, c6, c7]) : W.frozen? ⟨g, 0, none⟩ = false ∧ W.frozen? ⟨g, 1, none⟩ = false ∧ W.frozen? ⟨g, 2, none⟩ = false ∧ W.frozen? ⟨g, 3, none⟩ = false ∧ W.frozen? ⟨g, 4, none⟩ = false ∧ W.frozen? ⟨g, 5, none⟩ = false ∧ W.frozen? ⟨g, 6, none⟩ = false ∧ W.frozen? ⟨g, 7, none⟩ = false :=
 ⟨h.frozen 0, h.frozen 1, h.frozen 2, h.frozen 3, h.frozen 4, h.frozen 5, h.frozen 6, h.frozen 7⟩
theorem predZ (h : Blk w g 54 #[.string ⟨#[]⟩, .slice none 0 0, .string ⟨#[]⟩, .string ⟨#[]⟩, .int .i64 0, .int .i64 0, .slice none 0 0, .int .i64 0]) (y0 y1 y2 y3 y4 y5 y6 y7 : Value) :
  Blk ((((((((w.setCell ⟨g, 0, none⟩ y0).setCell ⟨g, 1, none⟩ y1).setCell ⟨g, 2, none⟩ y2).setCell ⟨g, 3, none⟩ y3).setCell ⟨g, 4, none⟩ y4).setCell ⟨g, 5, none⟩ y5).setCell ⟨g, 6, none⟩ y6).setCell ⟨g, 7, none⟩ y7) g 54 #[y0, y1, y2, y3, y4, y5, y6, y7] := by
 have := (((((((h.set_ 0 y0).set_ 1 y1).set_ 2 y2).set_ 3 y3).set_ 4 y4).set_ 5 y5).set_ 6 y6).set_ 7 y7
 simpa using this
theorem predZ1 {x0 x2 x3 x4 x5 x6 x7 : Value} (h : Blk w g 54 #[x0, .slice none 0 0, x2, x3, x4, x5, x6, x7]) (y : Value) : Blk (w.setCell ⟨g, 1, none⟩ y) g 54 #[x0, y, x2, x3, x4, x5, x6, x7] := by
 have := h.set_ 1 y
 simpa using this
theorem predZ2 {x0 x1 x7 : Value} (h : Blk w g 54 #[x0, x1, .string ⟨#[]⟩, .string ⟨#[]⟩, .int .i64 0, .int .i64 0, .slice none 0 0, x7]) (y2 y3 y4 y5 y6 : Value) :
  Blk (((((w.setCell ⟨g, 2, none⟩ y2).setCell ⟨g, 3, none⟩ y3).setCell ⟨g, 4, none⟩ y4).setCell ⟨g, 5, none⟩ y5).setCell ⟨g, 6, none⟩ y6) g 54 #[x0, x1, y2, y3, y4, y5, y6, x7] := by
 have := ((((h.set_ 2 y2).set_ 3 y3).set_ 4 y4).set_ 5 y5).set_ 6 y6
 simpa using this
end
theorem paramsF_len (l : List Tok) : ∀ (f : Nat) (acc : List DeclP) (s : PS), (paramsF l f acc s).1.length ≤ acc.length + f
 | 0, _, _ => Nat.le_refl _
 | f + 1, acc, s => by
   have key : ∀ s3 : PS, (if (takeP l (nameP l s3).2 [44]).1 = true then paramsF l f (acc ++ [⟨(nameP l s3).1.text, orderP l s [118, 97, 114], (nameP l s3).1.at_⟩]) (takeP l (nameP l s3).2 [44]).2 else
     (acc ++ [⟨(nameP l s3).1.text, orderP l s [118, 97, 114], (nameP l s3).1.at_⟩], mustP l (takeP l (nameP l s3).2 [44]).2 [41])).1.length ≤ acc.length + (f + 1) := fun s3 => by
    split
    · have := paramsF_len l f (acc ++ [⟨(nameP l s3).1.text, orderP l s [118, 97, 114], (nameP l s3).1.at_⟩]) (takeP l (nameP l s3).2 [44]).2
      rw [List.length_append] at this
      simp only [List.length_cons, List.length_nil] at this
      omega
    · simp only [List.length_append, List.length_cons, List.length_nil]
      omega
   rw [paramsF_step]
   split
   · exact key _
   · simp only
     omega
theorem paramsP_len (l : List Tok) (s : PS) : (paramsP l s).1.length ≤ 8 := by
 rw [paramsP_eq]
 split
 · exact Nat.zero_le _
 · have := paramsF_len l 8 [] (takeP l s [41]).2
   simpa using this
theorem predP_eq (l : List Tok) (s : PS) : predP l s = (⟨(nameP l (nextP l s)).1.text, (paramsP l (mustP l (nameP l (nextP l s)).2 [40])).1, (formP l (mustP l (paramsP l (mustP l (nameP l (nextP l s)).2 [40])).2 [61])).1, (nameP l (nextP l s)).1.at_⟩,
  mustP l (formP l (mustP l (paramsP l (mustP l (nameP l (nextP l s)).2 [40])).2 [61])).2 [59]) := rfl

set_option maxRecDepth 100000 in
set_option maxHeartbeats 8000000 in
theorem ppred_any {w : World} {q : Nat} {A : Option Addr} {c : Nat} {l : List Tok} {s : PS} (h : Ps w q A c l s) :
  Calls Tryd.prog 42 #[.pointer (some ⟨q, 0, none⟩)] w (QPost w q A c l (predP l s)) := by
 have HP0 := Lib.hid h
 have hq := h.qlt
 have HV := Lib.hid (predP_eq l s)
 have HX := Lib.hid (fun W (hW : Ps W q A c l s) => pnext_any hW)
 have HNA := Lib.hid (fun W (hW : Ps W q A c l (nextP l s)) => pname_any hW)
 have HLN := Lib.hid (nameP_len h.small (nextP l s))
 have HLP := Lib.hid (paramsP_len l)
 have HFF := Lib.hid (nform_law l)
 clear h
 generalize predP l s = V at *
 generalize nextP l s = s1 at *
 generalize nowP l s = t0 at *
 generalize nameP l s1 = na at *
 obtain ⟨t, s2⟩ := na
 simp only at HV HNA HLN
 have HM1 := Lib.hid (fun W (hW : Ps W q A c l s2) => pmust_any hW [40])
 generalize mustP l s2 [40] = s3 at *
 have HPA := Lib.hid (fun W (hW : Ps W q A c l s3) => pparams_any hW)
 have HLEN := Lib.hid (show (paramsP l s3).1.length ≤ 100000 by have := HLP.out s3; omega)
 clear HLP
 unfold DPost at HPA
 generalize paramsP l s3 = pr at *
 obtain ⟨ds, s4⟩ := pr
 simp only at HV HPA HLEN
 have HM2 := Lib.hid (fun W (hW : Ps W q A c l s4) => pmust_any hW [61])
 generalize mustP l s4 [61] = s5 at *
 have HFO := Lib.hid (fun W (hW : Ps W q A c l s5) => HFF.out W q A c s5 hW)
 clear HFF
 generalize formP l s5 = pr at *
 obtain ⟨⟨no, nn, nk, np, ns⟩, s6⟩ := pr
 simp only at HV
 have HM3 := Lib.hid (fun W (hW : Ps W q A c l s6) => pmust_any hW [59])
 generalize mustP l s6 [59] = s7 at *
 unfold tokV at HX HNA
 go_enter Tryd.func42, Tryd.ntmps42
 go_upto_region 4 with (first
  | (
      go_at_call 73
      have hgd := HP1
      clear hgd
      refine calls_at (fun W => Ps W q A c l s1 ∧ Kq q w W ∧ w1.heap.size ≤ W.heap.size ∧ Blk W (w.heap.size) 54 #[.string ⟨#[]⟩, .slice none 0 0, .string ⟨#[]⟩, .string ⟨#[]⟩, .int .i64 0, .int .i64 0, .slice none 0 0, .int .i64 0]) (fun W hW => HNA.out W hW.1) ?_ ?_
      · refine ⟨?_, ?_, ?_, ?_⟩
        all_goals repeat' (first | (with_reducible first | exact HP1.out | exact HK1.out | exact HB0_1.out | exact Fr.refl _ _ | apply ps_far | apply Ps.alloc | apply Ps.drew | apply Fr.drew | apply blk_drew | apply kq_far | apply Fr.alloc | apply tokZ | apply nodZ0 | exact blk_new _ _ _ | apply blk_alloc | apply Blk.other) | omega | (simp; done) | (simp <;> omega))
      rintro W ⟨hp, hk, hlo, hb0⟩
      intro e w2 hpost
      obtain ⟨rfl, hp2, hfr⟩ := hpost
      have hsz := hfr.size
      have hmo2 : w1.heap.size ≤ w2.heap.size := Nat.le_trans hlo hsz
      have hqs : q < w2.heap.size := hp2.qlt
      have hl0 := hb0.lt
      have ht0 : Blk w2 (w.heap.size) 54 #[.string ⟨#[]⟩, .slice none 0 0, .string ⟨#[]⟩, .string ⟨#[]⟩, .int .i64 0, .int .i64 0, .slice none 0 0, .int .i64 0] := hfr.blk hb0 (by omega)
      have hl2_0 : w.heap.size < w2.heap.size := ht0.lt
      obtain ⟨r2_0_0, r2_0_1, r2_0_2, r2_0_3, r2_0_4, r2_0_5, r2_0_6, r2_0_7⟩ := blkq8 ht0
      obtain ⟨y2_0_0, y2_0_1, y2_0_2, y2_0_3, y2_0_4, y2_0_5, y2_0_6, y2_0_7⟩ := blkq8f ht0
      have HB0_2 := Lib.hid ht0
      have HP2 := Lib.hid hp2
      have HK2 := Lib.hid (hk.trans hfr)
      clear hp hk hp2 hfr hsz hlo hb0 hl0 ht0
      clear r1_0_0 r1_0_1 r1_0_2 r1_0_3 r1_0_4 r1_0_5 r1_0_6 r1_0_7 y1_0_0 y1_0_1 y1_0_2 y1_0_3 y1_0_4 y1_0_5 y1_0_6 y1_0_7 hl1_0)
  | (
      go_at_call 72
      have hgd := HP0
      clear hgd
      refine calls_at (fun W => Ps W q A c l s ∧ Kq q w W ∧ w.heap.size + 1 ≤ W.heap.size ∧ Blk W (w.heap.size) 54 #[.string ⟨#[]⟩, .slice none 0 0, .string ⟨#[]⟩, .string ⟨#[]⟩, .int .i64 0, .int .i64 0, .slice none 0 0, .int .i64 0]) (fun W hW => HX.out W hW.1) ?_ ?_
      · refine ⟨?_, ?_, ?_, ?_⟩
        all_goals repeat' (first | (with_reducible first | exact HP0.out | exact HK0.out | exact HB0_0.out | exact Fr.refl _ _ | apply ps_far | apply Ps.alloc | apply Ps.drew | apply Fr.drew | apply blk_drew | apply kq_far | apply Fr.alloc | apply tokZ | apply nodZ0 | exact blk_new _ _ _ | apply blk_alloc | apply Blk.other) | omega | (simp; done) | (simp <;> omega))
      rintro W ⟨hp, hk, hlo, hb0⟩
      intro e w1 hpost
      obtain ⟨rfl, hp2, hfr⟩ := hpost
      have hsz := hfr.size
      have hmo1 : w.heap.size + 1 ≤ w1.heap.size := Nat.le_trans hlo hsz
      have hqs : q < w1.heap.size := hp2.qlt
      have hl0 := hb0.lt
      have ht0 : Blk w1 (w.heap.size) 54 #[.string ⟨#[]⟩, .slice none 0 0, .string ⟨#[]⟩, .string ⟨#[]⟩, .int .i64 0, .int .i64 0, .slice none 0 0, .int .i64 0] := hfr.blk hb0 (by omega)
      have hl1_0 : w.heap.size < w1.heap.size := ht0.lt
      obtain ⟨r1_0_0, r1_0_1, r1_0_2, r1_0_3, r1_0_4, r1_0_5, r1_0_6, r1_0_7⟩ := blkq8 ht0
      obtain ⟨y1_0_0, y1_0_1, y1_0_2, y1_0_3, y1_0_4, y1_0_5, y1_0_6, y1_0_7⟩ := blkq8f ht0
      have HB0_1 := Lib.hid ht0
      have HP1 := Lib.hid hp2
      have HK1 := Lib.hid (hk.trans hfr)
      clear hp hk hp2 hfr hsz hlo hb0 hl0 ht0))
 refine wp_named (fun W => Ps W q A c l s2 ∧ Kq q w W ∧ w2.heap.size + 1 ≤ W.heap.size ∧ Blk W (w.heap.size) 54 #[.string ⟨#[]⟩, .slice none 0 0, .string ⟨#[]⟩, .string ⟨#[]⟩, .int .i64 0, .int .i64 0, .slice none 0 0, .int .i64 0] ∧ Blk W (w2.heap.size) 80 (tC t) ∧ Blk W (w2.heap.size + 1) 54 #[.string ⟨t.text.toArray⟩, .slice none 0 0, .string ⟨#[]⟩, .string ⟨#[]⟩, .int .i64 0, .int .i64 0, .slice none 0 0, .int .i64 (t.at_ : Nat)]) ?_ ?_
 · refine ⟨?_, ?_, ?_, ?_, ?_, ?_⟩
   all_goals repeat' (first | (with_reducible first | exact HP2.out | exact HK2.out | exact HB0_2.out | exact HB1_2.out | exact HB2_2.out) | exact blk_new_at (by simp; done) | (with_reducible first | exact Fr.refl _ _ | apply ps_far | apply Ps.alloc | apply Ps.drew | apply Fr.drew | apply blk_drew | apply kq_far | apply Fr.alloc | apply tokZ | apply nodZ0 | exact blk_new _ _ _ | apply blk_alloc | apply Blk.other | apply nodex_far | apply nodex_alloc | apply nodex_drew) | omega | (simp; done) | (simp <;> omega))
 clear r2_0_0 r2_0_1 r2_0_2 r2_0_3 r2_0_4 r2_0_5 r2_0_6 r2_0_7 y2_0_0 y2_0_1 y2_0_2 y2_0_3 y2_0_4 y2_0_5 y2_0_6 y2_0_7 hl2_0
 rintro w3 ⟨hp2, hk2, hmo3, ht0, ht1, ht2⟩
 have hqs : q < w3.heap.size := hp2.qlt
 have hl3_0 : w.heap.size < w3.heap.size := ht0.lt
 obtain ⟨r3_0_0, r3_0_1, r3_0_2, r3_0_3, r3_0_4, r3_0_5, r3_0_6, r3_0_7⟩ := blkq8 ht0
 obtain ⟨y3_0_0, y3_0_1, y3_0_2, y3_0_3, y3_0_4, y3_0_5, y3_0_6, y3_0_7⟩ := blkq8f ht0
 have HB0_3 := Lib.hid ht0
 have hl3_1 : w2.heap.size < w3.heap.size := ht1.lt
 obtain ⟨r3_1_0, r3_1_1, r3_1_2, r3_1_3⟩ := blk4 ht1
 obtain ⟨y3_1_0, y3_1_1, y3_1_2, y3_1_3⟩ := blk4f ht1
 have HB1_3 := Lib.hid ht1
 have hl3_2 : w2.heap.size + 1 < w3.heap.size := ht2.lt
 obtain ⟨r3_2_0, r3_2_1, r3_2_2, r3_2_3, r3_2_4, r3_2_5, r3_2_6, r3_2_7⟩ := blkq8 ht2
 obtain ⟨y3_2_0, y3_2_1, y3_2_2, y3_2_3, y3_2_4, y3_2_5, y3_2_6, y3_2_7⟩ := blkq8f ht2
 have HB2_3 := Lib.hid ht2
 have HP3 := Lib.hid hp2
 have HK3 := Lib.hid hk2
 clear hp2 hk2 ht0 ht1 ht2
 clear HX HNA
 go_wp2_with (first
  | (
      go_at_call 45
      have hgd := HP8
      clear hgd
      refine calls_at (fun W => Ps W q A c l s6 ∧ Kq q w W ∧ w8.heap.size ≤ W.heap.size ∧ Blk W (w.heap.size) 54 #[.string ⟨#[]⟩, .slice none 0 0, .string ⟨#[]⟩, .string ⟨#[]⟩, .int .i64 0, .int .i64 0, .slice none 0 0, .int .i64 0] ∧ Blk W (w2.heap.size) 80 (tC t) ∧ Blk W (w2.heap.size + 1) 54 #[.string ⟨t.text.toArray⟩, .slice A6 ds.length c6, .string ⟨no.toArray⟩, .string ⟨nn.toArray⟩, .int .i64 nk, .int .i64 np, .slice A8 ns.length c8, .int .i64 (t.at_ : Nat)] ∧ NodeX W (w7.heap.size) (w8.heap.size) (w.heap.size) (.node no nn nk np ns) A8 c8 ∧ DeclX W (w4.heap.size) (w6.heap.size) A6 c6 ds) (fun W hW => HM3.out W hW.1) ?_ ?_
      · refine ⟨?_, ?_, ?_, ?_, ?_, ?_, ?_, ?_⟩
        all_goals repeat' (first | (with_reducible first | exact HP8.out | exact HK8.out | exact HB0_8.out | exact HB1_8.out | exact HB2_8.out | exact HNn_8.out | exact HNd_8.out | exact Fr.refl _ _ | apply ps_far | apply Ps.alloc | apply Ps.drew | apply Fr.drew | apply blk_drew | apply kq_far | apply Fr.alloc | apply tokZ | apply predZ2 | apply nodZ0 | exact blk_new _ _ _ | apply blk_alloc | apply Blk.other | apply nodex_far | apply nodex_alloc | apply nodex_drew | apply declx_far | apply declx_alloc | apply declx_drew) | omega | (simp; done) | (simp <;> omega))
      rintro W ⟨hp, hk, hlo, hb0, hb1, hb2, hxn, hxd⟩
      intro e w9 hpost
      obtain ⟨rfl, hp2, hfr⟩ := hpost
      have hsz := hfr.size
      have hmo9 : w8.heap.size ≤ w9.heap.size := Nat.le_trans hlo hsz
      have hqs : q < w9.heap.size := hp2.qlt
      have hl0 := hb0.lt
      have ht0 : Blk w9 (w.heap.size) 54 #[.string ⟨#[]⟩, .slice none 0 0, .string ⟨#[]⟩, .string ⟨#[]⟩, .int .i64 0, .int .i64 0, .slice none 0 0, .int .i64 0] := hfr.blk hb0 (by omega)
      have hl9_0 : w.heap.size < w9.heap.size := ht0.lt
      obtain ⟨r9_0_0, r9_0_1, r9_0_2, r9_0_3, r9_0_4, r9_0_5, r9_0_6, r9_0_7⟩ := blkq8 ht0
      obtain ⟨y9_0_0, y9_0_1, y9_0_2, y9_0_3, y9_0_4, y9_0_5, y9_0_6, y9_0_7⟩ := blkq8f ht0
      have HB0_9 := Lib.hid ht0
      have hl1 := hb1.lt
      have ht1 : Blk w9 (w2.heap.size) 80 (tC t) := hfr.blk hb1 (by omega)
      have hl9_1 : w2.heap.size < w9.heap.size := ht1.lt
      obtain ⟨r9_1_0, r9_1_1, r9_1_2, r9_1_3⟩ := blk4 ht1
      obtain ⟨y9_1_0, y9_1_1, y9_1_2, y9_1_3⟩ := blk4f ht1
      have HB1_9 := Lib.hid ht1
      have hl2 := hb2.lt
      have ht2 : Blk w9 (w2.heap.size + 1) 54 #[.string ⟨t.text.toArray⟩, .slice A6 ds.length c6, .string ⟨no.toArray⟩, .string ⟨nn.toArray⟩, .int .i64 nk, .int .i64 np, .slice A8 ns.length c8, .int .i64 (t.at_ : Nat)] := hfr.blk hb2 (by omega)
      have hl9_2 : w2.heap.size + 1 < w9.heap.size := ht2.lt
      obtain ⟨r9_2_0, r9_2_1, r9_2_2, r9_2_3, r9_2_4, r9_2_5, r9_2_6, r9_2_7⟩ := blkq8 ht2
      obtain ⟨y9_2_0, y9_2_1, y9_2_2, y9_2_3, y9_2_4, y9_2_5, y9_2_6, y9_2_7⟩ := blkq8f ht2
      have HB2_9 := Lib.hid ht2
      have HNn_9 := Lib.hid (nodex_kq hxn hfr (by omega) (by omega))
      have HNd_9 := Lib.hid (declx_kq hxd hfr (by omega) (by omega))
      have HP9 := Lib.hid hp2
      have HK9 := Lib.hid (hk.trans hfr)
      clear hp hk hp2 hfr hsz hlo hb0 hl0 ht0 hb1 hl1 ht1 hb2 hl2 ht2 hxn hxd
      clear r8_0_0 r8_0_1 r8_0_2 r8_0_3 r8_0_4 r8_0_5 r8_0_6 r8_0_7 y8_0_0 y8_0_1 y8_0_2 y8_0_3 y8_0_4 y8_0_5 y8_0_6 y8_0_7 hl8_0 r8_1_0 r8_1_1 r8_1_2 r8_1_3 y8_1_0 y8_1_1 y8_1_2 y8_1_3 hl8_1 r8_2_0 r8_2_1 r8_2_2 r8_2_3 r8_2_4 r8_2_5 r8_2_6 r8_2_7 y8_2_0 y8_2_1 y8_2_2 y8_2_3 y8_2_4 y8_2_5 y8_2_6 y8_2_7 hl8_2)
  | (
      go_at_call 44
      have hgd := HP7
      clear hgd
      refine calls_at (fun W => Ps W q A c l s5 ∧ Kq q w W ∧ w7.heap.size ≤ W.heap.size ∧ Blk W (w.heap.size) 54 #[.string ⟨#[]⟩, .slice none 0 0, .string ⟨#[]⟩, .string ⟨#[]⟩, .int .i64 0, .int .i64 0, .slice none 0 0, .int .i64 0] ∧ Blk W (w2.heap.size) 80 (tC t) ∧ Blk W (w2.heap.size + 1) 54 #[.string ⟨t.text.toArray⟩, .slice A6 ds.length c6, .string ⟨#[]⟩, .string ⟨#[]⟩, .int .i64 0, .int .i64 0, .slice none 0 0, .int .i64 (t.at_ : Nat)] ∧ DeclX W (w4.heap.size) (w6.heap.size) A6 c6 ds) (fun W hW => HFO.out W hW.1) ?_ ?_
      · refine ⟨?_, ?_, ?_, ?_, ?_, ?_, ?_⟩
        all_goals repeat' (first | (with_reducible first | exact HP7.out | exact HK7.out | exact HB0_7.out | exact HB1_7.out | exact HB2_7.out | exact HNd_7.out | exact Fr.refl _ _ | apply ps_far | apply Ps.alloc | apply Ps.drew | apply Fr.drew | apply blk_drew | apply kq_far | apply Fr.alloc | apply tokZ | apply nodZ0 | exact blk_new _ _ _ | apply blk_alloc | apply Blk.other | apply nodex_far | apply nodex_alloc | apply nodex_drew | apply declx_far | apply declx_alloc | apply declx_drew) | omega | (simp; done) | (simp <;> omega))
      rintro W ⟨hp, hk, hlo, hb0, hb1, hb2, hxd⟩
      intro e w8 hpost
      obtain ⟨A8, c8, rfl, hnn, hp2, hfr⟩ := npost_open hpost
      have hsz := hfr.size
      have hmo8 : w7.heap.size ≤ w8.heap.size := Nat.le_trans hlo hsz
      have HNN8 := Lib.hid (show NodeF w8 (w7.heap.size) w8.heap.size _ A8 c8 from nodef_wide hnn hlo (Nat.le_refl _))
      have hqs : q < w8.heap.size := hp2.qlt
      have hl0 := hb0.lt
      have ht0 : Blk w8 (w.heap.size) 54 #[.string ⟨#[]⟩, .slice none 0 0, .string ⟨#[]⟩, .string ⟨#[]⟩, .int .i64 0, .int .i64 0, .slice none 0 0, .int .i64 0] := hfr.blk hb0 (by omega)
      have hl8_0 : w.heap.size < w8.heap.size := ht0.lt
      obtain ⟨r8_0_0, r8_0_1, r8_0_2, r8_0_3, r8_0_4, r8_0_5, r8_0_6, r8_0_7⟩ := blkq8 ht0
      obtain ⟨y8_0_0, y8_0_1, y8_0_2, y8_0_3, y8_0_4, y8_0_5, y8_0_6, y8_0_7⟩ := blkq8f ht0
      have HB0_8 := Lib.hid ht0
      have hl1 := hb1.lt
      have ht1 : Blk w8 (w2.heap.size) 80 (tC t) := hfr.blk hb1 (by omega)
      have hl8_1 : w2.heap.size < w8.heap.size := ht1.lt
      obtain ⟨r8_1_0, r8_1_1, r8_1_2, r8_1_3⟩ := blk4 ht1
      obtain ⟨y8_1_0, y8_1_1, y8_1_2, y8_1_3⟩ := blk4f ht1
      have HB1_8 := Lib.hid ht1
      have hl2 := hb2.lt
      have ht2 : Blk w8 (w2.heap.size + 1) 54 #[.string ⟨t.text.toArray⟩, .slice A6 ds.length c6, .string ⟨#[]⟩, .string ⟨#[]⟩, .int .i64 0, .int .i64 0, .slice none 0 0, .int .i64 (t.at_ : Nat)] := hfr.blk hb2 (by omega)
      have hl8_2 : w2.heap.size + 1 < w8.heap.size := ht2.lt
      obtain ⟨r8_2_0, r8_2_1, r8_2_2, r8_2_3, r8_2_4, r8_2_5, r8_2_6, r8_2_7⟩ := blkq8 ht2
      obtain ⟨y8_2_0, y8_2_1, y8_2_2, y8_2_3, y8_2_4, y8_2_5, y8_2_6, y8_2_7⟩ := blkq8f ht2
      have HB2_8 := Lib.hid ht2
      have HNd_8 := Lib.hid (declx_kq hxd hfr (by omega) (by omega))
      have HNn_8 := Lib.hid (nodex_of (g := w.heap.size) HNN8.out (Or.inl (by omega)))
      have HP8 := Lib.hid hp2
      have HK8 := Lib.hid (hk.trans hfr)
      clear hp hk hp2 hfr hsz hlo hb0 hl0 ht0 hb1 hl1 ht1 hb2 hl2 ht2 hxd hnn
      clear r7_0_0 r7_0_1 r7_0_2 r7_0_3 r7_0_4 r7_0_5 r7_0_6 r7_0_7 y7_0_0 y7_0_1 y7_0_2 y7_0_3 y7_0_4 y7_0_5 y7_0_6 y7_0_7 hl7_0 r7_1_0 r7_1_1 r7_1_2 r7_1_3 y7_1_0 y7_1_1 y7_1_2 y7_1_3 hl7_1 r7_2_0 r7_2_1 r7_2_2 r7_2_3 r7_2_4 r7_2_5 r7_2_6 r7_2_7 y7_2_0 y7_2_1 y7_2_2 y7_2_3 y7_2_4 y7_2_5 y7_2_6 y7_2_7 hl7_2)
  | (
      go_at_call 45
      have hgd := HP6
      clear hgd
      refine calls_at (fun W => Ps W q A c l s4 ∧ Kq q w W ∧ w6.heap.size ≤ W.heap.size ∧ Blk W (w.heap.size) 54 #[.string ⟨#[]⟩, .slice none 0 0, .string ⟨#[]⟩, .string ⟨#[]⟩, .int .i64 0, .int .i64 0, .slice none 0 0, .int .i64 0] ∧ Blk W (w2.heap.size) 80 (tC t) ∧ Blk W (w2.heap.size + 1) 54 #[.string ⟨t.text.toArray⟩, .slice A6 ds.length c6, .string ⟨#[]⟩, .string ⟨#[]⟩, .int .i64 0, .int .i64 0, .slice none 0 0, .int .i64 (t.at_ : Nat)] ∧ DeclX W (w4.heap.size) (w6.heap.size) A6 c6 ds) (fun W hW => HM2.out W hW.1) ?_ ?_
      · refine ⟨?_, ?_, ?_, ?_, ?_, ?_, ?_⟩
        all_goals repeat' (first | (with_reducible first | exact HP6.out | exact HK6.out | exact HB0_6.out | exact HB1_6.out | exact HB2_6.out | exact HNd_6.out | exact Fr.refl _ _ | apply ps_far | apply Ps.alloc | apply Ps.drew | apply Fr.drew | apply blk_drew | apply kq_far | apply Fr.alloc | apply tokZ | apply predZ1 | apply nodZ0 | exact blk_new _ _ _ | apply blk_alloc | apply Blk.other | apply nodex_far | apply nodex_alloc | apply nodex_drew | apply declx_far | apply declx_alloc | apply declx_drew) | omega | (simp; done) | (simp <;> omega))
      rintro W ⟨hp, hk, hlo, hb0, hb1, hb2, hxd⟩
      intro e w7 hpost
      obtain ⟨rfl, hp2, hfr⟩ := hpost
      have hsz := hfr.size
      have hmo7 : w6.heap.size ≤ w7.heap.size := Nat.le_trans hlo hsz
      have hqs : q < w7.heap.size := hp2.qlt
      have hl0 := hb0.lt
      have ht0 : Blk w7 (w.heap.size) 54 #[.string ⟨#[]⟩, .slice none 0 0, .string ⟨#[]⟩, .string ⟨#[]⟩, .int .i64 0, .int .i64 0, .slice none 0 0, .int .i64 0] := hfr.blk hb0 (by omega)
      have hl7_0 : w.heap.size < w7.heap.size := ht0.lt
      obtain ⟨r7_0_0, r7_0_1, r7_0_2, r7_0_3, r7_0_4, r7_0_5, r7_0_6, r7_0_7⟩ := blkq8 ht0
      obtain ⟨y7_0_0, y7_0_1, y7_0_2, y7_0_3, y7_0_4, y7_0_5, y7_0_6, y7_0_7⟩ := blkq8f ht0
      have HB0_7 := Lib.hid ht0
      have hl1 := hb1.lt
      have ht1 : Blk w7 (w2.heap.size) 80 (tC t) := hfr.blk hb1 (by omega)
      have hl7_1 : w2.heap.size < w7.heap.size := ht1.lt
      obtain ⟨r7_1_0, r7_1_1, r7_1_2, r7_1_3⟩ := blk4 ht1
      obtain ⟨y7_1_0, y7_1_1, y7_1_2, y7_1_3⟩ := blk4f ht1
      have HB1_7 := Lib.hid ht1
      have hl2 := hb2.lt
      have ht2 : Blk w7 (w2.heap.size + 1) 54 #[.string ⟨t.text.toArray⟩, .slice A6 ds.length c6, .string ⟨#[]⟩, .string ⟨#[]⟩, .int .i64 0, .int .i64 0, .slice none 0 0, .int .i64 (t.at_ : Nat)] := hfr.blk hb2 (by omega)
      have hl7_2 : w2.heap.size + 1 < w7.heap.size := ht2.lt
      obtain ⟨r7_2_0, r7_2_1, r7_2_2, r7_2_3, r7_2_4, r7_2_5, r7_2_6, r7_2_7⟩ := blkq8 ht2
      obtain ⟨y7_2_0, y7_2_1, y7_2_2, y7_2_3, y7_2_4, y7_2_5, y7_2_6, y7_2_7⟩ := blkq8f ht2
      have HB2_7 := Lib.hid ht2
      have HNd_7 := Lib.hid (declx_kq hxd hfr (by omega) (by omega))
      have HP7 := Lib.hid hp2
      have HK7 := Lib.hid (hk.trans hfr)
      clear hp hk hp2 hfr hsz hlo hb0 hl0 ht0 hb1 hl1 ht1 hb2 hl2 ht2 hxd
      clear r6_0_0 r6_0_1 r6_0_2 r6_0_3 r6_0_4 r6_0_5 r6_0_6 r6_0_7 y6_0_0 y6_0_1 y6_0_2 y6_0_3 y6_0_4 y6_0_5 y6_0_6 y6_0_7 hl6_0 r6_1_0 r6_1_1 r6_1_2 r6_1_3 y6_1_0 y6_1_1 y6_1_2 y6_1_3 hl6_1 r6_2_0 r6_2_1 r6_2_2 r6_2_3 r6_2_4 r6_2_5 r6_2_6 r6_2_7 y6_2_0 y6_2_1 y6_2_2 y6_2_3 y6_2_4 y6_2_5 y6_2_6 y6_2_7 hl6_2)
  | (
      go_at_call 74
      have hgd := HP4
      clear hgd
      refine calls_at (fun W => Ps W q A c l s3 ∧ Kq q w W ∧ w4.heap.size ≤ W.heap.size ∧ Blk W (w.heap.size) 54 #[.string ⟨#[]⟩, .slice none 0 0, .string ⟨#[]⟩, .string ⟨#[]⟩, .int .i64 0, .int .i64 0, .slice none 0 0, .int .i64 0] ∧ Blk W (w2.heap.size) 80 (tC t) ∧ Blk W (w2.heap.size + 1) 54 #[.string ⟨t.text.toArray⟩, .slice none 0 0, .string ⟨#[]⟩, .string ⟨#[]⟩, .int .i64 0, .int .i64 0, .slice none 0 0, .int .i64 (t.at_ : Nat)]) (fun W hW => HPA.out W hW.1) ?_ ?_
      · refine ⟨?_, ?_, ?_, ?_, ?_, ?_⟩
        all_goals repeat' (first | (with_reducible first | exact HP4.out | exact HK4.out | exact HB0_4.out | exact HB1_4.out | exact HB2_4.out | exact Fr.refl _ _ | apply ps_far | apply Ps.alloc | apply Ps.drew | apply Fr.drew | apply blk_drew | apply kq_far | apply Fr.alloc | apply tokZ | apply nodZ0 | exact blk_new _ _ _ | apply blk_alloc | apply Blk.other) | omega | (simp; done) | (simp <;> omega))
      rintro W ⟨hp, hk, hlo, hb0, hb1, hb2⟩
      intro e w6 hpost
      obtain ⟨A6, c6, rfl, hnn, hp2, hfr⟩ := hpost
      have hsz := hfr.size
      have hmo6 : w4.heap.size ≤ w6.heap.size := Nat.le_trans hlo hsz
      have HDD6 := Lib.hid (show DeclX w6 (w4.heap.size) w6.heap.size A6 c6 _ from declx_wide (hnn.declx HLEN.out) hlo (Nat.le_refl _))
      have hqs : q < w6.heap.size := hp2.qlt
      have hl0 := hb0.lt
      have ht0 : Blk w6 (w.heap.size) 54 #[.string ⟨#[]⟩, .slice none 0 0, .string ⟨#[]⟩, .string ⟨#[]⟩, .int .i64 0, .int .i64 0, .slice none 0 0, .int .i64 0] := hfr.blk hb0 (by omega)
      have hl6_0 : w.heap.size < w6.heap.size := ht0.lt
      obtain ⟨r6_0_0, r6_0_1, r6_0_2, r6_0_3, r6_0_4, r6_0_5, r6_0_6, r6_0_7⟩ := blkq8 ht0
      obtain ⟨y6_0_0, y6_0_1, y6_0_2, y6_0_3, y6_0_4, y6_0_5, y6_0_6, y6_0_7⟩ := blkq8f ht0
      have HB0_6 := Lib.hid ht0
      have hl1 := hb1.lt
      have ht1 : Blk w6 (w2.heap.size) 80 (tC t) := hfr.blk hb1 (by omega)
      have hl6_1 : w2.heap.size < w6.heap.size := ht1.lt
      obtain ⟨r6_1_0, r6_1_1, r6_1_2, r6_1_3⟩ := blk4 ht1
      obtain ⟨y6_1_0, y6_1_1, y6_1_2, y6_1_3⟩ := blk4f ht1
      have HB1_6 := Lib.hid ht1
      have hl2 := hb2.lt
      have ht2 : Blk w6 (w2.heap.size + 1) 54 #[.string ⟨t.text.toArray⟩, .slice none 0 0, .string ⟨#[]⟩, .string ⟨#[]⟩, .int .i64 0, .int .i64 0, .slice none 0 0, .int .i64 (t.at_ : Nat)] := hfr.blk hb2 (by omega)
      have hl6_2 : w2.heap.size + 1 < w6.heap.size := ht2.lt
      obtain ⟨r6_2_0, r6_2_1, r6_2_2, r6_2_3, r6_2_4, r6_2_5, r6_2_6, r6_2_7⟩ := blkq8 ht2
      obtain ⟨y6_2_0, y6_2_1, y6_2_2, y6_2_3, y6_2_4, y6_2_5, y6_2_6, y6_2_7⟩ := blkq8f ht2
      have HB2_6 := Lib.hid ht2
      have HNd_6 := HDD6
      have HP6 := Lib.hid hp2
      have HK6 := Lib.hid (hk.trans hfr)
      clear hp hk hp2 hfr hsz hlo hb0 hl0 ht0 hb1 hl1 ht1 hb2 hl2 ht2 hnn
      clear r4_0_0 r4_0_1 r4_0_2 r4_0_3 r4_0_4 r4_0_5 r4_0_6 r4_0_7 y4_0_0 y4_0_1 y4_0_2 y4_0_3 y4_0_4 y4_0_5 y4_0_6 y4_0_7 hl4_0 r4_1_0 r4_1_1 r4_1_2 r4_1_3 y4_1_0 y4_1_1 y4_1_2 y4_1_3 hl4_1 r4_2_0 r4_2_1 r4_2_2 r4_2_3 r4_2_4 r4_2_5 r4_2_6 r4_2_7 y4_2_0 y4_2_1 y4_2_2 y4_2_3 y4_2_4 y4_2_5 y4_2_6 y4_2_7 hl4_2)
  | (
      go_at_call 45
      have hgd := HP3
      clear hgd
      refine calls_at (fun W => Ps W q A c l s2 ∧ Kq q w W ∧ w3.heap.size ≤ W.heap.size ∧ Blk W (w.heap.size) 54 #[.string ⟨#[]⟩, .slice none 0 0, .string ⟨#[]⟩, .string ⟨#[]⟩, .int .i64 0, .int .i64 0, .slice none 0 0, .int .i64 0] ∧ Blk W (w2.heap.size) 80 (tC t) ∧ Blk W (w2.heap.size + 1) 54 #[.string ⟨t.text.toArray⟩, .slice none 0 0, .string ⟨#[]⟩, .string ⟨#[]⟩, .int .i64 0, .int .i64 0, .slice none 0 0, .int .i64 (t.at_ : Nat)]) (fun W hW => HM1.out W hW.1) ?_ ?_
      · refine ⟨?_, ?_, ?_, ?_, ?_, ?_⟩
        all_goals repeat' (first | (with_reducible first | exact HP3.out | exact HK3.out | exact HB0_3.out | exact HB1_3.out | exact HB2_3.out | exact Fr.refl _ _ | apply ps_far | apply Ps.alloc | apply Ps.drew | apply Fr.drew | apply blk_drew | apply kq_far | apply Fr.alloc | apply tokZ | apply nodZ0 | exact blk_new _ _ _ | apply blk_alloc | apply Blk.other) | omega | (simp; done) | (simp <;> omega))
      rintro W ⟨hp, hk, hlo, hb0, hb1, hb2⟩
      intro e w4 hpost
      obtain ⟨rfl, hp2, hfr⟩ := hpost
      have hsz := hfr.size
      have hmo4 : w3.heap.size ≤ w4.heap.size := Nat.le_trans hlo hsz
      have hqs : q < w4.heap.size := hp2.qlt
      have hl0 := hb0.lt
      have ht0 : Blk w4 (w.heap.size) 54 #[.string ⟨#[]⟩, .slice none 0 0, .string ⟨#[]⟩, .string ⟨#[]⟩, .int .i64 0, .int .i64 0, .slice none 0 0, .int .i64 0] := hfr.blk hb0 (by omega)
      have hl4_0 : w.heap.size < w4.heap.size := ht0.lt
      obtain ⟨r4_0_0, r4_0_1, r4_0_2, r4_0_3, r4_0_4, r4_0_5, r4_0_6, r4_0_7⟩ := blkq8 ht0
      obtain ⟨y4_0_0, y4_0_1, y4_0_2, y4_0_3, y4_0_4, y4_0_5, y4_0_6, y4_0_7⟩ := blkq8f ht0
      have HB0_4 := Lib.hid ht0
      have hl1 := hb1.lt
      have ht1 : Blk w4 (w2.heap.size) 80 (tC t) := hfr.blk hb1 (by omega)
      have hl4_1 : w2.heap.size < w4.heap.size := ht1.lt
      obtain ⟨r4_1_0, r4_1_1, r4_1_2, r4_1_3⟩ := blk4 ht1
      obtain ⟨y4_1_0, y4_1_1, y4_1_2, y4_1_3⟩ := blk4f ht1
      have HB1_4 := Lib.hid ht1
      have hl2 := hb2.lt
      have ht2 : Blk w4 (w2.heap.size + 1) 54 #[.string ⟨t.text.toArray⟩, .slice none 0 0, .string ⟨#[]⟩, .string ⟨#[]⟩, .int .i64 0, .int .i64 0, .slice none 0 0, .int .i64 (t.at_ : Nat)] := hfr.blk hb2 (by omega)
      have hl4_2 : w2.heap.size + 1 < w4.heap.size := ht2.lt
      obtain ⟨r4_2_0, r4_2_1, r4_2_2, r4_2_3, r4_2_4, r4_2_5, r4_2_6, r4_2_7⟩ := blkq8 ht2
      obtain ⟨y4_2_0, y4_2_1, y4_2_2, y4_2_3, y4_2_4, y4_2_5, y4_2_6, y4_2_7⟩ := blkq8f ht2
      have HB2_4 := Lib.hid ht2
      have HP4 := Lib.hid hp2
      have HK4 := Lib.hid (hk.trans hfr)
      clear hp hk hp2 hfr hsz hlo hb0 hl0 ht0 hb1 hl1 ht1 hb2 hl2 ht2
      clear r3_0_0 r3_0_1 r3_0_2 r3_0_3 r3_0_4 r3_0_5 r3_0_6 r3_0_7 y3_0_0 y3_0_1 y3_0_2 y3_0_3 y3_0_4 y3_0_5 y3_0_6 y3_0_7 r3_1_0 r3_1_1 r3_1_2 r3_1_3 y3_1_0 y3_1_1 y3_1_2 y3_1_3 r3_2_0 r3_2_1 r3_2_2 r3_2_3 r3_2_4 r3_2_5 r3_2_6 r3_2_7 y3_2_0 y3_2_1 y3_2_2 y3_2_3 y3_2_4 y3_2_5 y3_2_6 y3_2_7))
 all_goals
  have hx9 : w2.heap.size + 1 < w9.heap.size := HB2_9.out.lt
  refine bodyPost_ret (res_one (by rfl) _ _ w.heap.size #[.string ⟨t.text.toArray⟩, .slice A6 ds.length c6, .string ⟨no.toArray⟩, .string ⟨nn.toArray⟩, .int .i64 nk, .int .i64 np, .slice A8 ns.length c8, .int .i64 (t.at_ : Nat)] rfl ?_ Tryd.underlying54 inf_pred8) rfl ⟨A6, c6, A8, c8, by rw [HV.out]; rfl, ?_, ?_, ?_, ?_, ?_⟩
  · repeat' (first | (with_reducible first | exact HP9.out | exact HK9.out | exact HB0_9.out | exact HB1_9.out | exact HB2_9.out | exact HNd_9.out | exact HNn_9.out | apply ps_far | apply Ps.alloc | apply Ps.drew | apply kq_far | apply Fr.alloc | apply Fr.drew | apply predZ | apply declx_far | apply declx_alloc | apply nodZ0 | exact blk_new _ _ _ | apply blk_drew | apply blk_alloc | apply Blk.other | apply nodex_far | apply nodex_alloc | apply nodex_drew) | omega | (simp; done) | (simp <;> omega))
  · rw [HV.out]
    exact HLN.out
  · rw [HV.out]
    refine declx_wide (lo := w4.heap.size) (hi := w6.heap.size) ?_ (by omega) (by simp <;> omega)
    repeat' (first | (with_reducible first | exact HP9.out | exact HK9.out | exact HB0_9.out | exact HB1_9.out | exact HB2_9.out | exact HNd_9.out | exact HNn_9.out | apply ps_far | apply Ps.alloc | apply Ps.drew | apply kq_far | apply Fr.alloc | apply Fr.drew | apply predZ | apply declx_far | apply declx_alloc | apply nodZ0 | exact blk_new _ _ _ | apply blk_drew | apply blk_alloc | apply Blk.other | apply nodex_far | apply nodex_alloc | apply nodex_drew) | omega | (simp; done) | (simp <;> omega))
  · rw [HV.out]
    refine nodef_of (g := w.heap.size) (nodex_wide (lo := w7.heap.size) (hi := w8.heap.size) ?_ (by omega) (by simp <;> omega))
    repeat' (first | (with_reducible first | exact HP9.out | exact HK9.out | exact HB0_9.out | exact HB1_9.out | exact HB2_9.out | exact HNd_9.out | exact HNn_9.out | apply ps_far | apply Ps.alloc | apply Ps.drew | apply kq_far | apply Fr.alloc | apply Fr.drew | apply predZ | apply declx_far | apply declx_alloc | apply nodZ0 | exact blk_new _ _ _ | apply blk_drew | apply blk_alloc | apply Blk.other | apply nodex_far | apply nodex_alloc | apply nodex_drew) | omega | (simp; done) | (simp <;> omega))
  · rw [HV.out]
    repeat' (first | (with_reducible first | exact HP9.out | exact HK9.out | exact HB0_9.out | exact HB1_9.out | exact HB2_9.out | exact HNd_9.out | exact HNn_9.out | apply ps_far | apply Ps.alloc | apply Ps.drew | apply kq_far | apply Fr.alloc | apply Fr.drew | apply predZ | apply declx_far | apply declx_alloc | apply nodZ0 | exact blk_new _ _ _ | apply blk_drew | apply blk_alloc | apply Blk.other | apply nodex_far | apply nodex_alloc | apply nodex_drew) | omega | (simp; done) | (simp <;> omega))
  · repeat' (first | (with_reducible first | exact HP9.out | exact HK9.out | exact HB0_9.out | exact HB1_9.out | exact HB2_9.out | exact HNd_9.out | exact HNn_9.out | apply ps_far | apply Ps.alloc | apply Ps.drew | apply kq_far | apply Fr.alloc | apply Fr.drew | apply predZ | apply declx_far | apply declx_alloc | apply nodZ0 | exact blk_new _ _ _ | apply blk_drew | apply blk_alloc | apply Blk.other | apply nodex_far | apply nodex_alloc | apply nodex_drew) | omega | (simp; done) | (simp <;> omega))
end Go.Proofs.YteikakoheibnjaaDoor
namespace Go.Proofs.YteikakoheibnjaaDoor
open Go

theorem flat_take_le (R : List Ru) (k : Nat) : (flat (R.take k)).length ≤ (flat R).length := by
 have := congrArg (fun l => (flat l).length) (List.take_append_drop k R)
 simp only [flat_app, List.length_append] at this
 omega
theorem flat_drop_le (R : List Ru) (k : Nat) : (flat (R.take k)).length + (flat (R.drop k)).length = (flat R).length := by
 have := congrArg (fun l => (flat l).length) (List.take_append_drop k R)
 simpa only [flat_app, List.length_append] using this
theorem tokR_small {p : Nat} {R : List Ru} {t : Tok} {n : Nat} (h : tokR p R = some (t, n)) : t.kind ≤ 3 ∧ (t.text.length ≤ 3 ∨ t.text.length ≤ (flat R).length) ∧ t.n ≤ 99 ∧ t.at_ = p := by
 cases R with
 | nil => simp [tokR] at h
 | cons r R =>
   unfold tokR at h
   dsimp only at h
   split at h
   · split at h
     · injection h with h
       injection h with h _
       subst h
       refine ⟨?_, Or.inr (flat_take_le _ _), Nat.zero_le _, rfl⟩
       simp only
       split <;> decide
     · cases h
   · split at h
     · split at h
       · next hh =>
         injection h with h
         injection h with h _
         subst h
         exact ⟨(by decide : (2 : Nat) ≤ 3), Or.inl (by decide : (0 : Nat) ≤ 3), hh.1, rfl⟩
       · cases h
     · split at h
       · next s hs =>
         injection h with h
         injection h with h _
         subst h
         exact ⟨(by decide : (3 : Nat) ≤ 3), Or.inl (sign_pos (List.mem_of_find?_eq_some hs)).2, Nat.zero_le _, rfl⟩
       · cases h
theorem toks_small : ∀ (n : Nat) (R : List Ru) (p : Nat), R.length ≤ n → (toks R p).1.length ≤ R.length ∧ ∀ t ∈ (toks R p).1, t.kind ≤ 3 ∧ (t.text.length ≤ 3 ∨ t.text.length ≤ (flat R).length) ∧ t.n ≤ 99 ∧ t.at_ ≤ p + (flat R).length := by
 intro n
 induction n with
 | zero =>
   intro R p h
   have : R = [] := List.eq_nil_of_length_eq_zero (by omega)
   subst this
   rw [toks_eq, if_pos (by simp)]
   exact ⟨Nat.le_refl _, by simp⟩
 | succ n ih =>
   intro R p h
   rw [toks_eq]
   split
   · exact ⟨Nat.zero_le _, by simp⟩
   · next hne =>
     split
     · exact ⟨Nat.zero_le _, by simp⟩
     · next t k hk =>
       have h1 := tokR_len hk
       have h2 := skipM_le R false
       rw [List.length_drop] at h1
       obtain ⟨s1, s2, s3, s4⟩ := tokR_small hk
       have f1 := flat_drop_le R (skipM false R)
       have f2 := flat_drop_le (R.drop (skipM false R)) k
       obtain ⟨i1, i2⟩ := ih ((R.drop (skipM false R)).drop k) (p + (flat (R.take (skipM false R))).length + (flat ((R.drop (skipM false R)).take k)).length) (by simp; omega)
       refine ⟨?_, fun x hx => ?_⟩
       · simp only [List.length_cons, List.length_drop] at i1 ⊢
         omega
       · rcases List.mem_cons.1 hx with rfl | hx
         · exact ⟨s1, s2.imp id (fun hh => by omega), s3, by omega⟩
         · obtain ⟨a1, a2, a3, a4⟩ := i2 x hx
           exact ⟨a1, a2.imp id (fun hh => by omega), a3, by omega⟩
theorem tokens_small {s : List UInt8} (h : (tokens s).2.2 = 0) : 0 < (tokens s).1.length ∧ (tokens s).1.length ≤ 2001 ∧ (∀ j (hj : j < (tokens s).1.length), (tokens s).1[j].kind ≠ 4 → j + 1 < (tokens s).1.length) ∧
  ∀ t ∈ (tokens s).1, t.kind ≤ 4 ∧ t.text.length ≤ 2000 ∧ t.n ≤ 99 ∧ t.at_ ≤ 2000 := by
 have e : tokens s = ((toks (each s).1 0).1 ++ [⟨4, [], 0, s.length⟩], s.length, 0) ∧ s.length ≤ 2000 := by
  unfold tokens at h ⊢
  split at h
  · simp at h
  · next hl =>
    rw [if_neg hl]
    split at h
    · simp at h
    · split at h
      · simp at h
      · next hb =>
        rw [if_neg hb]
        exact ⟨rfl, by omega⟩
 obtain ⟨e, hl⟩ := e
 have h1 := toks_small _ (each s).1 0 (Nat.le_refl _)
 have h2 := each_len s
 obtain ⟨rest, e2, _⟩ := each_flat s
 have h3 : (flat (each s).1).length ≤ s.length := by
  have := congrArg List.length e2
  rw [List.length_append] at this
  omega
 rw [e]
 simp only
 generalize (toks (each s).1 0).1 = ts at *
 refine ⟨by simp, by simp; omega, fun j hj hk => ?_, fun t ht => ?_⟩
 · rw [List.length_append, List.length_singleton] at hj ⊢
   by_cases hjl : j < ts.length
   · omega
   · exfalso
     apply hk
     rw [List.getElem_append_right (by omega)]
     simp
 · rcases List.mem_append.1 ht with ht | ht
   · obtain ⟨a1, a2, a3, a4⟩ := h1.2 t ht
     exact ⟨by omega, by omega, by omega, by omega⟩
   · simp only [List.mem_singleton] at ht
     subst ht
     exact ⟨Nat.le_refl _, (by decide : (0 : Nat) ≤ 2000), (by decide : (0 : Nat) ≤ 99), hl⟩
end Go.Proofs.YteikakoheibnjaaDoor
