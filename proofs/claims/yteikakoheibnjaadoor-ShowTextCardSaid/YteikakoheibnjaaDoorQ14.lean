/- Parts of the proof: PPart. -/
import Derived.Test.YteikakoheibnjaaDoorQ13
namespace Go.Proofs.YteikakoheibnjaaDoor
open Go Go.RowKit

abbrev NodeF (w : World) (lo hi : Nat) (t : Node) (A : Option Addr) (cap : Nat) : Prop := NodeS w (fun b => lo ≤ b ∧ b < hi) t A cap
section
variable {w w' : World} {lo hi lo' hi' g q : Nat} {t : Node} {A : Option Addr} {cap : Nat}
theorem nodef_turn (h : NodeF w lo hi t A cap) (hk : ∀ b, lo ≤ b → b < hi → w'.heap[b]? = w.heap[b]?) : NodeF w' lo hi t A cap :=
 NodeS.turn (fun p hp => World.cell?_of_block (hk p.block hp.1 hp.2)) (fun _ hb => hb) t A cap h
theorem nodef_wide (h : NodeF w lo hi t A cap) (h1 : lo' ≤ lo) (h2 : hi ≤ hi') : NodeF w lo' hi' t A cap :=
 NodeS.turn (fun _ _ => rfl) (fun _ hb => ⟨Nat.le_trans h1 hb.1, Nat.lt_of_lt_of_le hb.2 h2⟩) t A cap h
theorem nodef_far (h : NodeF w lo hi t A cap) (hg : g < lo ∨ hi ≤ g) (o : Nat) (u : Value) : NodeF (w.setCell ⟨g, o, none⟩ u) lo hi t A cap := nodef_turn h fun b hb hb2 => Below.heap_setCell w ⟨g, o, none⟩ u b (by show b ≠ g; omega)
theorem nodef_alloc (h : NodeF w lo hi t A cap) (h2 : hi ≤ w.heap.size) (o : Obj) : NodeF (w.alloc o) lo hi t A cap := nodef_turn h fun b _ hb2 => Below.heap_alloc w o b (by omega)
theorem nodef_drew (h : NodeF w lo hi t A cap) : NodeF w.drew lo hi t A cap := nodef_turn h fun _ _ _ => rfl
theorem NodeS.dress {S : Nat → Prop} {o s o' s' : List UInt8} {n p n' p' : Int} {ks : List Node} (h : NodeS w S (.node o s n p ks) A cap) (ho : o'.length ≤ 140737488355328) (hs : s'.length ≤ 140737488355328) : NodeS w S (.node o' s' n' p' ks) A cap := by
 unfold NodeS at h ⊢
 exact ⟨ho, hs, h.2.2⟩
theorem NodeS.caps {S : Nat → Prop} (h : NodeS w S t A cap) : t.op.length ≤ 140737488355328 ∧ t.name.length ≤ 140737488355328 ∧ t.kids.length ≤ cap ∧ t.kids.length ≤ 140737488355328 := by
 obtain ⟨o, s, n, p, ks⟩ := t
 unfold NodeS at h
 exact ⟨h.1, h.2.1, h.2.2.1, h.2.2.2.1⟩
theorem blk_drew {g : Nat} {t : TypeId} {cs : Array Value} (h : Blk w g t cs) : Blk w.drew g t cs := h
end
def NPost (w : World) (q : Nat) (A : Option Addr) (c : Nat) (l : List Tok) (r : Node × PS) (e : Ending) (w' : World) : Prop := ∃ A' c', e = .returned (nodeT r.1 A' c') ∧ NodeF w' w.heap.size w'.heap.size r.1 A' c' ∧ Ps w' q A c l r.2 ∧ Kq q w w'
def KPost (w : World) (q : Nat) (A : Option Addr) (c : Nat) (l : List Tok) (r : List Node × PS) (e : Ending) (w' : World) : Prop := ∃ A' c', e = .returned (.slice A' r.1.length c') ∧ NodeF w' w.heap.size w'.heap.size (.node [] [] 0 0 r.1) A' c' ∧ Ps w' q A c l r.2 ∧ Kq q w w'
theorem inf_node5 : (Tryd.prog.info? 24).map (·.size) = some 5 := by kernel_rfl
theorem blk5 {W : World} {g : Nat} {t : TypeId} {c0 c1 c2 c3 c4 : Value} (h : Blk W g t #[c0, c1, c2, c3, c4]) : W.cell? ⟨g, 0, none⟩ = some c0 ∧ W.cell? ⟨g, 1, none⟩ = some c1 ∧ W.cell? ⟨g, 2, none⟩ = some c2 ∧ W.cell? ⟨g, 3, none⟩ = some c3 ∧ W.cell? ⟨g, 4, none⟩ = some c4 :=
 ⟨h.cell 0, h.cell 1, h.cell 2, h.cell 3, h.cell 4⟩
theorem blk5f {W : World} {g : Nat} {t : TypeId} {c0 c1 c2 c3 c4 : Value} (h : Blk W g t #[c0, c1, c2, c3, c4]) : W.frozen? ⟨g, 0, none⟩ = false ∧ W.frozen? ⟨g, 1, none⟩ = false ∧ W.frozen? ⟨g, 2, none⟩ = false ∧ W.frozen? ⟨g, 3, none⟩ = false ∧ W.frozen? ⟨g, 4, none⟩ = false :=
 ⟨h.frozen 0, h.frozen 1, h.frozen 2, h.frozen 3, h.frozen 4⟩
theorem nodZ {w : World} {g : Nat} {x0 x1 x2 x3 x4 : Value} (h : Blk w g 24 #[x0, x1, x2, x3, x4]) (y0 y1 y2 y3 y4 : Value) :
  Blk (((((w.setCell ⟨g, 0, none⟩ y0).setCell ⟨g, 1, none⟩ y1).setCell ⟨g, 2, none⟩ y2).setCell ⟨g, 3, none⟩ y3).setCell ⟨g, 4, none⟩ y4) g 24 #[y0, y1, y2, y3, y4] := by
 have := ((((h.set_ 0 y0).set_ 1 y1).set_ 2 y2).set_ 3 y3).set_ 4 y4
 simpa using this
theorem nodZ0 {w : World} {g : Nat} (h : Blk w g 24 zN) (y0 y1 y2 y3 y4 : Value) :
  Blk (((((w.setCell ⟨g, 0, none⟩ y0).setCell ⟨g, 1, none⟩ y1).setCell ⟨g, 2, none⟩ y2).setCell ⟨g, 3, none⟩ y3).setCell ⟨g, 4, none⟩ y4) g 24 #[y0, y1, y2, y3, y4] := nodZ h y0 y1 y2 y3 y4
theorem kq5 {q g : Nat} {a w : World} (h : Kq q a w) (hg : a.heap.size ≤ g) (y0 y1 y2 y3 y4 : Value) : Kq q a (((((w.setCell ⟨g, 0, none⟩ y0).setCell ⟨g, 1, none⟩ y1).setCell ⟨g, 2, none⟩ y2).setCell ⟨g, 3, none⟩ y3).setCell ⟨g, 4, none⟩ y4) :=
 kq_far (kq_far (kq_far (kq_far (kq_far h hg _ _) hg _ _) hg _ _) hg _ _) hg _ _
theorem ps5 {w : World} {q g : Nat} {A : Option Addr} {c : Nat} {l : List Tok} {s : PS} (h : Ps w q A c l s) (hg : q < g) (y0 y1 y2 y3 y4 : Value) : Ps (((((w.setCell ⟨g, 0, none⟩ y0).setCell ⟨g, 1, none⟩ y1).setCell ⟨g, 2, none⟩ y2).setCell ⟨g, 3, none⟩ y3).setCell ⟨g, 4, none⟩ y4) q A c l s :=
 ps_far (ps_far (ps_far (ps_far (ps_far h hg _ _) hg _ _) hg _ _) hg _ _) hg _ _
theorem blk_new (w : World) (t : TypeId) (cs : Array Value) : Blk (w.alloc (.cells cs t)) w.heap.size t cs := heap_alloc_new w _
theorem blk_new_at {w : World} {g : Nat} {t : TypeId} {cs : Array Value} (h : g = w.heap.size) : Blk (w.alloc (.cells cs t)) g t cs := by
 subst h
 exact heap_alloc_new w _
theorem calls_at {f : FuncId} {args : Array Value} {W0 : World} {Q2 : Ending → World → Prop} (R : World → Prop) {Q : World → Ending → World → Prop} (hC : ∀ W, R W → Calls Tryd.prog f args W (Q W)) (hR : R W0) (h : ∀ W, R W → ∀ e w', Q W e w' → Q2 e w') : Calls Tryd.prog f args W0 Q2 :=
 (hC W0 hR).mono (h W0 hR)
set_option maxRecDepth 100000 in
set_option maxHeartbeats 2000000 in
theorem ppart_var {w : World} {q : Nat} {A : Option Addr} {c : Nat} {l : List Tok} {s : PS} (h : Ps w q A c l s) (within : Bool) (hk : (nowP l s).kind = 1) (ha : (takeP l (nextP l s) [43]).1 = false) :
  Calls Tryd.prog 161 #[.pointer (some ⟨q, 0, none⟩), .bool within] w (NPost w q A c l (partName l s)) := by
 have HP0 := Lib.hid h
 have hq := h.qlt
 have HN := Lib.hid (fun W (hW : Ps W q A c l s) => pnow_any hW)
 have HX := Lib.hid (fun W (hW : Ps W q A c l s) => pnext_any hW)
 have HT := Lib.hid (fun W (hW : Ps W q A c l (nextP l s)) => ptake_any hW [43])
 have hsm := h.now_small
 have HV := Lib.hid (show partName l s = (.node nVar (nowP l s).text 0 (nowP l s).at_ [], (takeP l (nextP l s) [43]).2) by unfold partName; simp only; rw [ha]; rfl)
 clear h
 rw [ha] at HT
 generalize partName l s = V at *
 generalize takeP l (nextP l s) [43] = ta at *
 generalize nextP l s = s2 at *
 generalize nowP l s = t at *
 obtain ⟨tb, s3⟩ := ta
 unfold tokV at HN HX
 have g1 : ((t.kind : Int) == 1) = true := by rw [hk]; rfl
 clear ha hk
 go_enter Tryd.func161, Tryd.ntmps161
 go_wp2_with (first
   | (
     go_at_call 46
     refine calls_at (fun W => Ps W q A c l s ∧ Kq q w W ∧ w.heap.size + 1 ≤ W.heap.size ∧ Blk W (w.heap.size) 24 zN) (fun W hW => HN.out W hW.1) ?_ ?_
     · refine ⟨?_, ?_, ?_, ?_⟩
       all_goals repeat' (first | (with_reducible first | exact HP0.out | exact HK0.out | exact HB0_0.out | exact Fr.refl _ _ | apply ps_far | apply Ps.alloc | apply Ps.drew | apply Fr.drew | apply blk_drew | apply kq_far | apply Fr.alloc | apply tokZ | apply nodZ0 | exact blk_new _ _ _ | apply blk_alloc | apply Blk.other) | omega | (simp; done) | (simp <;> omega))
     rintro W ⟨hp, hk, hlo, hb0⟩
     rintro e w1 ⟨rfl, hb⟩
     have hfr := Kq.of_below (q := q) hb
     have hp2 := hp.below hb
     have hsz := hfr.size
     have hmo1 : w.heap.size + 1 ≤ w1.heap.size := Nat.le_trans hlo hsz
     have hqs : q < w1.heap.size := hp2.qlt
     have hl0 := hb0.lt
     have ht0 : Blk w1 (w.heap.size) 24 zN := hfr.blk hb0 (by omega)
     have hl1_0 : w.heap.size < w1.heap.size := ht0.lt
     obtain ⟨r1_0_0, r1_0_1, r1_0_2, r1_0_3, r1_0_4⟩ := blk5 ht0
     obtain ⟨y1_0_0, y1_0_1, y1_0_2, y1_0_3, y1_0_4⟩ := blk5f ht0
     have HB0_1 := Lib.hid ht0
     have HP1 := Lib.hid hp2
     have HK1 := Lib.hid (hk.trans hfr)
     clear hp hk hp2 hfr hsz hlo hb0 hl0 ht0 hb)
   | (
     go_at_call 72
     refine calls_at (fun W => Ps W q A c l s ∧ Kq q w W ∧ w1.heap.size + 1 ≤ W.heap.size ∧ Blk W (w.heap.size) 24 zN ∧ Blk W (w1.heap.size) 80 (tC t)) (fun W hW => HX.out W hW.1) ?_ ?_
     · refine ⟨?_, ?_, ?_, ?_, ?_⟩
       all_goals repeat' (first | (with_reducible first | exact HP1.out | exact HK1.out | exact HB0_1.out | exact HB1_1.out | exact Fr.refl _ _ | apply ps_far | apply Ps.alloc | apply Ps.drew | apply Fr.drew | apply blk_drew | apply kq_far | apply Fr.alloc | apply tokZ | apply nodZ0 | exact blk_new _ _ _ | apply blk_alloc | apply Blk.other) | omega | (simp; done) | (simp <;> omega))
     rintro W ⟨hp, hk, hlo, hb0, hb1⟩
     intro e w2 hpost
     obtain ⟨rfl, hp2, hfr⟩ := hpost
     have hsz := hfr.size
     have hmo2 : w1.heap.size + 1 ≤ w2.heap.size := Nat.le_trans hlo hsz
     have hqs : q < w2.heap.size := hp2.qlt
     have hl0 := hb0.lt
     have ht0 : Blk w2 (w.heap.size) 24 zN := hfr.blk hb0 (by omega)
     have hl2_0 : w.heap.size < w2.heap.size := ht0.lt
     obtain ⟨r2_0_0, r2_0_1, r2_0_2, r2_0_3, r2_0_4⟩ := blk5 ht0
     obtain ⟨y2_0_0, y2_0_1, y2_0_2, y2_0_3, y2_0_4⟩ := blk5f ht0
     have HB0_2 := Lib.hid ht0
     have hl1 := hb1.lt
     have ht1 : Blk w2 (w1.heap.size) 80 (tC t) := hfr.blk hb1 (by omega)
     have hl2_1 : w1.heap.size < w2.heap.size := ht1.lt
     obtain ⟨r2_1_0, r2_1_1, r2_1_2, r2_1_3⟩ := blk4 ht1
     obtain ⟨y2_1_0, y2_1_1, y2_1_2, y2_1_3⟩ := blk4f ht1
     have HB1_2 := Lib.hid ht1
     have HP2 := Lib.hid hp2
     have HK2 := Lib.hid (hk.trans hfr)
     clear hp hk hp2 hfr hsz hlo hb0 hl0 ht0 hb1 hl1 ht1
     clear r1_0_0 r1_0_1 r1_0_2 r1_0_3 r1_0_4 y1_0_0 y1_0_1 y1_0_2 y1_0_3 y1_0_4 hl1_0)
   | (
     go_at_call 75
     refine calls_at (fun W => Ps W q A c l s2 ∧ Kq q w W ∧ w2.heap.size + 1 ≤ W.heap.size ∧ Blk W (w.heap.size) 24 zN ∧ Blk W (w1.heap.size) 80 (tC t) ∧ Blk W (w2.heap.size) 24 #[.string ⟨#[118, 97, 114]⟩, .string ⟨t.text.toArray⟩, .int .i64 0, .int .i64 (t.at_ : Nat), .slice none 0 0]) (fun W hW => HT.out W hW.1) ?_ ?_
     · refine ⟨?_, ?_, ?_, ?_, ?_, ?_⟩
       all_goals repeat' (first | (with_reducible first | exact HP2.out | exact HK2.out | exact HB0_2.out | exact HB1_2.out | exact HB2_2.out | exact Fr.refl _ _ | apply ps_far | apply Ps.alloc | apply Ps.drew | apply Fr.drew | apply blk_drew | apply kq_far | apply Fr.alloc | apply tokZ | apply nodZ0 | exact blk_new _ _ _ | apply blk_alloc | apply Blk.other) | omega | (simp; done) | (simp <;> omega))
     rintro W ⟨hp, hk, hlo, hb0, hb1, hb2⟩
     intro e w3 hpost
     obtain ⟨rfl, hp2, hfr⟩ := hpost
     have hsz := hfr.size
     have hmo3 : w2.heap.size + 1 ≤ w3.heap.size := Nat.le_trans hlo hsz
     have hqs : q < w3.heap.size := hp2.qlt
     have hl0 := hb0.lt
     have ht0 : Blk w3 (w.heap.size) 24 zN := hfr.blk hb0 (by omega)
     have hl3_0 : w.heap.size < w3.heap.size := ht0.lt
     obtain ⟨r3_0_0, r3_0_1, r3_0_2, r3_0_3, r3_0_4⟩ := blk5 ht0
     obtain ⟨y3_0_0, y3_0_1, y3_0_2, y3_0_3, y3_0_4⟩ := blk5f ht0
     have HB0_3 := Lib.hid ht0
     have hl1 := hb1.lt
     have ht1 : Blk w3 (w1.heap.size) 80 (tC t) := hfr.blk hb1 (by omega)
     have hl3_1 : w1.heap.size < w3.heap.size := ht1.lt
     obtain ⟨r3_1_0, r3_1_1, r3_1_2, r3_1_3⟩ := blk4 ht1
     obtain ⟨y3_1_0, y3_1_1, y3_1_2, y3_1_3⟩ := blk4f ht1
     have HB1_3 := Lib.hid ht1
     have hl2 := hb2.lt
     have ht2 : Blk w3 (w2.heap.size) 24 #[.string ⟨#[118, 97, 114]⟩, .string ⟨t.text.toArray⟩, .int .i64 0, .int .i64 (t.at_ : Nat), .slice none 0 0] := hfr.blk hb2 (by omega)
     have hl3_2 : w2.heap.size < w3.heap.size := ht2.lt
     obtain ⟨r3_2_0, r3_2_1, r3_2_2, r3_2_3, r3_2_4⟩ := blk5 ht2
     obtain ⟨y3_2_0, y3_2_1, y3_2_2, y3_2_3, y3_2_4⟩ := blk5f ht2
     have HB2_3 := Lib.hid ht2
     have HP3 := Lib.hid hp2
     have HK3 := Lib.hid (hk.trans hfr)
     clear hp hk hp2 hfr hsz hlo hb0 hl0 ht0 hb1 hl1 ht1 hb2 hl2 ht2
     clear r2_0_0 r2_0_1 r2_0_2 r2_0_3 r2_0_4 y2_0_0 y2_0_1 y2_0_2 y2_0_3 y2_0_4 hl2_0 r2_1_0 r2_1_1 r2_1_2 r2_1_3 y2_1_0 y2_1_1 y2_1_2 y2_1_3 hl2_1))
 all_goals
  refine bodyPost_ret (res_one (by rfl) _ _ w.heap.size #[.string ⟨#[118, 97, 114]⟩, .string ⟨t.text.toArray⟩, .int .i64 0, .int .i64 (t.at_ : Nat), .slice none 0 0] rfl ?_ Tryd.underlying24 inf_node5) rfl ⟨none, 0, by rw [HV.out]; rfl, ?_, ?_, ?_⟩
  · repeat' (first | (with_reducible first | exact HP3.out | exact HK3.out | exact HB0_3.out | exact HB1_3.out | exact HB2_3.out | apply ps_far | apply Ps.alloc | apply Ps.drew | apply kq_far | apply Fr.alloc | apply Fr.drew | apply nodZ0 | exact blk_new _ _ _ | apply blk_drew | apply blk_alloc | apply Blk.other) | omega | (simp <;> omega))
  · rw [HV.out]
    exact NodeS.leaf _ _ _ _ _ _ (by decide) (by have := hsm.2.1; omega) _
  · rw [HV.out]
    repeat' (first | (with_reducible first | exact HP3.out | exact HK3.out | exact HB0_3.out | exact HB1_3.out | exact HB2_3.out | apply ps_far | apply Ps.alloc | apply Ps.drew | apply kq_far | apply Fr.alloc | apply Fr.drew | apply nodZ0 | exact blk_new _ _ _ | apply blk_drew | apply blk_alloc | apply Blk.other) | omega | (simp <;> omega))
  · repeat' (first | (with_reducible first | exact HP3.out | exact HK3.out | exact HB0_3.out | exact HB1_3.out | exact HB2_3.out | apply ps_far | apply Ps.alloc | apply Ps.drew | apply kq_far | apply Fr.alloc | apply Fr.drew | apply nodZ0 | exact blk_new _ _ _ | apply blk_drew | apply blk_alloc | apply Blk.other) | omega | (simp <;> omega))
set_option maxRecDepth 100000 in
set_option maxHeartbeats 2000000 in
theorem ppart_bad1 {w : World} {q : Nat} {A : Option Addr} {c : Nat} {l : List Tok} {s : PS} (h : Ps w q A c l s) (within : Bool) (hk : (nowP l s).kind = 1) (ha : (takeP l (nextP l s) [43]).1 = true) (hk2 : (nowP l (takeP l (nextP l s) [43]).2).kind ≠ 2) :
  Calls Tryd.prog 161 #[.pointer (some ⟨q, 0, none⟩), .bool within] w (NPost w q A c l (partName l s)) := by
 have HP0 := Lib.hid h
 have hq := h.qlt
 have HN := Lib.hid (fun W (hW : Ps W q A c l s) => pnow_any hW)
 have HX := Lib.hid (fun W (hW : Ps W q A c l s) => pnext_any hW)
 have hsm := h.now_small
 have HT := Lib.hid (fun W (hW : Ps W q A c l (nextP l s)) => ptake_any hW [43])
 have HV := Lib.hid (show partName l s = (.node nVar (nowP l s).text 0 (nowP l s).at_ [], failP (takeP l (nextP l s) [43]).2 (nowP l (takeP l (nextP l s) [43]).2).at_ 2) by
  unfold partName
  simp only
  rw [ha, if_pos rfl, if_pos (by first | exact Or.inl hk2 | exact Or.inr hk3)])
 clear h
 rw [ha] at HT
 generalize partName l s = V at *
 generalize takeP l (nextP l s) [43] = ta at *
 generalize nextP l s = s2 at *
 generalize nowP l s = t at *
 obtain ⟨tb, s3⟩ := ta
 simp only at HT HV hk2
 have HN3 := Lib.hid (fun W (hW : Ps W q A c l s3) => pnow_any hW)
 have HF := Lib.hid (fun W (hW : Ps W q A c l s3) => pfail_any hW (nowP l s3).at_ 2 hW.now_small.2.2.2 (by decide))
 try simp only at hk3
 generalize nowP l s3 = t2 at *
 generalize failP s3 t2.at_ 2 = s4 at *
 unfold tokV at HN HX HN3
 have g1 : ((t.kind : Int) == 1) = true := by rw [hk]; rfl
 have g2 : ((t2.kind : Int) != 2) = true := by simp; omega
 clear ha hk hk2
 try clear hk3
 go_enter Tryd.func161, Tryd.ntmps161
 go_wp2_with (first
   | (
     go_at_call 46
     refine calls_at (fun W => Ps W q A c l s ∧ Kq q w W ∧ w.heap.size + 1 ≤ W.heap.size ∧ Blk W (w.heap.size) 24 zN) (fun W hW => HN.out W hW.1) ?_ ?_
     · refine ⟨?_, ?_, ?_, ?_⟩
       all_goals repeat' (first | (with_reducible first | exact HP0.out | exact HK0.out | exact HB0_0.out | exact Fr.refl _ _ | apply ps_far | apply Ps.alloc | apply Ps.drew | apply Fr.drew | apply blk_drew | apply kq_far | apply Fr.alloc | apply tokZ | apply nodZ0 | exact blk_new _ _ _ | apply blk_alloc | apply Blk.other) | omega | (simp; done) | (simp <;> omega))
     rintro W ⟨hp, hk, hlo, hb0⟩
     rintro e w1 ⟨rfl, hb⟩
     have hfr := Kq.of_below (q := q) hb
     have hp2 := hp.below hb
     have hsz := hfr.size
     have hmo1 : w.heap.size + 1 ≤ w1.heap.size := Nat.le_trans hlo hsz
     have hqs : q < w1.heap.size := hp2.qlt
     have hl0 := hb0.lt
     have ht0 : Blk w1 (w.heap.size) 24 zN := hfr.blk hb0 (by omega)
     have hl1_0 : w.heap.size < w1.heap.size := ht0.lt
     obtain ⟨r1_0_0, r1_0_1, r1_0_2, r1_0_3, r1_0_4⟩ := blk5 ht0
     obtain ⟨y1_0_0, y1_0_1, y1_0_2, y1_0_3, y1_0_4⟩ := blk5f ht0
     have HB0_1 := Lib.hid ht0
     have HP1 := Lib.hid hp2
     have HK1 := Lib.hid (hk.trans hfr)
     clear hp hk hp2 hfr hsz hlo hb0 hl0 ht0 hb)
   | (
     go_at_call 72
     refine calls_at (fun W => Ps W q A c l s ∧ Kq q w W ∧ w1.heap.size + 1 ≤ W.heap.size ∧ Blk W (w.heap.size) 24 zN ∧ Blk W (w1.heap.size) 80 (tC t)) (fun W hW => HX.out W hW.1) ?_ ?_
     · refine ⟨?_, ?_, ?_, ?_, ?_⟩
       all_goals repeat' (first | (with_reducible first | exact HP1.out | exact HK1.out | exact HB0_1.out | exact HB1_1.out | exact Fr.refl _ _ | apply ps_far | apply Ps.alloc | apply Ps.drew | apply Fr.drew | apply blk_drew | apply kq_far | apply Fr.alloc | apply tokZ | apply nodZ0 | exact blk_new _ _ _ | apply blk_alloc | apply Blk.other) | omega | (simp; done) | (simp <;> omega))
     rintro W ⟨hp, hk, hlo, hb0, hb1⟩
     intro e w2 hpost
     obtain ⟨rfl, hp2, hfr⟩ := hpost
     have hsz := hfr.size
     have hmo2 : w1.heap.size + 1 ≤ w2.heap.size := Nat.le_trans hlo hsz
     have hqs : q < w2.heap.size := hp2.qlt
     have hl0 := hb0.lt
     have ht0 : Blk w2 (w.heap.size) 24 zN := hfr.blk hb0 (by omega)
     have hl2_0 : w.heap.size < w2.heap.size := ht0.lt
     obtain ⟨r2_0_0, r2_0_1, r2_0_2, r2_0_3, r2_0_4⟩ := blk5 ht0
     obtain ⟨y2_0_0, y2_0_1, y2_0_2, y2_0_3, y2_0_4⟩ := blk5f ht0
     have HB0_2 := Lib.hid ht0
     have hl1 := hb1.lt
     have ht1 : Blk w2 (w1.heap.size) 80 (tC t) := hfr.blk hb1 (by omega)
     have hl2_1 : w1.heap.size < w2.heap.size := ht1.lt
     obtain ⟨r2_1_0, r2_1_1, r2_1_2, r2_1_3⟩ := blk4 ht1
     obtain ⟨y2_1_0, y2_1_1, y2_1_2, y2_1_3⟩ := blk4f ht1
     have HB1_2 := Lib.hid ht1
     have HP2 := Lib.hid hp2
     have HK2 := Lib.hid (hk.trans hfr)
     clear hp hk hp2 hfr hsz hlo hb0 hl0 ht0 hb1 hl1 ht1
     clear r1_0_0 r1_0_1 r1_0_2 r1_0_3 r1_0_4 y1_0_0 y1_0_1 y1_0_2 y1_0_3 y1_0_4 hl1_0)
   | (
     go_at_call 75
     refine calls_at (fun W => Ps W q A c l s2 ∧ Kq q w W ∧ w2.heap.size + 1 ≤ W.heap.size ∧ Blk W (w.heap.size) 24 zN ∧ Blk W (w1.heap.size) 80 (tC t) ∧ Blk W (w2.heap.size) 24 #[.string ⟨#[118, 97, 114]⟩, .string ⟨t.text.toArray⟩, .int .i64 0, .int .i64 (t.at_ : Nat), .slice none 0 0]) (fun W hW => HT.out W hW.1) ?_ ?_
     · refine ⟨?_, ?_, ?_, ?_, ?_, ?_⟩
       all_goals repeat' (first | (with_reducible first | exact HP2.out | exact HK2.out | exact HB0_2.out | exact HB1_2.out | exact HB2_2.out | exact Fr.refl _ _ | apply ps_far | apply Ps.alloc | apply Ps.drew | apply Fr.drew | apply blk_drew | apply kq_far | apply Fr.alloc | apply tokZ | apply nodZ0 | exact blk_new _ _ _ | apply blk_alloc | apply Blk.other) | omega | (simp; done) | (simp <;> omega))
     rintro W ⟨hp, hk, hlo, hb0, hb1, hb2⟩
     intro e w3 hpost
     obtain ⟨rfl, hp2, hfr⟩ := hpost
     have hsz := hfr.size
     have hmo3 : w2.heap.size + 1 ≤ w3.heap.size := Nat.le_trans hlo hsz
     have hqs : q < w3.heap.size := hp2.qlt
     have hl0 := hb0.lt
     have ht0 : Blk w3 (w.heap.size) 24 zN := hfr.blk hb0 (by omega)
     have hl3_0 : w.heap.size < w3.heap.size := ht0.lt
     obtain ⟨r3_0_0, r3_0_1, r3_0_2, r3_0_3, r3_0_4⟩ := blk5 ht0
     obtain ⟨y3_0_0, y3_0_1, y3_0_2, y3_0_3, y3_0_4⟩ := blk5f ht0
     have HB0_3 := Lib.hid ht0
     have hl1 := hb1.lt
     have ht1 : Blk w3 (w1.heap.size) 80 (tC t) := hfr.blk hb1 (by omega)
     have hl3_1 : w1.heap.size < w3.heap.size := ht1.lt
     obtain ⟨r3_1_0, r3_1_1, r3_1_2, r3_1_3⟩ := blk4 ht1
     obtain ⟨y3_1_0, y3_1_1, y3_1_2, y3_1_3⟩ := blk4f ht1
     have HB1_3 := Lib.hid ht1
     have hl2 := hb2.lt
     have ht2 : Blk w3 (w2.heap.size) 24 #[.string ⟨#[118, 97, 114]⟩, .string ⟨t.text.toArray⟩, .int .i64 0, .int .i64 (t.at_ : Nat), .slice none 0 0] := hfr.blk hb2 (by omega)
     have hl3_2 : w2.heap.size < w3.heap.size := ht2.lt
     obtain ⟨r3_2_0, r3_2_1, r3_2_2, r3_2_3, r3_2_4⟩ := blk5 ht2
     obtain ⟨y3_2_0, y3_2_1, y3_2_2, y3_2_3, y3_2_4⟩ := blk5f ht2
     have HB2_3 := Lib.hid ht2
     have HP3 := Lib.hid hp2
     have HK3 := Lib.hid (hk.trans hfr)
     clear hp hk hp2 hfr hsz hlo hb0 hl0 ht0 hb1 hl1 ht1 hb2 hl2 ht2
     clear r2_0_0 r2_0_1 r2_0_2 r2_0_3 r2_0_4 y2_0_0 y2_0_1 y2_0_2 y2_0_3 y2_0_4 hl2_0 r2_1_0 r2_1_1 r2_1_2 r2_1_3 y2_1_0 y2_1_1 y2_1_2 y2_1_3 hl2_1)
   | (
     go_at_call 46
     refine calls_at (fun W => Ps W q A c l s3 ∧ Kq q w W ∧ w3.heap.size ≤ W.heap.size ∧ Blk W (w.heap.size) 24 zN ∧ Blk W (w1.heap.size) 80 (tC t) ∧ Blk W (w2.heap.size) 24 #[.string ⟨#[118, 97, 114]⟩, .string ⟨t.text.toArray⟩, .int .i64 0, .int .i64 (t.at_ : Nat), .slice none 0 0]) (fun W hW => HN3.out W hW.1) ?_ ?_
     · refine ⟨?_, ?_, ?_, ?_, ?_, ?_⟩
       all_goals repeat' (first | (with_reducible first | exact HP3.out | exact HK3.out | exact HB0_3.out | exact HB1_3.out | exact HB2_3.out | exact Fr.refl _ _ | apply ps_far | apply Ps.alloc | apply Ps.drew | apply Fr.drew | apply blk_drew | apply kq_far | apply Fr.alloc | apply tokZ | apply nodZ0 | exact blk_new _ _ _ | apply blk_alloc | apply Blk.other) | omega | (simp; done) | (simp <;> omega))
     rintro W ⟨hp, hk, hlo, hb0, hb1, hb2⟩
     rintro e w4 ⟨rfl, hb⟩
     have hfr := Kq.of_below (q := q) hb
     have hp2 := hp.below hb
     have hsz := hfr.size
     have hmo4 : w3.heap.size ≤ w4.heap.size := Nat.le_trans hlo hsz
     have hqs : q < w4.heap.size := hp2.qlt
     have hl0 := hb0.lt
     have ht0 : Blk w4 (w.heap.size) 24 zN := hfr.blk hb0 (by omega)
     have hl4_0 : w.heap.size < w4.heap.size := ht0.lt
     obtain ⟨r4_0_0, r4_0_1, r4_0_2, r4_0_3, r4_0_4⟩ := blk5 ht0
     obtain ⟨y4_0_0, y4_0_1, y4_0_2, y4_0_3, y4_0_4⟩ := blk5f ht0
     have HB0_4 := Lib.hid ht0
     have hl1 := hb1.lt
     have ht1 : Blk w4 (w1.heap.size) 80 (tC t) := hfr.blk hb1 (by omega)
     have hl4_1 : w1.heap.size < w4.heap.size := ht1.lt
     obtain ⟨r4_1_0, r4_1_1, r4_1_2, r4_1_3⟩ := blk4 ht1
     obtain ⟨y4_1_0, y4_1_1, y4_1_2, y4_1_3⟩ := blk4f ht1
     have HB1_4 := Lib.hid ht1
     have hl2 := hb2.lt
     have ht2 : Blk w4 (w2.heap.size) 24 #[.string ⟨#[118, 97, 114]⟩, .string ⟨t.text.toArray⟩, .int .i64 0, .int .i64 (t.at_ : Nat), .slice none 0 0] := hfr.blk hb2 (by omega)
     have hl4_2 : w2.heap.size < w4.heap.size := ht2.lt
     obtain ⟨r4_2_0, r4_2_1, r4_2_2, r4_2_3, r4_2_4⟩ := blk5 ht2
     obtain ⟨y4_2_0, y4_2_1, y4_2_2, y4_2_3, y4_2_4⟩ := blk5f ht2
     have HB2_4 := Lib.hid ht2
     have HP4 := Lib.hid hp2
     have HK4 := Lib.hid (hk.trans hfr)
     clear hp hk hp2 hfr hsz hlo hb0 hl0 ht0 hb1 hl1 ht1 hb2 hl2 ht2 hb
     clear r3_0_0 r3_0_1 r3_0_2 r3_0_3 r3_0_4 y3_0_0 y3_0_1 y3_0_2 y3_0_3 y3_0_4 hl3_0 r3_1_0 r3_1_1 r3_1_2 r3_1_3 y3_1_0 y3_1_1 y3_1_2 y3_1_3 hl3_1 r3_2_0 r3_2_1 r3_2_2 r3_2_3 r3_2_4 y3_2_0 y3_2_1 y3_2_2 y3_2_3 y3_2_4 hl3_2)
   | (
     go_at_call 47
     refine calls_at (fun W => Ps W q A c l s3 ∧ Kq q w W ∧ w4.heap.size + 1 ≤ W.heap.size ∧ Blk W (w.heap.size) 24 zN ∧ Blk W (w1.heap.size) 80 (tC t) ∧ Blk W (w2.heap.size) 24 #[.string ⟨#[118, 97, 114]⟩, .string ⟨t.text.toArray⟩, .int .i64 0, .int .i64 (t.at_ : Nat), .slice none 0 0] ∧ Blk W (w4.heap.size) 80 (tC t2)) (fun W hW => HF.out W hW.1) ?_ ?_
     · refine ⟨?_, ?_, ?_, ?_, ?_, ?_, ?_⟩
       all_goals repeat' (first | (with_reducible first | exact HP4.out | exact HK4.out | exact HB0_4.out | exact HB1_4.out | exact HB2_4.out | exact HB3_4.out | exact Fr.refl _ _ | apply ps_far | apply Ps.alloc | apply Ps.drew | apply Fr.drew | apply blk_drew | apply kq_far | apply Fr.alloc | apply tokZ | apply nodZ0 | exact blk_new _ _ _ | apply blk_alloc | apply Blk.other) | omega | (simp; done) | (simp <;> omega))
     rintro W ⟨hp, hk, hlo, hb0, hb1, hb2, hb3⟩
     intro e w5 hpost
     obtain ⟨rfl, hp2, hfr⟩ := hpost
     have hsz := hfr.size
     have hmo5 : w4.heap.size + 1 ≤ w5.heap.size := Nat.le_trans hlo hsz
     have hqs : q < w5.heap.size := hp2.qlt
     have hl0 := hb0.lt
     have ht0 : Blk w5 (w.heap.size) 24 zN := hfr.blk hb0 (by omega)
     have hl5_0 : w.heap.size < w5.heap.size := ht0.lt
     obtain ⟨r5_0_0, r5_0_1, r5_0_2, r5_0_3, r5_0_4⟩ := blk5 ht0
     obtain ⟨y5_0_0, y5_0_1, y5_0_2, y5_0_3, y5_0_4⟩ := blk5f ht0
     have HB0_5 := Lib.hid ht0
     have hl1 := hb1.lt
     have ht1 : Blk w5 (w1.heap.size) 80 (tC t) := hfr.blk hb1 (by omega)
     have hl5_1 : w1.heap.size < w5.heap.size := ht1.lt
     obtain ⟨r5_1_0, r5_1_1, r5_1_2, r5_1_3⟩ := blk4 ht1
     obtain ⟨y5_1_0, y5_1_1, y5_1_2, y5_1_3⟩ := blk4f ht1
     have HB1_5 := Lib.hid ht1
     have hl2 := hb2.lt
     have ht2 : Blk w5 (w2.heap.size) 24 #[.string ⟨#[118, 97, 114]⟩, .string ⟨t.text.toArray⟩, .int .i64 0, .int .i64 (t.at_ : Nat), .slice none 0 0] := hfr.blk hb2 (by omega)
     have hl5_2 : w2.heap.size < w5.heap.size := ht2.lt
     obtain ⟨r5_2_0, r5_2_1, r5_2_2, r5_2_3, r5_2_4⟩ := blk5 ht2
     obtain ⟨y5_2_0, y5_2_1, y5_2_2, y5_2_3, y5_2_4⟩ := blk5f ht2
     have HB2_5 := Lib.hid ht2
     have hl3 := hb3.lt
     have ht3 : Blk w5 (w4.heap.size) 80 (tC t2) := hfr.blk hb3 (by omega)
     have hl5_3 : w4.heap.size < w5.heap.size := ht3.lt
     obtain ⟨r5_3_0, r5_3_1, r5_3_2, r5_3_3⟩ := blk4 ht3
     obtain ⟨y5_3_0, y5_3_1, y5_3_2, y5_3_3⟩ := blk4f ht3
     have HB3_5 := Lib.hid ht3
     have HP5 := Lib.hid hp2
     have HK5 := Lib.hid (hk.trans hfr)
     clear hp hk hp2 hfr hsz hlo hb0 hl0 ht0 hb1 hl1 ht1 hb2 hl2 ht2 hb3 hl3 ht3
     clear r4_0_0 r4_0_1 r4_0_2 r4_0_3 r4_0_4 y4_0_0 y4_0_1 y4_0_2 y4_0_3 y4_0_4 hl4_0 r4_1_0 r4_1_1 r4_1_2 r4_1_3 y4_1_0 y4_1_1 y4_1_2 y4_1_3 hl4_1 r4_2_0 r4_2_1 r4_2_2 r4_2_3 r4_2_4 y4_2_0 y4_2_1 y4_2_2 y4_2_3 y4_2_4 hl4_2))
 all_goals
  refine bodyPost_ret (res_one (by rfl) _ _ w.heap.size #[.string ⟨#[118, 97, 114]⟩, .string ⟨t.text.toArray⟩, .int .i64 0, .int .i64 (t.at_ : Nat), .slice none 0 0] rfl ?_ Tryd.underlying24 inf_node5) rfl ⟨none, 0, by rw [HV.out]; rfl, ?_, ?_, ?_⟩
  · repeat' (first | (with_reducible first | exact HP5.out | exact HK5.out | exact HB0_5.out | exact HB1_5.out | exact HB2_5.out | exact HB3_5.out | apply ps_far | apply Ps.alloc | apply Ps.drew | apply kq_far | apply Fr.alloc | apply Fr.drew | apply nodZ0 | exact blk_new _ _ _ | apply blk_drew | apply blk_alloc | apply Blk.other) | omega | (simp <;> omega))
  · rw [HV.out]
    exact NodeS.leaf _ _ _ _ _ _ (by decide) (by have := hsm.2.1; omega) _
  · rw [HV.out]
    repeat' (first | (with_reducible first | exact HP5.out | exact HK5.out | exact HB0_5.out | exact HB1_5.out | exact HB2_5.out | exact HB3_5.out | apply ps_far | apply Ps.alloc | apply Ps.drew | apply kq_far | apply Fr.alloc | apply Fr.drew | apply nodZ0 | exact blk_new _ _ _ | apply blk_drew | apply blk_alloc | apply Blk.other) | omega | (simp <;> omega))
  · repeat' (first | (with_reducible first | exact HP5.out | exact HK5.out | exact HB0_5.out | exact HB1_5.out | exact HB2_5.out | exact HB3_5.out | apply ps_far | apply Ps.alloc | apply Ps.drew | apply kq_far | apply Fr.alloc | apply Fr.drew | apply nodZ0 | exact blk_new _ _ _ | apply blk_drew | apply blk_alloc | apply Blk.other) | omega | (simp <;> omega))
set_option maxRecDepth 100000 in
set_option maxHeartbeats 2000000 in
theorem ppart_bad2 {w : World} {q : Nat} {A : Option Addr} {c : Nat} {l : List Tok} {s : PS} (h : Ps w q A c l s) (within : Bool) (hk : (nowP l s).kind = 1) (ha : (takeP l (nextP l s) [43]).1 = true) (hk2 : (nowP l (takeP l (nextP l s) [43]).2).kind = 2) (hk3 : (nowP l (takeP l (nextP l s) [43]).2).n = 0) :
  Calls Tryd.prog 161 #[.pointer (some ⟨q, 0, none⟩), .bool within] w (NPost w q A c l (partName l s)) := by
 have HP0 := Lib.hid h
 have hq := h.qlt
 have HN := Lib.hid (fun W (hW : Ps W q A c l s) => pnow_any hW)
 have HX := Lib.hid (fun W (hW : Ps W q A c l s) => pnext_any hW)
 have hsm := h.now_small
 have HT := Lib.hid (fun W (hW : Ps W q A c l (nextP l s)) => ptake_any hW [43])
 have HV := Lib.hid (show partName l s = (.node nVar (nowP l s).text 0 (nowP l s).at_ [], failP (takeP l (nextP l s) [43]).2 (nowP l (takeP l (nextP l s) [43]).2).at_ 2) by
  unfold partName
  simp only
  rw [ha, if_pos rfl, if_pos (by first | exact Or.inl hk2 | exact Or.inr hk3)])
 clear h
 rw [ha] at HT
 generalize partName l s = V at *
 generalize takeP l (nextP l s) [43] = ta at *
 generalize nextP l s = s2 at *
 generalize nowP l s = t at *
 obtain ⟨tb, s3⟩ := ta
 simp only at HT HV hk2
 have HN3 := Lib.hid (fun W (hW : Ps W q A c l s3) => pnow_any hW)
 have HF := Lib.hid (fun W (hW : Ps W q A c l s3) => pfail_any hW (nowP l s3).at_ 2 hW.now_small.2.2.2 (by decide))
 try simp only at hk3
 generalize nowP l s3 = t2 at *
 generalize failP s3 t2.at_ 2 = s4 at *
 unfold tokV at HN HX HN3
 have g1 : ((t.kind : Int) == 1) = true := by rw [hk]; rfl
 have g2 : ((t2.kind : Int) != 2) = false := by rw [hk2]; rfl
 have g3 : ((t2.n : Int) == 0) = true := by rw [hk3]; rfl
 clear ha hk hk2
 try clear hk3
 go_enter Tryd.func161, Tryd.ntmps161
 go_wp2_with (first
   | (
     go_at_call 46
     refine calls_at (fun W => Ps W q A c l s ∧ Kq q w W ∧ w.heap.size + 1 ≤ W.heap.size ∧ Blk W (w.heap.size) 24 zN) (fun W hW => HN.out W hW.1) ?_ ?_
     · refine ⟨?_, ?_, ?_, ?_⟩
       all_goals repeat' (first | (with_reducible first | exact HP0.out | exact HK0.out | exact HB0_0.out | exact Fr.refl _ _ | apply ps_far | apply Ps.alloc | apply Ps.drew | apply Fr.drew | apply blk_drew | apply kq_far | apply Fr.alloc | apply tokZ | apply nodZ0 | exact blk_new _ _ _ | apply blk_alloc | apply Blk.other) | omega | (simp; done) | (simp <;> omega))
     rintro W ⟨hp, hk, hlo, hb0⟩
     rintro e w1 ⟨rfl, hb⟩
     have hfr := Kq.of_below (q := q) hb
     have hp2 := hp.below hb
     have hsz := hfr.size
     have hmo1 : w.heap.size + 1 ≤ w1.heap.size := Nat.le_trans hlo hsz
     have hqs : q < w1.heap.size := hp2.qlt
     have hl0 := hb0.lt
     have ht0 : Blk w1 (w.heap.size) 24 zN := hfr.blk hb0 (by omega)
     have hl1_0 : w.heap.size < w1.heap.size := ht0.lt
     obtain ⟨r1_0_0, r1_0_1, r1_0_2, r1_0_3, r1_0_4⟩ := blk5 ht0
     obtain ⟨y1_0_0, y1_0_1, y1_0_2, y1_0_3, y1_0_4⟩ := blk5f ht0
     have HB0_1 := Lib.hid ht0
     have HP1 := Lib.hid hp2
     have HK1 := Lib.hid (hk.trans hfr)
     clear hp hk hp2 hfr hsz hlo hb0 hl0 ht0 hb)
   | (
     go_at_call 72
     refine calls_at (fun W => Ps W q A c l s ∧ Kq q w W ∧ w1.heap.size + 1 ≤ W.heap.size ∧ Blk W (w.heap.size) 24 zN ∧ Blk W (w1.heap.size) 80 (tC t)) (fun W hW => HX.out W hW.1) ?_ ?_
     · refine ⟨?_, ?_, ?_, ?_, ?_⟩
       all_goals repeat' (first | (with_reducible first | exact HP1.out | exact HK1.out | exact HB0_1.out | exact HB1_1.out | exact Fr.refl _ _ | apply ps_far | apply Ps.alloc | apply Ps.drew | apply Fr.drew | apply blk_drew | apply kq_far | apply Fr.alloc | apply tokZ | apply nodZ0 | exact blk_new _ _ _ | apply blk_alloc | apply Blk.other) | omega | (simp; done) | (simp <;> omega))
     rintro W ⟨hp, hk, hlo, hb0, hb1⟩
     intro e w2 hpost
     obtain ⟨rfl, hp2, hfr⟩ := hpost
     have hsz := hfr.size
     have hmo2 : w1.heap.size + 1 ≤ w2.heap.size := Nat.le_trans hlo hsz
     have hqs : q < w2.heap.size := hp2.qlt
     have hl0 := hb0.lt
     have ht0 : Blk w2 (w.heap.size) 24 zN := hfr.blk hb0 (by omega)
     have hl2_0 : w.heap.size < w2.heap.size := ht0.lt
     obtain ⟨r2_0_0, r2_0_1, r2_0_2, r2_0_3, r2_0_4⟩ := blk5 ht0
     obtain ⟨y2_0_0, y2_0_1, y2_0_2, y2_0_3, y2_0_4⟩ := blk5f ht0
     have HB0_2 := Lib.hid ht0
     have hl1 := hb1.lt
     have ht1 : Blk w2 (w1.heap.size) 80 (tC t) := hfr.blk hb1 (by omega)
     have hl2_1 : w1.heap.size < w2.heap.size := ht1.lt
     obtain ⟨r2_1_0, r2_1_1, r2_1_2, r2_1_3⟩ := blk4 ht1
     obtain ⟨y2_1_0, y2_1_1, y2_1_2, y2_1_3⟩ := blk4f ht1
     have HB1_2 := Lib.hid ht1
     have HP2 := Lib.hid hp2
     have HK2 := Lib.hid (hk.trans hfr)
     clear hp hk hp2 hfr hsz hlo hb0 hl0 ht0 hb1 hl1 ht1
     clear r1_0_0 r1_0_1 r1_0_2 r1_0_3 r1_0_4 y1_0_0 y1_0_1 y1_0_2 y1_0_3 y1_0_4 hl1_0)
   | (
     go_at_call 75
     refine calls_at (fun W => Ps W q A c l s2 ∧ Kq q w W ∧ w2.heap.size + 1 ≤ W.heap.size ∧ Blk W (w.heap.size) 24 zN ∧ Blk W (w1.heap.size) 80 (tC t) ∧ Blk W (w2.heap.size) 24 #[.string ⟨#[118, 97, 114]⟩, .string ⟨t.text.toArray⟩, .int .i64 0, .int .i64 (t.at_ : Nat), .slice none 0 0]) (fun W hW => HT.out W hW.1) ?_ ?_
     · refine ⟨?_, ?_, ?_, ?_, ?_, ?_⟩
       all_goals repeat' (first | (with_reducible first | exact HP2.out | exact HK2.out | exact HB0_2.out | exact HB1_2.out | exact HB2_2.out | exact Fr.refl _ _ | apply ps_far | apply Ps.alloc | apply Ps.drew | apply Fr.drew | apply blk_drew | apply kq_far | apply Fr.alloc | apply tokZ | apply nodZ0 | exact blk_new _ _ _ | apply blk_alloc | apply Blk.other) | omega | (simp; done) | (simp <;> omega))
     rintro W ⟨hp, hk, hlo, hb0, hb1, hb2⟩
     intro e w3 hpost
     obtain ⟨rfl, hp2, hfr⟩ := hpost
     have hsz := hfr.size
     have hmo3 : w2.heap.size + 1 ≤ w3.heap.size := Nat.le_trans hlo hsz
     have hqs : q < w3.heap.size := hp2.qlt
     have hl0 := hb0.lt
     have ht0 : Blk w3 (w.heap.size) 24 zN := hfr.blk hb0 (by omega)
     have hl3_0 : w.heap.size < w3.heap.size := ht0.lt
     obtain ⟨r3_0_0, r3_0_1, r3_0_2, r3_0_3, r3_0_4⟩ := blk5 ht0
     obtain ⟨y3_0_0, y3_0_1, y3_0_2, y3_0_3, y3_0_4⟩ := blk5f ht0
     have HB0_3 := Lib.hid ht0
     have hl1 := hb1.lt
     have ht1 : Blk w3 (w1.heap.size) 80 (tC t) := hfr.blk hb1 (by omega)
     have hl3_1 : w1.heap.size < w3.heap.size := ht1.lt
     obtain ⟨r3_1_0, r3_1_1, r3_1_2, r3_1_3⟩ := blk4 ht1
     obtain ⟨y3_1_0, y3_1_1, y3_1_2, y3_1_3⟩ := blk4f ht1
     have HB1_3 := Lib.hid ht1
     have hl2 := hb2.lt
     have ht2 : Blk w3 (w2.heap.size) 24 #[.string ⟨#[118, 97, 114]⟩, .string ⟨t.text.toArray⟩, .int .i64 0, .int .i64 (t.at_ : Nat), .slice none 0 0] := hfr.blk hb2 (by omega)
     have hl3_2 : w2.heap.size < w3.heap.size := ht2.lt
     obtain ⟨r3_2_0, r3_2_1, r3_2_2, r3_2_3, r3_2_4⟩ := blk5 ht2
     obtain ⟨y3_2_0, y3_2_1, y3_2_2, y3_2_3, y3_2_4⟩ := blk5f ht2
     have HB2_3 := Lib.hid ht2
     have HP3 := Lib.hid hp2
     have HK3 := Lib.hid (hk.trans hfr)
     clear hp hk hp2 hfr hsz hlo hb0 hl0 ht0 hb1 hl1 ht1 hb2 hl2 ht2
     clear r2_0_0 r2_0_1 r2_0_2 r2_0_3 r2_0_4 y2_0_0 y2_0_1 y2_0_2 y2_0_3 y2_0_4 hl2_0 r2_1_0 r2_1_1 r2_1_2 r2_1_3 y2_1_0 y2_1_1 y2_1_2 y2_1_3 hl2_1)
   | (
     go_at_call 46
     refine calls_at (fun W => Ps W q A c l s3 ∧ Kq q w W ∧ w3.heap.size ≤ W.heap.size ∧ Blk W (w.heap.size) 24 zN ∧ Blk W (w1.heap.size) 80 (tC t) ∧ Blk W (w2.heap.size) 24 #[.string ⟨#[118, 97, 114]⟩, .string ⟨t.text.toArray⟩, .int .i64 0, .int .i64 (t.at_ : Nat), .slice none 0 0]) (fun W hW => HN3.out W hW.1) ?_ ?_
     · refine ⟨?_, ?_, ?_, ?_, ?_, ?_⟩
       all_goals repeat' (first | (with_reducible first | exact HP3.out | exact HK3.out | exact HB0_3.out | exact HB1_3.out | exact HB2_3.out | exact Fr.refl _ _ | apply ps_far | apply Ps.alloc | apply Ps.drew | apply Fr.drew | apply blk_drew | apply kq_far | apply Fr.alloc | apply tokZ | apply nodZ0 | exact blk_new _ _ _ | apply blk_alloc | apply Blk.other) | omega | (simp; done) | (simp <;> omega))
     rintro W ⟨hp, hk, hlo, hb0, hb1, hb2⟩
     rintro e w4 ⟨rfl, hb⟩
     have hfr := Kq.of_below (q := q) hb
     have hp2 := hp.below hb
     have hsz := hfr.size
     have hmo4 : w3.heap.size ≤ w4.heap.size := Nat.le_trans hlo hsz
     have hqs : q < w4.heap.size := hp2.qlt
     have hl0 := hb0.lt
     have ht0 : Blk w4 (w.heap.size) 24 zN := hfr.blk hb0 (by omega)
     have hl4_0 : w.heap.size < w4.heap.size := ht0.lt
     obtain ⟨r4_0_0, r4_0_1, r4_0_2, r4_0_3, r4_0_4⟩ := blk5 ht0
     obtain ⟨y4_0_0, y4_0_1, y4_0_2, y4_0_3, y4_0_4⟩ := blk5f ht0
     have HB0_4 := Lib.hid ht0
     have hl1 := hb1.lt
     have ht1 : Blk w4 (w1.heap.size) 80 (tC t) := hfr.blk hb1 (by omega)
     have hl4_1 : w1.heap.size < w4.heap.size := ht1.lt
     obtain ⟨r4_1_0, r4_1_1, r4_1_2, r4_1_3⟩ := blk4 ht1
     obtain ⟨y4_1_0, y4_1_1, y4_1_2, y4_1_3⟩ := blk4f ht1
     have HB1_4 := Lib.hid ht1
     have hl2 := hb2.lt
     have ht2 : Blk w4 (w2.heap.size) 24 #[.string ⟨#[118, 97, 114]⟩, .string ⟨t.text.toArray⟩, .int .i64 0, .int .i64 (t.at_ : Nat), .slice none 0 0] := hfr.blk hb2 (by omega)
     have hl4_2 : w2.heap.size < w4.heap.size := ht2.lt
     obtain ⟨r4_2_0, r4_2_1, r4_2_2, r4_2_3, r4_2_4⟩ := blk5 ht2
     obtain ⟨y4_2_0, y4_2_1, y4_2_2, y4_2_3, y4_2_4⟩ := blk5f ht2
     have HB2_4 := Lib.hid ht2
     have HP4 := Lib.hid hp2
     have HK4 := Lib.hid (hk.trans hfr)
     clear hp hk hp2 hfr hsz hlo hb0 hl0 ht0 hb1 hl1 ht1 hb2 hl2 ht2 hb
     clear r3_0_0 r3_0_1 r3_0_2 r3_0_3 r3_0_4 y3_0_0 y3_0_1 y3_0_2 y3_0_3 y3_0_4 hl3_0 r3_1_0 r3_1_1 r3_1_2 r3_1_3 y3_1_0 y3_1_1 y3_1_2 y3_1_3 hl3_1 r3_2_0 r3_2_1 r3_2_2 r3_2_3 r3_2_4 y3_2_0 y3_2_1 y3_2_2 y3_2_3 y3_2_4 hl3_2)
   | (
     go_at_call 47
     refine calls_at (fun W => Ps W q A c l s3 ∧ Kq q w W ∧ w4.heap.size + 1 ≤ W.heap.size ∧ Blk W (w.heap.size) 24 zN ∧ Blk W (w1.heap.size) 80 (tC t) ∧ Blk W (w2.heap.size) 24 #[.string ⟨#[118, 97, 114]⟩, .string ⟨t.text.toArray⟩, .int .i64 0, .int .i64 (t.at_ : Nat), .slice none 0 0] ∧ Blk W (w4.heap.size) 80 (tC t2)) (fun W hW => HF.out W hW.1) ?_ ?_
     · refine ⟨?_, ?_, ?_, ?_, ?_, ?_, ?_⟩
       all_goals repeat' (first | (with_reducible first | exact HP4.out | exact HK4.out | exact HB0_4.out | exact HB1_4.out | exact HB2_4.out | exact HB3_4.out | exact Fr.refl _ _ | apply ps_far | apply Ps.alloc | apply Ps.drew | apply Fr.drew | apply blk_drew | apply kq_far | apply Fr.alloc | apply tokZ | apply nodZ0 | exact blk_new _ _ _ | apply blk_alloc | apply Blk.other) | omega | (simp; done) | (simp <;> omega))
     rintro W ⟨hp, hk, hlo, hb0, hb1, hb2, hb3⟩
     intro e w5 hpost
     obtain ⟨rfl, hp2, hfr⟩ := hpost
     have hsz := hfr.size
     have hmo5 : w4.heap.size + 1 ≤ w5.heap.size := Nat.le_trans hlo hsz
     have hqs : q < w5.heap.size := hp2.qlt
     have hl0 := hb0.lt
     have ht0 : Blk w5 (w.heap.size) 24 zN := hfr.blk hb0 (by omega)
     have hl5_0 : w.heap.size < w5.heap.size := ht0.lt
     obtain ⟨r5_0_0, r5_0_1, r5_0_2, r5_0_3, r5_0_4⟩ := blk5 ht0
     obtain ⟨y5_0_0, y5_0_1, y5_0_2, y5_0_3, y5_0_4⟩ := blk5f ht0
     have HB0_5 := Lib.hid ht0
     have hl1 := hb1.lt
     have ht1 : Blk w5 (w1.heap.size) 80 (tC t) := hfr.blk hb1 (by omega)
     have hl5_1 : w1.heap.size < w5.heap.size := ht1.lt
     obtain ⟨r5_1_0, r5_1_1, r5_1_2, r5_1_3⟩ := blk4 ht1
     obtain ⟨y5_1_0, y5_1_1, y5_1_2, y5_1_3⟩ := blk4f ht1
     have HB1_5 := Lib.hid ht1
     have hl2 := hb2.lt
     have ht2 : Blk w5 (w2.heap.size) 24 #[.string ⟨#[118, 97, 114]⟩, .string ⟨t.text.toArray⟩, .int .i64 0, .int .i64 (t.at_ : Nat), .slice none 0 0] := hfr.blk hb2 (by omega)
     have hl5_2 : w2.heap.size < w5.heap.size := ht2.lt
     obtain ⟨r5_2_0, r5_2_1, r5_2_2, r5_2_3, r5_2_4⟩ := blk5 ht2
     obtain ⟨y5_2_0, y5_2_1, y5_2_2, y5_2_3, y5_2_4⟩ := blk5f ht2
     have HB2_5 := Lib.hid ht2
     have hl3 := hb3.lt
     have ht3 : Blk w5 (w4.heap.size) 80 (tC t2) := hfr.blk hb3 (by omega)
     have hl5_3 : w4.heap.size < w5.heap.size := ht3.lt
     obtain ⟨r5_3_0, r5_3_1, r5_3_2, r5_3_3⟩ := blk4 ht3
     obtain ⟨y5_3_0, y5_3_1, y5_3_2, y5_3_3⟩ := blk4f ht3
     have HB3_5 := Lib.hid ht3
     have HP5 := Lib.hid hp2
     have HK5 := Lib.hid (hk.trans hfr)
     clear hp hk hp2 hfr hsz hlo hb0 hl0 ht0 hb1 hl1 ht1 hb2 hl2 ht2 hb3 hl3 ht3
     clear r4_0_0 r4_0_1 r4_0_2 r4_0_3 r4_0_4 y4_0_0 y4_0_1 y4_0_2 y4_0_3 y4_0_4 hl4_0 r4_1_0 r4_1_1 r4_1_2 r4_1_3 y4_1_0 y4_1_1 y4_1_2 y4_1_3 hl4_1 r4_2_0 r4_2_1 r4_2_2 r4_2_3 r4_2_4 y4_2_0 y4_2_1 y4_2_2 y4_2_3 y4_2_4 hl4_2))
 all_goals
  refine bodyPost_ret (res_one (by rfl) _ _ w.heap.size #[.string ⟨#[118, 97, 114]⟩, .string ⟨t.text.toArray⟩, .int .i64 0, .int .i64 (t.at_ : Nat), .slice none 0 0] rfl ?_ Tryd.underlying24 inf_node5) rfl ⟨none, 0, by rw [HV.out]; rfl, ?_, ?_, ?_⟩
  · repeat' (first | (with_reducible first | exact HP5.out | exact HK5.out | exact HB0_5.out | exact HB1_5.out | exact HB2_5.out | exact HB3_5.out | apply ps_far | apply Ps.alloc | apply Ps.drew | apply kq_far | apply Fr.alloc | apply Fr.drew | apply nodZ0 | exact blk_new _ _ _ | apply blk_drew | apply blk_alloc | apply Blk.other) | omega | (simp <;> omega))
  · rw [HV.out]
    exact NodeS.leaf _ _ _ _ _ _ (by decide) (by have := hsm.2.1; omega) _
  · rw [HV.out]
    repeat' (first | (with_reducible first | exact HP5.out | exact HK5.out | exact HB0_5.out | exact HB1_5.out | exact HB2_5.out | exact HB3_5.out | apply ps_far | apply Ps.alloc | apply Ps.drew | apply kq_far | apply Fr.alloc | apply Fr.drew | apply nodZ0 | exact blk_new _ _ _ | apply blk_drew | apply blk_alloc | apply Blk.other) | omega | (simp <;> omega))
  · repeat' (first | (with_reducible first | exact HP5.out | exact HK5.out | exact HB0_5.out | exact HB1_5.out | exact HB2_5.out | exact HB3_5.out | apply ps_far | apply Ps.alloc | apply Ps.drew | apply kq_far | apply Fr.alloc | apply Fr.drew | apply nodZ0 | exact blk_new _ _ _ | apply blk_drew | apply blk_alloc | apply Blk.other) | omega | (simp <;> omega))
set_option maxRecDepth 100000 in
set_option maxHeartbeats 2000000 in
theorem ppart_num {w : World} {q : Nat} {A : Option Addr} {c : Nat} {l : List Tok} {s : PS} (h : Ps w q A c l s) (within : Bool) (hk : (nowP l s).kind = 2) :
  Calls Tryd.prog 161 #[.pointer (some ⟨q, 0, none⟩), .bool within] w (NPost w q A c l (.node nNum [] (nowP l s).n (nowP l s).at_ [], nextP l s)) := by
 have HP0 := Lib.hid h
 have hq := h.qlt
 have HN := Lib.hid (fun W (hW : Ps W q A c l s) => pnow_any hW)
 have HX := Lib.hid (fun W (hW : Ps W q A c l s) => pnext_any hW)
 have hsm := h.now_small
 have HV := Lib.hid (rfl : ((.node nNum [] (nowP l s).n (nowP l s).at_ [] : Node), nextP l s) = (.node nNum [] (nowP l s).n (nowP l s).at_ [], nextP l s))
 clear h
 generalize nextP l s = s2 at *
 generalize nowP l s = t at *
 unfold tokV at HN HX
 have g1 : ((t.kind : Int) == 1) = false := by rw [hk]; rfl
 have g2 : ((t.kind : Int) == 2) = true := by rw [hk]; rfl
 clear hk
 go_enter Tryd.func161, Tryd.ntmps161
 go_wp2_with (first
   | (
     go_at_call 46
     refine calls_at (fun W => Ps W q A c l s ∧ Kq q w W ∧ w.heap.size + 1 ≤ W.heap.size ∧ Blk W (w.heap.size) 24 zN) (fun W hW => HN.out W hW.1) ?_ ?_
     · refine ⟨?_, ?_, ?_, ?_⟩
       all_goals repeat' (first | (with_reducible first | exact HP0.out | exact HK0.out | exact HB0_0.out | exact Fr.refl _ _ | apply ps_far | apply Ps.alloc | apply Ps.drew | apply Fr.drew | apply blk_drew | apply kq_far | apply Fr.alloc | apply tokZ | apply nodZ0 | exact blk_new _ _ _ | apply blk_alloc | apply Blk.other) | omega | (simp; done) | (simp <;> omega))
     rintro W ⟨hp, hk, hlo, hb0⟩
     rintro e w1 ⟨rfl, hb⟩
     have hfr := Kq.of_below (q := q) hb
     have hp2 := hp.below hb
     have hsz := hfr.size
     have hmo1 : w.heap.size + 1 ≤ w1.heap.size := Nat.le_trans hlo hsz
     have hqs : q < w1.heap.size := hp2.qlt
     have hl0 := hb0.lt
     have ht0 : Blk w1 (w.heap.size) 24 zN := hfr.blk hb0 (by omega)
     have hl1_0 : w.heap.size < w1.heap.size := ht0.lt
     obtain ⟨r1_0_0, r1_0_1, r1_0_2, r1_0_3, r1_0_4⟩ := blk5 ht0
     obtain ⟨y1_0_0, y1_0_1, y1_0_2, y1_0_3, y1_0_4⟩ := blk5f ht0
     have HB0_1 := Lib.hid ht0
     have HP1 := Lib.hid hp2
     have HK1 := Lib.hid (hk.trans hfr)
     clear hp hk hp2 hfr hsz hlo hb0 hl0 ht0 hb)
   | (
     go_at_call 72
     refine calls_at (fun W => Ps W q A c l s ∧ Kq q w W ∧ w1.heap.size + 1 ≤ W.heap.size ∧ Blk W (w.heap.size) 24 zN ∧ Blk W (w1.heap.size) 80 (tC t)) (fun W hW => HX.out W hW.1) ?_ ?_
     · refine ⟨?_, ?_, ?_, ?_, ?_⟩
       all_goals repeat' (first | (with_reducible first | exact HP1.out | exact HK1.out | exact HB0_1.out | exact HB1_1.out | exact Fr.refl _ _ | apply ps_far | apply Ps.alloc | apply Ps.drew | apply Fr.drew | apply blk_drew | apply kq_far | apply Fr.alloc | apply tokZ | apply nodZ0 | exact blk_new _ _ _ | apply blk_alloc | apply Blk.other) | omega | (simp; done) | (simp <;> omega))
     rintro W ⟨hp, hk, hlo, hb0, hb1⟩
     intro e w2 hpost
     obtain ⟨rfl, hp2, hfr⟩ := hpost
     have hsz := hfr.size
     have hmo2 : w1.heap.size + 1 ≤ w2.heap.size := Nat.le_trans hlo hsz
     have hqs : q < w2.heap.size := hp2.qlt
     have hl0 := hb0.lt
     have ht0 : Blk w2 (w.heap.size) 24 zN := hfr.blk hb0 (by omega)
     have hl2_0 : w.heap.size < w2.heap.size := ht0.lt
     obtain ⟨r2_0_0, r2_0_1, r2_0_2, r2_0_3, r2_0_4⟩ := blk5 ht0
     obtain ⟨y2_0_0, y2_0_1, y2_0_2, y2_0_3, y2_0_4⟩ := blk5f ht0
     have HB0_2 := Lib.hid ht0
     have hl1 := hb1.lt
     have ht1 : Blk w2 (w1.heap.size) 80 (tC t) := hfr.blk hb1 (by omega)
     have hl2_1 : w1.heap.size < w2.heap.size := ht1.lt
     obtain ⟨r2_1_0, r2_1_1, r2_1_2, r2_1_3⟩ := blk4 ht1
     obtain ⟨y2_1_0, y2_1_1, y2_1_2, y2_1_3⟩ := blk4f ht1
     have HB1_2 := Lib.hid ht1
     have HP2 := Lib.hid hp2
     have HK2 := Lib.hid (hk.trans hfr)
     clear hp hk hp2 hfr hsz hlo hb0 hl0 ht0 hb1 hl1 ht1
     clear r1_0_0 r1_0_1 r1_0_2 r1_0_3 r1_0_4 y1_0_0 y1_0_1 y1_0_2 y1_0_3 y1_0_4 hl1_0))
 all_goals
  refine bodyPost_ret (res_one (by rfl) _ _ w.heap.size #[.string ⟨#[110, 117, 109]⟩, .string ⟨#[]⟩, .int .i64 (t.n : Nat), .int .i64 (t.at_ : Nat), .slice none 0 0] rfl ?_ Tryd.underlying24 inf_node5) rfl ⟨none, 0, by rfl, ?_, ?_, ?_⟩
  · repeat' (first | (with_reducible first | exact HP2.out | exact HK2.out | exact HB0_2.out | exact HB1_2.out | apply ps_far | apply Ps.alloc | apply Ps.drew | apply kq_far | apply Fr.alloc | apply Fr.drew | apply nodZ0 | exact blk_new _ _ _ | apply blk_drew | apply blk_alloc | apply Blk.other) | omega | (simp <;> omega))
  · exact NodeS.leaf _ _ _ _ _ _ (by decide) (by decide) _
  · skip
    repeat' (first | (with_reducible first | exact HP2.out | exact HK2.out | exact HB0_2.out | exact HB1_2.out | apply ps_far | apply Ps.alloc | apply Ps.drew | apply kq_far | apply Fr.alloc | apply Fr.drew | apply nodZ0 | exact blk_new _ _ _ | apply blk_drew | apply blk_alloc | apply Blk.other) | omega | (simp <;> omega))
  · repeat' (first | (with_reducible first | exact HP2.out | exact HK2.out | exact HB0_2.out | exact HB1_2.out | apply ps_far | apply Ps.alloc | apply Ps.drew | apply kq_far | apply Fr.alloc | apply Fr.drew | apply nodZ0 | exact blk_new _ _ _ | apply blk_drew | apply blk_alloc | apply Blk.other) | omega | (simp <;> omega))
set_option maxRecDepth 100000 in
set_option maxHeartbeats 2000000 in
theorem ppart_plus {w : World} {q : Nat} {A : Option Addr} {c : Nat} {l : List Tok} {s : PS} (h : Ps w q A c l s) (within : Bool) (hk : (nowP l s).kind = 1) (ha : (takeP l (nextP l s) [43]).1 = true) (hk2 : (nowP l (takeP l (nextP l s) [43]).2).kind = 2) (hk3 : (nowP l (takeP l (nextP l s) [43]).2).n ≠ 0) :
  Calls Tryd.prog 161 #[.pointer (some ⟨q, 0, none⟩), .bool within] w (NPost w q A c l (partName l s)) := by
 have HP0 := Lib.hid h
 have hq := h.qlt
 have HN := Lib.hid (fun W (hW : Ps W q A c l s) => pnow_any hW)
 have HX := Lib.hid (fun W (hW : Ps W q A c l s) => pnext_any hW)
 have hsm := h.now_small
 have HT := Lib.hid (fun W (hW : Ps W q A c l (nextP l s)) => ptake_any hW [43])
 have HV := Lib.hid (show partName l s = (.node nPlus [] (nowP l (takeP l (nextP l s) [43]).2).n (nowP l s).at_ [.node nVar (nowP l s).text 0 (nowP l s).at_ []], nextP l (takeP l (nextP l s) [43]).2) by
  unfold partName
  simp only
  rw [ha, if_pos rfl, if_neg (by rw [hk2]; simp [hk3])])
 clear h
 rw [ha] at HT
 generalize partName l s = V at *
 generalize takeP l (nextP l s) [43] = ta at *
 generalize nextP l s = s2 at *
 generalize nowP l s = t at *
 obtain ⟨tb, s3⟩ := ta
 simp only at HT HV hk2 hk3
 have HN3 := Lib.hid (fun W (hW : Ps W q A c l s3) => pnow_any hW)
 have HX3 := Lib.hid (fun W (hW : Ps W q A c l s3) => pnext_any hW)
 generalize nowP l s3 = t2 at *
 generalize nextP l s3 = s4 at *
 unfold tokV at HN HX HN3 HX3
 have g1 : ((t.kind : Int) == 1) = true := by rw [hk]; rfl
 have g2 : ((t2.kind : Int) != 2) = false := by rw [hk2]; rfl
 have g3 : ((t2.n : Int) == 0) = false := by simp; omega
 clear ha hk hk2 hk3
 go_enter Tryd.func161, Tryd.ntmps161
 go_wp2_with (first
   | (
     go_at_call 46
     refine calls_at (fun W => Ps W q A c l s ∧ Kq q w W ∧ w.heap.size + 1 ≤ W.heap.size ∧ Blk W (w.heap.size) 24 zN) (fun W hW => HN.out W hW.1) ?_ ?_
     · refine ⟨?_, ?_, ?_, ?_⟩
       all_goals repeat' (first | (with_reducible first | exact HP0.out | exact HK0.out | exact HB0_0.out | exact Fr.refl _ _ | apply ps_far | apply Ps.alloc | apply Ps.drew | apply Fr.drew | apply blk_drew | apply kq_far | apply Fr.alloc | apply tokZ | apply nodZ0 | exact blk_new _ _ _ | apply blk_alloc | apply Blk.other) | omega | (simp; done) | (simp <;> omega))
     rintro W ⟨hp, hk, hlo, hb0⟩
     rintro e w1 ⟨rfl, hb⟩
     have hfr := Kq.of_below (q := q) hb
     have hp2 := hp.below hb
     have hsz := hfr.size
     have hmo1 : w.heap.size + 1 ≤ w1.heap.size := Nat.le_trans hlo hsz
     have hqs : q < w1.heap.size := hp2.qlt
     have hl0 := hb0.lt
     have ht0 : Blk w1 (w.heap.size) 24 zN := hfr.blk hb0 (by omega)
     have hl1_0 : w.heap.size < w1.heap.size := ht0.lt
     obtain ⟨r1_0_0, r1_0_1, r1_0_2, r1_0_3, r1_0_4⟩ := blk5 ht0
     obtain ⟨y1_0_0, y1_0_1, y1_0_2, y1_0_3, y1_0_4⟩ := blk5f ht0
     have HB0_1 := Lib.hid ht0
     have HP1 := Lib.hid hp2
     have HK1 := Lib.hid (hk.trans hfr)
     clear hp hk hp2 hfr hsz hlo hb0 hl0 ht0 hb)
   | (
     go_at_call 72
     refine calls_at (fun W => Ps W q A c l s ∧ Kq q w W ∧ w1.heap.size + 1 ≤ W.heap.size ∧ Blk W (w.heap.size) 24 zN ∧ Blk W (w1.heap.size) 80 (tC t)) (fun W hW => HX.out W hW.1) ?_ ?_
     · refine ⟨?_, ?_, ?_, ?_, ?_⟩
       all_goals repeat' (first | (with_reducible first | exact HP1.out | exact HK1.out | exact HB0_1.out | exact HB1_1.out | exact Fr.refl _ _ | apply ps_far | apply Ps.alloc | apply Ps.drew | apply Fr.drew | apply blk_drew | apply kq_far | apply Fr.alloc | apply tokZ | apply nodZ0 | exact blk_new _ _ _ | apply blk_alloc | apply Blk.other) | omega | (simp; done) | (simp <;> omega))
     rintro W ⟨hp, hk, hlo, hb0, hb1⟩
     intro e w2 hpost
     obtain ⟨rfl, hp2, hfr⟩ := hpost
     have hsz := hfr.size
     have hmo2 : w1.heap.size + 1 ≤ w2.heap.size := Nat.le_trans hlo hsz
     have hqs : q < w2.heap.size := hp2.qlt
     have hl0 := hb0.lt
     have ht0 : Blk w2 (w.heap.size) 24 zN := hfr.blk hb0 (by omega)
     have hl2_0 : w.heap.size < w2.heap.size := ht0.lt
     obtain ⟨r2_0_0, r2_0_1, r2_0_2, r2_0_3, r2_0_4⟩ := blk5 ht0
     obtain ⟨y2_0_0, y2_0_1, y2_0_2, y2_0_3, y2_0_4⟩ := blk5f ht0
     have HB0_2 := Lib.hid ht0
     have hl1 := hb1.lt
     have ht1 : Blk w2 (w1.heap.size) 80 (tC t) := hfr.blk hb1 (by omega)
     have hl2_1 : w1.heap.size < w2.heap.size := ht1.lt
     obtain ⟨r2_1_0, r2_1_1, r2_1_2, r2_1_3⟩ := blk4 ht1
     obtain ⟨y2_1_0, y2_1_1, y2_1_2, y2_1_3⟩ := blk4f ht1
     have HB1_2 := Lib.hid ht1
     have HP2 := Lib.hid hp2
     have HK2 := Lib.hid (hk.trans hfr)
     clear hp hk hp2 hfr hsz hlo hb0 hl0 ht0 hb1 hl1 ht1
     clear r1_0_0 r1_0_1 r1_0_2 r1_0_3 r1_0_4 y1_0_0 y1_0_1 y1_0_2 y1_0_3 y1_0_4 hl1_0)
   | (
     go_at_call 75
     refine calls_at (fun W => Ps W q A c l s2 ∧ Kq q w W ∧ w2.heap.size + 1 ≤ W.heap.size ∧ Blk W (w.heap.size) 24 zN ∧ Blk W (w1.heap.size) 80 (tC t) ∧ Blk W (w2.heap.size) 24 #[.string ⟨#[118, 97, 114]⟩, .string ⟨t.text.toArray⟩, .int .i64 0, .int .i64 (t.at_ : Nat), .slice none 0 0]) (fun W hW => HT.out W hW.1) ?_ ?_
     · refine ⟨?_, ?_, ?_, ?_, ?_, ?_⟩
       all_goals repeat' (first | (with_reducible first | exact HP2.out | exact HK2.out | exact HB0_2.out | exact HB1_2.out | exact HB2_2.out | exact Fr.refl _ _ | apply ps_far | apply Ps.alloc | apply Ps.drew | apply Fr.drew | apply blk_drew | apply kq_far | apply Fr.alloc | apply tokZ | apply nodZ0 | exact blk_new _ _ _ | apply blk_alloc | apply Blk.other) | omega | (simp; done) | (simp <;> omega))
     rintro W ⟨hp, hk, hlo, hb0, hb1, hb2⟩
     intro e w3 hpost
     obtain ⟨rfl, hp2, hfr⟩ := hpost
     have hsz := hfr.size
     have hmo3 : w2.heap.size + 1 ≤ w3.heap.size := Nat.le_trans hlo hsz
     have hqs : q < w3.heap.size := hp2.qlt
     have hl0 := hb0.lt
     have ht0 : Blk w3 (w.heap.size) 24 zN := hfr.blk hb0 (by omega)
     have hl3_0 : w.heap.size < w3.heap.size := ht0.lt
     obtain ⟨r3_0_0, r3_0_1, r3_0_2, r3_0_3, r3_0_4⟩ := blk5 ht0
     obtain ⟨y3_0_0, y3_0_1, y3_0_2, y3_0_3, y3_0_4⟩ := blk5f ht0
     have HB0_3 := Lib.hid ht0
     have hl1 := hb1.lt
     have ht1 : Blk w3 (w1.heap.size) 80 (tC t) := hfr.blk hb1 (by omega)
     have hl3_1 : w1.heap.size < w3.heap.size := ht1.lt
     obtain ⟨r3_1_0, r3_1_1, r3_1_2, r3_1_3⟩ := blk4 ht1
     obtain ⟨y3_1_0, y3_1_1, y3_1_2, y3_1_3⟩ := blk4f ht1
     have HB1_3 := Lib.hid ht1
     have hl2 := hb2.lt
     have ht2 : Blk w3 (w2.heap.size) 24 #[.string ⟨#[118, 97, 114]⟩, .string ⟨t.text.toArray⟩, .int .i64 0, .int .i64 (t.at_ : Nat), .slice none 0 0] := hfr.blk hb2 (by omega)
     have hl3_2 : w2.heap.size < w3.heap.size := ht2.lt
     obtain ⟨r3_2_0, r3_2_1, r3_2_2, r3_2_3, r3_2_4⟩ := blk5 ht2
     obtain ⟨y3_2_0, y3_2_1, y3_2_2, y3_2_3, y3_2_4⟩ := blk5f ht2
     have HB2_3 := Lib.hid ht2
     have HP3 := Lib.hid hp2
     have HK3 := Lib.hid (hk.trans hfr)
     clear hp hk hp2 hfr hsz hlo hb0 hl0 ht0 hb1 hl1 ht1 hb2 hl2 ht2
     clear r2_0_0 r2_0_1 r2_0_2 r2_0_3 r2_0_4 y2_0_0 y2_0_1 y2_0_2 y2_0_3 y2_0_4 hl2_0 r2_1_0 r2_1_1 r2_1_2 r2_1_3 y2_1_0 y2_1_1 y2_1_2 y2_1_3 hl2_1)
   | (
     go_at_call 46
     refine calls_at (fun W => Ps W q A c l s3 ∧ Kq q w W ∧ w3.heap.size ≤ W.heap.size ∧ Blk W (w.heap.size) 24 zN ∧ Blk W (w1.heap.size) 80 (tC t) ∧ Blk W (w2.heap.size) 24 #[.string ⟨#[118, 97, 114]⟩, .string ⟨t.text.toArray⟩, .int .i64 0, .int .i64 (t.at_ : Nat), .slice none 0 0]) (fun W hW => HN3.out W hW.1) ?_ ?_
     · refine ⟨?_, ?_, ?_, ?_, ?_, ?_⟩
       all_goals repeat' (first | (with_reducible first | exact HP3.out | exact HK3.out | exact HB0_3.out | exact HB1_3.out | exact HB2_3.out | exact Fr.refl _ _ | apply ps_far | apply Ps.alloc | apply Ps.drew | apply Fr.drew | apply blk_drew | apply kq_far | apply Fr.alloc | apply tokZ | apply nodZ0 | exact blk_new _ _ _ | apply blk_alloc | apply Blk.other) | omega | (simp; done) | (simp <;> omega))
     rintro W ⟨hp, hk, hlo, hb0, hb1, hb2⟩
     rintro e w4 ⟨rfl, hb⟩
     have hfr := Kq.of_below (q := q) hb
     have hp2 := hp.below hb
     have hsz := hfr.size
     have hmo4 : w3.heap.size ≤ w4.heap.size := Nat.le_trans hlo hsz
     have hqs : q < w4.heap.size := hp2.qlt
     have hl0 := hb0.lt
     have ht0 : Blk w4 (w.heap.size) 24 zN := hfr.blk hb0 (by omega)
     have hl4_0 : w.heap.size < w4.heap.size := ht0.lt
     obtain ⟨r4_0_0, r4_0_1, r4_0_2, r4_0_3, r4_0_4⟩ := blk5 ht0
     obtain ⟨y4_0_0, y4_0_1, y4_0_2, y4_0_3, y4_0_4⟩ := blk5f ht0
     have HB0_4 := Lib.hid ht0
     have hl1 := hb1.lt
     have ht1 : Blk w4 (w1.heap.size) 80 (tC t) := hfr.blk hb1 (by omega)
     have hl4_1 : w1.heap.size < w4.heap.size := ht1.lt
     obtain ⟨r4_1_0, r4_1_1, r4_1_2, r4_1_3⟩ := blk4 ht1
     obtain ⟨y4_1_0, y4_1_1, y4_1_2, y4_1_3⟩ := blk4f ht1
     have HB1_4 := Lib.hid ht1
     have hl2 := hb2.lt
     have ht2 : Blk w4 (w2.heap.size) 24 #[.string ⟨#[118, 97, 114]⟩, .string ⟨t.text.toArray⟩, .int .i64 0, .int .i64 (t.at_ : Nat), .slice none 0 0] := hfr.blk hb2 (by omega)
     have hl4_2 : w2.heap.size < w4.heap.size := ht2.lt
     obtain ⟨r4_2_0, r4_2_1, r4_2_2, r4_2_3, r4_2_4⟩ := blk5 ht2
     obtain ⟨y4_2_0, y4_2_1, y4_2_2, y4_2_3, y4_2_4⟩ := blk5f ht2
     have HB2_4 := Lib.hid ht2
     have HP4 := Lib.hid hp2
     have HK4 := Lib.hid (hk.trans hfr)
     clear hp hk hp2 hfr hsz hlo hb0 hl0 ht0 hb1 hl1 ht1 hb2 hl2 ht2 hb
     clear r3_0_0 r3_0_1 r3_0_2 r3_0_3 r3_0_4 y3_0_0 y3_0_1 y3_0_2 y3_0_3 y3_0_4 hl3_0 r3_1_0 r3_1_1 r3_1_2 r3_1_3 y3_1_0 y3_1_1 y3_1_2 y3_1_3 hl3_1 r3_2_0 r3_2_1 r3_2_2 r3_2_3 r3_2_4 y3_2_0 y3_2_1 y3_2_2 y3_2_3 y3_2_4 hl3_2)
   | (
     go_at_call 72
     refine calls_at (fun W => Ps W q A c l s3 ∧ Kq q w W ∧ w4.heap.size + 1 ≤ W.heap.size ∧ Blk W (w.heap.size) 24 zN ∧ Blk W (w1.heap.size) 80 (tC t) ∧ Blk W (w2.heap.size) 24 #[.string ⟨#[118, 97, 114]⟩, .string ⟨t.text.toArray⟩, .int .i64 0, .int .i64 (t.at_ : Nat), .slice none 0 0] ∧ Blk W (w4.heap.size) 80 (tC t2)) (fun W hW => HX3.out W hW.1) ?_ ?_
     · refine ⟨?_, ?_, ?_, ?_, ?_, ?_, ?_⟩
       all_goals repeat' (first | (with_reducible first | exact HP4.out | exact HK4.out | exact HB0_4.out | exact HB1_4.out | exact HB2_4.out | exact HB3_4.out | exact Fr.refl _ _ | apply ps_far | apply Ps.alloc | apply Ps.drew | apply Fr.drew | apply blk_drew | apply kq_far | apply Fr.alloc | apply tokZ | apply nodZ0 | exact blk_new _ _ _ | apply blk_alloc | apply Blk.other) | omega | (simp; done) | (simp <;> omega))
     rintro W ⟨hp, hk, hlo, hb0, hb1, hb2, hb3⟩
     intro e w5 hpost
     obtain ⟨rfl, hp2, hfr⟩ := hpost
     have hsz := hfr.size
     have hmo5 : w4.heap.size + 1 ≤ w5.heap.size := Nat.le_trans hlo hsz
     have hqs : q < w5.heap.size := hp2.qlt
     have hl0 := hb0.lt
     have ht0 : Blk w5 (w.heap.size) 24 zN := hfr.blk hb0 (by omega)
     have hl5_0 : w.heap.size < w5.heap.size := ht0.lt
     obtain ⟨r5_0_0, r5_0_1, r5_0_2, r5_0_3, r5_0_4⟩ := blk5 ht0
     obtain ⟨y5_0_0, y5_0_1, y5_0_2, y5_0_3, y5_0_4⟩ := blk5f ht0
     have HB0_5 := Lib.hid ht0
     have hl1 := hb1.lt
     have ht1 : Blk w5 (w1.heap.size) 80 (tC t) := hfr.blk hb1 (by omega)
     have hl5_1 : w1.heap.size < w5.heap.size := ht1.lt
     obtain ⟨r5_1_0, r5_1_1, r5_1_2, r5_1_3⟩ := blk4 ht1
     obtain ⟨y5_1_0, y5_1_1, y5_1_2, y5_1_3⟩ := blk4f ht1
     have HB1_5 := Lib.hid ht1
     have hl2 := hb2.lt
     have ht2 : Blk w5 (w2.heap.size) 24 #[.string ⟨#[118, 97, 114]⟩, .string ⟨t.text.toArray⟩, .int .i64 0, .int .i64 (t.at_ : Nat), .slice none 0 0] := hfr.blk hb2 (by omega)
     have hl5_2 : w2.heap.size < w5.heap.size := ht2.lt
     obtain ⟨r5_2_0, r5_2_1, r5_2_2, r5_2_3, r5_2_4⟩ := blk5 ht2
     obtain ⟨y5_2_0, y5_2_1, y5_2_2, y5_2_3, y5_2_4⟩ := blk5f ht2
     have HB2_5 := Lib.hid ht2
     have hl3 := hb3.lt
     have ht3 : Blk w5 (w4.heap.size) 80 (tC t2) := hfr.blk hb3 (by omega)
     have hl5_3 : w4.heap.size < w5.heap.size := ht3.lt
     obtain ⟨r5_3_0, r5_3_1, r5_3_2, r5_3_3⟩ := blk4 ht3
     obtain ⟨y5_3_0, y5_3_1, y5_3_2, y5_3_3⟩ := blk4f ht3
     have HB3_5 := Lib.hid ht3
     have HP5 := Lib.hid hp2
     have HK5 := Lib.hid (hk.trans hfr)
     clear hp hk hp2 hfr hsz hlo hb0 hl0 ht0 hb1 hl1 ht1 hb2 hl2 ht2 hb3 hl3 ht3
     clear r4_0_0 r4_0_1 r4_0_2 r4_0_3 r4_0_4 y4_0_0 y4_0_1 y4_0_2 y4_0_3 y4_0_4 hl4_0 r4_1_0 r4_1_1 r4_1_2 r4_1_3 y4_1_0 y4_1_1 y4_1_2 y4_1_3 hl4_1 r4_2_0 r4_2_1 r4_2_2 r4_2_3 r4_2_4 y4_2_0 y4_2_1 y4_2_2 y4_2_3 y4_2_4 hl4_2))
 all_goals
  refine bodyPost_ret (res_one (by rfl) _ _ w.heap.size #[.string ⟨#[112, 108, 117, 115]⟩, .string ⟨#[]⟩, .int .i64 (t2.n : Nat), .int .i64 (t.at_ : Nat), .slice (some ⟨w5.heap.size, 0, none⟩) 1 1] rfl ?_ Tryd.underlying24 inf_node5) rfl ⟨some ⟨w5.heap.size, 0, none⟩, 1, by rw [HV.out]; rfl, ?_, ?_, ?_⟩
  · repeat' (first | (with_reducible first | exact HP5.out | exact HK5.out | exact HB0_5.out | exact HB1_5.out | exact HB2_5.out | exact HB3_5.out | apply ps_far | apply Ps.alloc | apply Ps.drew | apply kq_far | apply Fr.alloc | apply Fr.drew | apply nodZ0 | exact blk_new _ _ _ | apply blk_drew | apply blk_alloc | apply Blk.other) | omega | (simp <;> omega))
  · rw [HV.out]
    refine NodeS.one (A := none) (c := 0) (b := w5.heap.size) (by decide) (by decide) ?_ ⟨?_, ?_⟩ (NodeS.leaf _ _ _ _ _ _ (by decide) (by have := hsm.2.1; omega) _)
    · change Blk _ w5.heap.size 24 #[.string ⟨#[118, 97, 114]⟩, .string ⟨t.text.toArray⟩, .int .i64 0, .int .i64 (t.at_ : Nat), .slice none 0 0]
      repeat' (first | (with_reducible refine Blk.other ?_ ?_ _) | ((with_reducible refine blk_new_at ?_); (simp; done)) | omega | (simp <;> omega))
    · omega
    · simp
  · rw [HV.out]
    repeat' (first | (with_reducible first | exact HP5.out | exact HK5.out | exact HB0_5.out | exact HB1_5.out | exact HB2_5.out | exact HB3_5.out | apply ps_far | apply Ps.alloc | apply Ps.drew | apply kq_far | apply Fr.alloc | apply Fr.drew | apply nodZ0 | exact blk_new _ _ _ | apply blk_drew | apply blk_alloc | apply Blk.other) | omega | (simp <;> omega))
  · repeat' (first | (with_reducible first | exact HP5.out | exact HK5.out | exact HB0_5.out | exact HB1_5.out | exact HB2_5.out | exact HB3_5.out | apply ps_far | apply Ps.alloc | apply Ps.drew | apply kq_far | apply Fr.alloc | apply Fr.drew | apply nodZ0 | exact blk_new _ _ _ | apply blk_drew | apply blk_alloc | apply Blk.other) | omega | (simp <;> omega))
set_option maxRecDepth 100000 in
set_option maxHeartbeats 2000000 in
theorem ppart_none {w : World} {q : Nat} {A : Option Addr} {c : Nat} {l : List Tok} {s : PS} (h : Ps w q A c l s) (within : Bool) (hk : (nowP l s).kind ≠ 1) (hk2 : (nowP l s).kind ≠ 2) (hi : (isW l s [123] && !within) = false) :
  Calls Tryd.prog 161 #[.pointer (some ⟨q, 0, none⟩), .bool within] w (NPost w q A c l (zNode, failP s (nowP l s).at_ 2)) := by
 have HP0 := Lib.hid h
 have hq := h.qlt
 have HN := Lib.hid (fun W (hW : Ps W q A c l s) => pnow_any hW)
 have HX := Lib.hid (fun W (hW : Ps W q A c l s) => pnext_any hW)
 have hsm := h.now_small
 have HI := Lib.hid (fun W (hW : Ps W q A c l s) => pis_any hW [123])
 have HF := Lib.hid (fun W (hW : Ps W q A c l s) => pfail_any hW (nowP l s).at_ 2 hsm.2.2.2 (by decide))
 clear h
 generalize isW l s [123] = b at *
 generalize nowP l s = t at *
 generalize failP s t.at_ 2 = s2 at *
 unfold tokV at HN
 have g1 : ((t.kind : Int) == 1) = false := by simp; omega
 have g2 : ((t.kind : Int) == 2) = false := by simp; omega
 clear hk hk2 HX
 cases b <;> cases within
 all_goals first
  | (exfalso; revert hi; decide)
  | skip
 all_goals clear hi
 all_goals
  go_enter Tryd.func161, Tryd.ntmps161
  go_wp2_with (first
   | (
     go_at_call 46
     refine calls_at (fun W => Ps W q A c l s ∧ Kq q w W ∧ w.heap.size + 1 ≤ W.heap.size ∧ Blk W (w.heap.size) 24 zN) (fun W hW => HN.out W hW.1) ?_ ?_
     · refine ⟨?_, ?_, ?_, ?_⟩
       all_goals repeat' (first | (with_reducible first | exact HP0.out | exact HK0.out | exact HB0_0.out | exact Fr.refl _ _ | apply ps_far | apply Ps.alloc | apply Ps.drew | apply Fr.drew | apply blk_drew | apply kq_far | apply Fr.alloc | apply tokZ | apply nodZ0 | exact blk_new _ _ _ | apply blk_alloc | apply Blk.other) | omega | (simp; done) | (simp <;> omega))
     rintro W ⟨hp, hk, hlo, hb0⟩
     rintro e w1 ⟨rfl, hb⟩
     have hfr := Kq.of_below (q := q) hb
     have hp2 := hp.below hb
     have hsz := hfr.size
     have hmo1 : w.heap.size + 1 ≤ w1.heap.size := Nat.le_trans hlo hsz
     have hqs : q < w1.heap.size := hp2.qlt
     have hl0 := hb0.lt
     have ht0 : Blk w1 (w.heap.size) 24 zN := hfr.blk hb0 (by omega)
     have hl1_0 : w.heap.size < w1.heap.size := ht0.lt
     obtain ⟨r1_0_0, r1_0_1, r1_0_2, r1_0_3, r1_0_4⟩ := blk5 ht0
     obtain ⟨y1_0_0, y1_0_1, y1_0_2, y1_0_3, y1_0_4⟩ := blk5f ht0
     have HB0_1 := Lib.hid ht0
     have HP1 := Lib.hid hp2
     have HK1 := Lib.hid (hk.trans hfr)
     clear hp hk hp2 hfr hsz hlo hb0 hl0 ht0 hb)
   | (
     go_at_call 40
     refine calls_at (fun W => Ps W q A c l s ∧ Kq q w W ∧ w1.heap.size + 1 ≤ W.heap.size ∧ Blk W (w.heap.size) 24 zN ∧ Blk W (w1.heap.size) 80 (tC t)) (fun W hW => HI.out W hW.1) ?_ ?_
     · refine ⟨?_, ?_, ?_, ?_, ?_⟩
       all_goals repeat' (first | (with_reducible first | exact HP1.out | exact HK1.out | exact HB0_1.out | exact HB1_1.out | exact Fr.refl _ _ | apply ps_far | apply Ps.alloc | apply Ps.drew | apply Fr.drew | apply blk_drew | apply kq_far | apply Fr.alloc | apply tokZ | apply nodZ0 | exact blk_new _ _ _ | apply blk_alloc | apply Blk.other) | omega | (simp; done) | (simp <;> omega))
     rintro W ⟨hp, hk, hlo, hb0, hb1⟩
     rintro e w2 ⟨rfl, hb⟩
     have hfr := Kq.of_below (q := q) hb
     have hp2 := hp.below hb
     have hsz := hfr.size
     have hmo2 : w1.heap.size + 1 ≤ w2.heap.size := Nat.le_trans hlo hsz
     have hqs : q < w2.heap.size := hp2.qlt
     have hl0 := hb0.lt
     have ht0 : Blk w2 (w.heap.size) 24 zN := hfr.blk hb0 (by omega)
     have hl2_0 : w.heap.size < w2.heap.size := ht0.lt
     obtain ⟨r2_0_0, r2_0_1, r2_0_2, r2_0_3, r2_0_4⟩ := blk5 ht0
     obtain ⟨y2_0_0, y2_0_1, y2_0_2, y2_0_3, y2_0_4⟩ := blk5f ht0
     have HB0_2 := Lib.hid ht0
     have hl1 := hb1.lt
     have ht1 : Blk w2 (w1.heap.size) 80 (tC t) := hfr.blk hb1 (by omega)
     have hl2_1 : w1.heap.size < w2.heap.size := ht1.lt
     obtain ⟨r2_1_0, r2_1_1, r2_1_2, r2_1_3⟩ := blk4 ht1
     obtain ⟨y2_1_0, y2_1_1, y2_1_2, y2_1_3⟩ := blk4f ht1
     have HB1_2 := Lib.hid ht1
     have HP2 := Lib.hid hp2
     have HK2 := Lib.hid (hk.trans hfr)
     clear hp hk hp2 hfr hsz hlo hb0 hl0 ht0 hb1 hl1 ht1 hb
     clear r1_0_0 r1_0_1 r1_0_2 r1_0_3 r1_0_4 y1_0_0 y1_0_1 y1_0_2 y1_0_3 y1_0_4 hl1_0)
   | (
     go_at_call 47
     refine calls_at (fun W => Ps W q A c l s ∧ Kq q w W ∧ w2.heap.size ≤ W.heap.size ∧ Blk W (w.heap.size) 24 zN ∧ Blk W (w1.heap.size) 80 (tC t)) (fun W hW => HF.out W hW.1) ?_ ?_
     · refine ⟨?_, ?_, ?_, ?_, ?_⟩
       all_goals repeat' (first | (with_reducible first | exact HP2.out | exact HK2.out | exact HB0_2.out | exact HB1_2.out | exact Fr.refl _ _ | apply ps_far | apply Ps.alloc | apply Ps.drew | apply Fr.drew | apply blk_drew | apply kq_far | apply Fr.alloc | apply tokZ | apply nodZ0 | exact blk_new _ _ _ | apply blk_alloc | apply Blk.other) | omega | (simp; done) | (simp <;> omega))
     rintro W ⟨hp, hk, hlo, hb0, hb1⟩
     intro e w3 hpost
     obtain ⟨rfl, hp2, hfr⟩ := hpost
     have hsz := hfr.size
     have hmo3 : w2.heap.size ≤ w3.heap.size := Nat.le_trans hlo hsz
     have hqs : q < w3.heap.size := hp2.qlt
     have hl0 := hb0.lt
     have ht0 : Blk w3 (w.heap.size) 24 zN := hfr.blk hb0 (by omega)
     have hl3_0 : w.heap.size < w3.heap.size := ht0.lt
     obtain ⟨r3_0_0, r3_0_1, r3_0_2, r3_0_3, r3_0_4⟩ := blk5 ht0
     obtain ⟨y3_0_0, y3_0_1, y3_0_2, y3_0_3, y3_0_4⟩ := blk5f ht0
     have HB0_3 := Lib.hid ht0
     have hl1 := hb1.lt
     have ht1 : Blk w3 (w1.heap.size) 80 (tC t) := hfr.blk hb1 (by omega)
     have hl3_1 : w1.heap.size < w3.heap.size := ht1.lt
     obtain ⟨r3_1_0, r3_1_1, r3_1_2, r3_1_3⟩ := blk4 ht1
     obtain ⟨y3_1_0, y3_1_1, y3_1_2, y3_1_3⟩ := blk4f ht1
     have HB1_3 := Lib.hid ht1
     have HP3 := Lib.hid hp2
     have HK3 := Lib.hid (hk.trans hfr)
     clear hp hk hp2 hfr hsz hlo hb0 hl0 ht0 hb1 hl1 ht1
     clear r2_0_0 r2_0_1 r2_0_2 r2_0_3 r2_0_4 y2_0_0 y2_0_1 y2_0_2 y2_0_3 y2_0_4 hl2_0 r2_1_0 r2_1_1 r2_1_2 r2_1_3 y2_1_0 y2_1_1 y2_1_2 y2_1_3 hl2_1))
 all_goals
  refine bodyPost_ret (res_one (by rfl) _ _ w.heap.size #[.string ⟨#[]⟩, .string ⟨#[]⟩, .int .i64 0, .int .i64 0, .slice none 0 0] rfl ?_ Tryd.underlying24 inf_node5) rfl ⟨none, 0, by rfl, ?_, ?_, ?_⟩
  · repeat' (first | (with_reducible first | exact HP3.out | exact HK3.out | exact HB0_3.out | exact HB1_3.out | apply ps_far | apply Ps.alloc | apply Ps.drew | apply kq_far | apply Fr.alloc | apply Fr.drew | apply nodZ0 | exact blk_new _ _ _ | apply blk_drew | apply blk_alloc | apply Blk.other) | omega | (simp <;> omega))
  · exact NodeS.leaf _ _ _ _ _ _ (by decide) (by decide) _
  · skip
    repeat' (first | (with_reducible first | exact HP3.out | exact HK3.out | exact HB0_3.out | exact HB1_3.out | apply ps_far | apply Ps.alloc | apply Ps.drew | apply kq_far | apply Fr.alloc | apply Fr.drew | apply nodZ0 | exact blk_new _ _ _ | apply blk_drew | apply blk_alloc | apply Blk.other) | omega | (simp <;> omega))
  · repeat' (first | (with_reducible first | exact HP3.out | exact HK3.out | exact HB0_3.out | exact HB1_3.out | apply ps_far | apply Ps.alloc | apply Ps.drew | apply kq_far | apply Fr.alloc | apply Fr.drew | apply nodZ0 | exact blk_new _ _ _ | apply blk_drew | apply blk_alloc | apply Blk.other) | omega | (simp <;> omega))
set_option maxRecDepth 100000 in
set_option maxHeartbeats 2000000 in
theorem ppart_set {w : World} {q : Nat} {A : Option Addr} {c : Nat} {l : List Tok} {s : PS} (h : Ps w q A c l s) (hk : (nowP l s).kind ≠ 1) (hk2 : (nowP l s).kind ≠ 2) (hi : isW l s [123] = true) (HR : ∀ W, Ps W q A c l (nextP l s) → Calls Tryd.prog 154 #[.pointer (some ⟨q, 0, none⟩), .string ⟨#[125]⟩, .bool true] W (KPost W q A c l (rowP l (partT l) [125] (nextP l s)))) :
  Calls Tryd.prog 161 #[.pointer (some ⟨q, 0, none⟩), .bool false] w (NPost w q A c l (.node nSet [] 0 (nowP l s).at_ (rowP l (partT l) [125] (nextP l s)).1, (rowP l (partT l) [125] (nextP l s)).2)) := by
 have HP0 := Lib.hid h
 have hq := h.qlt
 have HN := Lib.hid (fun W (hW : Ps W q A c l s) => pnow_any hW)
 have HX := Lib.hid (fun W (hW : Ps W q A c l s) => pnext_any hW)
 have hsm := h.now_small
 have HI := Lib.hid (fun W (hW : Ps W q A c l s) => pis_any hW [123])
 have HRR := Lib.hid HR
 clear h HR
 rw [hi] at HI
 generalize rowP l (partT l) [125] (nextP l s) = V at *
 generalize nextP l s = s2 at *
 generalize nowP l s = t at *
 unfold tokV at HN HX
 have g1 : ((t.kind : Int) == 1) = false := by simp; omega
 have g2 : ((t.kind : Int) == 2) = false := by simp; omega
 clear hk hk2 hi
 go_enter Tryd.func161, Tryd.ntmps161
 go_upto_region 18 with (first
   | (
     go_at_call 46
     refine calls_at (fun W => Ps W q A c l s ∧ Kq q w W ∧ w.heap.size + 1 ≤ W.heap.size ∧ Blk W (w.heap.size) 24 zN) (fun W hW => HN.out W hW.1) ?_ ?_
     · refine ⟨?_, ?_, ?_, ?_⟩
       all_goals repeat' (first | (with_reducible first | exact HP0.out | exact HK0.out | exact HB0_0.out | exact Fr.refl _ _ | apply ps_far | apply Ps.alloc | apply Ps.drew | apply Fr.drew | apply blk_drew | apply kq_far | apply Fr.alloc | apply tokZ | apply nodZ0 | exact blk_new _ _ _ | apply blk_alloc | apply Blk.other) | omega | (simp; done) | (simp <;> omega))
     rintro W ⟨hp, hk, hlo, hb0⟩
     rintro e w1 ⟨rfl, hb⟩
     have hfr := Kq.of_below (q := q) hb
     have hp2 := hp.below hb
     have hsz := hfr.size
     have hmo1 : w.heap.size + 1 ≤ w1.heap.size := Nat.le_trans hlo hsz
     have hqs : q < w1.heap.size := hp2.qlt
     have hl0 := hb0.lt
     have ht0 : Blk w1 (w.heap.size) 24 zN := hfr.blk hb0 (by omega)
     have hl1_0 : w.heap.size < w1.heap.size := ht0.lt
     obtain ⟨r1_0_0, r1_0_1, r1_0_2, r1_0_3, r1_0_4⟩ := blk5 ht0
     obtain ⟨y1_0_0, y1_0_1, y1_0_2, y1_0_3, y1_0_4⟩ := blk5f ht0
     have HB0_1 := Lib.hid ht0
     have HP1 := Lib.hid hp2
     have HK1 := Lib.hid (hk.trans hfr)
     clear hp hk hp2 hfr hsz hlo hb0 hl0 ht0 hb)
   | (
     go_at_call 40
     refine calls_at (fun W => Ps W q A c l s ∧ Kq q w W ∧ w1.heap.size + 1 ≤ W.heap.size ∧ Blk W (w.heap.size) 24 zN ∧ Blk W (w1.heap.size) 80 (tC t)) (fun W hW => HI.out W hW.1) ?_ ?_
     · refine ⟨?_, ?_, ?_, ?_, ?_⟩
       all_goals repeat' (first | (with_reducible first | exact HP1.out | exact HK1.out | exact HB0_1.out | exact HB1_1.out | exact Fr.refl _ _ | apply ps_far | apply Ps.alloc | apply Ps.drew | apply Fr.drew | apply blk_drew | apply kq_far | apply Fr.alloc | apply tokZ | apply nodZ0 | exact blk_new _ _ _ | apply blk_alloc | apply Blk.other) | omega | (simp; done) | (simp <;> omega))
     rintro W ⟨hp, hk, hlo, hb0, hb1⟩
     rintro e w2 ⟨rfl, hb⟩
     have hfr := Kq.of_below (q := q) hb
     have hp2 := hp.below hb
     have hsz := hfr.size
     have hmo2 : w1.heap.size + 1 ≤ w2.heap.size := Nat.le_trans hlo hsz
     have hqs : q < w2.heap.size := hp2.qlt
     have hl0 := hb0.lt
     have ht0 : Blk w2 (w.heap.size) 24 zN := hfr.blk hb0 (by omega)
     have hl2_0 : w.heap.size < w2.heap.size := ht0.lt
     obtain ⟨r2_0_0, r2_0_1, r2_0_2, r2_0_3, r2_0_4⟩ := blk5 ht0
     obtain ⟨y2_0_0, y2_0_1, y2_0_2, y2_0_3, y2_0_4⟩ := blk5f ht0
     have HB0_2 := Lib.hid ht0
     have hl1 := hb1.lt
     have ht1 : Blk w2 (w1.heap.size) 80 (tC t) := hfr.blk hb1 (by omega)
     have hl2_1 : w1.heap.size < w2.heap.size := ht1.lt
     obtain ⟨r2_1_0, r2_1_1, r2_1_2, r2_1_3⟩ := blk4 ht1
     obtain ⟨y2_1_0, y2_1_1, y2_1_2, y2_1_3⟩ := blk4f ht1
     have HB1_2 := Lib.hid ht1
     have HP2 := Lib.hid hp2
     have HK2 := Lib.hid (hk.trans hfr)
     clear hp hk hp2 hfr hsz hlo hb0 hl0 ht0 hb1 hl1 ht1 hb
     clear r1_0_0 r1_0_1 r1_0_2 r1_0_3 r1_0_4 y1_0_0 y1_0_1 y1_0_2 y1_0_3 y1_0_4 hl1_0)
   | (
     go_at_call 72
     refine calls_at (fun W => Ps W q A c l s ∧ Kq q w W ∧ w2.heap.size ≤ W.heap.size ∧ Blk W (w.heap.size) 24 zN ∧ Blk W (w1.heap.size) 80 (tC t)) (fun W hW => HX.out W hW.1) ?_ ?_
     · refine ⟨?_, ?_, ?_, ?_, ?_⟩
       all_goals repeat' (first | (with_reducible first | exact HP2.out | exact HK2.out | exact HB0_2.out | exact HB1_2.out | exact Fr.refl _ _ | apply ps_far | apply Ps.alloc | apply Ps.drew | apply Fr.drew | apply blk_drew | apply kq_far | apply Fr.alloc | apply tokZ | apply nodZ0 | exact blk_new _ _ _ | apply blk_alloc | apply Blk.other) | omega | (simp; done) | (simp <;> omega))
     rintro W ⟨hp, hk, hlo, hb0, hb1⟩
     intro e w3 hpost
     obtain ⟨rfl, hp2, hfr⟩ := hpost
     have hsz := hfr.size
     have hmo3 : w2.heap.size ≤ w3.heap.size := Nat.le_trans hlo hsz
     have hqs : q < w3.heap.size := hp2.qlt
     have hl0 := hb0.lt
     have ht0 : Blk w3 (w.heap.size) 24 zN := hfr.blk hb0 (by omega)
     have hl3_0 : w.heap.size < w3.heap.size := ht0.lt
     obtain ⟨r3_0_0, r3_0_1, r3_0_2, r3_0_3, r3_0_4⟩ := blk5 ht0
     obtain ⟨y3_0_0, y3_0_1, y3_0_2, y3_0_3, y3_0_4⟩ := blk5f ht0
     have HB0_3 := Lib.hid ht0
     have hl1 := hb1.lt
     have ht1 : Blk w3 (w1.heap.size) 80 (tC t) := hfr.blk hb1 (by omega)
     have hl3_1 : w1.heap.size < w3.heap.size := ht1.lt
     obtain ⟨r3_1_0, r3_1_1, r3_1_2, r3_1_3⟩ := blk4 ht1
     obtain ⟨y3_1_0, y3_1_1, y3_1_2, y3_1_3⟩ := blk4f ht1
     have HB1_3 := Lib.hid ht1
     have HP3 := Lib.hid hp2
     have HK3 := Lib.hid (hk.trans hfr)
     clear hp hk hp2 hfr hsz hlo hb0 hl0 ht0 hb1 hl1 ht1
     clear r2_0_0 r2_0_1 r2_0_2 r2_0_3 r2_0_4 y2_0_0 y2_0_1 y2_0_2 y2_0_3 y2_0_4 hl2_0 r2_1_0 r2_1_1 r2_1_2 r2_1_3 y2_1_0 y2_1_1 y2_1_2 y2_1_3 hl2_1))
 go_region_with (
  (
    go_at_call 154
    refine calls_at (fun W => Ps W q A c l s2 ∧ Kq q w W ∧ w3.heap.size ≤ W.heap.size ∧ Blk W (w.heap.size) 24 zN ∧ Blk W (w1.heap.size) 80 (tC t)) (fun W hW => HRR.out W hW.1) ?_ ?_
    · refine ⟨?_, ?_, ?_, ?_, ?_⟩
      all_goals repeat' (first | (with_reducible first | exact HP3.out | exact HK3.out | exact HB0_3.out | exact HB1_3.out | exact Fr.refl _ _ | apply ps_far | apply Ps.alloc | apply Ps.drew | apply Fr.drew | apply blk_drew | apply kq_far | apply Fr.alloc | apply tokZ | apply nodZ0 | exact blk_new _ _ _ | apply blk_alloc | apply Blk.other) | omega | (simp; done) | (simp <;> omega))
    rintro W ⟨hp, hk, hlo, hb0, hb1⟩
    intro e w4 hpost
    obtain ⟨A4, c4, rfl, hnn, hp2, hfr⟩ := hpost
    have hsz := hfr.size
    have hmo4 : w3.heap.size ≤ w4.heap.size := Nat.le_trans hlo hsz
    have HNN4 := Lib.hid (show NodeF w4 (w3.heap.size) w4.heap.size _ A4 c4 from nodef_wide hnn hlo (Nat.le_refl _))
    have hqs : q < w4.heap.size := hp2.qlt
    have hl0 := hb0.lt
    have ht0 : Blk w4 (w.heap.size) 24 zN := hfr.blk hb0 (by omega)
    have hl4_0 : w.heap.size < w4.heap.size := ht0.lt
    obtain ⟨r4_0_0, r4_0_1, r4_0_2, r4_0_3, r4_0_4⟩ := blk5 ht0
    obtain ⟨y4_0_0, y4_0_1, y4_0_2, y4_0_3, y4_0_4⟩ := blk5f ht0
    have HB0_4 := Lib.hid ht0
    have hl1 := hb1.lt
    have ht1 : Blk w4 (w1.heap.size) 80 (tC t) := hfr.blk hb1 (by omega)
    have hl4_1 : w1.heap.size < w4.heap.size := ht1.lt
    obtain ⟨r4_1_0, r4_1_1, r4_1_2, r4_1_3⟩ := blk4 ht1
    obtain ⟨y4_1_0, y4_1_1, y4_1_2, y4_1_3⟩ := blk4f ht1
    have HB1_4 := Lib.hid ht1
    have HP4 := Lib.hid hp2
    have HK4 := Lib.hid (hk.trans hfr)
    clear hp hk hp2 hfr hsz hlo hb0 hl0 ht0 hb1 hl1 ht1 hnn))
 all_goals go_wp2_with fail

 all_goals
  refine bodyPost_ret (res_one (by rfl) _ _ w.heap.size #[.string ⟨#[115, 101, 116]⟩, .string ⟨#[]⟩, .int .i64 0, .int .i64 (t.at_ : Nat), .slice A4 V.1.length c4] rfl ?_ Tryd.underlying24 inf_node5) rfl ⟨A4, c4, by rfl, ?_, ?_, ?_⟩
  · repeat' (first | (with_reducible first | exact HP4.out | exact HK4.out | exact HB0_4.out | exact HB1_4.out | apply ps_far | apply Ps.alloc | apply Ps.drew | apply kq_far | apply Fr.alloc | apply Fr.drew | apply nodZ0 | exact blk_new _ _ _ | apply blk_drew | apply blk_alloc | apply Blk.other) | omega | (simp <;> omega))
  · refine NodeS.dress (o := []) (s := []) (n := 0) (p := 0) ?_ (by decide) (by decide)
    refine nodef_wide (lo := w3.heap.size) (hi := w4.heap.size) ?_ (by omega) (by simp)
    repeat' (first | (with_reducible first | exact HNN4.out | apply nodef_far | apply nodef_drew) | omega)
  · skip
    repeat' (first | (with_reducible first | exact HP4.out | exact HK4.out | exact HB0_4.out | exact HB1_4.out | apply ps_far | apply Ps.alloc | apply Ps.drew | apply kq_far | apply Fr.alloc | apply Fr.drew | apply nodZ0 | exact blk_new _ _ _ | apply blk_drew | apply blk_alloc | apply Blk.other) | omega | (simp <;> omega))
  · repeat' (first | (with_reducible first | exact HP4.out | exact HK4.out | exact HB0_4.out | exact HB1_4.out | apply ps_far | apply Ps.alloc | apply Ps.drew | apply kq_far | apply Fr.alloc | apply Fr.drew | apply nodZ0 | exact blk_new _ _ _ | apply blk_drew | apply blk_alloc | apply Blk.other) | omega | (simp <;> omega))
end Go.Proofs.YteikakoheibnjaaDoor
