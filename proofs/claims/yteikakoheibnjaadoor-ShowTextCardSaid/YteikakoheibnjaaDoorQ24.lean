/- Parts of the proof: PParse. -/
import Derived.Test.YteikakoheibnjaaDoorQ23
import Derived.Deep.RegionLaw
namespace Go.Proofs.YteikakoheibnjaaDoor
open Go Go.RowKit

def ParsePost (w : World) (r : ProgP × Nat × Nat) (e : Ending) (w' : World) : Prop :=
 ∃ L, e = .returned (.tuple #[progT r.1 L, .int .i64 (r.2.1 : Nat), .int .i64 (r.2.2 : Nat)]) ∧ ProgAt w' w'.heap.size r.1 L ∧ Below w.heap.size w w'
theorem res_cell3 {fn : Func} {p a b : Tmp} {t : TypeId} {fs : Array Field} (h : fn.results = #[.cell p t, .tmp a, .tmp b]) (tmps : Array Value) (w : World) (g : Nat) (cs : Array Value) (hp : tmps.getD p undef = .pointer (some ⟨g, 0, none⟩)) (hg : Blk w g t cs)
  (ht : Tryd.prog.underlying t = some (.struct fs)) (hi : (Tryd.prog.info? t).map (·.size) = some cs.size) : (results fn tmps).run Tryd.prog w = .ok (.tuple #[.agg cs, tmps.getD a undef, tmps.getD b undef]) w := by
 have hp' : tmps[p]?.getD undef = .pointer (some ⟨g, 0, none⟩) := by simpa using hp
 simp [results, h, hp', asAddr, run_loadVar_row w g t t cs (0, 0) _ hg ht rfl hi]
theorem zero_prog (w : World) (B : Nat) : ProgAt w B ⟨[], [], zNode⟩ ⟨none, 0, none, 0, none, 0⟩ :=
 ⟨⟨Nat.le_refl _, Nat.zero_le _, by simp, fun k hk => absurd hk (Nat.not_lt_zero _)⟩, ⟨Nat.le_refl _, Nat.zero_le _, by simp, fun k hk => absurd hk (Nat.not_lt_zero _)⟩, NodeS.plain (S := fun _ => False) (fun _ h => h.elim) _ _ _ (NodeS.leaf _ _ _ _ _ _ (by decide) (by decide) _)⟩
theorem ps_start {w : World} {B q : Nat} {A : Option Addr} {c : Nat} {l : List Tok} (hb : Blk w q 73 #[.slice A l.length c, .int .i64 0, .int .i64 0, .int .i64 0]) (ho : w.ownsRow B 80 4 (.slice A l.length c) l.length (cellsT l))
  (hq : ∀ k, (Value.slice A l.length c).ownBlock = some k → k < q) (h1 : 0 < l.length) (h2 : l.length ≤ 2001) (h3 : ∀ j (hj : j < l.length), l[j].kind ≠ 4 → j + 1 < l.length) (h4 : ∀ t ∈ l, t.kind ≤ 4 ∧ t.text.length ≤ 2000 ∧ t.n ≤ 99 ∧ t.at_ ≤ 2000) : Ps w q A c l ⟨0, 0, 0⟩ :=
 ⟨hb, fun j hj => by
  obtain ⟨g, cap, hv, hbase, hlt⟩ := ho.form (by omega)
  have hA : A = some ⟨g, 0, none⟩ := by injection hv
  subst hA
  have hc := ho.cells (g := g) rfl
  have e : ∀ (l : List Tok) (j : Nat) (hj : j < l.length), (cellsT l)[j * 4]? = some (.int .i64 (l[j].kind : Nat)) ∧ (cellsT l)[j * 4 + 1]? = some (.string ⟨l[j].text.toArray⟩) ∧ (cellsT l)[j * 4 + 2]? = some (.int .i64 (l[j].n : Nat)) ∧ (cellsT l)[j * 4 + 3]? = some (.int .i64 (l[j].at_ : Nat)) := by
   intro l
   induction l with
   | nil => exact fun j hj => absurd hj (Nat.not_lt_zero _)
   | cons x r ih =>
     intro j hj
     cases j with
     | zero => exact ⟨rfl, rfl, rfl, rfl⟩
     | succ j =>
       have hh := ih j (by simpa using hj)
       have e : cellsT (x :: r) = .int .i64 x.kind :: .string ⟨x.text.toArray⟩ :: .int .i64 x.n :: .int .i64 x.at_ :: cellsT r := rfl
       rw [e, show (j + 1) * 4 = j * 4 + 1 + 1 + 1 + 1 by omega, show j * 4 + 1 + 1 + 1 + 1 + 1 = (j * 4 + 1) + 1 + 1 + 1 + 1 by omega, show j * 4 + 1 + 1 + 1 + 1 + 2 = (j * 4 + 2) + 1 + 1 + 1 + 1 by omega, show j * 4 + 1 + 1 + 1 + 1 + 3 = (j * 4 + 3) + 1 + 1 + 1 + 1 by omega]
       exact hh
  obtain ⟨e0, e1, e2, e3⟩ := e l j hj
  have a0 := hc _ _ e0
  have a1 := hc _ _ e1
  have a2 := hc _ _ e2
  have a3 := hc _ _ e3
  rw [add_off] at a0 a1 a2 a3
  exact ⟨g, rfl, hq g rfl, a0, a1, a2, a3⟩, h1, h2, h3, h4, ⟨by decide, by decide⟩⟩
structure PrM (Z W : World) (q gp : Nat) (A : Option Addr) (c : Nat) (l : List Tok) (s : PS) (vd vp : Value) (ds : List DeclP) (xs : List (PredP × PPl)) (m : Node) (Am : Option Addr) (cm : Nat) : Prop where
 ps : Ps W q A c l s
 fr : Fr (fun k => k = q ∨ k = gp) Z W
 box : Blk W gp 33 #[vd, vp, .string ⟨m.op.toArray⟩, .string ⟨m.name.toArray⟩, .int .i64 m.num, .int .i64 m.pos, .slice Am m.kids.length cm]
 rd : RowD Z.heap.size W vd ds
 rp : RowP Z.heap.size W vp vd.ownBlock xs
 mn : NodeF W Z.heap.size W.heap.size m Am cm
 lt : q < gp ∧ gp < Z.heap.size
section
variable {Z W w2 : World} {q gp : Nat} {A : Option Addr} {c : Nat} {l : List Tok} {s s2 : PS} {vd vp : Value} {ds : List DeclP} {xs : List (PredP × PPl)} {m : Node} {Am : Option Addr} {cm : Nat}
theorem PrM.of (h : PrS Z W q gp A c l s vd vp ds xs) (hm : NodeF W Z.heap.size W.heap.size m Am cm) (w7 : World)
  (e : w7 = ((((W.setCell ⟨gp, 2, none⟩ (.string ⟨m.op.toArray⟩)).setCell ⟨gp, 3, none⟩ (.string ⟨m.name.toArray⟩)).setCell ⟨gp, 4, none⟩ (.int .i64 m.num)).setCell ⟨gp, 5, none⟩ (.int .i64 m.pos)).setCell ⟨gp, 6, none⟩ (.slice Am m.kids.length cm)) :
  PrM Z w7 q gp A c l s vd vp ds xs m Am cm := by
 subst e
 have hlt := h.lt
 have hf : Fr (fun k => k = gp) W (((((W.setCell ⟨gp, 2, none⟩ (.string ⟨m.op.toArray⟩)).setCell ⟨gp, 3, none⟩ (.string ⟨m.name.toArray⟩)).setCell ⟨gp, 4, none⟩ (.int .i64 m.num)).setCell ⟨gp, 5, none⟩ (.int .i64 m.pos)).setCell ⟨gp, 6, none⟩ (.slice Am m.kids.length cm)) :=
  Fr.setCell (S := fun k => k = gp) (p := ⟨gp, 6, none⟩) (Fr.setCell (S := fun k => k = gp) (p := ⟨gp, 5, none⟩) (Fr.setCell (S := fun k => k = gp) (p := ⟨gp, 4, none⟩) (Fr.setCell (S := fun k => k = gp) (p := ⟨gp, 3, none⟩) (Fr.setCell (S := fun k => k = gp) (p := ⟨gp, 2, none⟩) (Fr.refl _ _) (.inl rfl) _) (.inl rfl) _) (.inl rfl) _) (.inl rfl) _) (.inl rfl) _
 refine ⟨?_, h.fr.trans (hf.mono fun _ _ e => .inr e), prog2 h.box _ _ _ _ _, h.rd.fr hf (fun k e => by omega), h.rp.fr hf (fun k e => by omega), ?_, hlt⟩
 · exact ps_far (ps_far (ps_far (ps_far (ps_far h.ps hlt.1 _ _) hlt.1 _ _) hlt.1 _ _) hlt.1 _ _) hlt.1 _ _
 · exact NodeS.turn (fun p hp => World.cell?_of_block (hf.block p.block hp.2 (fun e => by have := hp.1; omega))) (fun b hb => ⟨hb.1, Nat.lt_of_lt_of_le hb.2 hf.size⟩) _ _ _ hm
theorem PrM.call (h : PrM Z W q gp A c l s vd vp ds xs m Am cm) (hp : Ps w2 q A c l s2) (hk : Kq q W w2) : PrM Z w2 q gp A c l s2 vd vp ds xs m Am cm :=
 ⟨hp, h.fr.trans (hk.mono fun _ _ e => .inl e), hk.blk h.box (by have := h.lt; omega), h.rd.fr hk (fun k e => by have := h.lt; omega), h.rp.fr hk (fun k e => by have := h.lt; omega),
  NodeS.turn (fun p hp => World.cell?_of_block (hk.block p.block hp.2 (fun e => by have := hp.1; have := h.lt; omega))) (fun b hb => ⟨hb.1, Nat.lt_of_lt_of_le hb.2 hk.size⟩) _ _ _ h.mn, h.lt⟩
end
theorem fr7 (W : World) (g : Nat) (y0 y1 y2 y3 y4 y5 y6 : Value) : Fr (fun k => k = g) W (((((((W.setCell ⟨g, 0, none⟩ y0).setCell ⟨g, 1, none⟩ y1).setCell ⟨g, 2, none⟩ y2).setCell ⟨g, 3, none⟩ y3).setCell ⟨g, 4, none⟩ y4).setCell ⟨g, 5, none⟩ y5).setCell ⟨g, 6, none⟩ y6) :=
 Fr.setCell (S := fun k => k = g) (p := ⟨g, 6, none⟩) (Fr.setCell (S := fun k => k = g) (p := ⟨g, 5, none⟩) (Fr.setCell (S := fun k => k = g) (p := ⟨g, 4, none⟩) (Fr.setCell (S := fun k => k = g) (p := ⟨g, 3, none⟩) (Fr.setCell (S := fun k => k = g) (p := ⟨g, 2, none⟩)
  (Fr.setCell (S := fun k => k = g) (p := ⟨g, 1, none⟩) (Fr.setCell (S := fun k => k = g) (p := ⟨g, 0, none⟩) (Fr.refl _ _) (.inl rfl) _) (.inl rfl) _) (.inl rfl) _) (.inl rfl) _) (.inl rfl) _) (.inl rfl) _) (.inl rfl) _
theorem PrM.done {Z W w7 : World} {q gp g : Nat} {A : Option Addr} {c : Nat} {l : List Tok} {s : PS} {Ad Ap : Option Addr} {cd cp : Nat} {ds : List DeclP} {xs : List (PredP × PPl)} {m : Node} {Am : Option Addr} {cm : Nat}
  (h : PrM Z W q gp A c l s (.slice Ad ds.length cd) (.slice Ap xs.length cp) ds xs m Am cm) (hd : ds.length ≤ 100000) (hx : xs.length ≤ 100000) (hg : g < Z.heap.size) (hf : Fr (fun k => k = g) W w7) :
  ProgAt w7 w7.heap.size ⟨ds, xs.map (·.1), m⟩ ⟨Ad, cd, Ap, cp, Am, cm⟩ :=
 ⟨((h.rd.fr hf (fun k e => by omega)).at_ hd).1, (h.rp.fr hf (fun k e => by omega)).at_ rfl hx,
   NodeS.plain (S := fun b => Z.heap.size ≤ b ∧ b < w7.heap.size) (fun b hb => hb.2) _ _ _ (NodeS.turn (fun p hp => World.cell?_of_block (hf.block p.block hp.2 (fun e => by have := hp.1; omega))) (fun b hb => ⟨hb.1, Nat.lt_of_lt_of_le hb.2 hf.size⟩) _ _ _ h.mn)⟩
theorem outp_new {Z W w7 : World} {q gp : Nat} {A : Option Addr} {c : Nat} {l : List Tok} {s : PS} {vd vp : Value} {ds : List DeclP} {xs : List (PredP × PPl)} (h : PrS Z W q gp A c l s vd vp ds xs) {b : Nat} (hb : W.heap.size ≤ b ∧ b < w7.heap.size) : OutP Z.heap.size w7 vp vd.ownBlock b :=
 ⟨Nat.le_trans h.fr.size hb.1, hb.2, (h.fresh hb.1).1, (h.fresh hb.1).2⟩
def endP (l : List Tok) (n : Nat) (r : (List DeclP × List PredP) × PS) : ProgP × Nat × Nat :=
 let m := formP l r.2
 let s1 := mustP l m.2 [59]
 let s2 := if (nowP l s1).kind ≠ 4 then failP s1 (nowP l s1).at_ 2 else s1
 if s2.e ≠ 0 then (⟨[], [], zNode⟩, s2.at_, s2.e) else (⟨r.1.1, r.1.2, m.1⟩, n, 0)
theorem parseP_eq (s : List UInt8) : parseP s = if (tokens s).2.2 ≠ 0 then (⟨[], [], zNode⟩, (tokens s).2.1, (tokens s).2.2) else endP (tokens s).1 s.length (progF (tokens s).1 ((tokens s).1.length + 1) [] [] ⟨0, 0, 0⟩) := rfl
def endQ (n : Nat) (ds : List DeclP) (ps : List PredP) (m : Node) (s3 : PS) : ProgP × Nat × Nat := if s3.e ≠ 0 then (⟨[], [], zNode⟩, s3.at_, s3.e) else (⟨ds, ps, m⟩, n, 0)
theorem endP_eq (l : List Tok) (n : Nat) (r : (List DeclP × List PredP) × PS) : endP l n r = endQ n r.1.1 r.1.2 (formP l r.2).1 (if (nowP l (mustP l (formP l r.2).2 [59])).kind ≠ 4 then failP (mustP l (formP l r.2).2 [59]) (nowP l (mustP l (formP l r.2).2 [59])).at_ 2 else mustP l (formP l r.2).2 [59]) := rfl

set_option maxRecDepth 100000 in
set_option maxHeartbeats 16000000 in
theorem parse_any (s : List UInt8) (hs : s.length ≤ 140737488355328) (w : World) (hT : Tab8 w) : Calls Tryd.prog 19 #[.string ⟨s.toArray⟩] w (ParsePost w (parseP s)) := by
 have HT := Lib.hid (fun W (hW : Below w.heap.size w W) => tokens_any s hs W (Go.Proofs.Utf8Tabs_below hT hW))
 have HV := Lib.hid (parseP_eq s)
 have HSM := Lib.hid (tokens_small (s := s))
 have HSZ := Lib.hid (show (⟨s.toArray⟩ : ByteArray).size = s.length by show s.toArray.size = _; simp)
 clear hs hT
 generalize parseP s = V at *
 unfold ToksPost at HT
 generalize tokens s = tk at *
 obtain ⟨l, ta, te⟩ := tk
 simp only at HT HV HSM
 generalize hS : (⟨s.toArray⟩ : ByteArray) = S at *
 generalize s.length = n at *
 clear hS
 by_cases he : te = 0
 case neg =>
  have HE := Lib.hid (HV.out.trans (if_pos he))
  have g : ((te : Int) != 0) = true := by simp; omega
  clear he HV HSM HSZ
  go_enter Tryd.func19, Tryd.ntmps19
  go_wp2_with (
   go_at_call 39
   refine (HT.out _ ((Below.refl _ _).alloc (Nat.le_refl _) _)).mono ?_
   intro e w2 hpost
   obtain ⟨A, c, rfl, hown, hb⟩ := hpost
   have hq2 : Blk w2 w.heap.size 33 #[.slice none 0 0, .slice none 0 0, .string ⟨#[]⟩, .string ⟨#[]⟩, .int .i64 0, .int .i64 0, .slice none 0 0] := (hb.block w.heap.size (by simp)).trans (heap_alloc_new w _)
   obtain ⟨r0, r1, r2, r3, r4, r5, r6⟩ := blk7 hq2
   obtain ⟨y0, y1, y2, y3, y4, y5, y6⟩ := pblk7f hq2
   have HB2 := Lib.hid (((Below.refl w.heap.size w).alloc (Nat.le_refl _) (.cells #[.slice none 0 0, .slice none 0 0, .string ⟨#[]⟩, .string ⟨#[]⟩, .int .i64 0, .int .i64 0, .slice none 0 0] 33)).trans (hb.mono (by simp)))
   have HQ2 := Lib.hid hq2
   clear hown hb hq2)
  all_goals
   refine bodyPost_ret (res_cell3 (by rfl) _ _ w.heap.size #[.slice none 0 0, .slice none 0 0, .string ⟨#[]⟩, .string ⟨#[]⟩, .int .i64 0, .int .i64 0, .slice none 0 0] rfl (prog7 HQ2.out _ _ _ _ _ _ _) Tryd.underlying33 inf_prog7) rfl ?_
   rw [HE.out]
   exact ⟨⟨none, 0, none, 0, none, 0⟩, rfl, zero_prog _ _, HB2.out.trans ((fr7 _ _ _ _ _ _ _ _ _).below (fun k hk => by omega) HB2.out.size)⟩
 case pos =>
  subst he
  have HV2 := Lib.hid (HV.out.trans (if_neg (fun h => h rfl)))
  obtain ⟨t1, t2, t3, t4⟩ := HSM.out rfl
  have HSM2 := Lib.hid (And.intro t3 t4)
  have HFF := Lib.hid (nform_law l)
  clear HV HSM t3 t4
  go_enter Tryd.func19, Tryd.ntmps19
  go_wp2_with (
   go_at_call 39
   refine (HT.out _ ((Below.refl _ _).alloc (Nat.le_refl _) _)).mono ?_
   intro e w2 hpost
   obtain ⟨A, c, rfl, hown, hb⟩ := hpost
   have HQ2 := Lib.hid (show Blk w2 w.heap.size 33 #[.slice none 0 0, .slice none 0 0, .string ⟨#[]⟩, .string ⟨#[]⟩, .int .i64 0, .int .i64 0, .slice none 0 0] from (hb.block w.heap.size (by simp)).trans (heap_alloc_new w _))
   have HB2 := Lib.hid (((Below.refl w.heap.size w).alloc (Nat.le_refl _) (.cells #[.slice none 0 0, .slice none 0 0, .string ⟨#[]⟩, .string ⟨#[]⟩, .int .i64 0, .int .i64 0, .slice none 0 0] 33)).trans (hb.mono (by simp)))
   have HOW := Lib.hid hown
   clear hown hb)
  obtain ⟨q, hqq⟩ : ∃ q, q = w2.heap.size := ⟨_, rfl⟩
  have hq0 : w.heap.size < w2.heap.size := HQ2.out.lt
  refine wp_named (fun W => PrS W W (w2.heap.size) (w2.heap.size + 1) A c l ⟨0, 0, 0⟩ (.slice none 0 0) (.slice none 0 0) [] [] ∧ Below w.heap.size w W ∧ Blk W w.heap.size 33 #[.slice none 0 0, .slice none 0 0, .string ⟨#[]⟩, .string ⟨#[]⟩, .int .i64 0, .int .i64 0, .slice none 0 0]) ?_ ?_
  · refine ⟨⟨?_, Fr.refl _ _, blk_new_at (by simp), RowD.nil _ _, RowP.nil _ _ _, .inl rfl, by simp <;> omega⟩, (HB2.out.alloc HB2.out.size _).alloc (by have := HB2.out.size; simp <;> omega) _, blk_alloc (blk_alloc HQ2.out _) _⟩
    exact ps_start (blk_alloc (blk_new _ _ _) _) ((HOW.out.alloc _).alloc _) (fun k hk => (HOW.out.lt k hk).2) t1 t2 HSM2.out.1 HSM2.out.2
  rintro w3 ⟨hps, hbw, hres⟩
  rw [← hqq] at hps hq0 ⊢
  obtain ⟨gp, hgg⟩ : ∃ g, g = q + 1 := ⟨_, rfl⟩
  rw [← hgg] at hps ⊢
  have HS3 := Lib.hid hps
  have hlz : w.heap.size < w3.heap.size := hres.lt
  have HRES := Lib.hid (fun W (hW : Fr (fun k => k = q ∨ k = gp) w3 W) => hW.blk hres (by omega))
  have HBW := Lib.hid (fun W (hW : Fr (fun k => k = q ∨ k = gp) w3 W) W2 (hW2 : Fr (fun k => k = w.heap.size) W W2) => (hbw.trans (hW.below (B := w.heap.size) (fun k hk => by omega) hbw.size)).trans (hW2.below (B := w.heap.size) (fun k hk => by omega) (by have := hW.size; omega)))
  clear hqq hgg hps hres hbw HQ2 HB2 HOW HT HSM2
  go_loopg [] (l.length + 2) (fun g wr => ∃ (f : Nat) (ds : List DeclP) (xs : List (PredP × PPl)) (s2 : PS) (vd vp : Value), f ≤ l.length + 1 ∧ g = f + 1 ∧ l.length < f + s2.i + 1 ∧ ds.length ≤ s2.i ∧ xs.length ≤ s2.i ∧ Hid (V = endP l n (progF l f ds (xs.map (·.1)) s2)) ∧ Hid (PrS w3 wr q gp A c l s2 vd vp ds xs))
  case atStart => exact ⟨l.length + 1, [], [], ⟨0, 0, 0⟩, .slice none 0 0, .slice none 0 0, Nat.le_refl _, rfl, by show l.length < l.length + 1 + 0 + 1; omega, Nat.le_refl _, Nat.le_refl _, HV2, HS3⟩
  case round =>
   obtain ⟨f, ds, xs, s2, vd, vp, hf1, hg, hfs, hdl, hxl, HR, HSr⟩ := hrel
   have HG := Lib.hid hg
   clear hg HV2 HS3
   have hi2 := HSr.out.ps.lt
   obtain ⟨f, rfl⟩ : ∃ k, f = k + 1 := ⟨f - 1, by omega⟩
   rw [progF_step] at HR
   obtain ⟨pr0, pr1, pr2, pr3⟩ := HSr.out.ps.cells
   obtain ⟨br0, br1, br2, br3, br4, br5, br6⟩ := blk7 HSr.out.box
   have HOO := Lib.hid (rfl : orderP l s2 nVarK = orderP l s2 nVarK)
   have HII := Lib.hid (rfl : isW l s2 nPred = isW l s2 nPred)
   by_cases he : s2.e = 0
   · have g0 : ((s2.e : Int) == 0) = true := by rw [he]; rfl
     by_cases hp : isW l s2 nPred = true
     · rw [if_pos ⟨he, Or.inl hp⟩, if_pos hp] at HR
       clear he HFF HRES HBW HSZ
       have HIS := Lib.hid (fun W (hW : Ps W q A c l s2) => pis_any hW nPred)
       rw [hp] at HIS
       have hup := predP_up hp
       have HPP := Lib.hid (fun W (hW : Ps W q A c l s2) => ppred_any hW)
       clear hp HOO HII
       generalize predP l s2 = pr at *
       obtain ⟨x, s3⟩ := pr
       simp only at HR hup
       unfold QPost at HPP
       simp only at HPP
       go_upto_region 8 with (first
        | (
          go_at_call 40
          have hgd := HS5
          clear hgd
          refine (HIS.out _ HS5.out.ps).mono ?_
          rintro e w6 ⟨rfl, hb⟩
          have hp := HS5.out.ps.below hb
          have hk := Kq.of_below (q := q) hb
          have HS6 := Lib.hid (HS5.out.call hp hk)
          clear hp hk hb)
        | (
          go_at_call 40
          have hgd := HSr
          clear hgd
          refine (HIS.out _ HSr.out.ps).mono ?_
          rintro e w5 ⟨rfl, hb⟩
          have hp := HSr.out.ps.below hb
          have hk := Kq.of_below (q := q) hb
          have HS5 := Lib.hid (HSr.out.call hp hk)
          clear hp hk hb))
       have HC6 : Hid (Calls Tryd.prog 42 #[.pointer (some ⟨q, 0, none⟩)] w6.drew fun e w7 => ∃ A1 c1 A2 c2, e = .returned (.agg #[.string ⟨x.name.toArray⟩, .slice A1 x.params.length c1, .string ⟨x.body.op.toArray⟩, .string ⟨x.body.name.toArray⟩, .int .i64 x.body.num, .int .i64 x.body.pos, .slice A2 x.body.kids.length c2, .int .i64 x.at_]) ∧
         PrS w3 w7 q gp A c l s3 vd vp ds xs ∧ x.name.length ≤ 2000 ∧ DeclS w7 (OutP w3.heap.size w7 vp vd.ownBlock) A1 c1 x.params ∧ NodeS w7 (OutP w3.heap.size w7 vp vd.ownBlock) x.body A2 c2) := by
        refine Lib.hid ((HPP.out _ HS6.out.ps.drew).mono ?_)
        intro e w7 hpost
        obtain ⟨A1, c1, A2, c2, rfl, hn, hd, hb, hp, hk⟩ := hpost
        have hS : ∀ b, w6.drew.heap.size ≤ b ∧ b < w7.heap.size → OutP w3.heap.size w7 vp vd.ownBlock b := fun b hb => outp_new HS6.out.drew hb
        exact ⟨A1, c1, A2, c2, rfl, HS6.out.drew.call hp hk, hn, hd.turn (fun _ _ => rfl) hS, NodeS.turn (fun _ _ => rfl) hS _ _ _ hb⟩
       obtain ⟨p60, p61, p62, p63⟩ := HS6.out.ps.cells
       obtain ⟨b60, b61, b62, b63, b64, b65, b66⟩ := blk7 HS6.out.box
       obtain ⟨f60, f61, f62, f63, f64, f65, f66⟩ := pblk7f HS6.out.box
       have hl6 : gp < w6.heap.size := HS6.out.box.lt
       clear HPP
       obtain ⟨i9, hi9, hz0, hz1, hz2⟩ := info_parts inf_pred
       go_region_law (first
        | (refine step_append_any _ (by rfl) (.tmp 42) (.tmp 45) 31 (by rfl) w3.heap.size 54 i9 _ 8 120 und_preds hi9 hz0 hz1 hz2 rfl (by decide) _ xs.length (cellsQ xs) (by rfl) ((HS7.out.1.rp.alloc _).own) (w7.heap.size + 1) (some ⟨w7.heap.size, 0, none⟩) 1 1 (cells8 x ⟨A1, c1, A2, c2⟩) (by rfl) (reads_eight (t := 54) (heap_alloc_new w7 _)) (pred_one _ _) (by simp only [maxLen]; omega) (by omega) (by have := HS7.out.1.fr.size; simp <;> omega) ?_
           intro v8 w8 hown8 hg8 hor8
           obtain ⟨A8, c8, rfl⟩ := own_slice hown8
           have hb8 : Blk w8 gp 33 #[vd, vp, .string ⟨#[]⟩, .string ⟨#[]⟩, .int .i64 0, .int .i64 0, .slice none 0 0] := (hg8.block gp (by have := HS7.out.1.box.lt; simp; omega) (fun e => by
            have h1 := (HS7.out.1.rp.own.lt gp e.symm).1
            have h2 := HS7.out.1.lt
            omega)).trans (blk_alloc HS7.out.1.box _)
           obtain ⟨e80, e81, e82, e83, e84, e85, e86⟩ := blk7 hb8
           obtain ⟨f80, f81, f82, f83, f84, f85, f86⟩ := pblk7f hb8
           have HS8 := Lib.hid ((HS7.out.1.alloc _).pred (a := ⟨A1, c1, A2, c2⟩) ⟨HS7.out.2.1, HS7.out.2.2.1.turn (fun p hp => World.cell?_of_block (Below.heap_alloc _ _ p.block hp.2.1)) (fun b hb => ⟨hb.1, by have := hb.2.1; simp; omega, hb.2.2⟩), NodeS.turn (fun p hp => World.cell?_of_block (Below.heap_alloc _ _ p.block hp.2.1)) (fun b hb => ⟨hb.1, by have := hb.2.1; simp; omega, hb.2.2⟩) _ _ _ HS7.out.2.2.2⟩ hown8 hg8 hor8)
           clear hb8 hown8 hg8 hor8)
        | (go_simp
           go_at_call 42
           refine HC6.out.mono ?_
           rintro e w7 ⟨A1, c1, A2, c2, rfl, hS7⟩
           obtain ⟨e70, e71, e72, e73, e74, e75, e76⟩ := blk7 hS7.1.box
           have hl7 : gp < w7.heap.size := hS7.1.box.lt
           have hlt7 := hS7.1.ps.lt
           have HS7 := Lib.hid hS7
           clear hS7))
       all_goals
        go_wp2_with fail
        go_roundg (f + 1)
        case measure => have := HG.out; omega
        case rel => exact ⟨f, ds, xs ++ [(x, ⟨A1, c1, A2, c2⟩)], s3, vd, _, by omega, rfl, by omega, by omega, by rw [List.length_append]; simp only [List.length_cons, List.length_nil]; omega, Lib.hid (by rw [List.map_append]; exact HR.out), HS8⟩
     · by_cases ho : 0 ≤ orderP l s2 nVarK
       · rw [if_pos ⟨he, Or.inr ho⟩, if_neg hp] at HR
         have hp := Bool.eq_false_iff.2 hp
         clear he HFF HRES HBW HSZ
         have HIS := Lib.hid (fun W (hW : Ps W q A c l s2) => pis_any hW nPred)
         rw [hp] at HIS
         have hup := declP_up ho
         have hln := declP_len ho
         have HOR := Lib.hid (fun W (hW : Ps W q A c l s2) => porder_any hW nVarK (by decide))
         have gor : decide ((0 : Int) ≤ orderP l s2 nVarK) = true := decide_eq_true ho
         have HPD := Lib.hid (fun W (hW : Ps W q A c l s2) => pdecl_any hW)
         clear hp ho HOO HII
         generalize orderP l s2 nVarK = ov at *
         generalize declP l s2 = pr at *
         obtain ⟨es, s3⟩ := pr
         simp only at HR hup hln
         unfold DPost at HPD
         simp only at HPD
         go_upto_region 9 with (first
          | (
            go_at_call 40
            have hgd := HS5
            clear hgd
            refine (HIS.out _ HS5.out.ps).mono ?_
            rintro e w6 ⟨rfl, hb⟩
            have hp := HS5.out.ps.below hb
            have hk := Kq.of_below (q := q) hb
            have HS6 := Lib.hid (HS5.out.call hp hk)
            clear hp hk hb)
          | (
            go_at_call 41
            have hgd := HS4
            clear hgd
            refine (HOR.out _ HS4.out.ps).mono ?_
            rintro e w5 ⟨rfl, hb⟩
            have hp := HS4.out.ps.below hb
            have hk := Kq.of_below (q := q) hb
            have HS5 := Lib.hid (HS4.out.call hp hk)
            clear hp hk hb)
          | (
            go_at_call 40
            have hgd := HSr
            clear hgd
            refine (HIS.out _ HSr.out.ps).mono ?_
            rintro e w4 ⟨rfl, hb⟩
            have hp := HSr.out.ps.below hb
            have hk := Kq.of_below (q := q) hb
            have HS4 := Lib.hid (HSr.out.call hp hk)
            clear hp hk hb))
         have HC6 : Hid (Calls Tryd.prog 43 #[.pointer (some ⟨q, 0, none⟩)] w6.drew fun e w7 => ∃ A1 c1, e = .returned (.slice A1 es.length c1) ∧ PrS w3 w7 q gp A c l s3 vd vp ds xs ∧ RowD w6.heap.size w7 (.slice A1 es.length c1) es) := by
          refine Lib.hid ((HPD.out _ HS6.out.ps.drew).mono ?_)
          intro e w7 hpost
          obtain ⟨A1, c1, rfl, hd, hp, hk⟩ := hpost
          exact ⟨A1, c1, rfl, HS6.out.drew.call hp hk, hd⟩
         obtain ⟨p60, p61, p62, p63⟩ := HS6.out.ps.cells
         obtain ⟨b60, b61, b62, b63, b64, b65, b66⟩ := blk7 HS6.out.box
         obtain ⟨f60, f61, f62, f63, f64, f65, f66⟩ := pblk7f HS6.out.box
         have hl6 : gp < w6.heap.size := HS6.out.box.lt
         clear HPD
         obtain ⟨i9, hi9, hz0, hz1, hz2⟩ := info_parts inf_decl3
         go_region_law (first
          | (refine step_append_any _ (by rfl) (.tmp 49) (.tmp 51) 30 (by rfl) w3.heap.size 60 i9 _ 3 32 und_decls hi9 hz0 hz1 hz2 rfl (by decide) _ ds.length (cellsD ds) (by rfl) HS7.out.1.rd.own w7.heap.size A1 es.length c1 (cellsD es) (by rfl) HS7.out.2.reads (cellsD_one _) (by simp only [maxLen]; omega) (by omega) HS7.out.1.fr.size ?_
             intro v8 w8 hown8 hg8 hor8
             obtain ⟨A8, c8, rfl⟩ := own_slice hown8
             have hb8 : Blk w8 gp 33 #[vd, vp, .string ⟨#[]⟩, .string ⟨#[]⟩, .int .i64 0, .int .i64 0, .slice none 0 0] := (hg8.block gp HS7.out.1.box.lt (fun e => by
              have h1 := (HS7.out.1.rd.own.lt gp e.symm).1
              have h2 := HS7.out.1.lt
              omega)).trans HS7.out.1.box
             obtain ⟨e80, e81, e82, e83, e84, e85, e86⟩ := blk7 hb8
             obtain ⟨f80, f81, f82, f83, f84, f85, f86⟩ := pblk7f hb8
             have HS8 := Lib.hid (HS7.out.1.decl HS7.out.2.nm hown8 hg8 hor8)
             clear hb8 hown8 hg8 hor8)
          | (go_simp
             go_at_call 43
             refine HC6.out.mono ?_
             rintro e w7 ⟨A1, c1, rfl, hS7⟩
             obtain ⟨e70, e71, e72, e73, e74, e75, e76⟩ := blk7 hS7.1.box
             have hl7 : gp < w7.heap.size := hS7.1.box.lt
             have hlt7 := hS7.1.ps.lt
             have HS7 := Lib.hid hS7
             clear hS7))
         all_goals
          go_wp2_with fail
          go_roundg (f + 1)
          case measure => have := HG.out; omega
          case rel => exact ⟨f, ds ++ es, xs, s3, _, vp, by omega, rfl, by omega, by rw [List.length_append]; omega, by omega, HR, HS8⟩
       · have hp := Bool.eq_false_iff.2 hp
         clear he
         replace HV := Lib.hid (HR.out.trans (congrArg (endP l n) (if_neg (fun hh => hh.2.elim (fun e => by rw [hp] at e; cases e) ho))))
         have HIS := Lib.hid (fun W (hW : Ps W q A c l s2) => pis_any hW nPred)
         rw [hp] at HIS
         have HOR := Lib.hid (fun W (hW : Ps W q A c l s2) => porder_any hW nVarK (by decide))
         have gor : decide ((0 : Int) ≤ orderP l s2 nVarK) = false := decide_eq_false ho
         clear hp ho HR HOO HII
         generalize orderP l s2 nVarK = ov at *
         have HE := Lib.hid (endP_eq l n ((ds, xs.map (·.1)), s2))
         rw [← HV.out] at HE
         clear HV
         have HFM := Lib.hid (fun W (hW : Ps W q A c l s2) => HFF.out W q A c s2 hW)
         simp only at HE
         generalize formP l s2 = pr at *
         obtain ⟨⟨no, nn, nk, np, ns⟩, sm⟩ := pr
         simp only at HE
         have HMU := Lib.hid (fun W (hW : Ps W q A c l sm) => pmust_any hW [59])
         generalize mustP l sm [59] = s4 at *
         have HNW := Lib.hid (fun W (hW : Ps W q A c l s4) => pnow_any hW)
         have HFA := Lib.hid (fun W (hW : Ps W q A c l s4) => pfail_any hW (nowP l s4).at_ 2 hW.now_small.2.2.2 (by decide))
         generalize nowP l s4 = t4 at *
         unfold tokV at HNW
         have hf0 := fld0
         have hf3 := fld3
         go_upto_region 11 with (first
          | (
            go_at_call 44
            have hgd := HS5
            clear hgd
            refine (HFM.out _ HS5.out.ps).mono ?_
            intro e w10 hpost
            obtain ⟨Am, cm, rfl, hnn, hp, hk⟩ := npost_open hpost
            have HS10 := Lib.hid (HS5.out.call hp hk)
            have HNM := Lib.hid (nodef_wide (lo' := w3.heap.size) (hi' := w10.heap.size) hnn HS5.out.fr.size (Nat.le_refl _))
            obtain ⟨p100, p101, p102, p103⟩ := HS10.out.ps.cells
            obtain ⟨b100, b101, b102, b103, b104, b105, b106⟩ := blk7 HS10.out.box
            obtain ⟨f100, f101, f102, f103, f104, f105, f106⟩ := pblk7f HS10.out.box
            clear hp hk hnn)
          | (
            go_at_call 41
            have hgd := HS4
            clear hgd
            refine (HOR.out _ HS4.out.ps).mono ?_
            rintro e w5 ⟨rfl, hb⟩
            have hp := HS4.out.ps.below hb
            have hk := Kq.of_below (q := q) hb
            have HS5 := Lib.hid (HS4.out.call hp hk)
            clear hp hk hb)
          | (
            go_at_call 40
            have hgd := HSr
            clear hgd
            refine (HIS.out _ HSr.out.ps).mono ?_
            rintro e w4 ⟨rfl, hb⟩
            have hp := HSr.out.ps.below hb
            have hk := Kq.of_below (q := q) hb
            have HS4 := Lib.hid (HSr.out.call hp hk)
            clear hp hk hb))
         refine wp_named (fun W => PrM w3 W q gp A c l sm vd vp ds xs (.node no nn nk np ns) Am cm) (PrM.of HS10.out HNM.out _ rfl) ?_
         clear p100 p101 p102 p103 b100 b101 b102 b103 b104 b105 b106 f100 f101 f102 f103 f104 f105 f106
         clear HS10 HNM
         rintro w11 hm11
         have HM11 := Lib.hid hm11
         clear hm11
         by_cases hk4 : t4.kind = 4
         · rw [if_neg (fun h => h hk4)] at HE
           have g8 : ((t4.kind : Int) != 4) = false := by rw [hk4]; rfl
           clear hk4 HFA
           go_upto_region 14 with (first
            | (
              go_at_call 46
              have hgd := HM12
              clear hgd
              refine (HNW.out _ HM12.out.ps).mono ?_
              rintro e w13 ⟨rfl, hb⟩
              have HM13 := Lib.hid (HM12.out.call (HM12.out.ps.below hb) (Kq.of_below (q := q) hb))
              clear hb)
            | (
              go_at_call 45
              refine (HMU.out _ HM11.out.ps).mono ?_
              intro e w12 hpost
              obtain ⟨rfl, hp, hk⟩ := hpost
              have HM12 := Lib.hid (HM11.out.call hp hk)
              clear hp hk))
           have hres := HRES.out _ HM13.out.fr
           obtain ⟨p0, p1, p2, p3⟩ := HM13.out.ps.cells
           obtain ⟨b0, b1, b2, b3, b4, b5, b6⟩ := blk7 HM13.out.box
           obtain ⟨r0, r1, r2, r3, r4, r5, r6⟩ := blk7 hres
           obtain ⟨y0, y1, y2, y3, y4, y5, y6⟩ := pblk7f hres
           have HRS := Lib.hid hres
           have hsz := HM13.out.fr.size
           have hlw : w.heap.size < w13.heap.size := hres.lt
           clear hres
           by_cases he : s4.e = 0
           · replace HE := Lib.hid (HE.out.trans (if_neg (fun h => h he)))
             have g9 : ((s4.e : Int) != 0) = false := by rw [he]; rfl
             clear he
             obtain ⟨Ad, cd, ed⟩ := own_slice HM13.out.rd.own
             obtain ⟨Ap, cp, ep⟩ := own_slice HM13.out.rp.own
             subst ed ep
             go_wp2_with fail
             refine bodyPost_ret (res_cell3 (by rfl) _ _ w.heap.size #[.slice Ad ds.length cd, .slice Ap xs.length cp, .string ⟨no.toArray⟩, .string ⟨nn.toArray⟩, .int .i64 nk, .int .i64 np, .slice Am ns.length cm] rfl (prog7 HRS.out _ _ _ _ _ _ _) Tryd.underlying33 inf_prog7) rfl ?_
             rw [HE.out]
             refine ⟨⟨Ad, cd, Ap, cp, Am, cm⟩, ?_, ?_, ?_⟩
             · refine congrArg Ending.returned ?_
               show Value.tuple _ = Value.tuple #[progW ds.length (xs.map (·.1)).length no nn nk np ns.length ⟨Ad, cd, Ap, cp, Am, cm⟩, .int .i64 (n : Nat), .int .i64 (0 : Nat)]
               rw [List.length_map, ← HSZ.out]
               rfl
             · exact HM13.out.done (by omega) (by omega) hlz (fr7 _ _ _ _ _ _ _ _ _)
             · exact HBW.out _ HM13.out.fr _ (fr7 _ _ _ _ _ _ _ _ _)
           · replace HE := Lib.hid (HE.out.trans (if_pos he))
             have g9 : ((s4.e : Int) != 0) = true := by simp; omega
             clear he
             go_wp2_with fail
             go_region_held3 (fun W : World => W.cell? ⟨q, 2, none⟩ = some (.int .i64 (s4.e : Nat)) ∧ W.cell? ⟨q, 3, none⟩ = some (.int .i64 (s4.at_ : Nat))) ((refine ⟨?_, ?_⟩ <;> repeat' (first | (with_reducible first | exact p2 | exact p3 | apply keepS | apply keepD) | omega))) (fail)
             go_wp2_with fail
             refine bodyPost_ret (res_cell3 (by rfl) _ _ w.heap.size #[.slice none 0 0, .slice none 0 0, .string ⟨#[]⟩, .string ⟨#[]⟩, .int .i64 0, .int .i64 0, .slice none 0 0] rfl (blk_drew (prog7 HRS.out _ _ _ _ _ _ _)) Tryd.underlying33 inf_prog7) rfl ?_
             rw [HE.out]
             exact ⟨⟨none, 0, none, 0, none, 0⟩, rfl, zero_prog _ _, HBW.out _ HM13.out.fr _ (Fr.drew (fr7 _ _ _ _ _ _ _ _ _))⟩
         · rw [if_pos hk4] at HE
           have g8 : ((t4.kind : Int) != 4) = true := by simp; omega
           clear hk4
           generalize failP s4 t4.at_ 2 = s5 at *
           go_upto_region 14 with (first
            | (
              go_at_call 47
              refine (HFA.out _ HM14.out.ps).mono ?_
              intro e w15 hpost
              obtain ⟨rfl, hp, hk⟩ := hpost
              have HM15 := Lib.hid (HM14.out.call hp hk)
              clear hp hk)
            | (
              go_at_call 46
              have hgd := HM13
              clear hgd
              refine (HNW.out _ HM13.out.ps).mono ?_
              rintro e w14 ⟨rfl, hb⟩
              have HM14 := Lib.hid (HM13.out.call (HM13.out.ps.below hb) (Kq.of_below (q := q) hb))
              clear hb)
            | (
              go_at_call 46
              have hgd := HM12
              clear hgd
              refine (HNW.out _ HM12.out.ps).mono ?_
              rintro e w13 ⟨rfl, hb⟩
              have HM13 := Lib.hid (HM12.out.call (HM12.out.ps.below hb) (Kq.of_below (q := q) hb))
              clear hb)
            | (
              go_at_call 45
              refine (HMU.out _ HM11.out.ps).mono ?_
              intro e w12 hpost
              obtain ⟨rfl, hp, hk⟩ := hpost
              have HM12 := Lib.hid (HM11.out.call hp hk)
              clear hp hk))
           have hres := HRES.out _ HM15.out.fr
           obtain ⟨p0, p1, p2, p3⟩ := HM15.out.ps.cells
           obtain ⟨b0, b1, b2, b3, b4, b5, b6⟩ := blk7 HM15.out.box
           obtain ⟨r0, r1, r2, r3, r4, r5, r6⟩ := blk7 hres
           obtain ⟨y0, y1, y2, y3, y4, y5, y6⟩ := pblk7f hres
           have HRS := Lib.hid hres
           have hsz := HM15.out.fr.size
           have hlw : w.heap.size < w15.heap.size := hres.lt
           clear hres
           by_cases he : s5.e = 0
           · replace HE := Lib.hid (HE.out.trans (if_neg (fun h => h he)))
             have g9 : ((s5.e : Int) != 0) = false := by rw [he]; rfl
             clear he
             obtain ⟨Ad, cd, ed⟩ := own_slice HM15.out.rd.own
             obtain ⟨Ap, cp, ep⟩ := own_slice HM15.out.rp.own
             subst ed ep
             go_wp2_with fail
             refine bodyPost_ret (res_cell3 (by rfl) _ _ w.heap.size #[.slice Ad ds.length cd, .slice Ap xs.length cp, .string ⟨no.toArray⟩, .string ⟨nn.toArray⟩, .int .i64 nk, .int .i64 np, .slice Am ns.length cm] rfl (prog7 HRS.out _ _ _ _ _ _ _) Tryd.underlying33 inf_prog7) rfl ?_
             rw [HE.out]
             refine ⟨⟨Ad, cd, Ap, cp, Am, cm⟩, ?_, ?_, ?_⟩
             · refine congrArg Ending.returned ?_
               show Value.tuple _ = Value.tuple #[progW ds.length (xs.map (·.1)).length no nn nk np ns.length ⟨Ad, cd, Ap, cp, Am, cm⟩, .int .i64 (n : Nat), .int .i64 (0 : Nat)]
               rw [List.length_map, ← HSZ.out]
               rfl
             · exact HM15.out.done (by omega) (by omega) hlz (fr7 _ _ _ _ _ _ _ _ _)
             · exact HBW.out _ HM15.out.fr _ (fr7 _ _ _ _ _ _ _ _ _)
           · replace HE := Lib.hid (HE.out.trans (if_pos he))
             have g9 : ((s5.e : Int) != 0) = true := by simp; omega
             clear he
             go_wp2_with fail
             go_region_held3 (fun W : World => W.cell? ⟨q, 2, none⟩ = some (.int .i64 (s5.e : Nat)) ∧ W.cell? ⟨q, 3, none⟩ = some (.int .i64 (s5.at_ : Nat))) ((refine ⟨?_, ?_⟩ <;> repeat' (first | (with_reducible first | exact p2 | exact p3 | apply keepS | apply keepD) | omega))) (fail)
             go_wp2_with fail
             refine bodyPost_ret (res_cell3 (by rfl) _ _ w.heap.size #[.slice none 0 0, .slice none 0 0, .string ⟨#[]⟩, .string ⟨#[]⟩, .int .i64 0, .int .i64 0, .slice none 0 0] rfl (blk_drew (prog7 HRS.out _ _ _ _ _ _ _)) Tryd.underlying33 inf_prog7) rfl ?_
             rw [HE.out]
             exact ⟨⟨none, 0, none, 0, none, 0⟩, rfl, zero_prog _ _, HBW.out _ HM15.out.fr _ (Fr.drew (fr7 _ _ _ _ _ _ _ _ _))⟩
   · replace HV := Lib.hid (HR.out.trans (congrArg (endP l n) (if_neg (fun hh => he hh.1))))
     have g0 : ((s2.e : Int) == 0) = false := by simp; omega
     clear he HR HOO HII
     have HE := Lib.hid (endP_eq l n ((ds, xs.map (·.1)), s2))
     rw [← HV.out] at HE
     clear HV
     have HFM := Lib.hid (fun W (hW : Ps W q A c l s2) => HFF.out W q A c s2 hW)
     simp only at HE
     generalize formP l s2 = pr at *
     obtain ⟨⟨no, nn, nk, np, ns⟩, sm⟩ := pr
     simp only at HE
     have HMU := Lib.hid (fun W (hW : Ps W q A c l sm) => pmust_any hW [59])
     generalize mustP l sm [59] = s4 at *
     have HNW := Lib.hid (fun W (hW : Ps W q A c l s4) => pnow_any hW)
     have HFA := Lib.hid (fun W (hW : Ps W q A c l s4) => pfail_any hW (nowP l s4).at_ 2 hW.now_small.2.2.2 (by decide))
     generalize nowP l s4 = t4 at *
     unfold tokV at HNW
     have hf0 := fld0
     have hf3 := fld3
     go_upto_region 11 with (first
      | (
        go_at_call 44
        have hgd := HSr
        clear hgd
        refine (HFM.out _ HSr.out.ps).mono ?_
        intro e w10 hpost
        obtain ⟨Am, cm, rfl, hnn, hp, hk⟩ := npost_open hpost
        have HS10 := Lib.hid (HSr.out.call hp hk)
        have HNM := Lib.hid (nodef_wide (lo' := w3.heap.size) (hi' := w10.heap.size) hnn HSr.out.fr.size (Nat.le_refl _))
        obtain ⟨p100, p101, p102, p103⟩ := HS10.out.ps.cells
        obtain ⟨b100, b101, b102, b103, b104, b105, b106⟩ := blk7 HS10.out.box
        obtain ⟨f100, f101, f102, f103, f104, f105, f106⟩ := pblk7f HS10.out.box
        clear hp hk hnn))
     refine wp_named (fun W => PrM w3 W q gp A c l sm vd vp ds xs (.node no nn nk np ns) Am cm) (PrM.of HS10.out HNM.out _ rfl) ?_
     clear p100 p101 p102 p103 b100 b101 b102 b103 b104 b105 b106 f100 f101 f102 f103 f104 f105 f106
     clear HS10 HNM
     rintro w11 hm11
     have HM11 := Lib.hid hm11
     clear hm11
     by_cases hk4 : t4.kind = 4
     · rw [if_neg (fun h => h hk4)] at HE
       have g8 : ((t4.kind : Int) != 4) = false := by rw [hk4]; rfl
       clear hk4 HFA
       go_upto_region 14 with (first
        | (
          go_at_call 46
          have hgd := HM12
          clear hgd
          refine (HNW.out _ HM12.out.ps).mono ?_
          rintro e w13 ⟨rfl, hb⟩
          have HM13 := Lib.hid (HM12.out.call (HM12.out.ps.below hb) (Kq.of_below (q := q) hb))
          clear hb)
        | (
          go_at_call 45
          refine (HMU.out _ HM11.out.ps).mono ?_
          intro e w12 hpost
          obtain ⟨rfl, hp, hk⟩ := hpost
          have HM12 := Lib.hid (HM11.out.call hp hk)
          clear hp hk))
       have hres := HRES.out _ HM13.out.fr
       obtain ⟨p0, p1, p2, p3⟩ := HM13.out.ps.cells
       obtain ⟨b0, b1, b2, b3, b4, b5, b6⟩ := blk7 HM13.out.box
       obtain ⟨r0, r1, r2, r3, r4, r5, r6⟩ := blk7 hres
       obtain ⟨y0, y1, y2, y3, y4, y5, y6⟩ := pblk7f hres
       have HRS := Lib.hid hres
       have hsz := HM13.out.fr.size
       have hlw : w.heap.size < w13.heap.size := hres.lt
       clear hres
       by_cases he : s4.e = 0
       · replace HE := Lib.hid (HE.out.trans (if_neg (fun h => h he)))
         have g9 : ((s4.e : Int) != 0) = false := by rw [he]; rfl
         clear he
         obtain ⟨Ad, cd, ed⟩ := own_slice HM13.out.rd.own
         obtain ⟨Ap, cp, ep⟩ := own_slice HM13.out.rp.own
         subst ed ep
         go_wp2_with fail
         refine bodyPost_ret (res_cell3 (by rfl) _ _ w.heap.size #[.slice Ad ds.length cd, .slice Ap xs.length cp, .string ⟨no.toArray⟩, .string ⟨nn.toArray⟩, .int .i64 nk, .int .i64 np, .slice Am ns.length cm] rfl (prog7 HRS.out _ _ _ _ _ _ _) Tryd.underlying33 inf_prog7) rfl ?_
         rw [HE.out]
         refine ⟨⟨Ad, cd, Ap, cp, Am, cm⟩, ?_, ?_, ?_⟩
         · refine congrArg Ending.returned ?_
           show Value.tuple _ = Value.tuple #[progW ds.length (xs.map (·.1)).length no nn nk np ns.length ⟨Ad, cd, Ap, cp, Am, cm⟩, .int .i64 (n : Nat), .int .i64 (0 : Nat)]
           rw [List.length_map, ← HSZ.out]
           rfl
         · exact HM13.out.done (by omega) (by omega) hlz (fr7 _ _ _ _ _ _ _ _ _)
         · exact HBW.out _ HM13.out.fr _ (fr7 _ _ _ _ _ _ _ _ _)
       · replace HE := Lib.hid (HE.out.trans (if_pos he))
         have g9 : ((s4.e : Int) != 0) = true := by simp; omega
         clear he
         go_wp2_with fail
         go_region_held3 (fun W : World => W.cell? ⟨q, 2, none⟩ = some (.int .i64 (s4.e : Nat)) ∧ W.cell? ⟨q, 3, none⟩ = some (.int .i64 (s4.at_ : Nat))) ((refine ⟨?_, ?_⟩ <;> repeat' (first | (with_reducible first | exact p2 | exact p3 | apply keepS | apply keepD) | omega))) (fail)
         go_wp2_with fail
         refine bodyPost_ret (res_cell3 (by rfl) _ _ w.heap.size #[.slice none 0 0, .slice none 0 0, .string ⟨#[]⟩, .string ⟨#[]⟩, .int .i64 0, .int .i64 0, .slice none 0 0] rfl (blk_drew (prog7 HRS.out _ _ _ _ _ _ _)) Tryd.underlying33 inf_prog7) rfl ?_
         rw [HE.out]
         exact ⟨⟨none, 0, none, 0, none, 0⟩, rfl, zero_prog _ _, HBW.out _ HM13.out.fr _ (Fr.drew (fr7 _ _ _ _ _ _ _ _ _))⟩
     · rw [if_pos hk4] at HE
       have g8 : ((t4.kind : Int) != 4) = true := by simp; omega
       clear hk4
       generalize failP s4 t4.at_ 2 = s5 at *
       go_upto_region 14 with (first
        | (
          go_at_call 47
          refine (HFA.out _ HM14.out.ps).mono ?_
          intro e w15 hpost
          obtain ⟨rfl, hp, hk⟩ := hpost
          have HM15 := Lib.hid (HM14.out.call hp hk)
          clear hp hk)
        | (
          go_at_call 46
          have hgd := HM13
          clear hgd
          refine (HNW.out _ HM13.out.ps).mono ?_
          rintro e w14 ⟨rfl, hb⟩
          have HM14 := Lib.hid (HM13.out.call (HM13.out.ps.below hb) (Kq.of_below (q := q) hb))
          clear hb)
        | (
          go_at_call 46
          have hgd := HM12
          clear hgd
          refine (HNW.out _ HM12.out.ps).mono ?_
          rintro e w13 ⟨rfl, hb⟩
          have HM13 := Lib.hid (HM12.out.call (HM12.out.ps.below hb) (Kq.of_below (q := q) hb))
          clear hb)
        | (
          go_at_call 45
          refine (HMU.out _ HM11.out.ps).mono ?_
          intro e w12 hpost
          obtain ⟨rfl, hp, hk⟩ := hpost
          have HM12 := Lib.hid (HM11.out.call hp hk)
          clear hp hk))
       have hres := HRES.out _ HM15.out.fr
       obtain ⟨p0, p1, p2, p3⟩ := HM15.out.ps.cells
       obtain ⟨b0, b1, b2, b3, b4, b5, b6⟩ := blk7 HM15.out.box
       obtain ⟨r0, r1, r2, r3, r4, r5, r6⟩ := blk7 hres
       obtain ⟨y0, y1, y2, y3, y4, y5, y6⟩ := pblk7f hres
       have HRS := Lib.hid hres
       have hsz := HM15.out.fr.size
       have hlw : w.heap.size < w15.heap.size := hres.lt
       clear hres
       by_cases he : s5.e = 0
       · replace HE := Lib.hid (HE.out.trans (if_neg (fun h => h he)))
         have g9 : ((s5.e : Int) != 0) = false := by rw [he]; rfl
         clear he
         obtain ⟨Ad, cd, ed⟩ := own_slice HM15.out.rd.own
         obtain ⟨Ap, cp, ep⟩ := own_slice HM15.out.rp.own
         subst ed ep
         go_wp2_with fail
         refine bodyPost_ret (res_cell3 (by rfl) _ _ w.heap.size #[.slice Ad ds.length cd, .slice Ap xs.length cp, .string ⟨no.toArray⟩, .string ⟨nn.toArray⟩, .int .i64 nk, .int .i64 np, .slice Am ns.length cm] rfl (prog7 HRS.out _ _ _ _ _ _ _) Tryd.underlying33 inf_prog7) rfl ?_
         rw [HE.out]
         refine ⟨⟨Ad, cd, Ap, cp, Am, cm⟩, ?_, ?_, ?_⟩
         · refine congrArg Ending.returned ?_
           show Value.tuple _ = Value.tuple #[progW ds.length (xs.map (·.1)).length no nn nk np ns.length ⟨Ad, cd, Ap, cp, Am, cm⟩, .int .i64 (n : Nat), .int .i64 (0 : Nat)]
           rw [List.length_map, ← HSZ.out]
           rfl
         · exact HM15.out.done (by omega) (by omega) hlz (fr7 _ _ _ _ _ _ _ _ _)
         · exact HBW.out _ HM15.out.fr _ (fr7 _ _ _ _ _ _ _ _ _)
       · replace HE := Lib.hid (HE.out.trans (if_pos he))
         have g9 : ((s5.e : Int) != 0) = true := by simp; omega
         clear he
         go_wp2_with fail
         go_region_held3 (fun W : World => W.cell? ⟨q, 2, none⟩ = some (.int .i64 (s5.e : Nat)) ∧ W.cell? ⟨q, 3, none⟩ = some (.int .i64 (s5.at_ : Nat))) ((refine ⟨?_, ?_⟩ <;> repeat' (first | (with_reducible first | exact p2 | exact p3 | apply keepS | apply keepD) | omega))) (fail)
         go_wp2_with fail
         refine bodyPost_ret (res_cell3 (by rfl) _ _ w.heap.size #[.slice none 0 0, .slice none 0 0, .string ⟨#[]⟩, .string ⟨#[]⟩, .int .i64 0, .int .i64 0, .slice none 0 0] rfl (blk_drew (prog7 HRS.out _ _ _ _ _ _ _)) Tryd.underlying33 inf_prog7) rfl ?_
         rw [HE.out]
         exact ⟨⟨none, 0, none, 0, none, 0⟩, rfl, zero_prog _ _, HBW.out _ HM15.out.fr _ (Fr.drew (fr7 _ _ _ _ _ _ _ _ _))⟩
end Go.Proofs.YteikakoheibnjaaDoor
