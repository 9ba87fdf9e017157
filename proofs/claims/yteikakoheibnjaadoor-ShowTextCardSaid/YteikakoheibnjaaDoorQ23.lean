/- Parts of the proof: PRowP. -/
import Derived.Test.YteikakoheibnjaaDoorQ22
namespace Go.Proofs.YteikakoheibnjaaDoor
open Go Go.RowKit

-- plain
theorem mustP_ge {l : List Tok} (s : PS) (x : List UInt8) : s.i ≤ (mustP l s x).i := mustP_i s x
theorem declF_len (l : List Tok) (k : Int) : ∀ (f : Nat) (acc : List DeclP) (s : PS), (declF l k f acc s).1.length + s.i ≤ acc.length + (declF l k f acc s).2.i + 1
 | 0, acc, s => by
   show acc.length + s.i ≤ acc.length + s.i + 1
   omega
 | f + 1, acc, s => by
   rw [declF_step]
   split
   · have h1 := nameP_i (l := l) s
     have h2 := takeP_i (l := l) (nameP l s).2 [44]
     split
     · next hb =>
       have h3 := take_up hb
       have := declF_len l k f (acc ++ [⟨(nameP l s).1.text, k, (nameP l s).1.at_⟩]) (takeP l (nameP l s).2 [44]).2
       rw [List.length_append] at this
       simp only [List.length_cons, List.length_nil] at this
       omega
     · have h3 := mustP_ge (l := l) (takeP l (nameP l s).2 [44]).2 [59]
       simp only [List.length_append, List.length_cons, List.length_nil]
       omega
   · simp only
     omega
theorem order_next {l : List Tok} {s : PS} {x : List UInt8} (h : 0 ≤ orderP l s x) : (nextP l s).i = s.i + 1 := by
 unfold orderP at h
 split at h
 · next hh => exact isW_next hh
 · split at h
   · next hh => exact isW_next hh
   · split at h
     · next hh => exact isW_next hh
     · omega
theorem declP_len {l : List Tok} {s : PS} (h : 0 ≤ orderP l s nVarK) : (declP l s).1.length + s.i ≤ (declP l s).2.i := by
 have h1 := order_next h
 have h2 := declF_len l (orderP l s nVarK) (l.length + 1) [] (nextP l s)
 unfold declP
 simp only [List.length_nil] at h2
 omega
theorem declP_up {l : List Tok} {s : PS} (h : 0 ≤ orderP l s nVarK) : s.i + 1 ≤ (declP l s).2.i := by
 have h1 := order_next h
 have h2 := declP_i (l := l) s
 omega
theorem predP_up {l : List Tok} {s : PS} (h : isW l s nPred = true) : s.i + 1 ≤ (predP l s).2.i := by
 have h1 := isW_next h
 have h2 := predP_i (l := l) s
 omega
theorem progF_step (l : List Tok) (f : Nat) (ds : List DeclP) (ps : List PredP) (s : PS) : progF l (f + 1) ds ps s = if s.e = 0 ∧ (isW l s nPred = true ∨ 0 ≤ orderP l s nVarK) then
  (if isW l s nPred = true then progF l f ds (ps ++ [(predP l s).1]) (predP l s).2 else progF l f (ds ++ (declP l s).1) ps (declP l s).2) else ((ds, ps), s) := rfl
-- memory
structure PPl where
 A1 : Option Addr
 c1 : Nat
 A2 : Option Addr
 c2 : Nat
def cells8 (x : PredP) (a : PPl) : List Value := [.string ⟨x.name.toArray⟩, .slice a.A1 x.params.length a.c1, .string ⟨x.body.op.toArray⟩, .string ⟨x.body.name.toArray⟩, .int .i64 x.body.num, .int .i64 x.body.pos, .slice a.A2 x.body.kids.length a.c2, .int .i64 x.at_]
def cellsQ (xs : List (PredP × PPl)) : List Value := xs.flatMap fun e => cells8 e.1 e.2
theorem cellsQ_snoc (xs : List (PredP × PPl)) (x : PredP) (a : PPl) : cellsQ (xs ++ [(x, a)]) = cellsQ xs ++ cells8 x a := by simp [cellsQ]
theorem cellsQ_at : ∀ (xs : List (PredP × PPl)) (j : Nat) (hj : j < xs.length) (m : Nat) (u : Value), (cells8 xs[j].1 xs[j].2)[m]? = some u → (cellsQ xs)[j * 8 + m]? = some u
 | x :: r, 0, _, m, u, h => by
   have hm : m < 8 := (List.getElem?_eq_some_iff.1 h).1
   show (cells8 x.1 x.2 ++ cellsQ r)[0 * 8 + m]? = some u
   rw [show 0 * 8 + m = m by omega, List.getElem?_append_left (by exact hm)]
   exact h
 | x :: r, j + 1, hj, m, u, h => by
   show (cells8 x.1 x.2 ++ cellsQ r)[(j + 1) * 8 + m]? = some u
   have h8 : (cells8 x.1 x.2).length = 8 := rfl
   rw [List.getElem?_append_right (by omega), h8, show (j + 1) * 8 + m - 8 = j * 8 + m by omega]
   exact cellsQ_at r j (by simpa using hj) m u h
abbrev OutP (B : Nat) (W : World) (v : Value) (F : Option Nat) : Nat → Prop := fun b => B ≤ b ∧ b < W.heap.size ∧ v.ownBlock ≠ some b ∧ F ≠ some b
structure RowP (B : Nat) (W : World) (v : Value) (F : Option Nat) (xs : List (PredP × PPl)) : Prop where
 own : W.ownsRow B 54 8 v xs.length (cellsQ xs)
 kids : ∀ e ∈ xs, e.1.name.length ≤ 2000 ∧ DeclS W (OutP B W v F) e.2.A1 e.2.c1 e.1.params ∧ NodeS W (OutP B W v F) e.1.body e.2.A2 e.2.c2
section
variable {B : Nat} {W w2 w7 : World} {v v7 : Value} {F F7 : Option Nat} {xs : List (PredP × PPl)}
theorem RowP.nil (B : Nat) (W : World) (F : Option Nat) : RowP B W (.slice none 0 0) F [] := ⟨⟨rfl, .inl ⟨rfl, rfl⟩⟩, by simp⟩
theorem RowP.turn (h : RowP B W v F xs) (ho : w7.ownsRow B 54 8 v xs.length (cellsQ xs)) (hk : ∀ b, OutP B W v F b → w7.heap[b]? = W.heap[b]?) (hs : W.heap.size ≤ w7.heap.size) (hF : ∀ b, OutP B W v F b → F7 ≠ some b) : RowP B w7 v F7 xs :=
 ⟨ho, fun e he => by
  obtain ⟨h1, h2, h3⟩ := h.kids e he
  have hS : ∀ b, OutP B W v F b → OutP B w7 v F7 b := fun b hb => ⟨hb.1, Nat.lt_of_lt_of_le hb.2.1 hs, hb.2.2.1, hF b hb⟩
  exact ⟨h1, h2.turn (fun p hp => World.cell?_of_block (hk p.block hp)) hS, NodeS.turn (fun p hp => World.cell?_of_block (hk p.block hp)) hS _ _ _ h3⟩⟩
theorem RowP.fr {S : Nat → Prop} (h : RowP B W v F xs) (hf : Fr S W w2) (hS : ∀ k, S k → k < B) : RowP B w2 v F xs :=
 h.turn (Fr.own hf h.own (fun k hv hs => by have := (h.own.lt k hv).1; have := hS k hs; omega)) (fun b hb => hf.block b hb.2.1 (fun hs => by have := hS b hs; have := hb.1; omega)) hf.size (fun _ hb => hb.2.2.2)
theorem RowP.alloc (h : RowP B W v F xs) (o : Obj) : RowP B (W.alloc o) v F xs :=
 h.turn (h.own.alloc o) (fun b hb => Below.heap_alloc W o b hb.2.1) (by simp) (fun _ hb => hb.2.2.2)
theorem RowP.grow (h : RowP B W v F xs) (hg : W.grownBy w7 F) (hne : v.ownBlock = none ∨ v.ownBlock ≠ F) (hF : F7 = F ∨ F7 = some W.heap.size) : RowP B w7 v F7 xs :=
 h.turn (h.own.kept hg hne) (fun b hb => hg.block b hb.2.1 (fun e => hb.2.2.2 e.symm)) hg.size (fun b hb => by
  rcases hF with rfl | rfl
  · exact hb.2.2.2
  · intro e
    injection e with e
    have := hb.2.1
    omega)
theorem RowP.app (h : RowP B W v F xs) {x : PredP} {a : PPl} (hx : x.name.length ≤ 2000 ∧ DeclS W (OutP B W v F) a.A1 a.c1 x.params ∧ NodeS W (OutP B W v F) x.body a.A2 a.c2)
  (ho : w7.ownsRow B 54 8 v7 (xs.length + 1) (cellsQ xs ++ cells8 x a)) (hg : W.grownBy w7 v.ownBlock) (hor : v7.ownBlock = v.ownBlock ∨ v7.ownBlock = some W.heap.size) : RowP B w7 v7 F (xs ++ [(x, a)]) := by
 have hS : ∀ b, OutP B W v F b → OutP B w7 v7 F b := fun b hb => ⟨hb.1, Nat.lt_of_lt_of_le hb.2.1 hg.size, by
  rcases hor with e | e
  · rw [e]
    exact hb.2.2.1
  · rw [e]
    intro e2
    injection e2 with e2
    have := hb.2.1
    omega, hb.2.2.2⟩
 have hk : ∀ p : Addr, OutP B W v F p.block → w7.cell? p = W.cell? p := fun p hp => World.cell?_of_block (hg.block p.block hp.2.1 (fun e => hp.2.2.1 e.symm))
 refine ⟨by rw [cellsQ_snoc, List.length_append]; exact ho, fun e he => ?_⟩
 rcases List.mem_append.1 he with he | he
 · obtain ⟨h1, h2, h3⟩ := h.kids e he
   exact ⟨h1, h2.turn hk hS, NodeS.turn hk hS _ _ _ h3⟩
 · simp only [List.mem_singleton] at he
   subst he
   exact ⟨hx.1, hx.2.1.turn hk hS, NodeS.turn hk hS _ _ _ hx.2.2⟩
theorem RowP.at_ {A : Option Addr} {n c : Nat} (h : RowP B W (.slice A n c) F xs) (hn : xs.length = n) (hl : xs.length ≤ 100000) : PredsAt W W.heap.size A c (xs.map (·.1)) := by
 subst hn
 refine ⟨?_, by rw [List.length_map]; omega, fun x hx => ?_, fun k hk => ?_⟩
 · rw [List.length_map]
   rcases h.own.2 with ⟨e, e2⟩ | ⟨g, cap, cur, e, _, _, hcap, _⟩
   · omega
   · injection e with _ _ e3
     omega
 · obtain ⟨e, he, rfl⟩ := List.mem_map.1 hx
   have := (h.kids e he).1
   omega
 · have hk2 : k < xs.length := by simpa using hk
   obtain ⟨g, cap, hv, hbase, hlt⟩ := h.own.form (by omega)
   have hA : A = some ⟨g, 0, none⟩ := by injection hv
   subst hA
   obtain ⟨_, h2, h3⟩ := h.kids xs[k] (List.getElem_mem hk2)
   have hc := fun m u hu => by
    have := h.own.cells (g := g) rfl _ _ (cellsQ_at xs k hk2 m u hu)
    rw [add_off] at this
    exact this
   rw [List.getElem_map]
   refine ⟨g, 0, xs[k].2.A1, xs[k].2.c1, xs[k].2.A2, xs[k].2.c2, rfl, hlt, ?_, h2.plain fun b hb => hb.2.1, NodeS.plain (fun b hb => hb.2.1) _ _ _ h3⟩
   rw [Nat.zero_add]
   exact ⟨hc 0 _ rfl, hc 1 _ rfl, hc 2 _ rfl, hc 3 _ rfl, hc 4 _ rfl, hc 5 _ rfl, hc 6 _ rfl, hc 7 _ rfl⟩
end
theorem reads_eight {w : World} {h : Nat} {t : TypeId} {a b c d e f g i : Value} (hb : w.heap[h]? = some (.cells #[a, b, c, d, e, f, g, i] t (0, 0))) : Reads w (h + 1) 8 (some ⟨h, 0, none⟩) 1 [a, b, c, d, e, f, g, i] := by
 refine ⟨rfl, fun _ => ⟨_, rfl, by simp, fun j z hz => ?_⟩⟩
 have hj : j < 8 := (List.getElem?_eq_some_iff.1 hz).1
 rw [add_off, cell_of_row w h j #[a, b, c, d, e, f, g, i] t (0, 0) hb, ← hz]
 simp
theorem pred_one (x : PredP) (a : PPl) : ∀ u ∈ cells8 x a, u.oneCell' = true := by
 intro u hu
 unfold cells8 at hu
 simp at hu
 rcases hu with rfl | rfl | rfl | rfl | rfl | rfl | rfl | rfl <;> rfl
theorem und_preds : Tryd.prog.underlying 31 = some (.slice 54) := by kernel_rfl
theorem inf_pred : (Tryd.prog.info? 54).map (fun i => (i.zero, i.size, i.bytes)) = some (some (.agg #[.string ⟨#[]⟩, .slice none 0 0, .string ⟨#[]⟩, .string ⟨#[]⟩, .int .i64 0, .int .i64 0, .slice none 0 0, .int .i64 0]), 8, 120) := by kernel_rfl
theorem inf_prog7 : (Tryd.prog.info? 33).map (·.size) = some 7 := by kernel_rfl
section
variable {W w : World} {g : Nat} {t : TypeId} {c0 c1 c2 c3 c4 c5 c6 : Value}
theorem pblk7f (h : Blk W g t #[c0, c1, c2, c3, c4, c5, c6]) : W.frozen? ⟨g, 0, none⟩ = false ∧ W.frozen? ⟨g, 1, none⟩ = false ∧ W.frozen? ⟨g, 2, none⟩ = false ∧ W.frozen? ⟨g, 3, none⟩ = false ∧ W.frozen? ⟨g, 4, none⟩ = false ∧ W.frozen? ⟨g, 5, none⟩ = false ∧ W.frozen? ⟨g, 6, none⟩ = false :=
 ⟨h.frozen 0, h.frozen 1, h.frozen 2, h.frozen 3, h.frozen 4, h.frozen 5, h.frozen 6⟩
theorem prog0 (h : Blk w g 33 #[c0, c1, c2, c3, c4, c5, c6]) (y : Value) : Blk (w.setCell ⟨g, 0, none⟩ y) g 33 #[y, c1, c2, c3, c4, c5, c6] := by
 have := h.set_ 0 y
 simpa using this
theorem prog1 (h : Blk w g 33 #[c0, c1, c2, c3, c4, c5, c6]) (y : Value) : Blk (w.setCell ⟨g, 1, none⟩ y) g 33 #[c0, y, c2, c3, c4, c5, c6] := by
 have := h.set_ 1 y
 simpa using this
theorem prog2 (h : Blk w g 33 #[c0, c1, c2, c3, c4, c5, c6]) (y2 y3 y4 y5 y6 : Value) :
  Blk (((((w.setCell ⟨g, 2, none⟩ y2).setCell ⟨g, 3, none⟩ y3).setCell ⟨g, 4, none⟩ y4).setCell ⟨g, 5, none⟩ y5).setCell ⟨g, 6, none⟩ y6) g 33 #[c0, c1, y2, y3, y4, y5, y6] := by
 have := ((((h.set_ 2 y2).set_ 3 y3).set_ 4 y4).set_ 5 y5).set_ 6 y6
 simpa using this
theorem prog7 (h : Blk w g 33 #[c0, c1, c2, c3, c4, c5, c6]) (y0 y1 y2 y3 y4 y5 y6 : Value) :
  Blk (((((((w.setCell ⟨g, 0, none⟩ y0).setCell ⟨g, 1, none⟩ y1).setCell ⟨g, 2, none⟩ y2).setCell ⟨g, 3, none⟩ y3).setCell ⟨g, 4, none⟩ y4).setCell ⟨g, 5, none⟩ y5).setCell ⟨g, 6, none⟩ y6) g 33 #[y0, y1, y2, y3, y4, y5, y6] := by
 have := ((((((h.set_ 0 y0).set_ 1 y1).set_ 2 y2).set_ 3 y3).set_ 4 y4).set_ 5 y5).set_ 6 y6
 simpa using this
end
structure PrS (Z W : World) (q gp : Nat) (A : Option Addr) (c : Nat) (l : List Tok) (s : PS) (vd vp : Value) (ds : List DeclP) (xs : List (PredP × PPl)) : Prop where
 ps : Ps W q A c l s
 fr : Fr (fun k => k = q ∨ k = gp) Z W
 box : Blk W gp 33 #[vd, vp, .string ⟨#[]⟩, .string ⟨#[]⟩, .int .i64 0, .int .i64 0, .slice none 0 0]
 rd : RowD Z.heap.size W vd ds
 rp : RowP Z.heap.size W vp vd.ownBlock xs
 ne : vp.ownBlock = none ∨ vp.ownBlock ≠ vd.ownBlock
 lt : q < gp ∧ gp < Z.heap.size
theorem RowD.fr {S : Nat → Prop} {B : Nat} {W w2 : World} {v : Value} {ds : List DeclP} (h : RowD B W v ds) (hf : Fr S W w2) (hS : ∀ k, S k → k < B) : RowD B w2 v ds :=
 ⟨Fr.own hf h.own (fun k hv hs => by have := (h.own.lt k hv).1; have := hS k hs; omega), h.nm⟩
section
variable {Z W w2 w7 : World} {q gp : Nat} {A : Option Addr} {c : Nat} {l : List Tok} {s s2 : PS} {vd vp v7 : Value} {ds : List DeclP} {xs : List (PredP × PPl)}
theorem PrS.call (h : PrS Z W q gp A c l s vd vp ds xs) (hp : Ps w2 q A c l s2) (hk : Kq q W w2) : PrS Z w2 q gp A c l s2 vd vp ds xs :=
 ⟨hp, h.fr.trans (hk.mono fun _ _ e => .inl e), hk.blk h.box (by have := h.lt; omega), h.rd.fr hk (fun k e => by have := h.lt; omega), h.rp.fr hk (fun k e => by have := h.lt; omega), h.ne, h.lt⟩
theorem PrS.alloc (h : PrS Z W q gp A c l s vd vp ds xs) (o : Obj) : PrS Z (W.alloc o) q gp A c l s vd vp ds xs :=
 ⟨h.ps.alloc o, h.fr.alloc o, blk_alloc h.box o, h.rd.alloc o, h.rp.alloc o, h.ne, h.lt⟩
theorem PrS.drew (h : PrS Z W q gp A c l s vd vp ds xs) : PrS Z W.drew q gp A c l s vd vp ds xs :=
 ⟨h.ps.drew, h.fr.drew, blk_drew h.box, h.rd.fr (Fr.drew (Fr.refl (fun _ => False) W)) (fun _ e => e.elim), h.rp.fr (Fr.drew (Fr.refl (fun _ => False) W)) (fun _ e => e.elim), h.ne, h.lt⟩
theorem PrS.fresh (h : PrS Z W q gp A c l s vd vp ds xs) {b : Nat} (hb : W.heap.size ≤ b) : vp.ownBlock ≠ some b ∧ vd.ownBlock ≠ some b :=
 ⟨fun e => by have := (h.rp.own.lt b e).2; omega, fun e => by have := (h.rd.own.lt b e).2; omega⟩
theorem PrS.pred (h : PrS Z W q gp A c l s vd vp ds xs) {x : PredP} {a : PPl} (hx : x.name.length ≤ 2000 ∧ DeclS W (OutP Z.heap.size W vp vd.ownBlock) a.A1 a.c1 x.params ∧ NodeS W (OutP Z.heap.size W vp vd.ownBlock) x.body a.A2 a.c2)
  (ho : w7.ownsRow Z.heap.size 54 8 v7 (xs.length + 1) (cellsQ xs ++ cells8 x a)) (hg : W.grownBy w7 vp.ownBlock) (hor : v7.ownBlock = vp.ownBlock ∨ v7.ownBlock = some W.heap.size) :
  PrS Z (w7.setCell ⟨gp, 1, none⟩ v7) q gp A c l s vd v7 ds (xs ++ [(x, a)]) := by
 have hlt := h.lt
 have hne : ∀ k, vp.ownBlock = some k → Z.heap.size ≤ k := fun k e => (h.rp.own.lt k e).1
 have hf7 : Fr (fun k => k = gp) w7 (w7.setCell ⟨gp, 1, none⟩ v7) := Fr.setCell (S := fun k => k = gp) (p := ⟨gp, 1, none⟩) (Fr.refl _ _) (.inl rfl) _
 have hb7 : Blk w7 gp 33 #[vd, vp, .string ⟨#[]⟩, .string ⟨#[]⟩, .int .i64 0, .int .i64 0, .slice none 0 0] := (hg.block gp h.box.lt (fun e => by have := hne gp e.symm; omega)).trans h.box
 have hp7 : Ps w7 q A c l s := h.ps.grown hg (fun k hk => by have := hne k hk; omega)
 refine ⟨ps_far hp7 hlt.1 _ _, ?_, prog1 hb7 _, ?_, ?_, ?_, hlt⟩
 · exact (h.fr.grown hg (fun k hk => .inr (hne k hk))).trans (hf7.mono fun _ _ e => .inr e)
 · have : RowD Z.heap.size w7 vd ds := ⟨h.rd.own.kept hg (by
    rcases h.ne with e | e
    · by_cases e2 : vd.ownBlock = none
      · exact .inl e2
      · exact .inr (by rw [e]; exact e2)
    · exact .inr (Ne.symm e)), h.rd.nm⟩
   exact this.fr hf7 (fun k e => by omega)
 · exact (h.rp.app hx ho hg hor).fr hf7 (fun k e => by omega)
 · rcases hor with e | e
   · rw [e]
     exact h.ne
   · rw [e]
     exact .inr (fun e2 => by have := (h.rd.own.lt _ e2.symm).2; omega)
theorem PrS.decl (h : PrS Z W q gp A c l s vd vp ds xs) {es : List DeclP} (hn : ∀ d ∈ es, d.name.length ≤ 2000)
  (ho : w7.ownsRow Z.heap.size 60 3 v7 (ds.length + es.length) (cellsD ds ++ cellsD es)) (hg : W.grownBy w7 vd.ownBlock) (hor : v7.ownBlock = vd.ownBlock ∨ v7.ownBlock = some W.heap.size) :
  PrS Z (w7.setCell ⟨gp, 0, none⟩ v7) q gp A c l s v7 vp (ds ++ es) xs := by
 have hlt := h.lt
 have hne : ∀ k, vd.ownBlock = some k → Z.heap.size ≤ k := fun k e => (h.rd.own.lt k e).1
 have hf7 : Fr (fun k => k = gp) w7 (w7.setCell ⟨gp, 0, none⟩ v7) := Fr.setCell (S := fun k => k = gp) (p := ⟨gp, 0, none⟩) (Fr.refl _ _) (.inl rfl) _
 have hb7 : Blk w7 gp 33 #[vd, vp, .string ⟨#[]⟩, .string ⟨#[]⟩, .int .i64 0, .int .i64 0, .slice none 0 0] := (hg.block gp h.box.lt (fun e => by have := hne gp e.symm; omega)).trans h.box
 have hp7 : Ps w7 q A c l s := h.ps.grown hg (fun k hk => by have := hne k hk; omega)
 refine ⟨ps_far hp7 hlt.1 _ _, ?_, prog0 hb7 _, ?_, ?_, ?_, hlt⟩
 · exact (h.fr.grown hg (fun k hk => .inr (hne k hk))).trans (hf7.mono fun _ _ e => .inr e)
 · have : RowD Z.heap.size w7 v7 (ds ++ es) := ⟨by rw [cellsD_app, List.length_append]; exact ho, fun d hd => (List.mem_append.1 hd).elim (h.rd.nm d) (hn d)⟩
   exact this.fr hf7 (fun k e => by omega)
 · exact (h.rp.grow hg h.ne hor).fr hf7 (fun k e => by omega)
 · rcases hor with e | e
   · rw [e]
     exact h.ne
   · rw [e]
     exact .inr (fun e2 => by have := (h.rp.own.lt _ e2).2; omega)
end
end Go.Proofs.YteikakoheibnjaaDoor
