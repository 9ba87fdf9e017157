/- Parts of the proof: PAt, PBase, PBase2. -/
import Derived.Test.YteikakoheibnjaaDoorQ12
import Derived.BigQuiet
import Derived.Deep.QuietTactic
import Derived.StillTailTactics
namespace Go.Proofs.YteikakoheibnjaaDoor
open Go Go.RowKit

abbrev zN : Array Value := #[.string ⟨#[]⟩, .string ⟨#[]⟩, .int .i64 0, .int .i64 0, .slice none 0 0]
abbrev tC (t : Tok) : Array Value := #[.int .i64 (t.kind : Nat), .string ⟨t.text.toArray⟩, .int .i64 (t.n : Nat), .int .i64 (t.at_ : Nat)]
abbrev nC (no nn : List UInt8) (nk np : Int) (NA : Option Addr) (l nc : Nat) : Array Value := #[.string ⟨no.toArray⟩, .string ⟨nn.toArray⟩, .int .i64 nk, .int .i64 np, .slice NA l nc]

mutual
def NodeS (w : World) (S : Nat → Prop) : Node → Option Addr → Nat → Prop
 | .node o s _ _ ks, A, cap => o.length ≤ 140737488355328 ∧ s.length ≤ 140737488355328 ∧ ks.length ≤ cap ∧ ks.length ≤ 140737488355328 ∧ KidsS w S A 0 ks
def KidsS (w : World) (S : Nat → Prop) (A : Option Addr) : Nat → List Node → Prop
 | _, [] => True
 | i, k :: r => (∃ b off A' cap', A = some ⟨b, off, none⟩ ∧ S b ∧ (∀ j u, (cellsN k A' cap')[j]? = some u → w.cell? ⟨b, off + i * 5 + j, none⟩ = some u) ∧ NodeS w S k A' cap') ∧ KidsS w S A (i + 1) r
end
theorem NodeS.turn {w w' : World} {S S' : Nat → Prop} (hk : ∀ p : Addr, S p.block → w'.cell? p = w.cell? p) (hS : ∀ b, S b → S' b) : ∀ (t : Node) (A : Option Addr) (cap : Nat), NodeS w S t A cap → NodeS w' S' t A cap := by
 intro t
 induction t using Node.ind with
 | h o s n p ks ih =>
   intro A cap h
   unfold NodeS at h ⊢
   refine ⟨h.1, h.2.1, h.2.2.1, h.2.2.2.1, ?_⟩
   have h3 := h.2.2.2.2
   clear h
   generalize 0 = i at *
   induction ks generalizing i with
   | nil => unfold KidsS; trivial
   | cons x r ihr =>
     unfold KidsS at h3 ⊢
     obtain ⟨⟨bb, off, A', cap', e, hb, hc, hx⟩, hr⟩ := h3
     exact ⟨⟨bb, off, A', cap', e, hS _ hb, fun j u hu => (hk _ hb).trans (hc j u hu), ih x (by simp) A' cap' hx⟩, ihr (fun k hk' => ih k (by simp [hk'])) _ hr⟩
theorem NodeS.plain {w : World} {S : Nat → Prop} {B : Nat} (hS : ∀ b, S b → b < B) : ∀ (t : Node) (A : Option Addr) (cap : Nat), NodeS w S t A cap → NodeAt w B t A cap := by
 intro t
 induction t using Node.ind with
 | h o s n p ks ih =>
   intro A cap h
   unfold NodeS at h
   unfold NodeAt
   refine ⟨h.1, h.2.1, h.2.2.1, h.2.2.2.1, ?_⟩
   have h3 := h.2.2.2.2
   clear h
   generalize 0 = i at *
   induction ks generalizing i with
   | nil => unfold KidsAt; trivial
   | cons x r ihr =>
     unfold KidsS at h3
     unfold KidsAt
     obtain ⟨⟨bb, off, A', cap', e, hb, hc, hx⟩, hr⟩ := h3
     exact ⟨⟨bb, off, A', cap', e, hS _ hb, hc, ih x (by simp) A' cap' hx⟩, ihr (fun k hk' => ih k (by simp [hk'])) _ hr⟩
theorem KidsS.mk {w : World} {S : Nat → Prop} {A : Option Addr} : ∀ (ks : List Node) (i : Nat), (∀ j (hj : j < ks.length), ∃ b off A' cap', A = some ⟨b, off, none⟩ ∧ S b ∧ (∀ m u, (cellsN ks[j] A' cap')[m]? = some u → w.cell? ⟨b, off + (i + j) * 5 + m, none⟩ = some u) ∧ NodeS w S ks[j] A' cap') → KidsS w S A i ks
 | [], i, _ => by
   unfold KidsS
   trivial
 | x :: r, i, h => by
   unfold KidsS
   refine ⟨h 0 (by simp), KidsS.mk r (i + 1) fun j hj => ?_⟩
   have := h (j + 1) (by simpa using hj)
   rw [show i + (j + 1) = i + 1 + j by omega] at this
   exact this
theorem NodeS.leaf (w : World) (S : Nat → Prop) (o s : List UInt8) (n p : Int) (ho : o.length ≤ 140737488355328) (hs : s.length ≤ 140737488355328) (A : Option Addr) : NodeS w S (.node o s n p []) A 0 := by
 unfold NodeS KidsS
 exact ⟨ho, hs, Nat.le_refl _, by simp, trivial⟩
theorem NodeS.one {w : World} {S : Nat → Prop} {o s : List UInt8} {n p : Int} {x : Node} {A : Option Addr} {c b : Nat} (ho : o.length ≤ 140737488355328) (hs : s.length ≤ 140737488355328) (hb : Blk w b 24 (cellsN x A c).toArray) (hS : S b) (hx : NodeS w S x A c) :
  NodeS w S (.node o s n p [x]) (some ⟨b, 0, none⟩) 1 := by
 unfold NodeS
 refine ⟨ho, hs, Nat.le_refl _, by simp, ?_⟩
 unfold KidsS
 refine ⟨⟨b, 0, A, c, rfl, hS, fun j u hu => ?_, hx⟩, by unfold KidsS; trivial⟩
 have := hb.cell j
 rw [List.getElem?_toArray, hu] at this
 simpa using this
theorem NodeS.two {w : World} {S : Nat → Prop} {o s : List UInt8} {n p : Int} {x y : Node} {A A2 : Option Addr} {c c2 b : Nat} (ho : o.length ≤ 140737488355328) (hs : s.length ≤ 140737488355328) (hb : Blk w b 24 (cellsN x A c ++ cellsN y A2 c2).toArray) (hS : S b) (hx : NodeS w S x A c) (hy : NodeS w S y A2 c2) :
  NodeS w S (.node o s n p [x, y]) (some ⟨b, 0, none⟩) 2 := by
 unfold NodeS
 refine ⟨ho, hs, Nat.le_refl _, by simp, ?_⟩
 unfold KidsS
 have h5 : (cellsN x A c).length = 5 := rfl
 refine ⟨⟨b, 0, A, c, rfl, hS, fun j u hu => ?_, hx⟩, ?_⟩
 · have hj : j < 5 := (List.getElem?_eq_some_iff.1 hu).1
   have := hb.cell j
   rw [List.getElem?_toArray, List.getElem?_append_left (by omega), hu] at this
   simpa using this
 · unfold KidsS
   refine ⟨⟨b, 0, A2, c2, rfl, hS, fun j u hu => ?_, hy⟩, by unfold KidsS; trivial⟩
   have := hb.cell (5 + j)
   rw [List.getElem?_toArray, List.getElem?_append_right (by omega), h5, show 5 + j - 5 = j by omega, hu] at this
   simpa using this
theorem NodeS.row {w : World} {S : Nat → Prop} {o s : List UInt8} {n p : Int} {ks : List Node} {A : Option Addr} {c : Nat} (ho : o.length ≤ 140737488355328) (hs : s.length ≤ 140737488355328) (hc : ks.length ≤ c) (hc2 : ks.length ≤ 140737488355328)
  (hk : ∀ j (hj : j < ks.length), ∃ b off A' cap', A = some ⟨b, off, none⟩ ∧ S b ∧ (∀ m u, (cellsN ks[j] A' cap')[m]? = some u → w.cell? ⟨b, off + j * 5 + m, none⟩ = some u) ∧ NodeS w S ks[j] A' cap') : NodeS w S (.node o s n p ks) A c := by
 unfold NodeS
 refine ⟨ho, hs, hc, hc2, KidsS.mk ks 0 fun j hj => ?_⟩
 rw [Nat.zero_add]
 exact hk j hj
structure Ps (w : World) (q : Nat) (A : Option Addr) (c : Nat) (l : List Tok) (s : PS) : Prop where
 blk : Blk w q 73 #[.slice A l.length c, .int .i64 (s.i : Nat), .int .i64 (s.e : Nat), .int .i64 (s.at_ : Nat)]
 toks : ∀ j (h : j < l.length), ∃ g, A = some ⟨g, 0, none⟩ ∧ g < q ∧ w.cell? ⟨g, j * 4, none⟩ = some (.int .i64 (l[j].kind : Nat)) ∧ w.cell? ⟨g, j * 4 + 1, none⟩ = some (.string ⟨l[j].text.toArray⟩) ∧ w.cell? ⟨g, j * 4 + 2, none⟩ = some (.int .i64 (l[j].n : Nat)) ∧ w.cell? ⟨g, j * 4 + 3, none⟩ = some (.int .i64 (l[j].at_ : Nat))
 lt : s.i < l.length
 len : l.length ≤ 2001
 last : ∀ j (h : j < l.length), l[j].kind ≠ 4 → j + 1 < l.length
 small : ∀ t ∈ l, t.kind ≤ 4 ∧ t.text.length ≤ 2000 ∧ t.n ≤ 99 ∧ t.at_ ≤ 2000
 eat : s.e ≤ 4 ∧ s.at_ ≤ 2000
section
variable {w w' W : World} {q : Nat} {A : Option Addr} {c : Nat} {l : List Tok} {s : PS}
theorem Ps.qlt (h : Ps w q A c l s) : q < w.heap.size := h.blk.lt
theorem Ps.cells (h : Ps w q A c l s) : w.cell? ⟨q, 0, none⟩ = some (.slice A l.length c) ∧ w.cell? ⟨q, 1, none⟩ = some (.int .i64 (s.i : Nat)) ∧ w.cell? ⟨q, 2, none⟩ = some (.int .i64 (s.e : Nat)) ∧ w.cell? ⟨q, 3, none⟩ = some (.int .i64 (s.at_ : Nat)) :=
 ⟨h.blk.cell 0, h.blk.cell 1, h.blk.cell 2, h.blk.cell 3⟩
theorem Ps.turn (h : Ps w q A c l s) (hk : ∀ k, k ≤ q → w'.heap[k]? = w.heap[k]?) : Ps w' q A c l s :=
 ⟨(hk q (Nat.le_refl _)).trans h.blk, fun j hj => by
   obtain ⟨g, e, hg, h0, h1, h2, h3⟩ := h.toks j hj
   have hc : ∀ o, w'.cell? ⟨g, o, none⟩ = w.cell? ⟨g, o, none⟩ := fun o => World.cell?_of_block (hk g (Nat.le_of_lt hg))
   exact ⟨g, e, hg, (hc _).trans h0, (hc _).trans h1, (hc _).trans h2, (hc _).trans h3⟩, h.lt, h.len, h.last, h.small, h.eat⟩
theorem Ps.below (h : Ps w q A c l s) (hb : Below w.heap.size w w') : Ps w' q A c l s := h.turn fun k hk => hb.block k (Nat.lt_of_le_of_lt hk h.qlt)
theorem Ps.alloc (h : Ps w q A c l s) (o : Obj) : Ps (w.alloc o) q A c l s := h.turn fun k hk => Below.heap_alloc w o k (Nat.lt_of_le_of_lt hk h.qlt)
theorem Ps.drew (h : Ps w q A c l s) : Ps w.drew q A c l s := h.turn fun _ _ => rfl
theorem Ps.drewN (h : Ps w q A c l s) (n : Nat) : Ps (w.drewN n) q A c l s := h.turn fun _ _ => rfl
theorem Ps.far (h : Ps w q A c l s) {p : Addr} (hp : q < p.block) (u : Value) : Ps (w.setCell p u) q A c l s := h.turn fun k hk => Below.heap_setCell w p u k (by omega)
theorem Ps.grown (h : Ps w q A c l s) {row : Option Nat} (hg : w.grownBy w' row) (hr : ∀ k, row = some k → q < k) : Ps w' q A c l s := h.turn fun k hk => hg.block k (Nat.lt_of_le_of_lt hk h.qlt) (fun e => by have := hr k e.symm; omega)
theorem Ps.put (h : Ps w q A c l s) (s' : PS) (hi : s'.i < l.length) (he : s'.e ≤ 4 ∧ s'.at_ ≤ 2000) (w' : World) (hb : Blk w' q 73 #[.slice A l.length c, .int .i64 (s'.i : Nat), .int .i64 (s'.e : Nat), .int .i64 (s'.at_ : Nat)]) (hk : ∀ k, k < q → w'.heap[k]? = w.heap[k]?) : Ps w' q A c l s' :=
 ⟨hb, fun j hj => by
  obtain ⟨g, e, hg, h0, h1, h2, h3⟩ := h.toks j hj
  have hc : ∀ o, w'.cell? ⟨g, o, none⟩ = w.cell? ⟨g, o, none⟩ := fun o => World.cell?_of_block (hk g hg)
  exact ⟨g, e, hg, (hc _).trans h0, (hc _).trans h1, (hc _).trans h2, (hc _).trans h3⟩, hi, h.len, h.last, h.small, he⟩
theorem Ps.set1 (h : Ps w q A c l s) (i : Nat) (hi : i < l.length) (v : Int) (hv : v = (i : Nat)) : Ps (w.setCell ⟨q, 1, none⟩ (.int .i64 v)) q A c l ⟨i, s.e, s.at_⟩ := by
 subst hv
 refine h.put ⟨i, s.e, s.at_⟩ hi h.eat _ ?_ fun k hk => Below.heap_setCell w ⟨q, 1, none⟩ _ k (by simp; omega)
 have := h.blk.set_ 1 (.int .i64 (i : Nat))
 simpa using this
theorem Ps.set23 (h : Ps w q A c l s) (e a : Nat) (he : e ≤ 4 ∧ a ≤ 2000) : Ps ((w.setCell ⟨q, 2, none⟩ (.int .i64 (e : Nat))).setCell ⟨q, 3, none⟩ (.int .i64 (a : Nat))) q A c l ⟨s.i, e, a⟩ := by
 refine h.put ⟨s.i, e, a⟩ h.lt he _ ?_ fun k hk => (Below.heap_setCell _ ⟨q, 3, none⟩ _ k (by simp; omega)).trans (Below.heap_setCell w ⟨q, 2, none⟩ _ k (by simp; omega))
 have := (h.blk.set_ 2 (.int .i64 (e : Nat))).set_ 3 (.int .i64 (a : Nat))
 simpa using this
theorem getD_lt {i : Nat} (h : i < l.length) : l.getD i ⟨4, [], 0, 0⟩ = l[i] := by
 rw [List.getD_eq_getElem?_getD, List.getElem?_eq_getElem h]
 rfl
theorem Ps.now_small (h : Ps w q A c l s) : (nowP l s).kind ≤ 4 ∧ (nowP l s).text.length ≤ 2000 ∧ (nowP l s).n ≤ 99 ∧ (nowP l s).at_ ≤ 2000 := by
 unfold nowP
 split
 · rw [getD_lt h.lt]
   exact h.small _ (List.getElem_mem h.lt)
 · exact ⟨by decide, by decide, by decide, by decide⟩
theorem Ps.next_lt (h : Ps w q A c l s) (he : s.e = 0) (hk : (nowP l s).kind ≠ 4) : s.i + 1 < l.length := by
 unfold nowP at hk
 rw [if_pos he, getD_lt h.lt] at hk
 exact h.last s.i h.lt hk
end
abbrev Kq (q : Nat) (w w' : World) : Prop := Fr (fun k => k = q) w w'
theorem Kq.of_below {q : Nat} {w w' : World} (h : Below w.heap.size w w') : Kq q w w' := (Fr.of_below h).mono fun k hk hs => absurd hs (by omega)
theorem blk_alloc {w : World} {g : Nat} {t : TypeId} {cs : Array Value} (h : Blk w g t cs) (o : Obj) : Blk (w.alloc o) g t cs := (Below.heap_alloc w o g h.lt).trans h
theorem kq_put {q : Nat} {a w : World} (h : Kq q a w) (o : Nat) (u : Value) : Kq q a (w.setCell ⟨q, o, none⟩ u) := Fr.setCell (p := ⟨q, o, none⟩) h (.inl rfl) u
theorem kq_far {q g : Nat} {a w : World} (h : Kq q a w) (hg : a.heap.size ≤ g) (o : Nat) (u : Value) : Kq q a (w.setCell ⟨g, o, none⟩ u) := Fr.setCell (p := ⟨g, o, none⟩) h (.inr hg) u
theorem bel_far {B g : Nat} {a w : World} (h : Below B a w) (hg : B ≤ g) (o : Nat) (u : Value) : Below B a (w.setCell ⟨g, o, none⟩ u) := Below.setCell (p := ⟨g, o, none⟩) h hg u
theorem ps_far {w : World} {q g : Nat} {A : Option Addr} {c : Nat} {l : List Tok} {s : PS} (h : Ps w q A c l s) (hg : q < g) (o : Nat) (u : Value) : Ps (w.setCell ⟨g, o, none⟩ u) q A c l s := Ps.far (p := ⟨g, o, none⟩) h hg u
theorem Kq.box {q : Nat} {W w2 : World} {o : Obj} (h : Kq q (W.alloc o) w2) (hq : q < W.heap.size) : w2.heap[W.heap.size]? = some o :=
 (h.block W.heap.size (by simp) (by omega)).trans (heap_alloc_new W o)
abbrev NodeQ (w : World) (q : Nat) (t : Node) (A : Option Addr) (cap : Nat) : Prop := NodeS w (fun b => q < b ∧ b < w.heap.size) t A cap
theorem NodeQ.kq {w w' : World} {q : Nat} {t : Node} {A : Option Addr} {cap : Nat} (h : NodeQ w q t A cap) (hk : Kq q w w') : NodeQ w' q t A cap :=
 NodeS.turn (fun p hp => World.cell?_of_block (hk.block p.block hp.2 (by omega))) (fun b hb => ⟨hb.1, Nat.lt_of_lt_of_le hb.2 hk.size⟩) t A cap h
theorem NodeQ.plain {w : World} {q : Nat} {t : Node} {A : Option Addr} {cap : Nat} (h : NodeQ w q t A cap) : NodeAt w w.heap.size t A cap := NodeS.plain (fun _ hb => hb.2) t A cap h
theorem res_one {fn : Func} {p : Tmp} {t : TypeId} {fs : Array Field} (h : fn.results = #[.cell p t]) (tmps : Array Value) (w : World) (g : Nat) (cs : Array Value) (hp : tmps.getD p undef = .pointer (some ⟨g, 0, none⟩)) (hg : Blk w g t cs)
  (ht : Tryd.prog.underlying t = some (.struct fs)) (hi : (Tryd.prog.info? t).map (·.size) = some cs.size) : (results fn tmps).run Tryd.prog w = .ok (.agg cs) w :=
 results_cell_row h tmps w g t cs (0, 0) _ hp hg ht rfl hi
end Go.Proofs.YteikakoheibnjaaDoor
namespace Go.Proofs.YteikakoheibnjaaDoor
open Go Go.RowKit

def PPost (w : World) (q : Nat) (A : Option Addr) (c : Nat) (l : List Tok) (v : Value) (s : PS) (e : Ending) (w' : World) : Prop := e = .returned v ∧ Ps w' q A c l s ∧ Kq q w w'
theorem tokZ {w : World} {g : Nat} (h : Blk w g 80 #[.int .i64 0, .string ⟨#[]⟩, .int .i64 0, .int .i64 0]) (y0 y1 y2 y3 : Value) :
  Blk ((((w.setCell ⟨g, 0, none⟩ y0).setCell ⟨g, 1, none⟩ y1).setCell ⟨g, 2, none⟩ y2).setCell ⟨g, 3, none⟩ y3) g 80 #[y0, y1, y2, y3] := tok4 h y0 y1 y2 y3
theorem inf_tok4 : (Tryd.prog.info? 80).map (·.size) = some 4 := by kernel_rfl
abbrev tokB (t : Tok) : Obj := .cells #[.int .i64 (t.kind : Nat), .string ⟨t.text.toArray⟩, .int .i64 (t.n : Nat), .int .i64 (t.at_ : Nat)] 80
theorem blk4 {W : World} {g : Nat} {t : TypeId} {c0 c1 c2 c3 : Value} (h : Blk W g t #[c0, c1, c2, c3]) : W.cell? ⟨g, 0, none⟩ = some c0 ∧ W.cell? ⟨g, 1, none⟩ = some c1 ∧ W.cell? ⟨g, 2, none⟩ = some c2 ∧ W.cell? ⟨g, 3, none⟩ = some c3 :=
 ⟨h.cell 0, h.cell 1, h.cell 2, h.cell 3⟩
theorem blk4f {W : World} {g : Nat} {t : TypeId} {c0 c1 c2 c3 : Value} (h : Blk W g t #[c0, c1, c2, c3]) : W.frozen? ⟨g, 0, none⟩ = false ∧ W.frozen? ⟨g, 1, none⟩ = false ∧ W.frozen? ⟨g, 2, none⟩ = false ∧ W.frozen? ⟨g, 3, none⟩ = false :=
 ⟨h.frozen 0, h.frozen 1, h.frozen 2, h.frozen 3⟩
set_option maxRecDepth 100000 in
set_option maxHeartbeats 1000000 in
theorem pnow_any {w : World} {q : Nat} {A : Option Addr} {c : Nat} {l : List Tok} {s : PS} (h : Ps w q A c l s) :
  Calls Tryd.prog 46 #[.pointer (some ⟨q, 0, none⟩)] w fun e w' => e = .returned (tokV (nowP l s)) ∧ Below w.heap.size w w' := by
 have h1 := h.alloc (.cells #[.int .i64 0, .string ⟨#[]⟩, .int .i64 0, .int .i64 0] 80)
 obtain ⟨c0, c1, c2, c3⟩ := h1.cells
 have hl := h.len
 have hlt := h.lt
 unfold tokV
 by_cases he : s.e = 0
 · obtain ⟨g, e, hg, t0, t1, t2, t3⟩ := h1.toks s.i hlt
   have HV := Lib.hid (show l[s.i] = nowP l s by unfold nowP; rw [if_pos he, getD_lt hlt])
   subst e
   rw [he] at c2
   clear he h h1
   generalize nowP l s = V at *
   generalize l[s.i] = t at *
   obtain ⟨si, se, sa⟩ := s
   obtain ⟨tk, tt, tn, ta⟩ := t
   simp only at c1 t0 t1 t2 t3 hlt
   go_enter Tryd.func46, Tryd.ntmps46
   go_wp2_with fail
   refine wp_named (fun W1 => Below w.heap.size w W1 ∧ Blk W1 w.heap.size 80 #[.int .i64 0, .string ⟨#[]⟩, .int .i64 0, .int .i64 0] ∧ W1.cell? ⟨q, 0, none⟩ = some (.slice (some ⟨g, 0, none⟩) l.length c) ∧ W1.cell? ⟨q, 1, none⟩ = some (.int .i64 (si : Nat)) ∧
    W1.cell? ⟨g, si * 4, none⟩ = some (.int .i64 (tk : Nat)) ∧ W1.cell? ⟨g, si * 4 + 1, none⟩ = some (.string ⟨tt.toArray⟩) ∧ W1.cell? ⟨g, si * 4 + 2, none⟩ = some (.int .i64 (tn : Nat)) ∧ W1.cell? ⟨g, si * 4 + 3, none⟩ = some (.int .i64 (ta : Nat))) ⟨(Below.refl _ _).alloc (Nat.le_refl _) _, heap_alloc_new w _, c0, c1, t0, t1, t2, t3⟩ ?_
   clear c0 c1 c2 c3 t0 t1 t2 t3
   rintro W1 ⟨hB, hK, c0, c1, t0, t1, t2, t3⟩
   obtain ⟨r0, r1, r2, r3⟩ := blk4 hK
   obtain ⟨f0, f1, f2, f3⟩ := blk4f hK
   have HB := Lib.hid hB
   have HK := Lib.hid hK
   clear hB hK
   go_still_tail 10, (by kernel_rfl)
   change wpList _ _ _ _ _ W1.drew
   go_wp2_with fail
   refine bodyPost_ret (res_one (by rfl) _ _ w.heap.size #[.int .i64 (tk : Nat), .string ⟨tt.toArray⟩, .int .i64 (tn : Nat), .int .i64 (ta : Nat)] rfl (tok4 HK.out _ _ _ _) Tryd.underlying80 inf_tok4) rfl ⟨by rw [← HV.out], ?_⟩
   repeat' (first | (with_reducible first | exact HB.out | apply Below.drew | refine bel_far ?_ (Nat.le_refl _) _ _))
 · have HV := Lib.hid (show (⟨4, [], 0, 0⟩ : Tok) = nowP l s by unfold nowP; rw [if_neg he])
   have g1 : ((s.e : Int) == 0) = false := by simp; omega
   have g2 : ((s.e : Int) != 0) = true := by simp; omega
   clear h h1 he
   generalize nowP l s = V at *
   obtain ⟨si, se, sa⟩ := s
   simp only at c2 g1 g2
   go_enter Tryd.func46, Tryd.ntmps46
   go_wp2_with fail
   refine bodyPost_ret (res_one (by rfl) _ _ w.heap.size #[.int .i64 4, .string ⟨#[]⟩, .int .i64 0, .int .i64 0] rfl (heap_alloc_new w _) Tryd.underlying80 inf_tok4) rfl ⟨by rw [← HV.out]; rfl, (Below.refl _ _).alloc (Nat.le_refl _) _⟩
theorem pfail_any {w : World} {q : Nat} {A : Option Addr} {c : Nat} {l : List Tok} {s : PS} (h : Ps w q A c l s) (a e : Nat) (ha : a ≤ 2000) (he4 : e ≤ 4) :
  Calls Tryd.prog 47 #[.pointer (some ⟨q, 0, none⟩), .int .i64 (a : Nat), .int .i64 (e : Nat)] w (PPost w q A c l (.tuple #[]) (failP s a e)) := by
 obtain ⟨c0, c1, c2, c3⟩ := h.cells
 obtain ⟨f0, f1, f2, f3⟩ := blk4f h.blk
 have HP := Lib.hid h
 clear h
 by_cases he : s.e = 0
 · have HF := Lib.hid (show failP s a e = ⟨s.i, e, a⟩ by unfold failP; rw [if_pos he])
   rw [he] at c2
   clear he
   generalize failP s a e = F at *
   go_enter Tryd.func47, Tryd.ntmps47
   go_wp2_with fail
   go_end0
   refine ⟨rfl, ?_, ?_⟩
   · rw [HF.out]
     exact HP.out.set23 e a ⟨he4, ha⟩
   · exact kq_put (kq_put (Fr.refl _ _) _ _) _ _
 · have HF := Lib.hid (show failP s a e = s by unfold failP; rw [if_neg he])
   have g1 : ((s.e : Int) == 0) = false := by simp; omega
   clear he
   generalize failP s a e = F at *
   go_enter Tryd.func47, Tryd.ntmps47
   go_wp2_with fail
   go_end0
   refine ⟨rfl, ?_, Fr.refl _ _⟩
   rw [HF.out]
   exact HP.out
theorem pis_any {w : World} {q : Nat} {A : Option Addr} {c : Nat} {l : List Tok} {s : PS} (h : Ps w q A c l s) (x : List UInt8) :
  Calls Tryd.prog 40 #[.pointer (some ⟨q, 0, none⟩), .string ⟨x.toArray⟩] w fun e w' => e = .returned (.bool (isW l s x)) ∧ Below w.heap.size w w' := by
 have HN := Lib.hid (pnow_any h)
 have HV := Lib.hid (show ((nowP l s).kind == 3 && (nowP l s).text == x) = isW l s x from rfl)
 clear h
 generalize isW l s x = V at *
 generalize nowP l s = t at *
 by_cases hk : t.kind = 3
 · have HF := Lib.hid (show (t.text == x) = V by rw [← HV.out, hk]; rfl)
   have g1 : ((t.kind : Int) == 3) = true := by rw [hk]; rfl
   clear HV hk
   unfold tokV at HN
   go_enter Tryd.func40, Tryd.ntmps40
   go_wp2_with (
    go_at_call 46
    refine HN.out.mono ?_
    rintro e w2 ⟨rfl, hb⟩
    have HB := Lib.hid hb
    clear hb)
   all_goals
    go_ret
    exact ⟨congrArg (fun x : Bool => Ending.returned (.bool x)) HF.out, HB.out.alloc HB.out.size _⟩
 · have HF := Lib.hid (show false = V by rw [← HV.out, beq_false_of_ne hk]; rfl)
   have g1 : ((t.kind : Int) == 3) = false := by simp; omega
   clear HV hk
   unfold tokV at HN
   go_enter Tryd.func40, Tryd.ntmps40
   go_wp2_with (
    go_at_call 46
    refine HN.out.mono ?_
    rintro e w2 ⟨rfl, hb⟩
    have HB := Lib.hid hb
    clear hb)
   all_goals
    go_ret
    exact ⟨congrArg (fun x : Bool => Ending.returned (.bool x)) HF.out, HB.out.alloc HB.out.size _⟩
set_option maxRecDepth 100000 in
set_option maxHeartbeats 1000000 in
theorem pnext_any {w : World} {q : Nat} {A : Option Addr} {c : Nat} {l : List Tok} {s : PS} (h : Ps w q A c l s) :
  Calls Tryd.prog 72 #[.pointer (some ⟨q, 0, none⟩)] w (PPost w q A c l (tokV (nowP l s)) (nextP l s)) := by
 have HN := Lib.hid (fun W (hW : Ps W q A c l s) => pnow_any hW)
 have HP := Lib.hid h
 have hq := h.qlt
 have hi := h.lt
 have hl := h.len
 have HX := Lib.hid (fun he hk => h.next_lt he hk)
 have HS := Lib.hid (show nextP l s = if s.e = 0 ∧ (nowP l s).kind ≠ 4 then ⟨s.i + 1, s.e, s.at_⟩ else s from rfl)
 clear h
 generalize nextP l s = F at *
 generalize nowP l s = t at *
 unfold tokV at HN ⊢
 have hne : ¬ w.heap.size = q := by omega
 have hne2 : ¬ q = w.heap.size := by omega
 by_cases he : s.e = 0
 · by_cases hk : t.kind = 4
   · have HF := Lib.hid (show F = s by rw [HS.out, if_neg (fun hh => hh.2 hk)])
     have g1 : ((t.kind : Int) != 4) = false := by rw [hk]; rfl
     have HE := Lib.hid he
     clear HS HX hk
     go_enter Tryd.func72, Tryd.ntmps72
     go_wp2_with (
      go_at_call 46
      refine (HN.out _ (HP.out.alloc _)).mono ?_
      rintro e w2 ⟨rfl, hb⟩
      have HP3 := Lib.hid ((HP.out.alloc (.cells #[.int .i64 0, .string ⟨#[]⟩, .int .i64 0, .int .i64 0] 80)).below hb)
      have hK2 : Blk w2 w.heap.size 80 #[.int .i64 0, .string ⟨#[]⟩, .int .i64 0, .int .i64 0] := (hb.block w.heap.size (by simp)).trans (heap_alloc_new w _)
      have HQ3 := Lib.hid (((Kq.of_below (q := q) ((Below.refl w.heap.size w).alloc (Nat.le_refl _) (.cells #[.int .i64 0, .string ⟨#[]⟩, .int .i64 0, .int .i64 0] 80))).trans ((Kq.of_below (q := q) hb))))
      obtain ⟨c0, c1, c2, c3⟩ := HP3.out.cells
      obtain ⟨f0, f1, f2, f3⟩ := blk4f HP3.out.blk
      obtain ⟨r0, r1, r2, r3⟩ := blk4 hK2
      obtain ⟨y0, y1, y2, y3⟩ := blk4f hK2
      have HK3 := Lib.hid hK2
      rw [HE.out] at c2
      have hz1 : w.heap.size < w2.heap.size := by have := hb.size; simp at this; omega
      have hz2 : q < w2.heap.size := by have := hb.size; simp at this; omega
      have hz3 : ¬ q = w2.heap.size := by omega
      have hz4 : ¬ w2.heap.size = q := by omega
      clear hb hK2)
     all_goals
      refine bodyPost_ret (res_one (by rfl) _ _ w.heap.size #[.int .i64 (t.kind : Nat), .string ⟨t.text.toArray⟩, .int .i64 (t.n : Nat), .int .i64 (t.at_ : Nat)] rfl ?_ Tryd.underlying80 inf_tok4) rfl ⟨rfl, ?_, ?_⟩
      · repeat' (first | (with_reducible first | exact HK3.out | apply blk_alloc | apply tokZ | apply Blk.other) | (simp <;> omega))
      · rw [HF.out]
        repeat' (first | (with_reducible first | exact HP3.out | apply Ps.set1 | apply ps_far | apply Ps.alloc | apply Ps.drew) | omega | (simp <;> omega))
      · repeat' (first | (with_reducible first | exact HQ3.out | apply kq_put | refine kq_far ?_ (Nat.le_refl _) _ _ | apply Fr.drew | apply Fr.alloc))
   · have HF := Lib.hid (show F = ⟨s.i + 1, s.e, s.at_⟩ by rw [HS.out, if_pos ⟨he, hk⟩])
     have hx := HX.out he hk
     have g1 : ((t.kind : Int) != 4) = true := by simp; omega
     have HE := Lib.hid he
     clear HS HX hk
     go_enter Tryd.func72, Tryd.ntmps72
     go_wp2_with (
      go_at_call 46
      refine (HN.out _ (HP.out.alloc _)).mono ?_
      rintro e w2 ⟨rfl, hb⟩
      have HP3 := Lib.hid ((HP.out.alloc (.cells #[.int .i64 0, .string ⟨#[]⟩, .int .i64 0, .int .i64 0] 80)).below hb)
      have hK2 : Blk w2 w.heap.size 80 #[.int .i64 0, .string ⟨#[]⟩, .int .i64 0, .int .i64 0] := (hb.block w.heap.size (by simp)).trans (heap_alloc_new w _)
      have HQ3 := Lib.hid (((Kq.of_below (q := q) ((Below.refl w.heap.size w).alloc (Nat.le_refl _) (.cells #[.int .i64 0, .string ⟨#[]⟩, .int .i64 0, .int .i64 0] 80))).trans ((Kq.of_below (q := q) hb))))
      obtain ⟨c0, c1, c2, c3⟩ := HP3.out.cells
      obtain ⟨f0, f1, f2, f3⟩ := blk4f HP3.out.blk
      obtain ⟨r0, r1, r2, r3⟩ := blk4 hK2
      obtain ⟨y0, y1, y2, y3⟩ := blk4f hK2
      have HK3 := Lib.hid hK2
      rw [HE.out] at c2
      have hz1 : w.heap.size < w2.heap.size := by have := hb.size; simp at this; omega
      have hz2 : q < w2.heap.size := by have := hb.size; simp at this; omega
      have hz3 : ¬ q = w2.heap.size := by omega
      have hz4 : ¬ w2.heap.size = q := by omega
      clear hb hK2)
     all_goals
      refine bodyPost_ret (res_one (by rfl) _ _ w.heap.size #[.int .i64 (t.kind : Nat), .string ⟨t.text.toArray⟩, .int .i64 (t.n : Nat), .int .i64 (t.at_ : Nat)] rfl ?_ Tryd.underlying80 inf_tok4) rfl ⟨rfl, ?_, ?_⟩
      · repeat' (first | (with_reducible first | exact HK3.out | apply blk_alloc | apply tokZ | apply Blk.other) | (simp <;> omega))
      · rw [HF.out]
        repeat' (first | (with_reducible first | exact HP3.out | apply Ps.set1 | apply ps_far | apply Ps.alloc | apply Ps.drew) | omega | (simp <;> omega))
      · repeat' (first | (with_reducible first | exact HQ3.out | apply kq_put | refine kq_far ?_ (Nat.le_refl _) _ _ | apply Fr.drew | apply Fr.alloc))
 · have HF := Lib.hid (show F = s by rw [HS.out, if_neg (fun hh => he hh.1)])
   have g1 : ((s.e : Int) == 0) = false := by simp; omega
   have HE := Lib.hid (rfl : s.e = s.e)
   clear HS HX he
   go_enter Tryd.func72, Tryd.ntmps72
   go_wp2_with (
    go_at_call 46
    refine (HN.out _ (HP.out.alloc _)).mono ?_
    rintro e w2 ⟨rfl, hb⟩
    have HP3 := Lib.hid ((HP.out.alloc (.cells #[.int .i64 0, .string ⟨#[]⟩, .int .i64 0, .int .i64 0] 80)).below hb)
    have hK2 : Blk w2 w.heap.size 80 #[.int .i64 0, .string ⟨#[]⟩, .int .i64 0, .int .i64 0] := (hb.block w.heap.size (by simp)).trans (heap_alloc_new w _)
    have HQ3 := Lib.hid (((Kq.of_below (q := q) ((Below.refl w.heap.size w).alloc (Nat.le_refl _) (.cells #[.int .i64 0, .string ⟨#[]⟩, .int .i64 0, .int .i64 0] 80))).trans ((Kq.of_below (q := q) hb))))
    obtain ⟨c0, c1, c2, c3⟩ := HP3.out.cells
    obtain ⟨f0, f1, f2, f3⟩ := blk4f HP3.out.blk
    obtain ⟨r0, r1, r2, r3⟩ := blk4 hK2
    obtain ⟨y0, y1, y2, y3⟩ := blk4f hK2
    have HK3 := Lib.hid hK2
    rw [HE.out] at c2
    have hz1 : w.heap.size < w2.heap.size := by have := hb.size; simp at this; omega
    have hz2 : q < w2.heap.size := by have := hb.size; simp at this; omega
    have hz3 : ¬ q = w2.heap.size := by omega
    have hz4 : ¬ w2.heap.size = q := by omega
    clear hb hK2)
   all_goals
    refine bodyPost_ret (res_one (by rfl) _ _ w.heap.size #[.int .i64 (t.kind : Nat), .string ⟨t.text.toArray⟩, .int .i64 (t.n : Nat), .int .i64 (t.at_ : Nat)] rfl ?_ Tryd.underlying80 inf_tok4) rfl ⟨rfl, ?_, ?_⟩
    · repeat' (first | (with_reducible first | exact HK3.out | apply blk_alloc | apply tokZ | apply Blk.other) | (simp <;> omega))
    · rw [HF.out]
      repeat' (first | (with_reducible first | exact HP3.out | apply Ps.set1 | apply ps_far | apply Ps.alloc | apply Ps.drew) | omega | (simp <;> omega))
    · repeat' (first | (with_reducible first | exact HQ3.out | apply kq_put | refine kq_far ?_ (Nat.le_refl _) _ _ | apply Fr.drew | apply Fr.alloc))
end Go.Proofs.YteikakoheibnjaaDoor
namespace Go.Proofs.YteikakoheibnjaaDoor
open Go Go.RowKit

theorem fld0 (a b c d : Value) (W : World) : (Instr.field 80 (.agg #[a, b, c, d]) 0).run Tryd.prog W = .ok a W := by kernel_rfl
theorem fld1 (a b c d : Value) (W : World) : (Instr.field 80 (.agg #[a, b, c, d]) 1).run Tryd.prog W = .ok b W := by kernel_rfl
theorem fld3 (a b c d : Value) (W : World) : (Instr.field 80 (.agg #[a, b, c, d]) 3).run Tryd.prog W = .ok d W := by kernel_rfl
theorem ptake_any {w : World} {q : Nat} {A : Option Addr} {c : Nat} {l : List Tok} {s : PS} (h : Ps w q A c l s) (x : List UInt8) :
  Calls Tryd.prog 75 #[.pointer (some ⟨q, 0, none⟩), .string ⟨x.toArray⟩] w (PPost w q A c l (.bool (takeP l s x).1) (takeP l s x).2) := by
 have HI := Lib.hid (pis_any h x)
 have HP := Lib.hid h
 have HN := Lib.hid (fun W (hW : Ps W q A c l s) => pnext_any hW)
 have HV := Lib.hid (show takeP l s x = if isW l s x then (true, nextP l s) else (false, s) from rfl)
 clear h
 generalize takeP l s x = V at *
 generalize isW l s x = b at *
 cases b with
 | false =>
   have HF := Lib.hid (show V = (false, s) by rw [HV.out]; rfl)
   clear HV
   go_enter Tryd.func75, Tryd.ntmps75
   go_wp2_with (
    go_at_call 40
    refine HI.out.mono ?_
    rintro e w2 ⟨rfl, hb⟩
    have HB := Lib.hid hb
    clear hb)
   all_goals
    go_ret
    rw [HF.out]
    exact ⟨rfl, HP.out.below HB.out, Kq.of_below HB.out⟩
 | true =>
   have HF := Lib.hid (show V = (true, nextP l s) by rw [HV.out]; rfl)
   clear HV
   go_enter Tryd.func75, Tryd.ntmps75
   go_wp2_with (first
    | (
      go_at_call 40
      refine HI.out.mono ?_
      rintro e w2 ⟨rfl, hb⟩
      have HB := Lib.hid hb
      clear hb)
    | (
      go_at_call 72
      refine (HN.out _ (HP.out.below HB.out)).mono ?_
      intro e w3 hp
      obtain ⟨rfl, hp3, hk3⟩ := hp
      have HP3 := Lib.hid hp3
      have HK3 := Lib.hid hk3
      clear hp3 hk3))
   all_goals
    go_ret
    rw [HF.out]
    exact ⟨rfl, HP3.out, (Kq.of_below HB.out).trans HK3.out⟩
theorem pmust_any {w : World} {q : Nat} {A : Option Addr} {c : Nat} {l : List Tok} {s : PS} (h : Ps w q A c l s) (x : List UInt8) :
  Calls Tryd.prog 45 #[.pointer (some ⟨q, 0, none⟩), .string ⟨x.toArray⟩] w (PPost w q A c l (.tuple #[]) (mustP l s x)) := by
 have HI := Lib.hid (ptake_any h x)
 have HN := Lib.hid (fun W (hW : Ps W q A c l s) => pnow_any hW)
 have hsm := h.now_small
 have HL := Lib.hid (fun W (hW : Ps W q A c l s) => pfail_any hW (nowP l s).at_ 2 hsm.2.2.2 (by decide))
 have HV := Lib.hid (show mustP l s x = if isW l s x then nextP l s else failP s (nowP l s).at_ 2 from rfl)
 clear h hsm
 unfold takeP at HI
 generalize mustP l s x = V at *
 generalize isW l s x = b at *
 cases b with
 | true =>
   have HF := Lib.hid (show V = nextP l s by rw [HV.out]; rfl)
   clear HV HL
   have hf0 := fld0
   have hf3 := fld3
   go_enter Tryd.func45, Tryd.ntmps45
   go_wp2_with (
    go_at_call 75
    refine HI.out.mono ?_
    intro e w2 hp
    obtain ⟨rfl, hp2, hk2⟩ := hp
    have HP2 := Lib.hid hp2
    have HK2 := Lib.hid hk2
    clear hp2 hk2)
   all_goals
    go_end0
    rw [HF.out]
    exact ⟨rfl, HP2.out, HK2.out⟩
 | false =>
   have HF := Lib.hid (show V = failP s (nowP l s).at_ 2 by rw [HV.out]; rfl)
   clear HV
   generalize nowP l s = t at *
   unfold tokV at HN
   have hf0 := fld0
   have hf3 := fld3
   go_enter Tryd.func45, Tryd.ntmps45
   go_wp2_with (first
    | (
      go_at_call 75
      refine HI.out.mono ?_
      intro e w2 hp
      obtain ⟨rfl, hp2, hk2⟩ := hp
      have HP2 := Lib.hid hp2
      have HK2 := Lib.hid hk2
      clear hp2 hk2)
    | (
      go_at_call 46
      refine (HN.out _ HP2.out).mono ?_
      rintro e w3 ⟨rfl, hb⟩
      have HP3 := Lib.hid (HP2.out.below hb)
      have HK3 := Lib.hid (HK2.out.trans (Kq.of_below hb))
      clear hb)
    | (
      go_at_call 47
      refine (HL.out _ HP3.out).mono ?_
      intro e w4 hp
      obtain ⟨rfl, hp4, hk4⟩ := hp
      have HP4 := Lib.hid hp4
      have HK4 := Lib.hid (HK3.out.trans hk4)
      clear hp4 hk4))
   all_goals
    go_end0
    rw [HF.out]
    exact ⟨rfl, HP4.out, HK4.out⟩
set_option maxRecDepth 100000 in
set_option maxHeartbeats 2000000 in
theorem pname_any {w : World} {q : Nat} {A : Option Addr} {c : Nat} {l : List Tok} {s : PS} (h : Ps w q A c l s) :
  Calls Tryd.prog 73 #[.pointer (some ⟨q, 0, none⟩)] w (PPost w q A c l (tokV (nameP l s).1) (nameP l s).2) := by
 have HP := Lib.hid h
 have HN := Lib.hid (fun W (hW : Ps W q A c l s) => pnow_any hW)
 have HX := Lib.hid (fun W (hW : Ps W q A c l s) => pnext_any hW)
 have hsm := h.now_small
 have hq := h.qlt
 have HL := Lib.hid (fun W (hW : Ps W q A c l s) => pfail_any hW (nowP l s).at_ 2 hsm.2.2.2 (by decide))
 have HV := Lib.hid (show nameP l s = if (nowP l s).kind = 1 then (nowP l s, nextP l s) else (zTok, failP s (nowP l s).at_ 2) from rfl)
 clear h hsm
 generalize nameP l s = V at *
 generalize nowP l s = t at *
 unfold tokV at HN HX
 by_cases hk : t.kind = 1
 · have HF := Lib.hid (show V = (t, nextP l s) by rw [HV.out, if_pos hk])
   have g1 : ((t.kind : Int) != 1) = false := by rw [hk]; rfl
   clear HV HL hk
   generalize nextP l s = s2 at *
   have hf0 := fld0
   have hf3 := fld3
   go_enter Tryd.func73, Tryd.ntmps73
   go_wp2_with (first
    | (
      go_at_call 46
      refine (HN.out _ (HP.out.alloc _)).mono ?_
      rintro e w2 ⟨rfl, hb⟩
      have HP2 := Lib.hid ((HP.out.alloc (.cells #[.int .i64 0, .string ⟨#[]⟩, .int .i64 0, .int .i64 0] 80)).below hb)
      have HQ2 := Lib.hid ((Kq.of_below (q := q) ((Below.refl w.heap.size w).alloc (Nat.le_refl _) (.cells #[.int .i64 0, .string ⟨#[]⟩, .int .i64 0, .int .i64 0] 80))).trans (Kq.of_below (q := q) hb))
      have HK2 := Lib.hid (show Blk w2 w.heap.size 80 #[.int .i64 0, .string ⟨#[]⟩, .int .i64 0, .int .i64 0] from (hb.block w.heap.size (by simp)).trans (heap_alloc_new w _))
      clear hb)
    | (
      go_at_call 72
      refine (HX.out _ HP2.out).mono ?_
      intro e w3 hp
      obtain ⟨rfl, hp3, hk3⟩ := hp
      have hK3 : Blk w3 w.heap.size 80 #[.int .i64 0, .string ⟨#[]⟩, .int .i64 0, .int .i64 0] := hk3.blk HK2.out (by omega)
      obtain ⟨r0, r1, r2, r3⟩ := blk4 hK3
      obtain ⟨y0, y1, y2, y3⟩ := blk4f hK3
      have HP3 := Lib.hid hp3
      have HQ3 := Lib.hid (HQ2.out.trans hk3)
      have HK3 := Lib.hid hK3
      clear hp3 hk3 hK3))
   all_goals
    refine bodyPost_ret (res_one (by rfl) _ _ w.heap.size #[.int .i64 (t.kind : Nat), .string ⟨t.text.toArray⟩, .int .i64 (t.n : Nat), .int .i64 (t.at_ : Nat)] rfl (tokZ HK3.out _ _ _ _) Tryd.underlying80 inf_tok4) rfl ⟨by rw [HF.out]; rfl, ?_, ?_⟩
    · rw [HF.out]
      repeat' (first | (with_reducible first | exact HP3.out | refine ps_far ?_ hq _ _))
    · repeat' (first | (with_reducible first | exact HQ3.out | refine kq_far ?_ (Nat.le_refl _) _ _))
 · have HF := Lib.hid (show V = (zTok, failP s t.at_ 2) by rw [HV.out, if_neg hk])
   have g1 : ((t.kind : Int) != 1) = true := by simp; omega
   clear HV HX hk
   generalize failP s t.at_ 2 = s2 at *
   have hf0 := fld0
   have hf3 := fld3
   go_enter Tryd.func73, Tryd.ntmps73
   go_wp2_with (first
    | (
      go_at_call 46
      first
       | refine (HN.out _ HP2.out).mono ?_
       | refine (HN.out _ (HP.out.alloc _)).mono ?_
      rintro e w2 ⟨rfl, hb⟩
      first
       | (have HQ5 := Lib.hid (HQ2.out.trans (Kq.of_below (q := q) hb))
          have HK5 := Lib.hid (show Blk w2 w.heap.size 80 #[.int .i64 0, .string ⟨#[]⟩, .int .i64 0, .int .i64 0] from (hb.block w.heap.size HK2.out.lt).trans HK2.out)
          have HP5 := Lib.hid (HP2.out.below hb))
       | (have HP2 := Lib.hid ((HP.out.alloc (.cells #[.int .i64 0, .string ⟨#[]⟩, .int .i64 0, .int .i64 0] 80)).below hb)
          have HQ2 := Lib.hid ((Kq.of_below (q := q) ((Below.refl w.heap.size w).alloc (Nat.le_refl _) (.cells #[.int .i64 0, .string ⟨#[]⟩, .int .i64 0, .int .i64 0] 80))).trans (Kq.of_below (q := q) hb))
          have HK2 := Lib.hid (show Blk w2 w.heap.size 80 #[.int .i64 0, .string ⟨#[]⟩, .int .i64 0, .int .i64 0] from (hb.block w.heap.size (by simp)).trans (heap_alloc_new w _)))
      clear hb)
    | (
      go_at_call 47
      refine (HL.out _ HP5.out).mono ?_
      intro e w3 hp
      obtain ⟨rfl, hp3, hk3⟩ := hp
      have hK3 : Blk w3 w.heap.size 80 #[.int .i64 0, .string ⟨#[]⟩, .int .i64 0, .int .i64 0] := hk3.blk HK5.out (by omega)
      obtain ⟨r0, r1, r2, r3⟩ := blk4 hK3
      obtain ⟨y0, y1, y2, y3⟩ := blk4f hK3
      have HP3 := Lib.hid hp3
      have HQ3 := Lib.hid (HQ5.out.trans hk3)
      have HK3 := Lib.hid hK3
      clear hp3 hk3 hK3))
   all_goals
    refine bodyPost_ret (res_one (by rfl) _ _ w.heap.size #[.int .i64 0, .string ⟨#[]⟩, .int .i64 0, .int .i64 0] rfl (tokZ HK3.out _ _ _ _) Tryd.underlying80 inf_tok4) rfl ⟨by rw [HF.out]; rfl, ?_, ?_⟩
    · rw [HF.out]
      repeat' (first | (with_reducible first | exact HP3.out | refine ps_far ?_ hq _ _))
    · repeat' (first | (with_reducible first | exact HQ3.out | refine kq_far ?_ (Nat.le_refl _) _ _))
theorem conv_byte (w : World) (d : UInt8) (z : Int) (hz : z = (d.toNat : Int)) : (convert 56 9 (.slice (some ⟨w.heap.size, 0, none⟩) 1 1)).run Tryd.prog (w.alloc (.cells #[.int .u8 z] 5)) = .ok (.string ⟨#[d]⟩) (w.alloc (.cells #[.int .u8 z] 5)) := by
 subst hz
 refine run_convert_bytes_back _ 56 9 5 ⟨w.heap.size, 0, none⟩ 1 [d] Tryd.underlying56 Tryd.underlying5 Tryd.underlying9 fun j hj => ?_
 have h0 : j = 0 := by simpa using hj
 subst h0
 simp only [List.getElem_cons_zero]
 exact (cell_of_row _ w.heap.size 0 _ 5 (0, 0) (heap_alloc_new w _)).trans rfl
set_option maxRecDepth 100000 in
set_option maxHeartbeats 2000000 in
theorem porder_any {w : World} {q : Nat} {A : Option Addr} {c : Nat} {l : List Tok} {s : PS} (h : Ps w q A c l s) (x : List UInt8) (hx : x.length ≤ 1000) :
  Calls Tryd.prog 41 #[.pointer (some ⟨q, 0, none⟩), .string ⟨x.toArray⟩] w fun e w' => e = .returned (.int .i64 (orderP l s x)) ∧ Below w.heap.size w w' := by
 have HP := Lib.hid h
 have HI0 := Lib.hid (fun W (hW : Ps W q A c l s) => pis_any hW (x ++ [48]))
 have HI1 := Lib.hid (fun W (hW : Ps W q A c l s) => pis_any hW (x ++ [49]))
 have HI2 := Lib.hid (fun W (hW : Ps W q A c l s) => pis_any hW (x ++ [50]))
 obtain ⟨T0, hadd0, hT0⟩ := add_ex ⟨x.toArray⟩ ⟨#[48]⟩ (X := x) (Y := [48]) rfl rfl (by simp only [List.length_cons, List.length_nil]; omega)
 obtain ⟨T1, hadd1, hT1⟩ := add_ex ⟨x.toArray⟩ ⟨#[49]⟩ (X := x) (Y := [49]) rfl rfl (by simp only [List.length_cons, List.length_nil]; omega)
 obtain ⟨T2, hadd2, hT2⟩ := add_ex ⟨x.toArray⟩ ⟨#[50]⟩ (X := x) (Y := [50]) rfl rfl (by simp only [List.length_cons, List.length_nil]; omega)
 have hT0 := bytes_of hT0
 have hT1 := bytes_of hT1
 have hT2 := bytes_of hT2
 subst hT0 hT1 hT2
 have HV := Lib.hid (show orderP l s x = if isW l s (x ++ [48]) then 0 else if isW l s (x ++ [49]) then 1 else if isW l s (x ++ [50]) then 2 else -1 from rfl)
 clear h hx
 generalize orderP l s x = V at *
 generalize isW l s (x ++ [48]) = b0 at *
 generalize isW l s (x ++ [49]) = b1 at *
 generalize isW l s (x ++ [50]) = b2 at *
 generalize x ++ [48] = x0 at *
 generalize x ++ [49] = x1 at *
 generalize x ++ [50] = x2 at *
 go_enter Tryd.func41, Tryd.ntmps41
 go_wp2_with fail
 go_loopg [5] 3 (fun r i wr => ∃ k : Nat, k ≤ 3 ∧ r = 3 - k ∧ i = .int .i64 (k : Int) ∧ Hid ((0 < k → b0 = false) ∧ (1 < k → b1 = false) ∧ (2 < k → b2 = false)) ∧ Hid (Below w.heap.size w wr))
 case atStart => exact ⟨0, by omega, rfl, rfl, Lib.hid ⟨fun h => absurd h (by omega), fun h => absurd h (by omega), fun h => absurd h (by omega)⟩, Lib.hid (Below.refl _ _)⟩
 case round =>
  obtain ⟨k, hk, hr, rfl, HN, HB⟩ := hrel
  have HRr := Lib.hid hr
  have hs1 := HB.out.size
  have HPr := Lib.hid (HP.out.below HB.out)
  clear hr
  have h4 : k = 0 ∨ k = 1 ∨ k = 2 ∨ k = 3 := by omega
  rcases h4 with rfl | rfl | rfl | rfl
  · have hconv := conv_byte wr 48 48 rfl
    cases b0 with
    | true =>
      have HF := Lib.hid (show V = 0 by rw [HV.out]; simp)
      clear HV
      go_wp2_with (
       go_at_call 40
       refine (HI0.out _ (HPr.out.alloc _)).mono ?_
       rintro e w2 ⟨rfl, hb⟩
       have HB2 := Lib.hid ((HB.out.alloc hs1 (.cells #[.int .u8 48] 5)).trans (hb.mono (by simp <;> omega)))
       clear hb)
      all_goals
       go_ret
       exact ⟨congrArg (fun x : Int => Ending.returned (.int .i64 x)) HF.out.symm, HB2.out⟩
    | false =>
      go_wp2_with (
       go_at_call 40
       refine (HI0.out _ (HPr.out.alloc _)).mono ?_
       rintro e w2 ⟨rfl, hb⟩
       have HB2 := Lib.hid ((HB.out.alloc hs1 (.cells #[.int .u8 48] 5)).trans (hb.mono (by simp <;> omega)))
       clear hb)
      all_goals
       go_roundg (3 - 1)
       case measure => have := HRr.out; omega
       case rel => exact ⟨1, by omega, rfl, by rfl, Lib.hid ⟨by simp, fun h => absurd h (by omega), fun h => absurd h (by omega)⟩, HB2⟩
  · have hconv := conv_byte wr 49 49 rfl
    cases b1 with
    | true =>
      have HF := Lib.hid (show V = 1 by rw [HV.out, HN.out.1 (by omega)]; simp)
      clear HV
      go_wp2_with (
       go_at_call 40
       refine (HI1.out _ (HPr.out.alloc _)).mono ?_
       rintro e w2 ⟨rfl, hb⟩
       have HB2 := Lib.hid ((HB.out.alloc hs1 (.cells #[.int .u8 49] 5)).trans (hb.mono (by simp <;> omega)))
       clear hb)
      all_goals
       go_ret
       exact ⟨congrArg (fun x : Int => Ending.returned (.int .i64 x)) HF.out.symm, HB2.out⟩
    | false =>
      go_wp2_with (
       go_at_call 40
       refine (HI1.out _ (HPr.out.alloc _)).mono ?_
       rintro e w2 ⟨rfl, hb⟩
       have HB2 := Lib.hid ((HB.out.alloc hs1 (.cells #[.int .u8 49] 5)).trans (hb.mono (by simp <;> omega)))
       clear hb)
      all_goals
       go_roundg (3 - 2)
       case measure => have := HRr.out; omega
       case rel => exact ⟨2, by omega, rfl, by rfl, Lib.hid ⟨fun _ => HN.out.1 (by omega), by simp, fun h => absurd h (by omega)⟩, HB2⟩
  · have hconv := conv_byte wr 50 50 rfl
    cases b2 with
    | true =>
      have HF := Lib.hid (show V = 2 by rw [HV.out, HN.out.1 (by omega), HN.out.2.1 (by omega)]; simp)
      clear HV
      go_wp2_with (
       go_at_call 40
       refine (HI2.out _ (HPr.out.alloc _)).mono ?_
       rintro e w2 ⟨rfl, hb⟩
       have HB2 := Lib.hid ((HB.out.alloc hs1 (.cells #[.int .u8 50] 5)).trans (hb.mono (by simp <;> omega)))
       clear hb)
      all_goals
       go_ret
       exact ⟨congrArg (fun x : Int => Ending.returned (.int .i64 x)) HF.out.symm, HB2.out⟩
    | false =>
      go_wp2_with (
       go_at_call 40
       refine (HI2.out _ (HPr.out.alloc _)).mono ?_
       rintro e w2 ⟨rfl, hb⟩
       have HB2 := Lib.hid ((HB.out.alloc hs1 (.cells #[.int .u8 50] 5)).trans (hb.mono (by simp <;> omega)))
       clear hb)
      all_goals
       go_roundg (3 - 3)
       case measure => have := HRr.out; omega
       case rel => exact ⟨3, by omega, rfl, by rfl, Lib.hid ⟨fun _ => HN.out.1 (by omega), fun _ => HN.out.2.1 (by omega), by simp⟩, HB2⟩
  · have HF := Lib.hid (show V = -1 by rw [HV.out, HN.out.1 (by omega), HN.out.2.1 (by omega), HN.out.2.2 (by omega)]; rfl)
    go_wp2_with fail
    go_ret
    exact ⟨congrArg (fun x : Int => Ending.returned (.int .i64 x)) HF.out.symm, HB.out⟩
theorem penter_any {w : World} {q : Nat} {A : Option Addr} {c : Nat} {l : List Tok} {s : PS} (h : Ps w q A c l s) (k d : Nat) (hd : k + d = 30 ∨ (k = 0 ∧ 30 ≤ d)) (hd2 : d ≤ 100) :
  Calls Tryd.prog 76 #[.pointer (some ⟨q, 0, none⟩), .int .i64 (d : Nat)] w (PPost w q A c l (.bool (decide ((enterP l k s).e = 0))) (enterP l k s)) := by
 have HP := Lib.hid h
 have HN := Lib.hid (pnow_any h)
 have hsm := h.now_small
 have HL := Lib.hid (fun W (hW : Ps W q A c l s) => pfail_any hW (nowP l s).at_ 4 hsm.2.2.2 (by decide))
 have HV := Lib.hid (show enterP l k s = if k = 0 then failP s (nowP l s).at_ 4 else s from rfl)
 clear h hsm
 generalize enterP l k s = V at *
 by_cases hk : k = 0
 · have HF := Lib.hid (show V = failP s (nowP l s).at_ 4 by rw [HV.out, if_pos hk])
   have g1 : decide ((30 : Int) ≤ (d : Int)) = true := decide_eq_true (by omega)
   clear HV hk hd hd2
   generalize nowP l s = t at *
   generalize failP s t.at_ 4 = s2 at *
   unfold tokV at HN
   have HE := Lib.hid (fun W (hW : Ps W q A c l s2) => (show W.cell? ⟨q, 2, none⟩ = some (.int .i64 (s2.e : Nat)) from hW.cells.2.2.1))
   have HD := Lib.hid (show ((s2.e : Int) == 0) = decide (s2.e = 0) by rw [Bool.eq_iff_iff]; simp)
   have hf0 := fld0
   have hf3 := fld3
   go_enter Tryd.func76, Tryd.ntmps76
   go_wp2_with (first
    | (
      go_at_call 46
      refine HN.out.mono ?_
      rintro e w2 ⟨rfl, hb⟩
      have HP2 := Lib.hid (HP.out.below hb)
      have HQ2 := Lib.hid (Kq.of_below (q := q) hb)
      clear hb)
    | (
      go_at_call 47
      refine (HL.out _ HP2.out).mono ?_
      intro e w3 hp
      obtain ⟨rfl, hp3, hk3⟩ := hp
      have c2 := HE.out _ hp3
      have HP3 := Lib.hid hp3
      have HQ3 := Lib.hid (HQ2.out.trans hk3)
      clear hp3 hk3))
   all_goals
    go_ret
    rw [HF.out]
    refine ⟨?_, HP3.out, HQ3.out⟩
    first
     | exact congrArg (fun x : Bool => Ending.returned (.bool x)) HD.out
     | exact congrArg (fun x : Bool => Ending.returned (.bool x)) rfl
 · have HF := Lib.hid (show V = s by rw [HV.out, if_neg hk])
   have g1 : decide ((30 : Int) ≤ (d : Int)) = false := decide_eq_false (by omega)
   clear HV hk hd hd2 HL HN
   obtain ⟨c0, c1, c2, c3⟩ := HP.out.cells
   have HD := Lib.hid (show ((s.e : Int) == 0) = decide (s.e = 0) by rw [Bool.eq_iff_iff]; simp)
   have hf0 := fld0
   have hf3 := fld3
   go_enter Tryd.func76, Tryd.ntmps76
   go_wp2_with fail
   go_ret
   rw [HF.out]
   refine ⟨?_, HP.out, Fr.refl _ _⟩
   first
    | exact congrArg (fun x : Bool => Ending.returned (.bool x)) HD.out
    | exact congrArg (fun x : Bool => Ending.returned (.bool x)) rfl
end Go.Proofs.YteikakoheibnjaaDoor
