/- Parts of the proof: TRow, TRdAt. -/
import Derived.Test.YteikakoheibnjaaGreatDoorM31
namespace Go.Proofs.YteikakoheibnjaaGreatDoor
open Go Go.RowKit

/-- A row of values of the call's own, its numbers in blocks of the call's own. -/
structure RowV (w : World) (base : Nat) (v : Value) (vs : List ValP) : Prop where
  row : ∃ xs : List Value, w.ownsRow base 37 3 v vs.length xs ∧ ∀ k (_ : k < vs.length), ∃ A c, xs[k * 3]? = some (.string ⟨vs[k].name.toArray⟩) ∧ xs[k * 3 + 1]? = some (.int .i64 vs[k].order) ∧
    xs[k * 3 + 2]? = some (.slice A vs[k].set.length c) ∧ w.ownsRow base 3 1 (.slice A vs[k].set.length c) vs[k].set.length (tintVs vs[k].set)
  small : ∀ v ∈ vs, v.name.length ≤ 4294967296 ∧ v.set.length ≤ 4294967296
section
variable {w w' : World} {base : Nat} {v : Value} {vs : List ValP}
theorem RowV.nil (w : World) (base : Nat) : RowV w base (.slice none 0 0) [] := ⟨⟨[], ⟨rfl, .inl ⟨rfl, rfl⟩⟩, fun k h => absurd h (by simp)⟩, fun v h => absurd h (by simp)⟩
theorem RowV.lt (h : RowV w base v vs) (k : Nat) (hk : v.ownBlock = some k) : base ≤ k ∧ k < w.heap.size := by
  obtain ⟨xs, ho, _⟩ := h.row
  exact ho.lt k hk
theorem own_type {w : World} {base n : Nat} {e : TypeId} {size : Nat} {v : Value} {xs : List Value} (h : w.ownsRow base e size v n xs) {g : Nat} (hg : v.ownBlock = some g) : ∃ cs, w.heap[g]? = some (.cells cs e (0, 0)) := by
  rcases h.2 with ⟨rfl, _⟩ | ⟨g', cap, cur, rfl, _, hh, _⟩
  · simp [Value.ownBlock] at hg
  · have : g' = g := by simpa [Value.ownBlock] using hg
    subst this
    exact ⟨cur, hh⟩
/-- Where neither the row's block nor a block of numbers has turned. -/
theorem RowV.fr {S : Nat → Prop} (h : RowV w base v vs) (hF : Fr S w w') (h1 : ∀ g, v.ownBlock = some g → ¬ S g) (h2 : ∀ g cs, w.heap[g]? = some (.cells cs 3 (0, 0)) → ¬ S g) : RowV w' base v vs := by
  obtain ⟨⟨xs, ho, hat⟩, hs⟩ := h
  refine ⟨⟨xs, hF.own ho h1, fun k hk => ?_⟩, hs⟩
  obtain ⟨A, c, x0, x1, x2, hi⟩ := hat k hk
  exact ⟨A, c, x0, x1, x2, hF.own hi fun g hg => by
    obtain ⟨cs, hc⟩ := own_type hi hg
    exact h2 g cs hc⟩
theorem RowV.below (h : RowV w base v vs) (hb : Below w.heap.size w w') : RowV w' base v vs :=
  h.fr (Fr.of_below hb) (fun g hg => by have := (h.lt g hg).2; omega) (fun g cs hc => by have := (Array.getElem?_eq_some_iff.1 hc).1; omega)
theorem RowV.put {g : Nat} {t : TypeId} {cs : Array Value} (h : RowV w base v vs) (hg : Blk w g t cs) (ht : 37 ≠ t) (ht2 : 3 ≠ t) (o : Nat) (u : Value) : RowV (w.setCell ⟨g, o, none⟩ u) base v vs :=
  h.fr (S := fun k => k = g) (show Fr (fun k => k = g) w (w.setCell ⟨g, o, none⟩ u) from Fr.setCell (S := fun k => k = g) (p := ⟨g, o, none⟩) (Fr.refl _ _) (.inl rfl) u) (fun k hk e => by
    subst e
    obtain ⟨xs, ho, _⟩ := h.row
    exact own_blk_ne ho hg ht hk) (fun k cs hc e => by
    subst e
    exact Blk.ne_ hc hg ht2 rfl)
theorem fr_put {S : Nat → Prop} {a w : World} {g : Nat} (h : Fr S a w) (hg : S g) (o : Nat) (u : Value) : Fr S a (w.setCell ⟨g, o, none⟩ u) := Fr.setCell (p := ⟨g, o, none⟩) h (.inl hg) u
theorem RowV.put5 {g : Nat} {t : TypeId} {cs : Array Value} (h : RowV w base v vs) (hg : Blk w g t cs) (ht : 37 ≠ t) (ht2 : 3 ≠ t) (y0 y1 y2 y3 y4 : Value) :
    RowV (((((w.setCell ⟨g, 0, none⟩ y0).setCell ⟨g, 1, none⟩ y1).setCell ⟨g, 2, none⟩ y2).setCell ⟨g, 3, none⟩ y3).setCell ⟨g, 4, none⟩ y4) base v vs :=
  h.fr (S := fun k => k = g) (fr_put (S := fun k => k = g) (fr_put (S := fun k => k = g) (fr_put (S := fun k => k = g) (fr_put (S := fun k => k = g) (fr_put (S := fun k => k = g) (Fr.refl _ _) rfl 0 y0) rfl 1 y1) rfl 2 y2) rfl 3 y3) rfl 4 y4) (fun k hk e => by
    subst e
    obtain ⟨xs, ho, _⟩ := h.row
    exact own_blk_ne ho hg ht hk) (fun k cs hc e => by
    subst e
    exact Blk.ne_ hc hg ht2 rfl)
/-- Another row of values has grown. -/
theorem RowV.grown {v2 : Value} {vs2 : List ValP} (h : RowV w base v vs) (h2 : RowV w base v2 vs2) (hne : ∀ g, v.ownBlock = some g → v2.ownBlock ≠ some g) (hg : w.grownBy w' v2.ownBlock) : RowV w' base v vs :=
  h.fr (S := fun k => v2.ownBlock = some k) (Fr.grown (Fr.refl _ _) hg fun k hk => .inl hk) (fun g hg e => hne g hg e) (fun g cs hc e => by
    obtain ⟨xs, ho, _⟩ := h2.row
    obtain ⟨cs2, hc2⟩ := own_type ho e
    exact Blk.ne_ (t := 3) (t' := 37) hc hc2 (by decide) rfl)
/-- The row itself has grown by a value. -/
theorem RowV.snoc {v' : Value} {nm : List UInt8} {o : Int} {set : List Int} {A : Option Addr} {c : Nat} {xs : List Value} (h : RowV w base v vs)
    (hx : w.ownsRow base 37 3 v vs.length xs)
    (ho : w'.ownsRow base 37 3 v' (vs.length + 1) (xs ++ [.string ⟨nm.toArray⟩, .int .i64 o, .slice A set.length c]))
    (hi : w.ownsRow base 3 1 (.slice A set.length c) set.length (tintVs set)) (hg : w.grownBy w' v.ownBlock) (hn : nm.length ≤ 4294967296) (hs : set.length ≤ 4294967296) : RowV w' base v' (vs ++ [⟨nm, o, set⟩]) := by
  obtain ⟨⟨ys, hy, hat⟩, hsm⟩ := h
  have hxy : xs = ys := by
    rcases hx.2 with ⟨e1, hn0⟩ | ⟨g, cap, cur, e1, _, hh, _, _, _, ht⟩
    · have h1 := hx.1
      have h2 := hy.1
      rw [hn0] at h1 h2
      have e2 : xs = [] := List.eq_nil_of_length_eq_zero (by simpa using h1)
      have e3 : ys = [] := List.eq_nil_of_length_eq_zero (by simpa using h2)
      rw [e2, e3]
    · rcases hy.2 with ⟨e2, _⟩ | ⟨g2, cap2, cur2, e2, _, hh2, _, _, _, ht2⟩
      · rw [e1] at e2
        cases e2
      · rw [e1] at e2
        injection e2 with e3
        injection e3 with e4
        injection e4 with e5
        subst e5
        rw [hh] at hh2
        injection hh2 with hh2
        injection hh2 with hh2
        subst hh2
        exact ht.symm.trans ht2
  subst hxy
  have hF : Fr (fun k => v.ownBlock = some k) w w' := Fr.grown (Fr.refl _ _) hg fun k hk => .inl hk
  have hI : ∀ {A : Option Addr} {c : Nat} {l : List Int}, w.ownsRow base 3 1 (.slice A l.length c) l.length (tintVs l) → w'.ownsRow base 3 1 (.slice A l.length c) l.length (tintVs l) := fun hr => hF.own hr fun g hg e => by
    obtain ⟨cs, hc⟩ := own_type hr hg
    obtain ⟨cs2, hc2⟩ := own_type hy e
    exact Blk.ne_ (t := 3) (t' := 37) hc hc2 (by decide) rfl
  have hxl : xs.length = vs.length * 3 := hx.1
  refine ⟨⟨_, by rw [List.length_append]; exact ho, fun k hk => ?_⟩, fun u hu => ?_⟩
  · rcases Nat.lt_or_ge k vs.length with hlt | hge
    · obtain ⟨A1, c1, x0, x1, x2, hi1⟩ := hat k hlt
      have e : (vs ++ [⟨nm, o, set⟩])[k] = vs[k] := List.getElem_append_left hlt
      rw [e]
      refine ⟨A1, c1, ?_, ?_, ?_, hI hi1⟩
      · rw [List.getElem?_append_left (by omega)]
        exact x0
      · rw [List.getElem?_append_left (by omega)]
        exact x1
      · rw [List.getElem?_append_left (by omega)]
        exact x2
    · have hk2 : k = vs.length := by
        rw [List.length_append] at hk
        simp at hk
        omega
      subst hk2
      have e : (vs ++ [(⟨nm, o, set⟩ : ValP)])[vs.length] = ⟨nm, o, set⟩ := by simp
      rw [e]
      refine ⟨A, c, ?_, ?_, ?_, hI hi⟩
      · rw [List.getElem?_append_right (by omega), hxl, Nat.sub_self]
        rfl
      · rw [List.getElem?_append_right (by omega), hxl, show vs.length * 3 + 1 - vs.length * 3 = 1 by omega]
        rfl
      · rw [List.getElem?_append_right (by omega), hxl, show vs.length * 3 + 2 - vs.length * 3 = 2 by omega]
        rfl
  · rcases List.mem_append.1 hu with hu | hu
    · exact hsm u hu
    · obtain rfl : u = ⟨nm, o, set⟩ := by simpa using hu
      exact ⟨hn, hs⟩
theorem ints_of_own {A : Option Addr} {c : Nat} {l : List Int} (h : w.ownsRow base 3 1 (.slice A l.length c) l.length (tintVs l)) (hl : l.length ≤ 4294967296) : IntsAt w w.heap.size A c l := by
  refine ⟨?_, by omega, fun h0 => ?_⟩
  · rcases h.2 with ⟨_, hn⟩ | ⟨g, cap, cur, hv, _, _, hnc, _⟩
    · omega
    · injection hv with _ _ h3
      omega
  · obtain ⟨g, cap, hv, _, hlt⟩ := h.form h0
    have hA : A = some ⟨g, 0, none⟩ := by injection hv
    subst hA
    refine ⟨g, 0, rfl, hlt, fun k hk => ?_⟩
    have h1 := h.cells (g := g) rfl k (.int .i64 l[k]) (by unfold tintVs; rw [List.getElem?_map, List.getElem?_eq_getElem hk]; rfl)
    unfold Addr.add at h1
    split at h1
    · next h2 => subst h2; exact h1
    · exact h1
theorem RowV.vals {A : Option Addr} {c : Nat} (h : RowV w base (.slice A vs.length c) vs) (hl : vs.length ≤ 4294967296) : ValsAt w w.heap.size A c vs := by
  obtain ⟨⟨xs, ho, hat⟩, hs⟩ := h
  refine ⟨?_, by omega, fun v hv => by have := (hs v hv).1; omega, fun k hk => ?_⟩
  · rcases ho.2 with ⟨_, hn⟩ | ⟨g, cap, cur, hv, _, _, hnc, _⟩
    · omega
    · injection hv with _ _ h3
      omega
  · obtain ⟨g, cap, hv, _, hlt⟩ := ho.form (by omega)
    have hA : A = some ⟨g, 0, none⟩ := by injection hv
    subst hA
    obtain ⟨A1, c1, x0, x1, x2, hi⟩ := hat k hk
    have hc : ∀ j u, xs[j]? = some u → w.cell? ⟨g, 0 + j, none⟩ = some u := fun j u hu => by
      have h1 := ho.cells (g := g) rfl j u hu
      unfold Addr.add at h1
      split at h1
      · next h2 => subst h2; exact h1
      · exact h1
    exact ⟨g, 0, A1, c1, rfl, hlt, hc _ _ x0, hc _ _ x1, hc _ _ x2, ints_of_own hi (hs _ (List.getElem_mem hk)).2⟩
end
end Go.Proofs.YteikakoheibnjaaGreatDoor
namespace Go.Proofs.YteikakoheibnjaaGreatDoor
open Go Go.RowKit

theorem Blk.later {w w' : World} {g : Nat} {t : TypeId} {cs : Array Value} (h : Blk w g t cs) (hb : Below w.heap.size w w') : Blk w' g t cs := (hb.block g h.lt).trans h
abbrev resC (t e a : Int) (vm vc : Value) : Array Value := #[.int .i64 t, .int .i64 e, .int .i64 a, vm, vc]
/-- The result's box, the lines, the two rows that grow, in world W; w: the call's world, w5: the loop's. -/
structure RdAt (w w5 : World) (gL gr : Nat) (LS : List (List UInt8)) (T0 E1 A1 : Int) (M C : List ValP) (vm vc : Value) (W : World) : Prop where
  bel : Below w.heap.size w W
  sz : w5.heap.size ≤ W.heap.size
  zero : Blk W w.heap.size 25 (resC 0 0 0 (.slice none 0 0) (.slice none 0 0))
  lines : Blk W gL 9 (strVs LS).toArray
  res : Blk W gr 25 (resC T0 E1 A1 vm vc)
  rm : RowV W w5.heap.size vm M
  rc : RowV W w5.heap.size vc C
  ne : ∀ g, vm.ownBlock = some g → vc.ownBlock ≠ some g
  at_ : gL < w5.heap.size ∧ gr < w5.heap.size ∧ w.heap.size < gr ∧ w.heap.size ≤ w5.heap.size
section
variable {w w5 W W' : World} {gL gr : Nat} {LS : List (List UInt8)} {T0 E1 A1 : Int} {M C : List ValP} {vm vc : Value}
theorem RdAt.below (h : RdAt w w5 gL gr LS T0 E1 A1 M C vm vc W) (hb : Below W.heap.size W W') : RdAt w w5 gL gr LS T0 E1 A1 M C vm vc W' :=
  ⟨h.bel.trans (hb.mono h.bel.size), Nat.le_trans h.sz hb.size, h.zero.later hb, h.lines.later hb, h.res.later hb, h.rm.below hb, h.rc.below hb, h.ne, h.at_⟩
theorem RdAt.alloc (h : RdAt w w5 gL gr LS T0 E1 A1 M C vm vc W) (o : Obj) : RdAt w w5 gL gr LS T0 E1 A1 M C vm vc (W.alloc o) := h.below ((Below.refl _ _).alloc (Nat.le_refl _) o)
theorem blk_grown {g : Nat} {t : TypeId} {cs : Array Value} {row : Option Nat} (h : Blk W g t cs) (hg : W.grownBy W' row) (hne : row ≠ some g) : Blk W' g t cs := (hg.block g h.lt (fun e => hne e.symm)).trans h
/-- A value more among the model's. -/
theorem RdAt.more_m {v' : Value} {nm : List UInt8} {o : Int} {set : List Int} {A : Option Addr} {c : Nat} {xs : List Value} (h : RdAt w w5 gL gr LS T0 E1 A1 M C vm vc W)
    (hx : W.ownsRow w5.heap.size 37 3 vm M.length xs) (ho : W'.ownsRow w5.heap.size 37 3 v' (M.length + 1) (xs ++ [.string ⟨nm.toArray⟩, .int .i64 o, .slice A set.length c]))
    (hi : W.ownsRow w5.heap.size 3 1 (.slice A set.length c) set.length (tintVs set)) (hg : W.grownBy W' vm.ownBlock) (hv : v'.ownBlock = vm.ownBlock ∨ v'.ownBlock = some W.heap.size)
    (hn : nm.length ≤ 4294967296) (hs : set.length ≤ 4294967296) : RdAt w w5 gL gr LS T0 E1 A1 (M ++ [⟨nm, o, set⟩]) C v' vc (W'.setCell ⟨gr, 3, none⟩ v') := by
  have hlt : ∀ g, vm.ownBlock = some g → w5.heap.size ≤ g := fun g hh => (h.rm.lt g hh).1
  obtain ⟨a1, a2, a3, a4⟩ := h.at_
  have hrs : Blk W' gr 25 (resC T0 E1 A1 vm vc) := blk_grown h.res hg (fun e => by have := hlt _ e; omega)
  have hrm := h.rm.snoc hx ho hi hg hn hs
  have hrc : RowV W' w5.heap.size vc C := h.rc.grown h.rm (fun g h1 h2 => h.ne g h2 h1) hg
  refine ⟨Below.setCell (p := ⟨gr, 3, none⟩) (h.bel.grown hg h.bel.size (fun k hk => by have := hlt _ hk; omega)) (by show w.heap.size ≤ gr; omega) _, Nat.le_trans h.sz (by simpa [World.setCell] using hg.size), ?_, ?_, ?_, ?_, ?_, ?_, h.at_⟩
  · exact Blk.other (blk_grown h.zero hg (fun e => by have := hlt _ e; omega)) (by show gr ≠ _; omega) _
  · exact Blk.other (blk_grown h.lines hg (fun e => by have := hlt _ e; omega)) (fun e => by
      have e2 : gr = gL := e
      subst e2
      exact Blk.ne_ h.res h.lines (by decide) rfl) _
  · have := hrs.set_ 3 v'
    simpa using this
  · exact hrm.put hrs (by decide) (by decide) _ _
  · exact hrc.put hrs (by decide) (by decide) _ _
  · intro g hg1 hg2
    rcases hv with hv | hv
    · exact h.ne g (hv ▸ hg1) hg2
    · rw [hv] at hg1
      injection hg1 with hg1
      have := (h.rc.lt g hg2).2
      omega
/-- A value more among the counter-model's. -/
theorem RdAt.more_c {v' : Value} {nm : List UInt8} {o : Int} {set : List Int} {A : Option Addr} {c : Nat} {xs : List Value} (h : RdAt w w5 gL gr LS T0 E1 A1 M C vm vc W)
    (hx : W.ownsRow w5.heap.size 37 3 vc C.length xs) (ho : W'.ownsRow w5.heap.size 37 3 v' (C.length + 1) (xs ++ [.string ⟨nm.toArray⟩, .int .i64 o, .slice A set.length c]))
    (hi : W.ownsRow w5.heap.size 3 1 (.slice A set.length c) set.length (tintVs set)) (hg : W.grownBy W' vc.ownBlock) (hv : v'.ownBlock = vc.ownBlock ∨ v'.ownBlock = some W.heap.size)
    (hn : nm.length ≤ 4294967296) (hs : set.length ≤ 4294967296) : RdAt w w5 gL gr LS T0 E1 A1 M (C ++ [⟨nm, o, set⟩]) vm v' (W'.setCell ⟨gr, 4, none⟩ v') := by
  have hlt : ∀ g, vc.ownBlock = some g → w5.heap.size ≤ g := fun g hh => (h.rc.lt g hh).1
  obtain ⟨a1, a2, a3, a4⟩ := h.at_
  have hrs : Blk W' gr 25 (resC T0 E1 A1 vm vc) := blk_grown h.res hg (fun e => by have := hlt _ e; omega)
  have hrc := h.rc.snoc hx ho hi hg hn hs
  have hrm : RowV W' w5.heap.size vm M := h.rm.grown h.rc (fun g h1 h2 => h.ne g h1 h2) hg
  refine ⟨Below.setCell (p := ⟨gr, 4, none⟩) (h.bel.grown hg h.bel.size (fun k hk => by have := hlt _ hk; omega)) (by show w.heap.size ≤ gr; omega) _, Nat.le_trans h.sz (by simpa [World.setCell] using hg.size), ?_, ?_, ?_, ?_, ?_, ?_, h.at_⟩
  · exact Blk.other (blk_grown h.zero hg (fun e => by have := hlt _ e; omega)) (by show gr ≠ _; omega) _
  · exact Blk.other (blk_grown h.lines hg (fun e => by have := hlt _ e; omega)) (fun e => by
      have e2 : gr = gL := e
      subst e2
      exact Blk.ne_ h.res h.lines (by decide) rfl) _
  · have := hrs.set_ 4 v'
    simpa using this
  · exact hrm.put hrs (by decide) (by decide) _ _
  · exact hrc.put hrs (by decide) (by decide) _ _
  · intro g hg1 hg2
    rcases hv with hv | hv
    · exact h.ne g hg1 (hv ▸ hg2)
    · rw [hv] at hg2
      injection hg2 with hg2
      have := (h.rm.lt g hg1).2
      omega
end
/-- The lines' reading, a line more. -/
theorem rdLines_succ (l : List (List UInt8)) (k : Nat) (h : k < l.length) : rdLines (l.take (k + 1)) = (rdLines (l.take k)).step l[k] := by
  unfold rdLines
  rw [List.take_succ_eq_append_getElem h, List.foldl_append]
  rfl
theorem rdStep_counter (a : RdS) : a.step wCounter = ⟨true, a.model, a.counter⟩ := by
  have h : valOf wCounter = none := by decide
  unfold RdS.step
  rw [h]
  unfold lateOf
  simp
theorem late_other {a : RdS} {x : List UInt8} (hx : x ≠ wCounter) : lateOf a.late x = a.late := by
  unfold lateOf
  rw [beq_eq_false_iff_ne.2 hx, Bool.or_false]
theorem rdStep_none {a : RdS} {x : List UInt8} (hx : x ≠ wCounter) (h : (Lib.cut x [32, 61, 32]).2.2 = false) : a.step x = a := by
  have hv : valOf x = none := by unfold valOf; rw [h]; rfl
  unfold RdS.step
  rw [hv, late_other hx]
theorem rdStep_some {a : RdS} {x : List UInt8} (hx : x ≠ wCounter) (h : (Lib.cut x [32, 61, 32]).2.2 = true) :
    a.step x = if a.late then ⟨a.late, a.model, a.counter ++ [⟨(Lib.cut x [32, 61, 32]).1, (readV (Lib.cut x [32, 61, 32]).2.1).1, (readV (Lib.cut x [32, 61, 32]).2.1).2⟩]⟩ else ⟨a.late, a.model ++ [⟨(Lib.cut x [32, 61, 32]).1, (readV (Lib.cut x [32, 61, 32]).2.1).1, (readV (Lib.cut x [32, 61, 32]).2.1).2⟩], a.counter⟩ := by
  have hv : valOf x = some ⟨(Lib.cut x [32, 61, 32]).1, (readV (Lib.cut x [32, 61, 32]).2.1).1, (readV (Lib.cut x [32, 61, 32]).2.1).2⟩ := by unfold valOf; rw [h]; rfl
  unfold RdS.step
  rw [hv, late_other hx]
theorem cut_len (x sep : List UInt8) : (Lib.cut x sep).1.length ≤ x.length ∧ (Lib.cut x sep).2.1.length ≤ x.length := by
  unfold Lib.cut
  split
  · simp only [List.length_take, List.length_drop]
    omega
  · simp
theorem readV_len (s : List UInt8) : (readV s).2.length ≤ s.length + 1 := by
  unfold readV
  split
  · simp
  · split
    · simp
    · split
      · have h1 := (split_len (Lib.trimS s [123, 125]) [44, 32] (by decide)).2
        have h2 := trimS_len s [123, 125]
        have h3 := rdF_len (Lib.split (Lib.trimS s [123, 125]) [44, 32]) (Lib.split (Lib.trimS s [123, 125]) [44, 32]).length
        rw [rdF_all _ _ (Nat.le_refl _)] at h3
        show (readSet s).length ≤ _
        unfold readSet
        omega
      · simp
end Go.Proofs.YteikakoheibnjaaGreatDoor
