/- Parts of the proof: EvT5, EvT6. -/
import Derived.Test.YtpknalhjgbgpiaaGreatDoorM12
noncomputable section
namespace Go.Proofs.YtpknalhjgbgpiaaGreatDoor
open Go Go.RowKit
/-- What was done stands: the operation yields it still. -/
def RunP (b : Base) (m : Mp) (s : S) (e : TE) (vd : Prop) (q : Option Q) (C : COp) (v : A) : Prop := match C with
  | .mv x => v = opT x e
  | .p1 g x => ∀ c', g (opT x e) c' = c' v
  | .p2 g x y => ∀ c', g (opT x e) (opT y e) c' = c' v
  | .pl g xs => ∀ c', g (xs.map fun x => opT x e) c' = c' v
  | .r1 g x => vd → ∀ c', g s (opT x e) c' = c' v
  | .r2 g x y => vd → ∀ c', g s (opT x e) (opT y e) c' = c' v
  | .al g xs => ∃ q' ob h, q = some q' ∧ (∀ c', g (xs.map fun x => opT x e) c' = c' ob h) ∧ v = h q' ∧ getO q' s.h = ob ∧ ob ≠ .none ∧ numOf q' < numOf s.next ∧ numOf b.s.next ≤ numOf q' ∧ m q' = none
  | .ch _ _ => False
  | .bad _ => False
def Pend (n : Nat) (ops : List Oper) (b : Base) (m : Mp) (s : S) (e : TE) (vd : Prop) (q : Option Q) (o : Oper) : Prop :=
  okD n o.dst = true ∧ ∃ v, (∀ t, o.dst = some t → getE t e = v) ∧ match o.guard with
    | none => okC n (opC Tryz.prog o) = true ∧ RunP b m s e vd q (opC Tryz.prog o) v
    | some (j, want) => ∃ g t, ops[j]? = some g ∧ g.dst = some t ∧ okT n t = true ∧ ((getE t e = .b want ∧ okC n (opC Tryz.prog o) = true ∧ RunP b m s e vd q (opC Tryz.prog o) v) ∨ ((getE t e = .b (!want) ∨ getE t e = undefA) ∧ v = undefA))
/-- Of a read alone. -/
def rdOnly (vd : Prop) : COp → Prop
  | .r1 _ _ | .r2 _ _ _ => vd
  | _ => True
/-- What may be as yet unlisted. -/
def Wait (ops : List Oper) (D : List Nat) (Ls : Nat → Prop) (t : Tmp) : Prop := ∃ i ∈ D, ¬ Ls i ∧ ∃ o, ops[i]? = some o ∧ o.dst = some t
structure J (F : Int) (n : Nat) (ds : List Deferred) (ops : List Oper) (D V K : List Nat) (b : Base) (m : Mp) (s : S) (w : World) (e : TE) (a : Act) (Ls : Nat → Prop) (Qs : Nat → Option Q) : Prop where
  dok : DOk ops D
  sub : ∀ i, Ls i → i ∈ D
  closed : Closed ops Ls
  chain : ∀ i ∈ D, ∀ o, ops[i]? = some o → isCh o = true → Ls i
  known : ∀ i ∈ K, Ls i
  st : St F b m s w
  env : EnvX n ds (Wait ops D Ls) m F e a
  pend : ∀ i ∈ D, ¬ Ls i → ∀ o, ops[i]? = some o → Pend n ops b m s e (i ∈ V) (Qs i) o
  qs : ∀ i k q, Qs i = some q → Qs k = some q → i = k
  qlt : ∀ i q, Qs i = some q → numOf q < numOf s.next
section
variable {F : Int} {n : Nat} {ds : List Deferred} {ops : List Oper} {D V K : List Nat} {b : Base} {m : Mp} {s : S} {w : World} {e : TE} {a : Act} {Ls : Nat → Prop} {Qs : Nat → Option Q}
theorem EnvX.lay {X : Tmp → Prop} {d : Option Tmp} {v : A} {y : Value} (h : EnvX n ds X m F e a) (hv : VR m F v y) (he : ∀ t, d = some t → getE t e = v) : EnvX n ds (fun t => X t ∧ d ≠ some t) m F e (a.put d y) := by
  refine ⟨(put_size a d y).trans h.size, (put_defers a d y).trans h.defers, fun t ht hX => ?_⟩
  cases d with
  | none => exact h.at_ t ht fun hx => hX ⟨hx, fun e => by cases e⟩
  | some u =>
    obtain ⟨h1, h2⟩ := okT_lt ht
    by_cases hu : t = u
    · subst hu
      show VR m F (getE t e) ((a.tmps.setIfInBounds t y).getD t undef)
      rw [he t rfl, Array.getD_eq_getD_getElem?, Array.getElem?_setIfInBounds_self_of_lt (by rw [h.size]; exact h1)]
      exact hv
    · show VR m F (getE t e) ((a.tmps.setIfInBounds u y).getD t undef)
      rw [Array.getD_eq_getD_getElem?, Array.getElem?_setIfInBounds_ne (fun e => hu e.symm), ← Array.getD_eq_getD_getElem?]
      exact h.at_ t ht fun hx => hX ⟨hx, fun e => hu (by injection e with e; exact e.symm)⟩
theorem mem_looks {o : Oper} {x : Operand} {t : Tmp} (hx : x ∈ lookC (opC Tryz.prog o)) (ht : x = .tmp t) : t ∈ looksO ops o := by
  subst ht
  exact List.mem_append_left _ (mem_tmpsX hx)
theorem mem_looksG {o g : Oper} {j : Nat} {want : Bool} {t : Tmp} (hg : o.guard = some (j, want)) (hj : ops[j]? = some g) (ht : g.dst = some t) : t ∈ looksO ops o := by
  unfold looksO
  rw [hg]
  refine List.mem_append_right _ ?_
  simp only [hj, Option.bind_some, ht, Option.toList_some, List.mem_singleton]
/-- What an operation looks at has come, when it may be listed. -/
theorem J.look (h : J F n ds ops D V K b m s w e a Ls Qs) {i : Nat} {o : Oper} (_ho : ops[i]? = some o) (hA : ∀ k ∈ D, ∀ ok, ops[k]? = some ok → isCh ok = false → ∀ t, ok.dst = some t → t ∈ looksO ops o → Ls k) {t : Tmp} (ht : t ∈ looksO ops o) : ¬ Wait ops D Ls t := by
  rintro ⟨k, hk, hnl, ok, hok, hd⟩
  cases hc : isCh ok with
  | true => exact hnl (h.chain k hk ok hok hc)
  | false => exact hnl (hA k hk ok hok hc t hd ht)
theorem J.lookAt (h : J F n ds ops D V K b m s w e a Ls Qs) {i : Nat} {o : Oper} (ho : ops[i]? = some o) (hi : i ∈ D) (hp : ∀ p ∈ predsO o, Ls p) {t : Tmp} (ht : t ∈ looksO ops o) : ¬ Wait ops D Ls t :=
  h.look ho (fun k hk ok hok hc t hd hl => (h.dok.look i hi o ho k hk ok hok hc t hd hl).closed h.closed ho hp) ht
open Classical in
theorem ite_pin {α : Type} {v u : α} (h : ∀ c : α → Bool, c u = c v) : u = v := by
  have := h fun x => decide (x = v)
  simpa using this
/-- An operation that was done, in the world. -/
theorem run_list {o : Oper} {C : COp} (hC : COpS o C) (ok : okC n C = true) {X : Tmp → Prop} (hS : St F b m s w) (hE : EnvX n ds X m F e a) (hX : ∀ x ∈ lookC C, ∀ t, x = .tmp t → ¬ X t) {vd : Prop} (hvd : rdOnly vd C) {q : Option Q} {v : A} (hr : RunP b m s e vd q C v) :
    ∃ y m' w', (execOp a.eval o).run Tryz.prog w = .ok (.value y) w' ∧ m.le m' ∧ VR m' F v y ∧ St F b m' s w' ∧ ∀ q', m q' = none → q ≠ some q' → m' q' = none := by
  have gl := hS.gl
  cases C with
  | mv x =>
    have hr' : v = opT x e := hr
    rw [hr']
    exact ⟨_, m, w, hC a.eval w, Mp.le_refl _, hE.opT gl ok (hX x (List.mem_singleton.2 rfl)), hS, fun _ h _ => h⟩
  | p1 g x =>
    have hr' : ∀ c', g (opT x e) c' = c' v := hr
    obtain ⟨v', h1, y', h2, h3⟩ := hC m F _ _ (fun _ => true) (hE.opT gl ok (hX x (List.mem_singleton.2 rfl))) (hr' _)
    rw [← ite_pin (v := v) (u := v') fun c => (h1 c).symm.trans (hr' c)]
    exact ⟨y', m, w, h3 a.eval w rfl, Mp.le_refl _, h2, hS, fun _ h _ => h⟩
  | p2 g x x2 =>
    have hr' : ∀ c', g (opT x e) (opT x2 e) c' = c' v := hr
    rw [okC, Bool.and_eq_true_iff] at ok
    obtain ⟨v', h1, y', h2, h3⟩ := hC m F _ _ _ _ (fun _ => true) (hE.opT gl ok.1 (hX x (by simp [lookC]))) (hE.opT gl ok.2 (hX x2 (by simp [lookC]))) (hr' _)
    rw [← ite_pin (v := v) (u := v') fun c => (h1 c).symm.trans (hr' c)]
    exact ⟨y', m, w, h3 a.eval w rfl rfl, Mp.le_refl _, h2, hS, fun _ h _ => h⟩
  | pl g xs =>
    have hr' : ∀ c', g (xs.map fun x => opT x e) c' = c' v := hr
    obtain ⟨v', h1, y', h2, h3⟩ := hC m F _ _ (fun _ => true) (by rw [List.length_map]) (hE.args gl ok hX) (hr' _)
    rw [← ite_pin (v := v) (u := v') fun c => (h1 c).symm.trans (hr' c)]
    exact ⟨y', m, w, h3 a.eval w rfl, Mp.le_refl _, h2, hS, fun _ h _ => h⟩
  | r1 g x =>
    have hr' : ∀ c', g s (opT x e) c' = c' v := hr hvd
    obtain ⟨v', h1, y', h2, h3⟩ := hC F b m s w _ _ (fun _ => true) hS (hE.opT gl ok (hX x (List.mem_singleton.2 rfl))) (hr' _)
    rw [← ite_pin (v := v) (u := v') fun c => (h1 c).symm.trans (hr' c)]
    exact ⟨y', m, w, h3 a.eval rfl, Mp.le_refl _, h2, hS, fun _ h _ => h⟩
  | r2 g x x2 =>
    have hr' : ∀ c', g s (opT x e) (opT x2 e) c' = c' v := hr hvd
    rw [okC, Bool.and_eq_true_iff] at ok
    obtain ⟨v', h1, y', h2, h3⟩ := hC F b m s w _ _ _ _ (fun _ => true) hS (hE.opT gl ok.1 (hX x (by simp [lookC]))) (hE.opT gl ok.2 (hX x2 (by simp [lookC]))) (hr' _)
    rw [← ite_pin (v := v) (u := v') fun c => (h1 c).symm.trans (hr' c)]
    exact ⟨y', m, w, h3 a.eval rfl rfl, Mp.le_refl _, h2, hS, fun _ h _ => h⟩
  | al g xs =>
    obtain ⟨q', ob, h, rfl, h1, rfl, h2, h3, h4, h5, h6⟩ := hr
    obtain ⟨ob', h', g1, _, _, obj, z, yv, g4, g5, g6⟩ := hC m F _ _ (fun _ _ => true) (by rw [List.length_map]) (hE.args gl ok hX) (h1 _)
    have pin : ob' = ob ∧ h' = h := by
      have := ite_pin (α := O × (Q → A)) (v := (ob, h)) (u := (ob', h')) fun c => (g1 fun o h => c (o, h)).symm.trans (h1 fun o h => c (o, h))
      injection this with e1 e2
      exact ⟨e1, e2⟩
    obtain ⟨rfl, rfl⟩ := pin
    obtain ⟨hB, hle⟩ := hS.born (q := q') (z := z) (obj := obj) h4 h5 h6 (by rw [h2]; exact g4)
    refine ⟨_, _, _, g6 a.eval w rfl, hle, g5 _ _ _ (Mp.set_same _ _ _), hB, fun q2 hq hne => ?_⟩
    rw [Mp.set_ne m]
    · exact hq
    · rintro rfl
      exact hne rfl
  | ch g xs => exact hr.elim
  | bad w => exact hr.elim
theorem RunP.mono {m' : Mp} {vd : Prop} {q : Option Q} {C : COp} {v : A} (h : RunP b m s e vd q C v) (hm : ∀ q', q = some q' → m q' = none → m' q' = none) : RunP b m' s e vd q C v := by
  cases C with
  | al g xs =>
    obtain ⟨q', ob, h, rfl, h1, rfl, h2, h3, h4, h5, h6⟩ := h
    exact ⟨q', ob, h, rfl, h1, rfl, h2, h3, h4, h5, hm q' rfl h6⟩
  | _ => exact h
theorem Pend.mono {m' : Mp} {vd : Prop} {q : Option Q} {o : Oper} (h : Pend n ops b m s e vd q o) (hm : ∀ q', q = some q' → m q' = none → m' q' = none) : Pend n ops b m' s e vd q o := by
  obtain ⟨h2, v, h3, h4⟩ := h
  refine ⟨h2, v, h3, ?_⟩
  cases hg : o.guard with
  | none => rw [hg] at h4; exact ⟨h4.1, RunP.mono h4.2 hm⟩
  | some p =>
    rw [hg] at h4
    obtain ⟨g, t, k1, k2, k3, k4⟩ := h4
    exact ⟨g, t, k1, k2, k3, k4.imp (fun ⟨x, z, y⟩ => ⟨x, z, y.mono hm⟩) id⟩
end
section
variable {F : Int} {n : Nat} {ds : List Deferred} {ops : Array Oper} {D V K : List Nat} {b : Base} {m : Mp} {s : S} {w : World} {e : TE} {a : Act} {Ls : Nat → Prop} {Qs : Nat → Option Q}
theorem J.list (h : J F n ds ops.toList D V K b m s w e a Ls Qs) {i : Nat} {o : Oper} (hi : i ∈ D) (hn : ¬ Ls i) (ho : ops.toList[i]? = some o) (hp : ∀ p ∈ predsO o, Ls p) (hv : isRd o = true → i ∈ V) :
    ∃ y m' w', m.le m' ∧ (∀ (Kn : Act → World → Prop) (Q : Exit → Act → World → Prop), Kn (a.put o.dst y) w' → wpOp Tryz.prog ops Q i Kn a w) ∧ J F n ds ops.toList D V K b m' s w' e (a.put o.dst y) (fun k => Ls k ∨ k = i) Qs := by
  have hlk : ∀ t ∈ looksO ops.toList o, ¬ Wait ops.toList D Ls t := fun t ht => h.lookAt ho hi hp ht
  have hX : ∀ x ∈ lookC (opC Tryz.prog o), ∀ t, x = .tmp t → ¬ Wait ops.toList D Ls t := fun x hx t ht => hlk t (mem_looks hx ht)
  have ho' : ops[i]? = some o := by simpa using ho
  obtain ⟨okd, v, hdst, hpd⟩ := h.pend i hi hn o ho
  have hvd : rdOnly (i ∈ V) (opC Tryz.prog o) := by
    unfold isRd at hv
    cases hC : opC Tryz.prog o <;> rw [hC] at hv <;> first | exact hv rfl | trivial
  -- what is left to show, of any value and world
  have fin : ∀ {y : Value} {m' : Mp} {w' : World}, m.le m' → VR m' F v y → St F b m' s w' → (∀ q', m q' = none → Qs i ≠ some q' → m' q' = none) → J F n ds ops.toList D V K b m' s w' e (a.put o.dst y) (fun k => Ls k ∨ k = i) Qs := by
    intro y m' w' hm hvr hst hq
    refine ⟨h.dok, fun k hk => hk.elim (h.sub k) (fun e => e ▸ hi), fun k hk ok hok p hpp => ?_, fun k hk ok hok hc => .inl (h.chain k hk ok hok hc), fun k hk => .inl (h.known k hk), hst, ?_, fun k hk hnk ok hok => ?_, h.qs, h.qlt⟩
    · rcases hk with hk | rfl
      · exact .inl (h.closed k hk ok hok p hpp)
      · rw [ho] at hok
        cases hok
        exact .inl (hp p hpp)
    · refine ((h.env.mono hm).lay hvr hdst).weak fun t ht => ?_
      obtain ⟨⟨k, hk, hnk, ok, hok, hd⟩, hne⟩ := ht
      refine ⟨k, hk, fun h' => h'.elim hnk ?_, ok, hok, hd⟩
      rintro rfl
      rw [ho] at hok
      cases hok
      exact hne hd
    · have hnk' : ¬ Ls k := fun h' => hnk (.inl h')
      have hki : k ≠ i := fun h' => hnk (.inr h')
      exact (h.pend k hk hnk' ok hok).mono fun q' hq' hmq => hq q' hmq fun e => hki (h.qs k i q' hq' e)
  have run : okC n (opC Tryz.prog o) = true → RunP b m s e (i ∈ V) (Qs i) (opC Tryz.prog o) v → Region.wanted o (yielded ops a.tmps) = true → ∃ y m' w', m.le m' ∧ (∀ (Kn : Act → World → Prop) (Q : Exit → Act → World → Prop), Kn (a.put o.dst y) w' → wpOp Tryz.prog ops Q i Kn a w) ∧ J F n ds ops.toList D V K b m' s w' e (a.put o.dst y) (fun k => Ls k ∨ k = i) Qs := by
    intro okc hr hw
    obtain ⟨y, m', w', h1, h2, h3, h4, h5⟩ := run_list (op_sound o).1 okc h.st h.env hX hvd hr
    refine ⟨y, m', w', h2, fun Kn Q hk => ?_, fin h2 h3 h4 h5⟩
    unfold wpOp
    simp only [ho', hw, if_true]
    left
    unfold Oper.wp
    rw [h1, Oper.upon_value]
    exact hk
  cases hg : o.guard with
  | none =>
    rw [hg] at hpd
    exact run hpd.1 hpd.2 (by unfold Region.wanted; rw [hg])
  | some p =>
    obtain ⟨j, want⟩ := p
    rw [hg] at hpd
    obtain ⟨g, t, hj, ht, hkt, hpd⟩ := hpd
    obtain ⟨w1, w2⟩ := guard_wanted hg hj ht hkt h.env.size (h.env.at_ t hkt (hlk t (mem_looksG hg hj ht)))
    rcases hpd with ⟨e1, okc, hr⟩ | ⟨e1, rfl⟩
    · exact run okc hr (w1 e1)
    · refine ⟨undef, m, w, Mp.le_refl _, fun Kn Q hk => ?_, fin (Mp.le_refl _) undef_VR h.st fun _ h _ => h⟩
      unfold wpOp
      simp only [ho', w2 e1, Bool.false_eq_true, if_false]
      exact hk
theorem DOk.suffix {ops : List Oper} {X D : List Nat} (h : DOk ops (X ++ D)) : DOk ops D := by
  induction X with
  | nil => exact h
  | cons x X ih => cases h with | cons h _ _ _ _ _ _ => exact ih h
/-- All is listed of which all reads are sure. -/
theorem J.catch_ (h : J F n ds ops.toList D V K b m s w e a Ls Qs) : ∀ (D₀ X : List Nat), D = X ++ D₀ → ∃ (Ls' : Nat → Prop) (a' : Act) (m' : Mp) (w' : World), (∀ i, Ls i → Ls' i) ∧ m.le m' ∧ J F n ds ops.toList D V K b m' s w' e a' Ls' Qs ∧
    ∀ u ∈ D₀, (∀ r, r = u ∨ Anc ops.toList u r → ∀ o, ops.toList[r]? = some o → isRd o = true → Ls r ∨ r ∈ V) → Ls' u := by
  intro D₀
  induction D₀ with
  | nil => exact fun X hX => ⟨Ls, a, m, w, fun _ h => h, Mp.le_refl _, h, fun u hu => by cases hu⟩
  | cons u D₁ ih =>
    intro X hX
    obtain ⟨Ls1, a1, m1, w1, g1, g2, g3, g4⟩ := ih (X ++ [u]) (by rw [hX]; simp)
    by_cases hl : Ls1 u
    · refine ⟨Ls1, a1, m1, w1, g1, g2, g3, fun k hk hc => ?_⟩
      rcases List.mem_cons.1 hk with rfl | hk2
      · exact hl
      · exact g4 k hk2 hc
    · by_cases hc : ∀ r, r = u ∨ Anc ops.toList u r → ∀ o, ops.toList[r]? = some o → isRd o = true → Ls r ∨ r ∈ V
      · have hdk : DOk ops.toList (u :: D₁) := by
          have := h.dok
          rw [hX] at this
          exact this.suffix
        cases hdk with
        | cons hd ho hi hp h1 h2 h3 =>
          rename_i o
          have hu : u ∈ D := by rw [hX]; simp
          obtain ⟨y, m2, w2, k1, _, k3⟩ := g3.list hu hl ho (fun p hpm => g4 p (hp p hpm) fun r hr o' hro hrd => hc r (.inr (by
            rcases hr with rfl | hr
            · exact .one ho hpm
            · exact .more ho hpm hr)) o' hro hrd) (fun hrd => by
            rcases hc u (.inl rfl) o ho hrd with h' | h'
            · exact absurd (g1 u h') hl
            · exact h')
          refine ⟨_, _, m2, w2, fun i hi => .inl (g1 i hi), Mp.le_trans g2 k1, k3, fun k hk hck => ?_⟩
          rcases List.mem_cons.1 hk with rfl | hk2
          · exact .inr rfl
          · exact .inl (g4 k hk2 hck)
      · refine ⟨Ls1, a1, m1, w1, g1, g2, g3, fun k hk hck => ?_⟩
        rcases List.mem_cons.1 hk with rfl | hk2
        · exact absurd hck hc
        · exact g4 k hk2 hck
end
end Go.Proofs.YtpknalhjgbgpiaaGreatDoor
noncomputable section
namespace Go.Proofs.YtpknalhjgbgpiaaGreatDoor
open Go Go.RowKit
section
variable {F : Int} {n : Nat} {ds : List Deferred} {ops : List Oper} {b : Base} {m : Mp} {s s' : S} {w : World} {e e' : TE} {a : Act}
theorem opT_turn {x : Operand} {d : Option Tmp} (hx : okX n x = true) (hd : okD n d = true) (hn : ∀ u, d = some u → x ≠ .tmp u) (v : A) : opT x (dstE d v e) = opT x e := by
  cases d with
  | none => rfl
  | some u =>
    cases x with
    | tmp t =>
      have : t ≠ u := fun h => hn u rfl (by rw [h])
      exact getE_ne (okT_lt hx).2 (okT_lt hd).2 this v e
    | _ => rfl
theorem args_turn {xs : List Operand} {d : Option Tmp} (hx : xs.all (okX n) = true) (hd : okD n d = true) (hn : ∀ u, d = some u → .tmp u ∉ xs) (v : A) : (xs.map fun x => opT x (dstE d v e)) = xs.map fun x => opT x e :=
  List.map_congr_left fun x hm => opT_turn (List.all_eq_true.1 hx x hm) hd (fun u hu h => hn u hu (h ▸ hm)) v
theorem RunP.turn {vd vd' : Prop} {q : Option Q} {C : COp} {v v' : A} {d : Option Tmp} (h : RunP b m s e vd q C v) (ok : okC n C = true) (hd : okD n d = true) (hn : ∀ u, d = some u → .tmp u ∉ lookC C)
    (hq : ∀ q', q = some q' → numOf q' < numOf s.next → m q' = none → getO q' s'.h = getO q' s.h) (hs : numOf s.next ≤ numOf s'.next) (hv : vd' → vd ∧ s' = s) : RunP b m s' (dstE d v' e) vd' q C v := by
  cases C with
  | mv x =>
    have h' : v = opT x e := h
    show v = opT x (dstE d v' e)
    rw [opT_turn (n := n) ok hd (fun u hu hx => hn u hu (by rw [← hx]; exact List.mem_singleton.2 rfl)), h']
  | p1 g x =>
    have h' : ∀ c', g (opT x e) c' = c' v := h
    show ∀ c', g (opT x (dstE d v' e)) c' = c' v
    rw [opT_turn (n := n) ok hd (fun u hu hx => hn u hu (by rw [← hx]; exact List.mem_singleton.2 rfl))]
    exact h'
  | p2 g x y =>
    have h' : ∀ c', g (opT x e) (opT y e) c' = c' v := h
    rw [okC, Bool.and_eq_true_iff] at ok
    show ∀ c', g (opT x (dstE d v' e)) (opT y (dstE d v' e)) c' = c' v
    rw [opT_turn (n := n) ok.1 hd (fun u hu hx => hn u hu (by rw [← hx]; simp [lookC])), opT_turn (n := n) ok.2 hd (fun u hu hx => hn u hu (by rw [← hx]; simp [lookC]))]
    exact h'
  | pl g xs =>
    have h' : ∀ c', g (xs.map fun x => opT x e) c' = c' v := h
    show ∀ c', g (xs.map fun x => opT x (dstE d v' e)) c' = c' v
    rw [args_turn ok hd hn]
    exact h'
  | r1 g x =>
    have h' : vd → ∀ c', g s (opT x e) c' = c' v := h
    show vd' → ∀ c', g s' (opT x (dstE d v' e)) c' = c' v
    intro hvd
    obtain ⟨h1, rfl⟩ := hv hvd
    rw [opT_turn (n := n) ok hd (fun u hu hx => hn u hu (by rw [← hx]; exact List.mem_singleton.2 rfl))]
    exact h' h1
  | r2 g x y =>
    have h' : vd → ∀ c', g s (opT x e) (opT y e) c' = c' v := h
    rw [okC, Bool.and_eq_true_iff] at ok
    show vd' → ∀ c', g s' (opT x (dstE d v' e)) (opT y (dstE d v' e)) c' = c' v
    intro hvd
    obtain ⟨h1, rfl⟩ := hv hvd
    rw [opT_turn (n := n) ok.1 hd (fun u hu hx => hn u hu (by rw [← hx]; simp [lookC])), opT_turn (n := n) ok.2 hd (fun u hu hx => hn u hu (by rw [← hx]; simp [lookC]))]
    exact h' h1
  | al g xs =>
    obtain ⟨q', ob, h, rfl, h1, rfl, h2, h3, h4, h5, h6⟩ := h
    refine ⟨q', ob, h, rfl, ?_, rfl, (hq q' rfl h4 h6).trans h2, h3, Nat.lt_of_lt_of_le h4 hs, h5, h6⟩
    rw [args_turn ok hd hn]
    exact h1
  | ch g xs => exact h.elim
  | bad w => exact h.elim
theorem Pend.turn {vd vd' : Prop} {q : Option Q} {o : Oper} {v' : A} {d : Option Tmp} (h : Pend n ops b m s e vd q o) (hd : okD n d = true) (hn : ∀ u, d = some u → u ∉ looksO ops o ∧ o.dst ≠ some u)
    (hq : ∀ q', q = some q' → numOf q' < numOf s.next → m q' = none → getO q' s'.h = getO q' s.h) (hs : numOf s.next ≤ numOf s'.next) (hv : vd' → vd ∧ s' = s) : Pend n ops b m s' (dstE d v' e) vd' q o := by
  obtain ⟨h2, v, h3, h4⟩ := h
  have hgo : ∀ t, okT n t = true → (∀ u, d = some u → t ≠ u) → getE t (dstE d v' e) = getE t e := by
    intro t ht hne
    cases d with
    | none => rfl
    | some u => exact getE_ne (okT_lt ht).2 (okT_lt hd).2 (hne u rfl) v' e
  have hlk : ∀ u, d = some u → .tmp u ∉ lookC (opC Tryz.prog o) := fun u hu hm => (hn u hu).1 (List.mem_append_left _ (mem_tmpsX hm))
  have hrun : okC n (opC Tryz.prog o) = true ∧ RunP b m s e vd q (opC Tryz.prog o) v → okC n (opC Tryz.prog o) = true ∧ RunP b m s' (dstE d v' e) vd' q (opC Tryz.prog o) v := fun h => ⟨h.1, h.2.turn h.1 hd hlk hq hs hv⟩
  refine ⟨h2, v, fun t ht => ?_, ?_⟩
  · rw [hgo t (by rw [ht] at h2; exact h2) fun u hu e => (hn u hu).2 (by rw [ht, e])]
    exact h3 t ht
  · cases hg : o.guard with
    | none => rw [hg] at h4; exact hrun h4
    | some p =>
      obtain ⟨j, want⟩ := p
      rw [hg] at h4
      obtain ⟨g, t, k1, k2, k3, k4⟩ := h4
      refine ⟨g, t, k1, k2, k3, ?_⟩
      rw [hgo t k3 fun u hu e => (hn u hu).1 (e ▸ mem_looksG hg k1 k2)]
      exact k4.imp (fun ⟨x, y⟩ => ⟨x, hrun y⟩) id
/-- What floats is done. -/
theorem run_float {o : Oper} {C : COp} (hC : COpS o C) (ok : okC n C = true) {X : Tmp → Prop} {m1 : Mp} {w1 : World} (hS : St F b m1 s w1) (hE : EnvX n ds X m1 F e a) (hX : ∀ x ∈ lookC C, ∀ t, x = .tmp t → ¬ X t) (hch : chC C = false)
    {d : Option Tmp} {next : RegF} {rec : Rec} {k : KE} (hg : copT C (dstT d) next rec e s k = true) (hm : m s.next = none) :
    ∃ v, ((alC C = false ∧ next rec (dstE d v e) s k = true ∧ ∀ q, RunP b m s e True q C v) ∨
      ∃ ob r, alC C = true ∧ numOf r = numOf s.next + 1 ∧ next rec (dstE d v e) ⟨(s.put s.next ob).h, r, s.lo, s.hi⟩ k = true ∧ RunP b m ⟨(s.put s.next ob).h, r, s.lo, s.hi⟩ e True (some s.next) C v) := by
  have gl := hS.gl
  cases C with
  | mv x =>
    have hg' : dstT d e (opT x e) (fun e => next rec e s k) = true := hg
    rw [dstT_eq] at hg'
    exact ⟨_, .inl ⟨rfl, hg', fun q => rfl⟩⟩
  | p1 g x =>
    have hg' : g (opT x e) (fun v => dstT d e v (fun e => next rec e s k)) = true := hg
    obtain ⟨v', h1, y', h2, h3⟩ := hC m1 F _ _ _ (hE.opT gl ok (hX x (List.mem_singleton.2 rfl))) hg'
    rw [h1, dstT_eq] at hg'
    exact ⟨_, .inl ⟨rfl, hg', fun q => h1⟩⟩
  | p2 g x x2 =>
    have hg' : g (opT x e) (opT x2 e) (fun v => dstT d e v (fun e => next rec e s k)) = true := hg
    rw [okC, Bool.and_eq_true_iff] at ok
    obtain ⟨v', h1, y', h2, h3⟩ := hC m1 F _ _ _ _ _ (hE.opT gl ok.1 (hX x (by simp [lookC]))) (hE.opT gl ok.2 (hX x2 (by simp [lookC]))) hg'
    rw [h1, dstT_eq] at hg'
    exact ⟨_, .inl ⟨rfl, hg', fun q => h1⟩⟩
  | pl g xs =>
    have hg' : g (xs.map fun x => opT x e) (fun v => dstT d e v (fun e => next rec e s k)) = true := hg
    obtain ⟨v', h1, y', h2, h3⟩ := hC m1 F _ _ _ (by rw [List.length_map]) (hE.args gl ok hX) hg'
    rw [h1, dstT_eq] at hg'
    exact ⟨_, .inl ⟨rfl, hg', fun q => h1⟩⟩
  | r1 g x =>
    have hg' : g s (opT x e) (fun v => dstT d e v (fun e => next rec e s k)) = true := hg
    obtain ⟨v', h1, y', h2, h3⟩ := hC F b m1 s w1 _ _ _ hS (hE.opT gl ok (hX x (List.mem_singleton.2 rfl))) hg'
    rw [h1, dstT_eq] at hg'
    exact ⟨_, .inl ⟨rfl, hg', fun q _ => h1⟩⟩
  | r2 g x x2 =>
    have hg' : g s (opT x e) (opT x2 e) (fun v => dstT d e v (fun e => next rec e s k)) = true := hg
    rw [okC, Bool.and_eq_true_iff] at ok
    obtain ⟨v', h1, y', h2, h3⟩ := hC F b m1 s w1 _ _ _ _ _ hS (hE.opT gl ok.1 (hX x (by simp [lookC]))) (hE.opT gl ok.2 (hX x2 (by simp [lookC]))) hg'
    rw [h1, dstT_eq] at hg'
    exact ⟨_, .inl ⟨rfl, hg', fun q _ => h1⟩⟩
  | al g xs =>
    have hg' : g (xs.map fun x => opT x e) (fun o' h => newK s o' fun q s => dstT d e (h q) fun e => next rec e s k) = true := hg
    obtain ⟨ob, h, h1, h2, h3, obj, z, yv, h4, h5, h6⟩ := hC m1 F _ _ _ (by rw [List.length_map]) (hE.args gl ok hX) hg'
    obtain ⟨r, hr, h7⟩ := newK_iff h2
    rw [dstT_eq] at h7
    refine ⟨_, .inr ⟨ob, r, rfl, hr, h7, s.next, ob, h, rfl, h1, rfl, S.get_put_same _ _ _, h3, ?_, hS.next, hm⟩⟩
    simp only
    omega
  | ch g xs => exact absurd hch (by simp [chC])
  | bad w => exact absurd hch (by simp [chC])
end
/-- The reads that are sure, when an operation has been done. -/
def newV (o : Oper) (i : Nat) (V : List Nat) : List Nat := if isAl o then [] else if isRd o then i :: V else V
section
variable {F : Int} {n : Nat} {ds : List Deferred} {ops : Array Oper} {D V K : List Nat} {b : Base} {m : Mp} {s : S} {w : World} {e : TE} {a : Act} {Ls : Nat → Prop} {Qs : Nat → Option Q} {rec : Rec} {k : KE} {next f : RegF}
/-- Reads are sure. -/
def Sure (ops : List Oper) (V K : List Nat) (i : Nat) : Prop := ∀ r, Anc ops i r → ∀ o, ops[r]? = some o → isRd o = true → r ∈ V ∨ r ∈ K
/-- The state in which all is listed that an operation looks at. -/
theorem J.virt (h : J F n ds ops.toList D V K b m s w e a Ls Qs) {i : Nat} {o : Oper} (ho : ops.toList[i]? = some o) (hr : Sure ops.toList V K i)
    (hl : ∀ k ∈ D, ∀ ok, ops.toList[k]? = some ok → isCh ok = false → ∀ t, ok.dst = some t → t ∈ looksO ops.toList o → Anc ops.toList i k) :
    ∃ (Ls1 : Nat → Prop) (a1 : Act) (m1 : Mp) (w1 : World), J F n ds ops.toList D V K b m1 s w1 e a1 Ls1 Qs ∧ ∀ t ∈ looksO ops.toList o, ¬ Wait ops.toList D Ls1 t := by
  obtain ⟨Ls1, a1, m1, w1, g1, g2, g3, g4⟩ := h.catch_ D [] rfl
  refine ⟨Ls1, a1, m1, w1, g3, fun t ht => g3.look ho (fun k hk ok hok hc t hd hlk => g4 k hk fun r hrk o' hro hrd => ?_) ht⟩
  have hA := hl k hk ok hok hc t hd hlk
  have : Anc ops.toList i r := by
    rcases hrk with rfl | hrk
    · exact hA
    · exact hA.tail hrk
  rcases hr r this o' hro hrd with h' | h'
  · exact .inr h'
  · exact .inl (h.known r h')
theorem isCh_no {o : Oper} (h : isCh o = false) : chC (opC Tryz.prog o) = false := by
  unfold isCh at h
  rw [Bool.or_eq_false_iff] at h
  exact h.1
theorem J.float (h : J F n ds ops.toList D V K b m s w e a Ls Qs) {i : Nat} {o : Oper} (ho : ops.toList[i]? = some o) (hch : isCh o = false) (hD : DOk ops.toList (i :: D)) (hr : Sure ops.toList V K i)
    (hs : IsStep n ops.toList (2 * i) next f) (hf : f rec e s k = true) : ∃ e' s' Qs', next rec e' s' k = true ∧ J F n ds ops.toList (i :: D) (newV o i V) K b m s' w e' a Ls Qs' := by
  have hD' := hD
  cases hD' with
  | cons _ ho2 hi hp hl hd hc =>
  rw [ho] at ho2
  cases ho2
  obtain ⟨Ls1, a1, m1, w1, hv, hlk⟩ := h.virt ho hr hl
  have hX : ∀ x ∈ lookC (opC Tryz.prog o), ∀ t, x = .tmp t → ¬ Wait ops.toList D Ls1 t := fun x hx t ht => hlk t (mem_looks hx ht)
  have hni : ¬ Ls i := fun h' => hi (h.sub i h')
  have hm : m s.next = none := (h.st.fresh s.next (Nat.le_refl _)).2
  -- what is left to show
  have fin : ∀ {v : A} {s' : S} {q : Option Q}, okD n o.dst = true → St F b m s' w → numOf s.next ≤ numOf s'.next → (∀ q', numOf q' < numOf s.next → getO q' s'.h = getO q' s.h) → (∀ q', q = some q' → q' = s.next ∧ numOf s.next < numOf s'.next) → (isAl o = false → s' = s) →
      Pend n ops.toList b m s' (dstE o.dst v e) True q o → J F n ds ops.toList (i :: D) (newV o i V) K b m s' w (dstE o.dst v e) a Ls (fun k => if k = i then q else Qs k) := by
    intro v s' q hdo hst hle hget hq hal hpd
    refine ⟨hD, fun k hk => List.mem_cons_of_mem _ (h.sub k hk), h.closed, fun k hk ok hok hck => ?_, h.known, hst, ?_, fun k hk hnk ok hok => ?_, fun k1 k2 q' h1 h2 => ?_, fun k1 q' h1 => ?_⟩
    · rcases List.mem_cons.1 hk with rfl | hk2
      · rw [ho] at hok
        cases hok
        rw [hch] at hck
        cases hck
      · exact h.chain k hk2 ok hok hck
    · refine ⟨h.env.size, h.env.defers, fun t ht hW => ?_⟩
      have hne : o.dst ≠ some t := fun hd => hW ⟨i, by simp, hni, o, ho, hd⟩
      have he : getE t (dstE o.dst v e) = getE t e := by
        cases hdd : o.dst with
        | none => rfl
        | some u =>
          rw [hdd] at hne hdo
          exact getE_ne (okT_lt ht).2 (okT_lt hdo).2 (fun e => hne (by rw [e])) v e
      rw [he]
      exact h.env.at_ t ht fun ⟨k, hk, hx⟩ => hW ⟨k, List.mem_cons_of_mem _ hk, hx⟩
    · rcases List.mem_cons.1 hk with rfl | hk2
      · rw [ho] at hok
        cases hok
        rw [if_pos rfl]
        obtain ⟨p2, v0, p3, p4⟩ := hpd
        refine ⟨p2, v0, p3, ?_⟩
        have vd : ∀ {e : TE} {q : Option Q} {C : COp} {v : A} {vd : Prop}, RunP b m s' e True q C v → RunP b m s' e vd q C v := by
          intro e q C v vd h
          cases C with
          | r1 g x => exact fun _ => h trivial
          | r2 g x y => exact fun _ => h trivial
          | _ => exact h
        cases hg : o.guard with
        | none => rw [hg] at p4; exact ⟨p4.1, vd p4.2⟩
        | some p =>
          rw [hg] at p4
          obtain ⟨g, t, k1, k2, k3, k4⟩ := p4
          exact ⟨g, t, k1, k2, k3, k4.imp (fun ⟨x, z, y⟩ => ⟨x, z, vd y⟩) id⟩
      · have hki : k ≠ i := fun e => hi (e ▸ hk2)
        rw [if_neg hki]
        refine (h.pend k hk2 hnk ok hok).turn hdo (fun u hu => (hd hch u hu).2 k hk2 ok hok) (fun q' hq' hlt _ => hget q' hlt) hle ?_
        intro hkv
        unfold newV at hkv
        cases ha : isAl o with
        | true => rw [ha] at hkv; simp at hkv
        | false =>
          rw [ha] at hkv
          refine ⟨?_, hal ha⟩
          cases hrd : isRd o with
          | true =>
            rw [hrd] at hkv
            simp only [Bool.false_eq_true, if_false, if_true, List.mem_cons] at hkv
            exact hkv.resolve_left hki
          | false =>
            rw [hrd] at hkv
            simpa using hkv
    · by_cases e1 : k1 = i <;> by_cases e2 : k2 = i
      · rw [e1, e2]
      · rw [if_pos e1] at h1
        rw [if_neg e2] at h2
        have := h.qlt k2 q' h2
        rw [(hq q' h1).1] at this
        omega
      · rw [if_neg e1] at h1
        rw [if_pos e2] at h2
        have := h.qlt k1 q' h1
        rw [(hq q' h2).1] at this
        omega
      · rw [if_neg e1] at h1
        rw [if_neg e2] at h2
        exact h.qs k1 k2 q' h1 h2
    · by_cases e1 : k1 = i
      · rw [if_pos e1] at h1
        rw [(hq q' h1).1]
        exact (hq q' h1).2
      · rw [if_neg e1] at h1
        exact Nat.lt_of_lt_of_le (h.qlt k1 q' h1) hle
  -- the temporaries that the operation looks at stay
  have keep : ∀ {v : A} {t : Tmp}, okD n o.dst = true → okT n t = true → t ∈ looksO ops.toList o → getE t (dstE o.dst v e) = getE t e := by
    intro v t hdo ht hm
    cases hdd : o.dst with
    | none => rfl
    | some u =>
      rw [hdd] at hdo
      exact getE_ne (okT_lt ht).2 (okT_lt hdo).2 (fun e => (hd hch u hdd).1 (e ▸ hm)) v e
  have keepD : ∀ {v : A}, okD n o.dst = true → ∀ t, o.dst = some t → getE t (dstE o.dst v e) = v := by
    intro v hdo t ht
    rw [ht]
    exact getE_same t v e
  have hnl : ∀ u, o.dst = some u → .tmp u ∉ lookC (opC Tryz.prog o) := fun u hu hm => (hd hch u hu).1 (List.mem_append_left _ (mem_tmpsX hm))
  -- the operation itself
  have run : ∀ {f : RegF}, okD n o.dst = true → IsOp n o next f → f rec e s k = true →
      (∀ {s' : S} {q : Option Q} {v : A}, okC n (opC Tryz.prog o) = true → RunP b m s' (dstE o.dst v e) True q (opC Tryz.prog o) v → Pend n ops.toList b m s' (dstE o.dst v e) True q o) →
      ∃ e' s' Qs', next rec e' s' k = true ∧ J F n ds ops.toList (i :: D) (newV o i V) K b m s' w e' a Ls Qs' := by
    intro f hdo hop hf hP
    rcases hop with ⟨ok, rfl⟩ | ⟨w', rfl⟩
    · obtain ⟨v, ⟨hna, h1, h2⟩ | ⟨ob, r, hal, hr1, h1, h2⟩⟩ := run_float (m := m) (op_sound o).1 ok hv.st hv.env hX (isCh_no hch) hf hm
      · refine ⟨_, s, _, h1, fin (q := none) hdo h.st (Nat.le_refl _) (fun _ _ => rfl) (fun q' e => by cases e) (fun _ => rfl) (hP ok ?_)⟩
        exact (h2 none).turn ok hdo hnl (fun q' e => by cases e) (Nat.le_refl _) fun _ => ⟨trivial, rfl⟩
      · have hlt : numOf s.next < numOf (⟨(s.put s.next ob).h, r, s.lo, s.hi⟩ : S).next := by simp only; omega
        refine ⟨_, _, _, h1, fin (q := some s.next) hdo (h.st.new hr1) (Nat.le_of_lt hlt) (fun q' hq' => S.get_put_ne s (fun e => by rw [e] at hq'; omega) ob) (fun q' e => by cases e; exact ⟨rfl, hlt⟩) (fun ha => ?_) (hP ok ?_)⟩
        · have : isAl o = true := hal
          rw [this] at ha
          cases ha
        · exact h2.turn ok hdo hnl (fun q' _ _ _ => rfl) (Nat.le_refl _) fun _ => ⟨trivial, rfl⟩
    · exact no hf
  generalize hii : 2 * i = ii at hs
  cases hs with
  | bad w' => exact no hf
  | run ho2 hdo hg hop =>
    rename_i i' o2
    have hi' : i' = i := by omega
    subst hi'
    rw [ho] at ho2
    cases ho2
    exact run hdo hop hf fun {s' q v} ok hrp => ⟨hdo, v, keepD hdo, by rw [hg]; exact ⟨ok, hrp⟩⟩
  | runG ho2 hdo hg hj ht hkt hop =>
    rename_i i' f o2 g j want t
    have hi' : i' = i := by omega
    subst hi'
    rw [ho] at ho2
    cases ho2
    have htl : t ∈ looksO ops.toList o := mem_looksG hg hj ht
    have hf' : asGd (getE t e) want (fun _ => f rec e s k) (fun _ => dstT o.dst e undefA fun e => next rec e s k) = true := hf
    rcases asGd_iff hf' with ⟨h1, h2⟩ | ⟨h1, h2⟩
    · exact run hdo hop h2 fun {s' q v} ok hrp => ⟨hdo, v, keepD hdo, by
        rw [hg]
        exact ⟨g, t, hj, ht, hkt, .inl ⟨(keep hdo hkt htl).trans h1, ok, hrp⟩⟩⟩
    · rw [dstT_eq] at h2
      refine ⟨_, s, _, h2, fin (q := none) hdo h.st (Nat.le_refl _) (fun _ _ => rfl) (fun q' e => by cases e) (fun _ => rfl) ⟨hdo, undefA, keepD hdo, ?_⟩⟩
      rw [hg]
      refine ⟨g, t, hj, ht, hkt, .inr ⟨?_, rfl⟩⟩
      rw [keep hdo hkt htl]
      exact h1
  | chk _ _ _ _ _ => omega
  | chkG _ _ _ _ _ _ _ _ => omega
end
end Go.Proofs.YtpknalhjgbgpiaaGreatDoor
