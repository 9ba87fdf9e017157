/- Parts of the proof: EvT7, EvT8. -/
import Derived.Test.YtpknalhjgbgpiaaGreatDoorM13
noncomputable section
namespace Go.Proofs.YtpknalhjgbgpiaaGreatDoor
open Go Go.RowKit
section
variable {F : Int} {n : Nat} {ds : List Deferred} {ops : Array Oper} {D V K : List Nat} {b : Base} {m : Mp} {s : S} {w : World} {e : TE} {a : Act} {Ls : Nat → Prop} {Qs : Nat → Option Q} {rec : Rec} {k : KE} {next f : RegF}
theorem not_undef {x : Bool} : (.b x : A) ≠ undefA := fun h => by cases h
theorem J.chk (h : J F n ds ops.toList D V K b m s w e a Ls Qs) {i : Nat} {o : Oper} (ho : ops.toList[i]? = some o) (hi : i ∈ D) (hr : Sure ops.toList V K i)
    (hs : IsStep n ops.toList (2 * i + 1) next f) (hf : f rec e s k = true) : next rec e s k = true ∧ J F n ds ops.toList D (i :: V) K b m s w e a Ls Qs := by
  obtain ⟨Ls1, a1, m1, w1, hv, hlk⟩ := h.virt ho hr (fun k hk ok hok hc t hd hl => h.dok.look i hi o ho k hk ok hok hc t hd hl)
  have hX : ∀ x ∈ lookC (opC Tryz.prog o), ∀ t, x = .tmp t → ¬ Wait ops.toList D Ls1 t := fun x hx t ht => hlk t (mem_looks hx ht)
  have gl := hv.st.gl
  -- what is left to show
  have fin : (¬ Ls i → Pend n ops.toList b m s e True (Qs i) o) → J F n ds ops.toList D (i :: V) K b m s w e a Ls Qs := by
    intro hp
    refine ⟨h.dok, h.sub, h.closed, h.chain, h.known, h.st, h.env, fun k hk hnk ok hok => ?_, h.qs, h.qlt⟩
    by_cases hki : k = i
    · subst hki
      rw [ho] at hok
      cases hok
      obtain ⟨p2, v0, p3, p4⟩ := hp hnk
      have vd : ∀ {e : TE} {q : Option Q} {C : COp} {v : A} {vd : Prop}, RunP b m s e True q C v → RunP b m s e vd q C v := by
        intro e q C v vd h
        cases C with
        | r1 g x => exact fun _ => h trivial
        | r2 g x y => exact fun _ => h trivial
        | _ => exact h
      refine ⟨p2, v0, p3, ?_⟩
      cases hg : o.guard with
      | none => rw [hg] at p4; exact ⟨p4.1, vd p4.2⟩
      | some p =>
        rw [hg] at p4
        obtain ⟨g, t, k1, k2, k3, k4⟩ := p4
        exact ⟨g, t, k1, k2, k3, k4.imp (fun ⟨x, z, y⟩ => ⟨x, z, vd y⟩) id⟩
    · have := h.pend k hk hnk ok hok
      have e1 : (k ∈ i :: V) = (k ∈ V) := by simp [hki]
      rw [e1]
      exact this
  -- the read itself, once more
  have read : ∀ {d : Tmp} {f : RegF}, IsChk n o d next f → f rec e s k = true → next rec e s k = true ∧ okC n (opC Tryz.prog o) = true ∧ RunP b m s e True (Qs i) (opC Tryz.prog o) (getE d e) := by
    intro d f hc hf
    rcases hc with ⟨ok, rfl⟩ | ⟨w', rfl⟩
    · have hC := (op_sound o).1
      cases hop : opC Tryz.prog o with
      | r1 g x =>
        rw [hop] at hf hC hX ok
        have hf' : g s (opT x e) (fun v => ifB (eqA v (getE d e)) (next rec e s k) (stk "chk")) = true := hf
        obtain ⟨v', h1, y', h2, h3⟩ := hC F b m1 s w1 _ _ _ hv.st (hv.env.opT gl ok (hX x (List.mem_singleton.2 rfl))) hf'
        rw [h1] at hf'
        obtain ⟨k1, k2⟩ := ifB_t.1 (show ifB (eqA v' (getE d e)) (next rec e s k) false = true from hf')
        rw [eqA_iff _ _ k1] at h1
        exact ⟨k2, ok, fun _ => h1⟩
      | r2 g x y =>
        rw [hop] at hf hC hX ok
        have hf' : g s (opT x e) (opT y e) (fun v => ifB (eqA v (getE d e)) (next rec e s k) (stk "chk")) = true := hf
        have ok' := ok
        rw [okC, Bool.and_eq_true_iff] at ok
        obtain ⟨v', h1, y', h2, h3⟩ := hC F b m1 s w1 _ _ _ _ _ hv.st (hv.env.opT gl ok.1 (hX x (by simp [lookC]))) (hv.env.opT gl ok.2 (hX y (by simp [lookC]))) hf'
        rw [h1] at hf'
        obtain ⟨k1, k2⟩ := ifB_t.1 (show ifB (eqA v' (getE d e)) (next rec e s k) false = true from hf')
        rw [eqA_iff _ _ k1] at h1
        exact ⟨k2, ok', fun _ => h1⟩
      | _ => rw [hop] at hf; exact no hf
    · exact no hf
  generalize hii : 2 * i + 1 = ii at hs
  cases hs with
  | bad w' => exact no hf
  | run _ _ _ _ => omega
  | runG _ _ _ _ _ _ _ => omega
  | chk ho2 hd hk hg hc =>
    rename_i i' o2 d
    have hi' : i' = i := by omega
    subst hi'
    rw [ho] at ho2
    cases ho2
    obtain ⟨h1, h2, h3⟩ := read hc hf
    refine ⟨h1, fin fun hni => ?_⟩
    obtain ⟨p2, v0, p3, p4⟩ := h.pend i' hi hni o ho
    refine ⟨p2, getE d e, fun t ht => by rw [hd] at ht; cases ht; rfl, ?_⟩
    rw [hg]
    exact ⟨h2, h3⟩
  | chkG ho2 hd hk hg hj ht hkt hc =>
    rename_i i' f o2 g d j want t
    have hi' : i' = i := by omega
    subst hi'
    rw [ho] at ho2
    cases ho2
    have hf' : asGd (getE t e) want (fun _ => f rec e s k) (fun _ => next rec e s k) = true := hf
    rcases asGd_iff hf' with ⟨e1, h2⟩ | ⟨e1, h2⟩
    · obtain ⟨h3, h4, h5⟩ := read hc h2
      refine ⟨h3, fin fun hni => ?_⟩
      obtain ⟨p2, v0, p3, p4⟩ := h.pend i' hi hni o ho
      refine ⟨p2, getE d e, fun t ht => by rw [hd] at ht; cases ht; rfl, ?_⟩
      rw [hg]
      exact ⟨g, t, hj, ht, hkt, .inl ⟨e1, h4, h5⟩⟩
    · refine ⟨h2, fin fun hni => ?_⟩
      obtain ⟨p2, v0, p3, p4⟩ := h.pend i' hi hni o ho
      refine ⟨p2, v0, p3, ?_⟩
      rw [hg] at p4 ⊢
      obtain ⟨g', t', k1, k2, k3, k4⟩ := p4
      refine ⟨g', t', k1, k2, k3, ?_⟩
      rw [hj] at k1
      cases k1
      rw [ht] at k2
      cases k2
      rcases k4 with ⟨k4, _⟩ | k4
      · exfalso
        rcases e1 with e1 | e1
        · rw [e1] at k4
          cases want <;> cases k4
        · rw [e1] at k4
          cases k4
      · exact .inr k4
/-- The chain's next operation. -/
theorem J.step (h : J F n ds ops.toList D V K b m s w e a Ls Qs) {c : Nat} {o : Oper} (ho : ops.toList[c]? = some o) (hch : isCh o = true) (hD : DOk ops.toList (c :: D)) (hp : ∀ p ∈ predsO o, Ls p) (hrec : RecS F rec)
    (hs : IsStep n ops.toList (2 * c) next f) (hf : f rec e s k = true) {K' : List Nat} (hK' : ∀ x ∈ K', x ∈ K ∨ x = c ∨ Anc ops.toList c x) {Kn : Act → World → Prop} {Q : Exit → Act → World → Prop}
    (hKn : ∀ m' s' w' e' y, next rec e' s' k = true → m.le m' → J F n ds ops.toList (c :: D) [] K' b m' s' w' e' (a.put o.dst y) (fun i => Ls i ∨ i = c) Qs → Kn (a.put o.dst y) w') : wpOp Tryz.prog ops Q c Kn a w := by
  have hD' := hD
  cases hD' with
  | cons _ ho2 hi hpd hl hd hc =>
  rw [ho] at ho2
  cases ho2
  have hlk : ∀ t ∈ looksO ops.toList o, ¬ Wait ops.toList D Ls t := fun t ht => h.look ho (fun k hk ok hok hck t hdt hlt => (hl k hk ok hok hck t hdt hlt).closed h.closed ho hp) ht
  have hX : ∀ x ∈ lookC (opC Tryz.prog o), ∀ t, x = .tmp t → ¬ Wait ops.toList D Ls t := fun x hx t ht => hlk t (mem_looks hx ht)
  have ho' : ops[c]? = some o := by simpa using ho
  -- what is left to show
  have fin : ∀ {v : A} {y : Value} {m' : Mp} {s' : S} {w' : World}, okD n o.dst = true → next rec (dstE o.dst v e) s' k = true → m.le m' → VR m' F v y → St F b m' s' w' → numOf s.next ≤ numOf s'.next → (∀ q', m q' = none → numOf q' < numOf s.next → m' q' = none ∧ getO q' s'.h = getO q' s.h) → Kn (a.put o.dst y) w' := by
    intro v y m' s' w' hdo hn hm hvr hst hle hq
    refine hKn m' s' w' _ y hn hm ⟨hD, fun k hk => hk.elim (fun h' => List.mem_cons_of_mem _ (h.sub k h')) (fun e => by rw [e]; simp), fun k hk ok hok p hpp => ?_, fun k hk ok hok hck => ?_, fun x hx => ?_, hst, ?_, fun k hk hnk ok hok => ?_, h.qs, fun i q hi => Nat.lt_of_lt_of_le (h.qlt i q hi) hle⟩
    · rcases hk with hk | rfl
      · exact .inl (h.closed k hk ok hok p hpp)
      · rw [ho] at hok
        cases hok
        exact .inl (hp p hpp)
    · rcases List.mem_cons.1 hk with rfl | hk2
      · exact .inr rfl
      · exact .inl (h.chain k hk2 ok hok hck)
    · rcases hK' x hx with h' | h' | h'
      · exact .inl (h.known x h')
      · exact .inr h'
      · exact .inl (h'.closed h.closed ho hp)
    · refine ((h.env.mono hm).put hdo hvr).weak fun t ht => ?_
      obtain ⟨⟨k, hk, hnk, ok, hok, hdk⟩, _⟩ := ht
      exact ⟨k, List.mem_cons_of_mem _ hk, fun h' => h'.elim hnk fun e => hi (e ▸ hk), ok, hok, hdk⟩
    · have hnk' : ¬ Ls k := fun h' => hnk (.inl h')
      have hkc : k ≠ c := fun h' => hnk (.inr h')
      have hk2 : k ∈ D := (List.mem_cons.1 hk).resolve_left hkc
      have hcf : isCh ok = false := by
        cases hx : isCh ok with
        | false => rfl
        | true => exact absurd (h.chain k hk2 ok hok hx) hnk'
      have p1 := h.pend k hk2 hnk' ok hok
      refine Pend.turn (p1.mono fun q' hq' hmq => (hq q' hmq (h.qlt k q' hq')).1) hdo (fun u hu => ?_) (fun q' hq' hlt hmq => ?_) hle (fun h' => by cases h')
      · refine ⟨fun hlu => hnk' ((hc hch u hu k hk2 ok hok hcf (.inl hlu)).closed h.closed ho hp), fun hdu => hnk' ((hc hch u hu k hk2 ok hok hcf (.inr hdu)).closed h.closed ho hp)⟩
      · cases hmm : m q' with
        | none => exact (hq q' hmm hlt).2
        | some r => rw [hm q' r hmm] at hmq; cases hmq
  have run : ∀ {f : RegF}, okD n o.dst = true → IsOp n o next f → f rec e s k = true → o.wp Tryz.prog a w Kn Q := by
    intro f hdo hop hf
    rcases hop with ⟨ok, rfl⟩ | ⟨w', rfl⟩
    · exact cop_wp (op_sound o).1 ok hrec h.st.rebase h.env hX hf fun v s' m' y w' h1 h2 h3 h4 => fin hdo h1 h3 h4 (h.st.trans h2) h2.next fun q' hq hlt => h2.old q' hlt hq
    · exact no hf
  unfold wpOp
  generalize hii : 2 * c = ii at hs
  cases hs with
  | bad w' => exact no hf
  | run ho2 hdo hg hop =>
    rename_i i' o2
    have hi' : i' = c := by omega
    subst hi'
    rw [ho] at ho2
    cases ho2
    have hw : Region.wanted o (yielded ops a.tmps) = true := by unfold Region.wanted; rw [hg]
    simp only [ho', hw, if_true]
    exact .inl (run hdo hop hf)
  | runG ho2 hdo hg hj ht hkt hop =>
    rename_i i' f o2 g j want t
    have hi' : i' = c := by omega
    subst hi'
    rw [ho] at ho2
    cases ho2
    have hf' : asGd (getE t e) want (fun _ => f rec e s k) (fun _ => dstT o.dst e undefA fun e => next rec e s k) = true := hf
    obtain ⟨w1, w2⟩ := guard_wanted hg hj ht hkt h.env.size (h.env.at_ t hkt (hlk t (mem_looksG hg hj ht)))
    simp only [ho']
    rcases asGd_iff hf' with ⟨h1, h2⟩ | ⟨h1, h2⟩
    · simp only [w1 h1, if_true]
      exact .inl (run hdo hop h2)
    · simp only [w2 h1, Bool.false_eq_true, if_false]
      rw [dstT_eq] at h2
      exact fin hdo h2 (Mp.le_refl _) undef_VR h.st (Nat.le_refl _) fun q' hq _ => ⟨hq, rfl⟩
  | chk _ _ _ _ _ => omega
  | chkG _ _ _ _ _ _ _ _ => omega
end
end Go.Proofs.YtpknalhjgbgpiaaGreatDoor
noncomputable section
namespace Go.Proofs.YtpknalhjgbgpiaaGreatDoor
open Go Go.RowKit
/-- A plan that fits: what is done, the reads that are sure, what is listed for sure. -/
inductive PlanOk (ops : List Oper) : List Nat → List Nat → List Nat → List Nat → Prop
  | done {D V K : List Nat} (all : ∀ (i : Nat) o, ops[i]? = some o → i ∈ D) (hv : ∀ i ∈ D, ∀ o, ops[i]? = some o → isRd o = true → i ∈ V ∨ i ∈ K) : PlanOk ops [] D V K
  | chain {c : Nat} {o : Oper} {pl D V K K' : List Nat} (ho : ops[c]? = some o) (hch : isCh o = true) (hD : DOk ops (c :: D)) (hv : ∀ i ∈ D, ∀ o, ops[i]? = some o → isRd o = true → i ∈ V ∨ i ∈ K)
      (hu : ∀ (i : Nat) o', ops[i]? = some o' → i ∉ D → i = c ∨ ∃ p ∈ predsO o', p ∉ D) (hK : ∀ x ∈ K', x ∈ K ∨ x = c ∨ Anc ops c x) (t : PlanOk ops pl (c :: D) [] K') : PlanOk ops (2 * c :: pl) D V K
  | float {i : Nat} {o : Oper} {pl D V K : List Nat} (ho : ops[i]? = some o) (hch : isCh o = false) (hD : DOk ops (i :: D)) (hr : Sure ops V K i) (t : PlanOk ops pl (i :: D) (newV o i V) K) : PlanOk ops (2 * i :: pl) D V K
  | chk {i : Nat} {o : Oper} {pl D V K : List Nat} (ho : ops[i]? = some o) (hi : i ∈ D) (hr : Sure ops V K i) (t : PlanOk ops pl D (i :: V) K) : PlanOk ops ((2 * i + 1) :: pl) D V K
section
variable {F : Int} {n : Nat} {ds : List Deferred} {ops : Array Oper} {b : Base} {rec : Rec} {k : KE}
/-- All is done that may be before the chain's next operation. -/
def Waits (F : Int) (n : Nat) (ds : List Deferred) (ops : Array Oper) (rec : Rec) (k : KE) (b : Base) (m : Mp) (w : World) (a : Act) (Ls : Nat → Prop) : Prop :=
  ∃ D V K e s Qs, J F n ds ops.toList D V K b m s w e a Ls Qs ∧ (∀ i ∈ D, ∀ o, ops.toList[i]? = some o → isRd o = true → i ∈ V ∨ i ∈ K) ∧
    (((∀ (i : Nat) o, ops.toList[i]? = some o → i ∈ D) ∧ k e s = true) ∨
     ∃ c o pl next f K', ops.toList[c]? = some o ∧ isCh o = true ∧ DOk ops.toList (c :: D) ∧ (∀ (i : Nat) o', ops.toList[i]? = some o' → i ∉ D → i = c ∨ ∃ p ∈ predsO o', p ∉ D) ∧ (∀ x ∈ K', x ∈ K ∨ x = c ∨ Anc ops.toList c x) ∧
       PlanOk ops.toList pl (c :: D) [] K' ∧ IsStep n ops.toList (2 * c) next f ∧ IsSteps n ops.toList pl next ∧ f rec e s k = true)
theorem phase {pl D V K : List Nat} (hp : PlanOk ops.toList pl D V K) : ∀ {f : RegF} {m : Mp} {s : S} {w : World} {e : TE} {a : Act} {Ls : Nat → Prop} {Qs : Nat → Option Q}, IsSteps n ops.toList pl f → J F n ds ops.toList D V K b m s w e a Ls Qs → f rec e s k = true → Waits F n ds ops rec k b m w a Ls := by
  induction hp with
  | done all hv =>
    intro f m s w e a Ls Qs hs hJ hf
    cases hs
    exact ⟨_, _, _, e, s, Qs, hJ, hv, .inl ⟨all, hf⟩⟩
  | chain ho hch hD hv hu hK t _ =>
    intro f m s w e a Ls Qs hs hJ hf
    cases hs with
    | cons h1 h2 => exact ⟨_, _, _, e, s, Qs, hJ, hv, .inr ⟨_, _, _, _, _, _, ho, hch, hD, hu, hK, t, h1, h2, hf⟩⟩
  | float ho hch hD hr t ih =>
    intro f m s w e a Ls Qs hs hJ hf
    cases hs with
    | cons h1 h2 =>
      obtain ⟨e', s', Qs', h3, h4⟩ := hJ.float ho hch hD hr h1 hf
      exact ih h2 h4 h3
  | chk ho hi hr t ih =>
    intro f m s w e a Ls Qs hs hJ hf
    cases hs with
    | cons h1 h2 =>
      obtain ⟨h3, h4⟩ := hJ.chk ho hi hr h1 hf
      exact ih h2 h4 h3
theorem countP_lt {p q : Nat → Bool} (h : ∀ x, p x = true → q x = true) {i : Nat} : ∀ {l : List Nat}, i ∈ l → q i = true → p i = false → l.countP p < l.countP q := by
  intro l
  induction l with
  | nil => intro hi; cases hi
  | cons x l ih =>
    intro hi hq hp
    rw [List.countP_cons, List.countP_cons]
    have le : l.countP p ≤ l.countP q := List.countP_mono_left fun x _ => h x
    rcases List.mem_cons.1 hi with rfl | hi
    · rw [hq, hp]
      simp
      omega
    · have := ih hi hq hp
      cases hpx : p x with
      | false => simp only [Bool.false_eq_true, if_false]; omega
      | true => rw [h x hpx]; simp only [if_true]; omega
theorem DOk.ready {ops : List Oper} {D : List Nat} (h : DOk ops D) {Ls : Nat → Prop} (hn : ∃ i ∈ D, ¬ Ls i) : ∃ i ∈ D, ¬ Ls i ∧ ∃ o, ops[i]? = some o ∧ ∀ p ∈ predsO o, Ls p := by
  induction h with
  | nil => obtain ⟨i, hi, _⟩ := hn; cases hi
  | cons h ho hi hp hl hd hc ih =>
    rename_i i D o
    by_cases hx : ∃ j ∈ D, ¬ Ls j
    · obtain ⟨j, hj, h1, h2⟩ := ih hx
      exact ⟨j, List.mem_cons_of_mem _ hj, h1, h2⟩
    · have all : ∀ j ∈ D, Ls j := fun j hj => Classical.byContradiction fun hc => hx ⟨j, hj, hc⟩
      obtain ⟨j, hj, hnj⟩ := hn
      rcases List.mem_cons.1 hj with rfl | hj
      · exact ⟨j, by simp, hnj, o, ho, fun p hpm => all p (hp p hpm)⟩
      · exact absurd (all j hj) hnj
/-- What is listed. -/
def LsOf (L : Array Bool) (i : Nat) : Prop := L.getD i false = true
theorem LsOf_set {L : Array Bool} {i : Nat} (hi : i < L.size) : LsOf (L.setIfInBounds i true) = fun k => LsOf L k ∨ k = i := by
  funext k
  apply propext
  unfold LsOf
  by_cases h : k = i
  · subst h
    simp [hi]
  · rw [getD_set_ne false (Ne.symm h)]
    simp [h]
theorem getD_tf {L : Array Bool} {i : Nat} (hi : i < L.size) (a b : Bool) : L.getD i a = L.getD i b := by simp [Array.getD, hi]
theorem ready_iff {L : Array Bool} (hL : L.size = ops.size) {i : Nat} : i ∈ Region.ready .any ops L ↔ ¬ LsOf L i ∧ ∃ o, ops.toList[i]? = some o ∧ ∀ p ∈ predsO o, LsOf L p := by
  rw [mem_ready]
  constructor
  · rintro ⟨h1, o, ho, h2⟩
    have hi : i < L.size := by rw [hL]; exact (Array.getElem?_eq_some_iff.1 ho).1
    refine ⟨fun hl => ?_, o, by simpa using ho, fun p hp => ?_⟩
    · unfold LsOf at hl
      rw [getD_tf hi false true, h1] at hl
      cases hl
    · obtain ⟨ed, hed, rfl⟩ := List.mem_map.1 hp
      rw [List.mem_filter] at hed
      exact h2 ed (by simpa using hed.1) hed.2
  · rintro ⟨h1, o, ho, h2⟩
    have ho' : ops[i]? = some o := by simpa using ho
    have hi : i < L.size := by rw [hL]; exact (Array.getElem?_eq_some_iff.1 ho').1
    refine ⟨?_, o, ho', fun ed hed hb => h2 ed.on (List.mem_map.2 ⟨ed, List.mem_filter.2 ⟨by simpa using hed, hb⟩, rfl⟩)⟩
    rw [getD_tf hi true false]
    unfold LsOf at h1
    simpa using h1
theorem draw_any (hrec : RecS F rec) {Q : Exit → Act → World → Prop} {m0 : Mp} (hQ : ∀ e s m a w, k e s = true → St F b m s w → m0.le m → EnvR n ds m F e a → Q .normal a w) :
    ∀ (fuel : Nat) (L : Array Bool) (a : Act) (w : World) (m : Mp), L.size = ops.size → (List.range ops.size).countP (fun i => !L.getD i false) ≤ fuel → m0.le m → Waits F n ds ops rec k b m w a (LsOf L) → wpAny Tryz.prog .any ops Q fuel L a w := by
  have base : ∀ (L : Array Bool) (a : Act) (w : World) (m : Mp), L.size = ops.size → m0.le m → Waits F n ds ops rec k b m w a (LsOf L) → Region.ready .any ops L = [] → Q .normal a w := by
    intro L a w m hL hm ⟨D, V, K, e, s, Qs, hJ, hv, hW⟩ hr
    have allD : ∀ i ∈ D, LsOf L i := fun i hi => Classical.byContradiction fun hc => by
      obtain ⟨j, _, h1, h2⟩ := hJ.dok.ready ⟨i, hi, hc⟩
      have := (ready_iff hL).2 ⟨h1, h2⟩
      rw [hr] at this
      cases this
    rcases hW with ⟨all, hk⟩ | ⟨c, o, pl, next, f, K', ho, hch, hD, hu, _⟩
    · exact hQ e s m a w hk hJ.st hm (hJ.env.weak fun t ⟨i, hi, hni, _⟩ => hni (allD i hi))
    · exfalso
      cases hD with
      | cons _ ho2 hi hp _ _ _ =>
        have := (ready_iff hL).2 ⟨fun hl => hi (hJ.sub c hl), _, ho2, fun p hpm => allD p (hp p hpm)⟩
        rw [hr] at this
        cases this
  intro fuel
  induction fuel with
  | zero =>
    intro L a w m hL hc hm hW
    have hr : Region.ready .any ops L = [] := by
      cases h : Region.ready .any ops L with
      | nil => rfl
      | cons i l =>
        exfalso
        have hi : i ∈ Region.ready .any ops L := by rw [h]; simp
        obtain ⟨h1, o, ho, _⟩ := (ready_iff hL).1 hi
        have ho' : ops[i]? = some o := by simpa using ho
        have hlt : i < ops.size := (Array.getElem?_eq_some_iff.1 ho').1
        have : 0 < (List.range ops.size).countP (fun i => !L.getD i false) := by
          rw [List.countP_pos_iff]
          refine ⟨i, List.mem_range.2 hlt, ?_⟩
          unfold LsOf at h1
          simpa using h1
        omega
    exact ⟨hr, base L a w m hL hm hW hr⟩
  | succ fuel ih =>
    intro L a w m hL hc hm hW
    refine ⟨base L a w m hL hm hW, fun i hi => ?_⟩
    obtain ⟨h1, o, ho, h2⟩ := (ready_iff hL).1 hi
    have ho' : ops[i]? = some o := by simpa using ho
    have hlt : i < ops.size := (Array.getElem?_eq_some_iff.1 ho').1
    have hlL : i < L.size := by rw [hL]; exact hlt
    have hc' : (List.range ops.size).countP (fun j => !(L.setIfInBounds i true).getD j false) ≤ fuel := by
      have := countP_lt (p := fun j => !(L.setIfInBounds i true).getD j false) (q := fun j => !L.getD j false) (i := i) (l := List.range ops.size) (fun x hx => by
        cases hl : L.getD x false with
        | false => rfl
        | true =>
          exfalso
          have : LsOf (L.setIfInBounds i true) x := by rw [LsOf_set hlL]; exact .inl hl
          unfold LsOf at this
          rw [this] at hx
          cases hx) (List.mem_range.2 hlt) (by unfold LsOf at h1; simpa using h1) (by
          have : LsOf (L.setIfInBounds i true) i := by rw [LsOf_set hlL]; exact .inr rfl
          unfold LsOf at this
          rw [this]
          rfl)
      omega
    have hL' : (L.setIfInBounds i true).size = ops.size := by rw [Array.size_setIfInBounds]; exact hL
    obtain ⟨D, V, K, e, s, Qs, hJ, hv, hW⟩ := hW
    by_cases hiD : i ∈ D
    · obtain ⟨y, m', w', k1, k2, k3⟩ := hJ.list hiD h1 ho h2 fun hrd => by
        rcases hv i hiD o ho hrd with h' | h'
        · exact h'
        · exact absurd (hJ.known i h') h1
      refine k2 _ Q (ih _ _ _ m' hL' hc' (Mp.le_trans hm k1) ⟨D, V, K, e, s, Qs, ?_, hv, hW⟩)
      rw [LsOf_set hlL]
      exact k3
    · rcases hW with ⟨all, _⟩ | ⟨c, o2, pl, next, f, K', hc1, hch, hD, hu, hK', hpl, hst, hsts, hf⟩
      · exact absurd (all i o ho) hiD
      · rcases hu i o ho hiD with rfl | ⟨p, hp, hpD⟩
        · rw [ho] at hc1
          cases hc1
          refine hJ.step ho hch hD h2 hrec hst hf hK' fun m' s' w' e' y q1 q2 q3 => ih _ _ _ m' hL' hc' (Mp.le_trans hm q2) ?_
          rw [LsOf_set hlL]
          exact phase hpl hsts q3 q1
        · exact absurd (hJ.sub p (h2 p hp)) hpD
theorem follows_mixed : Tryz.prog.follows .mixedOrders = true := by kernel_rfl
/-- A region that draws, by its plan. -/
theorem draw_wp (hrec : RecS F rec) {Q : Exit → Act → World → Prop} {m0 : Mp} (hQ : ∀ e s m a w, k e s = true → St F b m s w → m0.le m → EnvR n ds m F e a → Q .normal a w) {id : Nat} {pl : List Nat} {f : RegF}
    (hp : PlanOk ops.toList pl [] [] []) (hs : IsSteps n ops.toList pl f) {s : S} {e : TE} {a : Act} {w : World} (hf : f rec e s k = true) (hS : St F b m0 s w) (hE : EnvR n ds m0 F e a) : (Code.region id ops true).wp Tryz.prog Q a w := by
  refine wp_region_any follows_mixed (draw_any hrec hQ ops.size _ a _ m0 (by simp) (Nat.le_trans List.countP_le_length (by simp)) (Mp.le_refl _) ?_)
  have hno : ∀ i, ¬ LsOf (Array.replicate ops.size false) i := fun i h => by
    unfold LsOf at h
    simp [Array.getD] at h
  have hJ : J F n ds ops.toList [] [] [] b m0 s (w.drewN 1) e a (LsOf (Array.replicate ops.size false)) (fun _ => none) :=
    { dok := .nil
      sub := fun i h => absurd h (hno i)
      closed := fun i h => absurd h (hno i)
      chain := fun i h => absurd h List.not_mem_nil
      known := fun i h => absurd h List.not_mem_nil
      st := hS.drewN 1
      env := hE.weak fun t h => h.elim
      pend := fun i h => absurd h List.not_mem_nil
      qs := fun i k q h => by cases h
      qlt := fun i q h => by cases h }
  exact phase hp hs hJ hf
end
end Go.Proofs.YtpknalhjgbgpiaaGreatDoor
