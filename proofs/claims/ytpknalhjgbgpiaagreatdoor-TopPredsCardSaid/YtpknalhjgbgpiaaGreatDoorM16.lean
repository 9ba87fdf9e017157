/- Parts of the proof: EvC2, EvC3. -/
import Derived.RangeFuncLeaves
import Derived.RangeFuncRecord
import Derived.Test.YtpknalhjgbgpiaaGreatDoorM15
noncomputable section
namespace Go.Proofs.YtpknalhjgbgpiaaGreatDoor
open Go Go.RowKit
-- entering
def entT : Nat → Nat → EnterF
  | 0, _ => ent0
  | m + 1, t => entC (updT t) (entT m (t + 1))
theorem entB_eq (n m t : Nat) : ((∀ u, u < m → okT n (t + u) = true) ∧ ∀ {R : Type} (bad : R) (k : EnterF → R), entB n m t bad k = k (entT m t)) ∨ ∀ {R : Type} (bad : R) (k : EnterF → R), entB n m t bad k = bad := by
  induction m generalizing t with
  | zero => exact .inl ⟨fun u hu => absurd hu (Nat.not_lt_zero u), fun bad k => rfl⟩
  | succ m ih =>
    have e : ∀ {R : Type} (bad : R) (k : EnterF → R), entB n (m + 1) t bad k = updB n t bad fun u => entB n m (t + 1) bad fun next => k (entC u next) := fun bad k => rfl
    rcases updB_eq n t with ⟨h1, h2⟩ | h2
    · rcases ih (t + 1) with ⟨h3, h4⟩ | h4
      · refine .inl ⟨fun u hu => ?_, fun bad k => by rw [e, h2, h4]; rfl⟩
        cases u with
        | zero => exact h1
        | succ u =>
          have := h3 u (by omega)
          rw [show t + (u + 1) = t + 1 + u by omega]
          exact this
      · exact .inr fun bad k => by rw [e, h2, h4]
    · exact .inr fun bad k => by rw [e, h2]
theorem entT_iff : ∀ (m t : Nat) (e : TE) (l : List A) (k : TE → Bool), (∀ u, u < m → t + u < 256) → entT m t e l k = true → ∃ e', k e' = true ∧ l.length ≤ m ∧ (∀ u x, l[u]? = some x → getE (t + u) e' = x) ∧ ∀ v, v < 256 → (v < t ∨ t + l.length ≤ v) → getE v e' = getE v e := by
  intro m
  induction m with
  | zero =>
    intro t e l k _ h
    cases l with
    | nil => exact ⟨e, h, Nat.le_refl _, fun u x hx => by simp at hx, fun v _ _ => rfl⟩
    | cons x l => exact no h
  | succ m ih =>
    intro t e l k hlt h
    cases l with
    | nil => exact ⟨e, h, Nat.zero_le _, fun u x hx => by simp at hx, fun v _ _ => rfl⟩
    | cons x l =>
      have h' : entT m (t + 1) (putE t x e) l k = true := h
      have ht : t < 256 := hlt 0 (by omega)
      obtain ⟨e', h1, h2, h3, h4⟩ := ih (t + 1) _ l k (fun u hu => by have := hlt (u + 1) (by omega); omega) h'
      refine ⟨e', h1, by simp; omega, fun u y hy => ?_, fun v hv hr => ?_⟩
      · cases u with
        | zero =>
          simp at hy
          subst hy
          rw [Nat.add_zero, h4 t ht (.inl (by omega)), getE_same]
        | succ u =>
          rw [show t + (u + 1) = t + 1 + u by omega]
          exact h3 u y (by simpa using hy)
      · rw [h4 v hv (by simp at hr; omega), getE_ne hv ht (by simp at hr; omega)]
theorem getE_env0 (t : Nat) : getE t env0 = undefA := by
  have p : ∀ {α : Type} (d : D4) (x : α), pick4 d (n4 x) = x := fun d x => by cases d <;> rfl
  simp only [getE, env0, p]
theorem enter_env {n m : Nat} {mp : Mp} {F : Int} {l : List A} {args : Array Value} {e' : TE} (hok : ∀ u, u < m → okT n (0 + u) = true) (hv : VRs mp F l args.toList) (hl : l.length ≤ m) (h1 : ∀ u x, l[u]? = some x → getE (0 + u) e' = x) (h2 : ∀ v, v < 256 → (v < 0 ∨ 0 + l.length ≤ v) → getE v e' = getE v env0) :
    EnvR n [] mp F e' { tmps := args ++ Array.replicate (n - args.size) undef, defers := [] } := by
  have hlen : l.length = args.size := by rw [hv.length, Array.length_toList]
  have hn : args.size ≤ n := by
    rw [← hlen]
    rcases Nat.eq_zero_or_pos l.length with h0 | h0
    · omega
    · have := (okT_lt (hok (l.length - 1) (by omega))).1
      omega
  refine ⟨by simp; omega, rfl, fun t ht _ => ?_⟩
  obtain ⟨k1, k2⟩ := okT_lt ht
  by_cases hlt : t < args.size
  · have hx : l[t]? = some l[t] := List.getElem?_eq_getElem (by omega)
    have e1 := h1 t _ hx
    rw [Nat.zero_add] at e1
    rw [e1, Array.getD_eq_getD_getElem?, Array.getElem?_append_left hlt]
    refine hv.get hx ?_
    rw [Array.getElem?_eq_getElem hlt]
    simp [hlt]
  · rw [h2 t k2 (.inr (by omega)), getE_env0, Array.getD_eq_getD_getElem?, Array.getElem?_append_right (by omega)]
    have : (Array.replicate (n - args.size) undef)[t - args.size]? = some undef := by
      rw [Array.getElem?_replicate, if_pos (by omega)]
    rw [this]
    exact undef_VR
-- returning
/-- A result's value. -/
def resV (a : Act) : ResultVar → Sem Value
  | .tmp t => pure (a.tmps.getD t undef)
  | .cell c t => do loadVar t (← asAddr (a.tmps.getD c undef))
def ResS1 (n : Nat) (r : ResultVar) (f : Res1) : Prop := ∀ (F : Int) (b : Base) (m : Mp) (s : S) (w : World) (e : TE) (a : Act) (k : KA) (ds : List Deferred), St F b m s w → EnvR n ds m F e a → f e s k = true →
  ∃ v y, k v = true ∧ VR m F v y ∧ (resV a r).run Tryz.prog w = .ok y w
theorem load_asAddr {t : TypeId} {y : Value} {v : A} {m : Mp} {F : Int} {w : World} {z : Value} (hv : VR m F v y) {q : Q} {o : Nat} (he : v = .p q o) (h : (Instr.loadAt t y).run Tryz.prog w = .ok z w) : ((do loadVar t (← asAddr y)) : Sem Value).run Tryz.prog w = .ok z w := by
  subst he
  obtain ⟨β, zz, _, rfl⟩ := hv.p_inv
  exact h
theorem resB_made (n : Nat) (r : ResultVar) : (∃ f, ResS1 n r f ∧ ∀ {R : Type} (bad : R) (k : Res1 → R), resB Tryz.prog n r bad k = k f) ∨ ∀ {R : Type} (bad : R) (k : Res1 → R), resB Tryz.prog n r bad k = bad := by
  cases r with
  | tmp t =>
    have e : ∀ {R : Type} (bad : R) (k : Res1 → R), resB Tryz.prog n (.tmp t) bad k = opdB n (.tmp t) bad fun x => k (resT x) := fun bad k => rfl
    rcases opdB_eq n (.tmp t) with ⟨h1, h2⟩ | h2
    · refine .inl ⟨resT (opT (.tmp t)), ?_, fun bad k => by rw [e, h2]⟩
      intro F b m s w e a k ds hS hE h
      exact ⟨_, _, h, hE.at_ t h1 fun h => h, rfl⟩
    · exact .inr fun bad k => by rw [e, h2]
  | cell c t =>
    rcases opdB_eq n (.tmp c) with ⟨h1, h2⟩ | h2
    · cases ha : aggT Tryz.prog t with
      | true =>
        cases hi : Tryz.prog.info? t with
        | none => exact .inr fun bad k => by simp only [resB, h2, ha, szB, hi]
        | some i =>
          have hn : undT Tryz.prog t ≠ .invalid := fun e => by unfold aggT at ha; rw [e] at ha; cases ha
          obtain ⟨hu, hr⟩ := row_of rfl hn
          refine .inl ⟨resG (opT (.tmp c)) (rloadN i.size), ?_, fun bad k => by simp only [resB, h2, ha, szB, hi, fNB_eq]⟩
          intro F b m s w e a k ds hS hE h
          have hv := hE.at_ c h1 fun h => h
          obtain ⟨q, o, hq, _⟩ := asP_iff.1 (show asP (getE c e) (fun r o => readK s r fun l => partN i.size o l k) = true from h)
          have h' : rloadN i.size s (getE c e) k = true := h
          obtain ⟨v, g1, y, g2, g3⟩ := loadN_R hu (hr.trans ha) (by rw [hi]; rfl) F b m s w _ _ _ hS hv h'
          rw [g1] at h'
          exact ⟨v, y, h', g2, load_asAddr hv hq g3⟩
      | false =>
        have key : undT Tryz.prog t ≠ .invalid → ResS1 n (.cell c t) (resG (opT (.tmp c)) rload1) := by
          intro hn F b m s w e a k ds hS hE h
          obtain ⟨hu, hr⟩ := row_of rfl hn
          have hv := hE.at_ c h1 fun h => h
          obtain ⟨q, o, hq, _⟩ := asP_iff.1 (show asP (getE c e) (fun r o => readK s r fun l => part1 o l k) = true from h)
          have h' : rload1 s (getE c e) k = true := h
          obtain ⟨v, g1, y, g2, g3⟩ := load1_R hu (hr.trans ha) F b m s w _ _ _ hS hv h'
          rw [g1] at h'
          exact ⟨v, y, h', g2, load_asAddr hv hq g3⟩
        cases hd : undT Tryz.prog t with
        | invalid => exact .inr fun bad k => by simp only [resB, h2, ha, hd]
        | _ => exact .inl ⟨_, key (by rw [hd]; exact fun e => by cases e), fun bad k => by simp only [resB, h2, ha, hd]⟩
    · exact .inr fun bad k => by simp only [resB, h2]
def ResSL (n : Nat) (rs : List ResultVar) (f : ResL) : Prop := ∀ (F : Int) (b : Base) (m : Mp) (s : S) (w : World) (e : TE) (a : Act) (k : List A → Bool) (ds : List Deferred), St F b m s w → EnvR n ds m F e a → f e s k = true →
  ∃ l ys, k l = true ∧ VRs m F l ys ∧ ys.length = rs.length ∧ (rs.mapM (resV a)).run Tryz.prog w = .ok ys w
theorem resLB_made (n : Nat) (rs : List ResultVar) : (∃ f, ResSL n rs f ∧ ∀ {R : Type} (bad : R) (k : ResL → R), resLB Tryz.prog n rs bad k = k f) ∨ ∀ {R : Type} (bad : R) (k : ResL → R), resLB Tryz.prog n rs bad k = bad := by
  induction rs with
  | nil =>
    refine .inl ⟨resL0, ?_, fun bad k => rfl⟩
    intro F b m s w e a k ds hS hE h
    exact ⟨[], [], h, .nil, rfl, rfl⟩
  | cons r rs ih =>
    have e : ∀ {R : Type} (bad : R) (k : ResL → R), resLB Tryz.prog n (r :: rs) bad k = resB Tryz.prog n r bad fun f => resLB Tryz.prog n rs bad fun g => k (resLC f g) := fun bad k => rfl
    rcases resB_made n r with ⟨f, h1, h2⟩ | h2
    · rcases ih with ⟨g, h3, h4⟩ | h4
      · refine .inl ⟨resLC f g, ?_, fun bad k => by rw [e, h2, h4]⟩
        intro F b m s w e a k ds hS hE h
        have h' : f e s (fun v => g e s fun l => k (v :: l)) = true := h
        obtain ⟨v, y, k1, k2, k3⟩ := h1 F b m s w e a _ ds hS hE h'
        obtain ⟨l, ys, k4, k5, k7, k6⟩ := h3 F b m s w e a _ ds hS hE k1
        refine ⟨v :: l, y :: ys, k4, .cons k2 k5, by simp [k7], ?_⟩
        rw [List.mapM_cons, Sem.run_bind, k3, Result.andThen_ok, Sem.run_bind, k6]
        rfl
      · exact .inr fun bad k => by rw [e, h2, h4]
    · exact .inr fun bad k => by rw [e, h2]
def ResS (n : Nat) (fn : Func) (f : ResF) : Prop := ∀ (F : Int) (b : Base) (m : Mp) (s : S) (w : World) (e : TE) (a : Act) (k : KS) (ds : List Deferred), St F b m s w → EnvR n ds m F e a → f e s k = true →
  ∃ v y, k v s = true ∧ VR m F v y ∧ (results fn a.tmps).run Tryz.prog w = .ok y w
theorem results_list (fn : Func) (a : Act) (w : World) {ys : List Value} (h : (fn.results.toList.mapM (resV a)).run Tryz.prog w = .ok ys w) : (results fn a.tmps).run Tryz.prog w = .ok (if h : ys.toArray.size = 1 then ys.toArray[0] else .tuple ys.toArray) w := by
  have e : results fn a.tmps = (do let vs ← fn.results.mapM (resV a); pure (if h : vs.size = 1 then vs[0] else .tuple vs) : Sem Value) := rfl
  rw [e, Array.mapM_eq_mapM_toList, map_eq_pure_bind, Sem.run_bind, Sem.run_bind]
  rw [h]
  rfl
theorem resultsB_made (n : Nat) (fn : Func) : (∃ f, ResS n fn f ∧ ∀ {R : Type} (bad : R) (k : ResF → R), resultsB Tryz.prog n fn.results.toList bad k = k f) ∨ ∀ {R : Type} (bad : R) (k : ResF → R), resultsB Tryz.prog n fn.results.toList bad k = bad := by
  have many : ∀ rs, fn.results.toList = rs → rs.length ≠ 1 → (∀ {R : Type} (bad : R) (k : ResF → R), resultsB Tryz.prog n rs bad k = resLB Tryz.prog n rs bad fun f => k (resN f)) →
      (∃ f, ResS n fn f ∧ ∀ {R : Type} (bad : R) (k : ResF → R), resultsB Tryz.prog n rs bad k = k f) ∨ ∀ {R : Type} (bad : R) (k : ResF → R), resultsB Tryz.prog n rs bad k = bad := by
    intro rs hrs hlen e
    rcases resLB_made n rs with ⟨f, h1, h2⟩ | h2
    · refine .inl ⟨resN f, ?_, fun bad k => by rw [e, h2]⟩
      intro F b m s w e a k ds hS hE h
      have h' : f e s (fun l => k (.g true l) s) = true := h
      obtain ⟨l, ys, k1, k2, hl, k3⟩ := h1 F b m s w e a _ ds hS hE h'
      refine ⟨_, .tuple ys.toArray, k1, VR.tup_iff.2 ⟨_, rfl, by simpa using k2⟩, ?_⟩
      have := results_list fn a w (ys := ys) (by rw [hrs]; exact k3)
      rw [this]
      have hn : ¬ ys.toArray.size = 1 := by simp; omega
      rw [dif_neg hn]
    · exact .inr fun bad k => by rw [e, h2]
  cases hrs : fn.results.toList with
  | nil => exact many [] hrs (by simp) fun bad k => rfl
  | cons r rs =>
    cases rs with
    | nil =>
      have e : ∀ {R : Type} (bad : R) (k : ResF → R), resultsB Tryz.prog n [r] bad k = resB Tryz.prog n r bad fun f => k (res1 f) := fun bad k => rfl
      rcases resB_made n r with ⟨f, h1, h2⟩ | h2
      · refine .inl ⟨res1 f, ?_, fun bad k => by rw [e, h2]⟩
        intro F b m s w e a k ds hS hE h
        have h' : f e s (fun v => k v s) = true := h
        obtain ⟨v, y, k1, k2, k3⟩ := h1 F b m s w e a _ ds hS hE h'
        refine ⟨v, y, k1, k2, ?_⟩
        have := results_list fn a w (ys := [y]) (by rw [hrs, List.mapM_cons, Sem.run_bind, k3]; rfl)
        rw [this]
        rfl
      · exact .inr fun bad k => by rw [e, h2]
    | cons r2 rs => exact many (r :: r2 :: rs) hrs (by simp) fun bad k => rfl
end Go.Proofs.YtpknalhjgbgpiaaGreatDoor
noncomputable section
namespace Go.Proofs.YtpknalhjgbgpiaaGreatDoor
open Go Go.RowKit
/-- A function's box is sound. -/
def BoxS (F : Int) (f : FuncId) (bx : Box) : Prop := ∀ (rec : Rec), RecS F rec → ∀ (l : List A) (s : S) (k : KS), runBox bx rec l s k = true → Enters f ∧ ∀ (b : Base) (m : Mp) (w : World) (args : Array Value), St F b m s w → VRs m F l args.toList →
  Calls Tryz.prog f args w fun e w' => ∃ v s' m' x, e = .returned x ∧ k v s' = true ∧ St F b m' s' w' ∧ m.le m' ∧ VR m' F v x
theorem box_stuck {F : Int} {f : FuncId} (w : String) : BoxS F f (stkB w) := fun _ _ _ _ _ h => no h
theorem enters_of {f : FuncId} {fn : Func} {c : Code} (hf : Tryz.prog.funcs[f]? = some fn) (hb : fn.body = some c) (hn : (fn.name == "runtime.NumGoroutine") = false) : Enters f := by
  intro args w
  unfold callFunc
  rw [Sem.run_bind, run_program, Result.andThen_ok]
  simp only [hf, hn, hb, Option.isNone_some, Bool.false_eq_true, if_false]
  rfl
/-- A block that nothing speaks of turns. -/
theorem St.other {F : Int} {b : Base} {m : Mp} {s : S} {w : World} (h : St F b m s w) {D : Nat} (hb : b.W.heap.size ≤ D) (hn : ¬ liveB m s D) (o : Obj) : St F b m s (w.putObj D o) := by
  refine ⟨fun q β z hq hl => ?_, h.inj, fun q β z hq => by rw [World.putObj_size]; exact h.lt q β z hq, h.fresh, h.mono, h.next, h.old, ?_, h.own, h.lo, h.hi, h.glob⟩
  · obtain ⟨obj, h1, h2⟩ := h.live q β z hq hl
    have hne : β ≠ D := fun e => hn ⟨q, z, e ▸ hq, hl⟩
    exact ⟨obj, (World.putObj_heap_other hne).trans h1, h2⟩
  · exact ⟨h.fr.os, h.fr.tape, h.fr.output, by rw [World.putObj_size]; exact h.fr.size, fun i hi hni => (World.putObj_heap_other (by omega)).trans (h.fr.block i hi hni)⟩
theorem leaves_marks {F : Int} {b : Base} {m : Mp} {s : S} {fn : Func} {tmps : Array Value} {R : Ending → World → Prop} : ∀ (Ds : List Nat) (w : World), St F b m s w → Ds.Nodup → (∀ D ∈ Ds, w.heap[D]? = some (.deferred (some [])) ∧ ¬ liveB m s D ∧ b.W.heap.size ≤ D) →
    (∀ w2, St F b m s w2 → ∃ v, (results fn tmps).run Tryz.prog w2 = .ok v w2 ∧ R (.returned v) w2) → LeavesInM Fence.wide 0 Tryz.prog fn tmps R (Ds.map markD) .returning w := by
  intro Ds
  induction Ds with
  | nil => exact fun w hS _ _ hr => hr w hS
  | cons D Ds ih =>
    intro w hS hnd hD hr
    obtain ⟨h1, h2, h3⟩ := hD D (by simp)
    rw [List.nodup_cons] at hnd
    refine ⟨(fun e => by cases e), .inl ⟨D, _, rfl, run_takeDeferred h1, ih _ (hS.other h3 h2 _) hnd.2 (fun D' hD' => ?_) hr⟩⟩
    obtain ⟨k1, k2, k3⟩ := hD D' (by simp [hD'])
    exact ⟨(World.putObj_heap_other (show D' ≠ D from fun e => hnd.1 (e ▸ hD'))).trans k1, k2, k3⟩
theorem box_body {F : Int} {f : FuncId} {fn : Func} {bk : BK} {pl : List (Nat × List Nat)} (hR : ∀ n, RangeS n bk) (hf : Tryz.prog.funcs[f]? = some fn) (hn : (fn.name == "runtime.NumGoroutine") = false) (hp : ∀ c, fn.body = some c → okPl pl c = true) : BoxS F f (bodyB Tryz.prog bk pl fn) := by
  cases hb : fn.body with
  | none =>
    have e : bodyB Tryz.prog bk pl fn = stkB "no body" := by unfold bodyB; rw [hb]
    rw [e]
    exact box_stuck _
  | some c =>
    have e : bodyB Tryz.prog bk pl fn = fNB fn.ntmps fun n => entB n (fn.params.size + fn.nfree) 0 (stkB "enter") fun en => codeB Tryz.prog bk pl n c fun c => resultsB Tryz.prog n fn.results.toList (stkB "results") fun r => .mk (bodyF en c r) := by unfold bodyB; rw [hb]
    rw [e, fNB_eq]
    rcases entB_eq fn.ntmps (fn.params.size + fn.nfree) 0 with ⟨hok, h1⟩ | h1
    · obtain ⟨cf, h2, _, h3⟩ := code_made (hR fn.ntmps) c (hp c hb)
      rcases resultsB_made fn.ntmps fn with ⟨r, h4, h5⟩ | h5
      · rw [h1, h3, h5]
        intro rec hrec l s k h
        refine ⟨enters_of hf hb hn, fun b m w args hS hv => ?_⟩
        have h' : entT (fn.params.size + fn.nfree) 0 env0 l (fun e => cf rec e s (fun e s => r e s k) (fun _ _ _ => stk "exit") fun e s => r e s k) = true := h
        obtain ⟨e', k1, k2, k3, k4⟩ := entT_iff _ _ _ _ _ (fun u hu => (okT_lt (hok u hu)).2) h'
        have hE := enter_env hok hv k2 k3 k4
        refine callsIn_wide.1 (callsIn_of_wp_marks (F := Fence.wide) (n := 0) hf hb trivial (wpIn_wide.2 (wp_mono (h2 F rec hrec b m s w e' _ _ _ _ [] hS hE Marks.nil k1) fun x a' w' hq => ?_)) rfl)
        obtain ⟨e2, s2, m2, ds, q1, q2, q3, qM, q4⟩ := hq
        have fin : r e2 s2 k = true → LeavesInM Fence.wide 0 Tryz.prog fn a'.tmps (fun e w' => ∃ v s' m' x, e = Ending.returned x ∧ k v s' = true ∧ St F b m' s' w' ∧ m.le m' ∧ VR m' F v x) a'.defers .returning w' := by
          intro hr
          obtain ⟨Ds, rfl, hnd, hDs⟩ := qM
          rw [q3.defers]
          exact leaves_marks Ds w' q1 hnd hDs fun w2 hS2 => by
            obtain ⟨v, y, r1, r2, r3⟩ := h4 F b m2 s2 w2 e2 a' k _ hS2 q3 hr
            exact ⟨y, r3, v, s2, m2, y, rfl, r1, hS2, q2, r2⟩
        cases x with
        | normal => exact fin q4
        | ret => exact fin q4
        | exit id => exact no q4
        | _ => exact q4.elim
      · rw [h1, h3, h5]
        exact box_stuck _
    · rw [h1]
      exact box_stuck _
/-- Calls of functions by their boxes, so deep. -/
def runG (bxs : FuncId → Box) (n : Nat) : Rec := Nat.rec (motive := fun _ => Rec) (fun _ _ _ _ => false) (fun _ ih f l s k => runBox (bxs f) ih l s k) n
theorem run_sound {F : Int} {bxs : FuncId → Box} (h : ∀ f, BoxS F f (bxs f)) (n : Nat) : RecS F (runG bxs n) := by
  induction n with
  | zero => exact fun f l s k h => no h
  | succ n ih => exact fun f l s k hk => h f _ ih l s k hk
end Go.Proofs.YtpknalhjgbgpiaaGreatDoor
