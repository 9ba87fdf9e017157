/- Parts of the proof: EvR2, EvW1, EvW2. -/
import Derived.RangeFuncOwn
import Derived.Test.YtpknalhjgbgpiaaGreatDoorM0
import Derived.Test.YtpknalhjgbgpiaaGreatDoorM17
import Derived.Test.YtpknalhjgbgpiaaGreatDoorM21
noncomputable section
namespace Go.Proofs.YtpknalhjgbgpiaaGreatDoor
open Go Go.RowKit
/-- The world of a loop: its record, the block for its rounds' deferred calls. -/
structure LW (F : Int) (b : Base) (L D : Nat) (rc : Loop) (ds : List Deferred) (m : Mp) (s : S) (W : World) : Prop where
  st : St F b m s W
  rc : W.heap[L]? = some (.loop rc)
  dfr : W.heap[D]? = some (.deferred (some []))
  nl : ¬ liveB m s L
  nd : ¬ liveB m s D
  marks : Marks ds b W m s
section
variable {F : Int} {b : Base} {L D : Nat} {rc rc' : Loop} {ds : List Deferred} {m m' : Mp} {s s' : S} {W W' : World}
theorem live_keep (h : ¬ liveB m s L) (hL : L < W.heap.size) (k : St F ⟨W, liveB m s, m, s⟩ m' s' W') : ¬ liveB m' s' L := by
  rintro ⟨q, z, h1, h2⟩
  rcases k.own q L z h1 h2 with h3 | h3
  · exact h h3
  · exact absurd hL (Nat.not_lt.2 h3)
theorem LW.step (h : LW F b L D rc ds m s W) (k : St F ⟨W, liveB m s, m, s⟩ m' s' W') : LW F b L D rc ds m' s' W' := by
  have hL : L < W.heap.size := (Array.getElem?_eq_some_iff.1 h.rc).1
  have hD : D < W.heap.size := (Array.getElem?_eq_some_iff.1 h.dfr).1
  exact ⟨h.st.trans k, (k.fr.block L hL h.nl).trans h.rc, (k.fr.block D hD h.nd).trans h.dfr, live_keep h.nl hL k, live_keep h.nd hD k, h.marks.keep k⟩
theorem LW.turn (h : LW F b L D rc ds m s W) (hb : b.W.heap.size ≤ L) (rc' : Loop) : LW F b L D rc' ds m s (W.putObj L (.loop rc')) := by
  have hL : L < W.heap.size := (Array.getElem?_eq_some_iff.1 h.rc).1
  have ne : ∀ {D : Nat}, W.heap[D]? = some (.deferred (some [])) → D ≠ L := by
    rintro D h1 rfl
    rw [h.rc] at h1
    cases h1
  refine ⟨h.st.other hb h.nl _, World.putObj_heap_same hL, (World.putObj_heap_other (ne h.dfr)).trans h.dfr, h.nl, h.nd, ?_⟩
  obtain ⟨Ds, h1, h2, h3⟩ := h.marks
  refine ⟨Ds, h1, h2, fun D' hD' => ?_⟩
  obtain ⟨k1, k2, k3⟩ := h3 D' hD'
  exact ⟨(World.putObj_heap_other (ne k1)).trans k1, k2, k3⟩
end
/-- The closures that are known. -/
def BKS (tab : BK) : Prop := ∀ g agg sz, tab.lookup g = some (agg, sz) → ∃ SL T, IsBack g SL T sz ∧ aggT Tryz.prog T = agg ∧ undT Tryz.prog T ≠ .invalid
/-- A part of a row of cells, loaded. -/
theorem part_load {T : TypeId} {agg : Bool} {sz : Nat} (ha : aggT Tryz.prog T = agg) (hn : undT Tryz.prog T ≠ .invalid) (hs : (Tryz.prog.info? T).map (·.size) = some sz) {F : Int} {b : Base} {m : Mp} {s : S} {w : World} (hS : St F b m s w) {r : Q} {β z off : Nat} (hr : m r = some (β, z)) {c : KA}
    (h : readK s r (fun l => partB agg sz off l c) = true) : ∃ v y, c v = true ∧ VR m F v y ∧ (Instr.loadAt T (.pointer (some ⟨β, off, none⟩))).run Tryz.prog w = .ok y w := by
  obtain ⟨hu, hrow⟩ := row_of rfl hn
  cases agg with
  | true =>
    have h' : rloadN sz s (.p r off) c = true := h
    obtain ⟨v, g1, y, g2, g3⟩ := loadN_R hu (hrow.trans ha) hs F b m s w _ _ _ hS (.p hr) h'
    rw [g1] at h'
    exact ⟨v, y, h', g2, g3⟩
  | false =>
    have h' : rload1 s (.p r off) c = true := h
    obtain ⟨v, g1, y, g2, g3⟩ := load1_R hu (hrow.trans ha) F b m s w _ _ _ hS (.p hr) h'
    rw [g1] at h'
    exact ⟨v, y, h', g2, g3⟩
theorem St.alloc {F : Int} {b : Base} {m : Mp} {s : S} {w : World} (h : St F b m s w) (o : Obj) : St F b m s (w.alloc o) := by
  refine ⟨fun q β z hq hl => ?_, h.inj, fun q β z hq => by have := h.lt q β z hq; simp; omega, h.fresh, h.mono, h.next, h.old, h.fr.alloc o, h.own, h.lo, h.hi, h.glob⟩
  obtain ⟨obj, h1, h2⟩ := h.live q β z hq hl
  exact ⟨obj, (Below.heap_alloc w o β (h.lt q β z hq)).trans h1, h2⟩
/-- A loop's record. -/
def rcd (a : Act) (p q : Tmp) (c d : Code) (D : Nat) (fn : FuncId) (st : LoopState) (pe : Option Code) : Loop := { state := st, pending := pe, fn, tmps := a.tmps, params := #[p, q], assign := c, body := d, defers := D }
theorem LW.begin {F : Int} {b : Base} {ds : List Deferred} {m : Mp} {s : S} {w : World} (hS : St F b m s w) (hM : Marks ds b w m s) (rc : Loop) : LW F b (w.heap.size + 1) w.heap.size rc ds m s ((w.alloc (.deferred (some []))).alloc (.loop rc)) := by
  have e1 : ∀ i, i < w.heap.size → ((w.alloc (.deferred (some []))).alloc (.loop rc)).heap[i]? = w.heap[i]? := fun i hi => (Below.heap_alloc _ _ i (by simp; omega)).trans (Below.heap_alloc _ _ i hi)
  refine ⟨(hS.alloc _).alloc _, ?_, (Below.heap_alloc _ _ _ (by simp)).trans (World.alloc_heap_new w _), fun ⟨q, z, h1, _⟩ => ?_, fun ⟨q, z, h1, _⟩ => ?_, ?_⟩
  · have := World.alloc_heap_new (w.alloc (.deferred (some []))) (.loop rc)
    rwa [World.size_alloc] at this
  · have := hS.lt q _ z h1; omega
  · have := hS.lt q _ z h1; omega
  · obtain ⟨Ds, h1, h2, h3⟩ := hM
    refine ⟨Ds, h1, h2, fun D hD => ?_⟩
    obtain ⟨k1, k2, k3⟩ := h3 D hD
    exact ⟨(e1 D (Array.getElem?_eq_some_iff.1 k1).1).trans k1, k2, k3⟩
theorem markD_inj {a b : Nat} (h : markD a = markD b) : a = b := by
  injection h with h _
  injection h
section
variable {n : Nat} {F : Int} {b : Base} {m : Mp} {w : World} {e : TE} {a : Act} {kn : KE} {ke : Nat → KE} {kr : KE} {ds : List Deferred} {p q : Tmp} {c d : Code}
/-- What is left between two rounds: so many of them. -/
def JB (F : Int) (b : Base) (L D : Nat) (rc : Loop) (ds : List Deferred) (m : Mp) (G : S → Nat → (S → Bool) → Bool) (fin : S → Bool) (k : Nat) (W : World) : Prop := ∃ m' s', m.le m' ∧ LW F b L D rc ds m' s' W ∧ backF G k s' fin = true
/-- A round has left. -/
def JX (F : Int) (b : Base) (L D : Nat) (rc : Option Code → Loop) (ds : List Deferred) (m : Mp) (fr : S → Bool) (fe : Nat → S → Bool) (W : World) : Prop := ∃ m' s' j, m.le m' ∧ LW F b L D (rc (some j)) ds m' s' W ∧ ((j = .ret ∧ fr s' = true) ∨ ∃ id, j = .exit id ∧ fe id s' = true)
/-- The statement, once its closure and its rounds are known. -/
theorem range_wp {L D gf : Nat} {x : Operand} {cval : Value} {s : S} (hS : St F b m s w) (hE : EnvR n ds m F e a) (hM : Marks ds b w m s) (hL : w.heap.size + 1 = L) (hD : w.heap.size = D) (hev : a.eval x = .func (.func gf) #[] #[cval]) (hen : Enters gf)
    {G : S → Nat → (S → Bool) → Bool} {len : Nat} (hk : backF G len s (kn e) = true)
    (hcall : ∀ fn, JB F b L D (rcd a p q c d D fn .ready none) ds m G (kn e) len ((w.alloc (.deferred (some []))).alloc (.loop (rcd a p q c d D fn .ready none))) →
      CallsIn Fence.wide 0 Tryz.prog gf #[.func (.yield L) #[] #[], cval] ((w.alloc (.deferred (some []))).alloc (.loop (rcd a p q c d D fn .ready none))) fun e' W' => (∃ v, e' = .returned v) ∧ (JB F b L D (rcd a p q c d D fn .ready none) ds m G (kn e) 0 W' ∨ JX F b L D (rcd a p q c d D fn .done) ds m (kr e) (fun id => ke id e) W')) :
    (Code.rangeFunc x #[p, q] c d).wp Tryz.prog (PostM n F b m kn ke kr) a w := by
  have hDb : b.W.heap.size ≤ D := by rw [← hD]; exact hS.fr.size
  have hLb : b.W.heap.size ≤ L := by omega
  obtain ⟨Ds0, hds0, hnd0, hDs0⟩ := hM
  have hDn : D ∉ Ds0 := fun h => by
    have := (Array.getElem?_eq_some_iff.1 (hDs0 D h).1).1
    omega
  refine (wpIn_wide (n := 1)).1 (wpIn_rangeFunc (F := Fence.wide) fun fn _ => ?_)
  have hLW := LW.begin hS ⟨Ds0, hds0, hnd0, hDs0⟩ (rcd a p q c d D fn .ready none)
  rw [hL, hD] at hLW
  have hcall' := hcall fn ⟨m, s, Mp.le_refl _, hLW, hk⟩
  refine ⟨L, [markD D], ((w.alloc (.deferred (some []))).alloc (.loop (rcd a p q c d D fn .ready none))), { target := .fn (.func gf) #[cval], args := #[.func (.yield L) #[] #[]] }, ((w.alloc (.deferred (some []))).alloc (.loop (rcd a p q c d D fn .ready none))), gf, #[.func (.yield L) #[] #[], cval], ((w.alloc (.deferred (some []))).alloc (.loop (rcd a p q c d D fn .ready none))), ?_, ?_, fun f _ => trivial, ?_, (fun h => by cases h), hcall'.mono ?_⟩
  · have := run_enterLoop_outer (P := Tryz.prog) (w := w) fn a.tmps #[p, q] c d
    rw [hL, hD] at this
    exact this
  · simp only [resolve, hev]
    simp [Deferred.ofValue, Act.eval]
  · have e1 : invoke (.fn (.func gf) #[cval]) #[.func (.yield L) #[] #[]] = callFunc gf (#[.func (.yield L) #[] #[]] ++ #[cval]) := rfl
    have e2 : #[.func (.yield L) #[] #[]] ++ #[cval] = #[.func (.yield L) #[] #[], cval] := by simp
    simp only [e1, e2]
    exact hen _ _
  · rintro e' W' ⟨⟨v, rfl⟩, hJ⟩
    -- the marks and the temporaries behind it
    have fin : ∀ {m' : Mp} {s' : S} {W2 : World} {rc : Loop}, m.le m' → LW F b L D rc ds m' s' W2 → EnvR n (markD D :: ds) m' F e { a with defers := [markD D] ++ a.defers } ∧ Marks (markD D :: ds) b W2 m' s' := by
      intro m' s' W2 rc hm hlw
      refine ⟨⟨hE.size, by show markD D :: a.defers = _; rw [hE.defers], fun t ht hX => (hE.at_ t ht hX).mono hm⟩, ?_⟩
      obtain ⟨Ds, h1, h2, h3⟩ := hlw.marks
      refine ⟨D :: Ds, by rw [h1]; rfl, List.nodup_cons.2 ⟨fun hin => ?_, h2⟩, fun D' hD' => ?_⟩
      · have : markD D ∈ Ds0.map markD := by rw [← hds0, h1]; exact List.mem_map_of_mem hin
        obtain ⟨D', hD', he⟩ := List.mem_map.1 this
        rw [← markD_inj he] at hDn
        exact hDn hD'
      · rcases List.mem_cons.1 hD' with rfl | hD'
        · exact ⟨hlw.dfr, hlw.nd, hDb⟩
        · exact h3 D' hD'
    rcases hJ with ⟨m', s', hm, hlw, hkk⟩ | ⟨m', s', j, hm, hlw, hj⟩
    · have hlw' := hlw.turn hLb { rcd a p q c d D fn .ready none with state := .exhausted }
      obtain ⟨f1, f2⟩ := fin hm hlw'
      exact ⟨none, _, run_endLoop hlw.rc (fun e => by cases e), e, s', m', _, hlw'.st, hm, f1, f2, hkk⟩
    · have hlw' := hlw.turn hLb { rcd a p q c d D fn .done (some j) with state := .exhausted }
      obtain ⟨f1, f2⟩ := fin hm hlw'
      refine ⟨some j, _, run_endLoop hlw.rc (fun e => by cases e), ?_⟩
      rcases hj with ⟨rfl, hj⟩ | ⟨id, rfl, hj⟩
      · exact wpIn_ret ⟨e, s', m', _, hlw'.st, hm, f1, f2, hj⟩
      · exact wpIn_exit ⟨e, s', m', _, hlw'.st, hm, f1, f2, hj⟩
/-- A round. -/
theorem round_in {L D fn nf : Nat} {f g : CF} {rec : Rec} {m' : Mp} {s' : S} {W : World} {k : Nat} {y : A} {yv : Value} {fin : S → Bool} (hc : CodeSI n c f) (hd : CodeSI n d g) (hrec : RecS F rec) (hp : okT n p = true) (hq : okT n q = true) (hLb : b.W.heap.size ≤ L) (hE : EnvR n ds m F e a) (hm : m.le m')
    (hlw : LW F b L D (rcd a p q c d D fn .ready none) ds m' s' W) (hy : VR m' F y yv)
    (h : f rec (putE q y (putE p (.i (Int.ofNat k)) e)) s' (fun e' s => g rec e' s (fun _ s => fin s) (fun j _ s => ke j e s) fun _ s => kr e s) (fun _ _ _ => stk "range") (fun _ _ => stk "range") = true) :
    YieldAt Fence.wide nf Tryz.prog L #[.int .i64 k, yv] W fun e' W' => (e' = .returned (.bool true) ∧ ∃ m2 s2, m.le m2 ∧ LW F b L D (rcd a p q c d D fn .ready none) ds m2 s2 W' ∧ fin s2 = true) ∨ (e' = .returned (.bool false) ∧ JX F b L D (rcd a p q c d D fn .done) ds m (kr e) (fun id => ke id e) W') := by
  refine ⟨fn, _, c, d, run_yield hlw.rc rfl, roundIn_of_wpIn trivial ?_⟩
  have ht : ((rcd a p q c d D fn .ready none).params.zip #[Value.int .i64 k, yv]).foldl (fun tmps (t, a) => tmps.setIfInBounds t a) (rcd a p q c d D fn .ready none).tmps = ((({ a with defers := [] } : Act).put (some p) (.int .i64 k)).put (some q) yv).tmps := by
    show (#[p, q].zip #[Value.int .i64 k, yv]).foldl _ a.tmps = _
    simp [Act.put]
  rw [ht]
  have hE0 : EnvR n [] m' F e { a with defers := [] } := ⟨hE.size, rfl, fun t h1 h2 => (hE.at_ t h1 h2).mono hm⟩
  have hE1 : EnvR n [] m' F (putE q y (putE p (.i (Int.ofNat k)) e)) ((({ a with defers := [] } : Act).put (some p) (.int .i64 k)).put (some q) yv) :=
    (((hE0.put (d := some p) hp (VR.i _)).weak fun t h => h.1).put (d := some q) hq hy).weak fun t h => h.1
  have hact : ({ tmps := ((({ a with defers := [] } : Act).put (some p) (.int .i64 k)).put (some q) yv).tmps, defers := [] } : Act) = (({ a with defers := [] } : Act).put (some p) (.int .i64 k)).put (some q) yv := rfl
  rw [hact]
  refine wpIn_mono (hc L nf F rec hrec ⟨W, liveB m' s', m', s'⟩ m' s' W _ _ _ _ _ [] hlw.st.rebase hE1 h) fun x a3 W3 hq3 => ?_
  obtain ⟨e3, s3, m3, k1, k2, k3, k4⟩ := hq3
  cases x with
  | normal =>
    have hlw3 := hlw.step k1
    refine ⟨_, run_beginRound hlw3.rc rfl, ?_⟩
    have hlw4 := hlw3.turn hLb { rcd a p q c d D fn .ready none with state := .busy }
    refine wpIn_mono (hd L nf F rec hrec ⟨_, liveB m3 s3, m3, s3⟩ m3 s3 _ e3 a3 _ _ _ [] hlw4.st.rebase k3 k4) fun x a5 W5 hq5 => ?_
    obtain ⟨e5, s5, m5, q1, q2, q3, q4⟩ := hq5
    have le5 : m.le m5 := Mp.le_trans hm (Mp.le_trans k2 q2)
    cases x with
    | normal =>
      have hlw5 := hlw4.step q1
      exact ⟨_, _, run_endRound none hlw5.rc, .inl ⟨rfl, m5, s5, le5, hlw5.turn hLb _, q4⟩⟩
    | ret =>
      have hlw5 := hlw4.step q1
      exact ⟨_, _, run_endRound (some .ret) hlw5.rc, .inr ⟨rfl, m5, s5, .ret, le5, hlw5.turn hLb _, .inl ⟨rfl, q4⟩⟩⟩
    | exit id =>
      have hlw5 := hlw4.step q1
      exact ⟨_, _, run_endRound (some (.exit id)) hlw5.rc, .inr ⟨rfl, m5, s5, .exit id, le5, hlw5.turn hLb _, .inr ⟨id, rfl, q4⟩⟩⟩
    | _ => exact q4.elim
  | exit id => exact no k4
  | ret => exact no k4
  | _ => exact k4.elim
end
set_option maxHeartbeats 4000000 in
theorem range_sound {bk : BK} (hB : BKS bk) (n : Nat) : RangeS n bk := by
  intro x p q c d f g hx hp hq hc hd F rec hrec b m s w e a kn ke kr ds hS hE hM h
  obtain ⟨fn0, fs, cs, hxe, h1⟩ := asF_iff.1 (show asF (opT x e) _ = true from h)
  have hv := hE.opT hS.gl hx (fun _ _ h => h)
  rw [hxe] at hv
  cases fn0 with
  | func gf =>
    simp only at h1
    cases hlk : bk.lookup gf with
    | none => rw [hlk] at h1; exact no h1
    | some az =>
      obtain ⟨agg, sz⟩ := az
      rw [hlk] at h1
      cases fs with
      | cons y fs => exact no h1
      | nil =>
        obtain ⟨cv, rfl, h2⟩ := list1_iff h1
        obtain ⟨SL, T, hIB, hagg, hund⟩ := hB gf agg sz hlk
        obtain ⟨fst, cap, hev, hv1, hv2⟩ := VR.f_iff.1 hv
        have hfst : fst = #[] := by
          have := hv1.length
          simp at this
          exact Array.eq_empty_of_size_eq_zero this.symm
        subst hfst
        obtain ⟨cval, hcap, hcv⟩ := hv2.inv1
        have hcap' : cap = #[cval] := Array.toList_inj.1 hcap
        subst hcap'
        -- the captured cell
        have hslr : TypeDesc.isRow (.slice T) = false := rfl
        have load : ∀ {b' : Base} {m' : Mp} {s' : S} {w' : World} {k : KA}, St F b' m' s' w' → m.le m' → rload1 s' cv k = true → ∃ v y, (∀ c', rload1 s' cv c' = c' v) ∧ k v = true ∧ VR m' F v y ∧ (Instr.loadAt SL cval).run Tryz.prog w' = .ok y w' := by
          intro b' m' s' w' k hS' hm hk
          obtain ⟨v, g1, y, g2, g3⟩ := load1_R hIB.sl hslr F b' m' s' w' _ _ _ hS' (hcv.mono hm) hk
          rw [g1] at hk
          exact ⟨v, y, g1, hk, g2, g3⟩
        obtain ⟨qc, oc, hcvq, _⟩ := asP_iff.1 (show asP cv (fun r o => readK s r fun l => part1 o l _) = true from h2)
        obtain ⟨βc, zc, hqc, rfl⟩ : ∃ β z, m qc = some (β, z) ∧ cval = .pointer (some ⟨β, oc, none⟩) := by
          rw [hcvq] at hcv
          exact hcv.p_inv
        obtain ⟨v0, y0, hdet, h3, hvy, hld⟩ := load hS (Mp.le_refl _) h2
        have hLb : b.W.heap.size ≤ w.heap.size + 1 := by have := hS.fr.size; omega
        -- the first load, in the world in which the rounds begin
        have hld1 : ∀ {W : World}, St F b m s W → ∃ y, VR m F v0 y ∧ (Instr.loadAt SL (.pointer (some ⟨βc, oc, none⟩))).run Tryz.prog W = .ok y W := by
          intro W hS1
          obtain ⟨v, y, g0, _, g2, g3⟩ := load hS1 (Mp.le_refl _) h2
          have e : v = v0 := ite_pin fun c => (g0 c).symm.trans (hdet c)
          rw [e] at g2
          exact ⟨y, g2, g3⟩
        have hW : ∀ rc, St F b m s ((w.alloc (.deferred (some []))).alloc (.loop rc)) := fun rc => (hS.alloc _).alloc _
        rcases asSl_iff.1 h3 with ⟨rfl, h4⟩ | ⟨r, o, len, es, cp, rfl, h4⟩
        · refine range_wp hS hE hM rfl rfl hev hIB.enters (G := fun _ _ _ => false) (len := 0) h4 fun fn hJ => ?_
          obtain ⟨y, g2, g3⟩ := hld1 (hW _)
          rw [g2.z1_inv] at g3
          exact back_in hIB (A0 := none) (J := JB F b (w.heap.size + 1) w.heap.size _ ds m (fun _ _ _ => false) (kn e)) (by omega) (fun k W hk => absurd hk (Nat.not_lt_zero k)) (fun k W hk => absurd hk (Nat.not_lt_zero k)) ⟨0, g3⟩ hJ
        · obtain ⟨hcond, h5⟩ := ifB_t.1 h4
          obtain ⟨hes, hlen⟩ := ifB_t.1 hcond
          have hes' : es = sz := Nat.eq_of_beq_eq_true hes
          subst hes'
          obtain ⟨β, z, cc, hmr, _, _, _, _⟩ := hvy.sl_inv
          have slice : ∀ {m' : Mp} {y' : Value}, m.le m' → VR m' F (.sl r o len es cp) y' → ∃ cap, y' = .slice (some ⟨β, o, none⟩) len cap := by
            intro m' y' hm hvr
            obtain ⟨β', z', cc', hmr', _, _, _, rfl⟩ := hvr.sl_inv
            rw [hm _ _ hmr] at hmr'
            cases hmr'
            exact ⟨cc', rfl⟩
          refine range_wp hS hE hM rfl rfl hev hIB.enters h5 fun fn hJ => ?_
          obtain ⟨y, g2, g3⟩ := hld1 (hW _)
          obtain ⟨cap1, rfl⟩ := slice (Mp.le_refl _) g2
          refine back_in hIB (A0 := some ⟨β, o, none⟩) (Nat.le_of_ble_eq_true hlen) (fun k W hk hJk => ?_) (fun k W hk hJk => ?_) ⟨cap1, g3⟩ hJ
          · obtain ⟨m', s', hm, hlw, hb⟩ := hJk
            obtain ⟨v', y', _, g4, g5, g6⟩ := load hlw.st hm hb
            obtain ⟨g7, _⟩ := ifB_t.1 (show ifB (eqA v' (.sl r o len es cp)) _ false = true from g4)
            rw [eqA_iff _ _ g7] at g5
            obtain ⟨cap2, rfl⟩ := slice hm g5
            exact ⟨cap2, g6⟩
          · obtain ⟨m', s', hm, hlw, hb⟩ := hJk
            obtain ⟨v', y', _, g4, g5, g6⟩ := load hlw.st hm hb
            obtain ⟨g7, g8⟩ := ifB_t.1 (show ifB (eqA v' (.sl r o len es cp)) _ false = true from g4)
            obtain ⟨y1, yv, g9, g10, g11⟩ := part_load hagg hund hIB.size hlw.st (hm _ _ hmr) g8
            refine ⟨⟨β, o, none⟩, yv, rfl, ?_, round_in hc hd hrec hp hq hLb hE hm hlw g10 g9⟩
            rw [Addr.add_mid]
            exact g11
  | _ => exact no h1
end Go.Proofs.YtpknalhjgbgpiaaGreatDoor
noncomputable section
namespace Go.Proofs.YtpknalhjgbgpiaaGreatDoor
open Go Go.RowKit
set_option maxRecDepth 100000 in
theorem back156 : IsBack 156 35 103 3 := isBack_of Tryz.f156 219 (by kernel_rfl) (by kernel_rfl) (by kernel_rfl) (by kernel_rfl) (by kernel_rfl) (by kernel_rfl) (by kernel_rfl)
set_option maxRecDepth 100000 in
theorem back160 : IsBack 160 22 9 1 := isBack_of Tryz.f160 222 (by kernel_rfl) (by kernel_rfl) (by kernel_rfl) (by kernel_rfl) (by kernel_rfl) (by kernel_rfl) (by kernel_rfl)
set_option maxRecDepth 100000 in
theorem back168 : IsBack 168 183 191 7 := isBack_of Tryz.f168 227 (by kernel_rfl) (by kernel_rfl) (by kernel_rfl) (by kernel_rfl) (by kernel_rfl) (by kernel_rfl) (by kernel_rfl)
theorem agg103 : aggT Tryz.prog 103 = true := by kernel_rfl
theorem agg9 : aggT Tryz.prog 9 = false := by kernel_rfl
theorem agg191 : aggT Tryz.prog 191 = true := by kernel_rfl
theorem und9 : undT Tryz.prog 9 = .string := by kernel_rfl
theorem bks_ok : BKS bkT := by
  intro g agg sz h
  unfold bkT at h
  rw [List.lookup_cons] at h
  cases e1 : g == 156 with
  | true =>
    rw [e1] at h
    obtain rfl : g = 156 := by simpa using e1
    obtain ⟨rfl, rfl⟩ : true = agg ∧ 3 = sz := by simpa using h
    exact ⟨35, 103, back156, agg103, fun e => by have := agg103; unfold aggT at this; rw [e] at this; cases this⟩
  | false =>
    rw [e1] at h
    simp only at h
    rw [List.lookup_cons] at h
    cases e2 : g == 160 with
    | true =>
      rw [e2] at h
      obtain rfl : g = 160 := by simpa using e2
      obtain ⟨rfl, rfl⟩ : false = agg ∧ 1 = sz := by simpa using h
      exact ⟨22, 9, back160, agg9, fun e => by rw [und9] at e; cases e⟩
    | false =>
      rw [e2] at h
      simp only at h
      rw [List.lookup_cons] at h
      cases e3 : g == 168 with
      | true =>
        rw [e3] at h
        obtain rfl : g = 168 := by simpa using e3
        obtain ⟨rfl, rfl⟩ : true = agg ∧ 7 = sz := by simpa using h
        exact ⟨183, 191, back168, agg191, fun e => by have := agg191; unfold aggT at this; rw [e] at this; cases this⟩
      | false => rw [e3] at h; cases h
theorem findP_mem {l : List (Nat × List (Nat × List Nat))} {f : Nat} {pl : List (Nat × List Nat)} (h : findP l f = some pl) : (f, pl) ∈ l := by
  induction l with
  | nil => cases h
  | cons p l ih =>
    obtain ⟨g, c⟩ := p
    have h' : (match Nat.beq f g with
      | true => some c
      | false => findP l f) = some pl := h
    cases e : Nat.beq f g with
    | true =>
      rw [e] at h'
      rw [Nat.eq_of_beq_eq_true e, ← Option.some.inj h']
      exact List.mem_cons_self
    | false =>
      rw [e] at h'
      exact List.mem_cons_of_mem _ (ih h')
theorem boxT_sound (F : Int) (f : FuncId) : BoxS F f (boxT f) := by
  unfold boxT
  cases h : findP plansT f with
  | none => exact box_stuck _
  | some pl =>
    simp only
    cases hf : Tryz.prog.funcs[f]? with
    | none => exact box_stuck _
    | some fn =>
      have ok := List.all_eq_true.1 plans_ok _ (findP_mem h)
      unfold okF at ok
      simp only [hf] at ok
      rw [Bool.and_eq_true_iff] at ok
      refine box_body (range_sound bks_ok) hf (by simpa using ok.1) fun c hc => ?_
      have := ok.2
      rw [hc] at this
      exact this
theorem boxF_sound (F : Int) (f : FuncId) : BoxS F f (boxF f) := by
  rcases boxF_eq f with h | h
  · rw [h]
    exact boxT_sound F f
  · rw [h]
    exact box_stuck _
end Go.Proofs.YtpknalhjgbgpiaaGreatDoor
noncomputable section
namespace Go.Proofs.YtpknalhjgbgpiaaGreatDoor
open Go Go.RowKit
section
variable {w : World} {g : Nat} {l : Int} {out : Bool} {n : Int}
theorem mout2 (c1 : w.cell? ⟨g, 1, none⟩ = some (.bool out)) : Calls Tryz.prog 133 #[.pointer (some ⟨g, 0, none⟩)] w fun e w' => e = .returned (.bool out) ∧ w = w' := by
  go_enter Tryz.func133, Tryz.ntmps133
  go_wp2_with fail
  go_ret
  exact ⟨rfl, rfl⟩
set_option maxHeartbeats 1000000 in
theorem mspend2_out (c1 : w.cell? ⟨g, 1, none⟩ = some (.bool out)) (hn : 0 ≤ n) (h : out = true) : Calls Tryz.prog 79 #[.pointer (some ⟨g, 0, none⟩), .int .i64 n] w fun e w' => e = .returned (.bool false) ∧ w' = w := by
  subst h
  have HO := Lib.hid (mout2 c1)
  have g1 : decide (n < 0) = false := decide_eq_false (by omega)
  go_enter Tryz.func79, Tryz.ntmps79
  go_wp2_with (
    go_at_call 133
    refine HO.out.mono ?_
    rintro e w2 ⟨rfl, rfl⟩)
  go_ret
  exact ⟨rfl, rfl⟩
set_option maxHeartbeats 1000000 in
theorem mspend2_short (c0 : w.cell? ⟨g, 0, none⟩ = some (.int .i64 l)) (c1 : w.cell? ⟨g, 1, none⟩ = some (.bool out)) (f0 : w.frozen? ⟨g, 0, none⟩ = false) (f1 : w.frozen? ⟨g, 1, none⟩ = false) (hn : 0 ≤ n) (h : out = false) (hlt : l < n) : Calls Tryz.prog 79 #[.pointer (some ⟨g, 0, none⟩), .int .i64 n] w fun e w' => e = .returned (.bool false) ∧ w' = (w.setCell ⟨g, 0, none⟩ (.int .i64 0)).setCell ⟨g, 1, none⟩ (.bool true) := by
  subst h
  have HO := Lib.hid (mout2 c1)
  have g1 : decide (n < 0) = false := decide_eq_false (by omega)
  have g2 : decide (l < n) = true := decide_eq_true hlt
  go_enter Tryz.func79, Tryz.ntmps79
  go_wp2_with (
    go_at_call 133
    refine HO.out.mono ?_
    rintro e w2 ⟨rfl, rfl⟩)
  go_ret
  exact ⟨rfl, rfl⟩
set_option maxHeartbeats 1000000 in
theorem mspend2_ok (c0 : w.cell? ⟨g, 0, none⟩ = some (.int .i64 l)) (c1 : w.cell? ⟨g, 1, none⟩ = some (.bool out)) (f0 : w.frozen? ⟨g, 0, none⟩ = false) (hn : 0 ≤ n) (h : out = false) (hl : 0 ≤ l) (hl2 : l ≤ 4611686018427387904) (hlt : ¬ l < n) : Calls Tryz.prog 79 #[.pointer (some ⟨g, 0, none⟩), .int .i64 n] w fun e w' => e = .returned (.bool true) ∧ w' = w.setCell ⟨g, 0, none⟩ (.int .i64 (l - n)) := by
  subst h
  have HO := Lib.hid (mout2 c1)
  have g1 : decide (n < 0) = false := decide_eq_false (by omega)
  have g2 : decide (l < n) = false := decide_eq_false hlt
  have g3 : IntKind.i64.wrap (l - n) = l - n := IntWalk.i64_in _ ⟨by omega, by omega⟩
  go_enter Tryz.func79, Tryz.ntmps79
  go_wp2_with (
    go_at_call 133
    refine HO.out.mono ?_
    rintro e w2 ⟨rfl, rfl⟩)
  go_ret
  exact ⟨rfl, rfl⟩
end
/-- A new meter. -/
def fNew : List A → S → KS → Bool := fun l s c => match l with
  | [.o (.sym o)] => newK s (.cells [.o (.sym o), .b false]) fun q s => c (.p q 0) s
  | [x] => asI x fun n => ifB (ltI n 0) (stk "New") (newK s (.cells [.i n, .b false]) fun q s => c (.p q 0) s)
  | _ => stk "New"
/-- Some is spent. -/
def fSpend : List A → S → KS → Bool := fun l s c => list2 l fun x y => asP x fun r o => asI y fun n => natI n fun n => ifB (Nat.beq o 0) (readK s r fun l => match l with
  | [.o (.sym o), .b false] => fN (Nat.add o n) fun m => ifB (writeK s r (.cells [.i 0, .b true]) fun s => c (.b false) ⟨s.h, s.next, s.lo, m⟩) (writeK s r (.cells [.o (.sym m), .b false]) fun s => c (.b true) ⟨s.h, s.next, m, s.hi⟩) false
  | [x, y] => asI x fun x => natI x fun x => asB y fun b => ifB (Nat.ble x 1000000) (ifB b (c (.b false) s) (ifB (Nat.blt x n) (writeK s r (.cells [.i 0, .b true]) fun s => c (.b false) s) (fN (Nat.sub x n) fun z => writeK s r (.cells [.i (Int.ofNat z), .b false]) fun s => c (.b true) s))) (stk "Spend")
  | _ => stk "Spend") (stk "Spend")
theorem ent_meter {g : FuncId} {fn : Func} (h1 : Tryz.prog.funcs[g]? = some fn) (h2 : fn.body.isSome = true) (h3 : (fn.name == "runtime.NumGoroutine") = false) : Enters g := by
  cases hb : fn.body with
  | none => rw [hb] at h2; cases h2
  | some c => exact enters_of h1 hb h3
theorem St.bounds {F : Int} {b : Base} {m : Mp} {s : S} {w : World} (h : St F b m s w) {lo hi : Nat} (h1 : (lo : Int) ≤ F) (h2 : hi = 0 ∨ F < hi) : St F b m ⟨s.h, s.next, lo, hi⟩ w := ⟨h.live, h.inj, h.lt, h.fresh, h.mono, h.next, h.old, h.fr, h.own, h1, h2, h.glob⟩
theorem box_new (F : Int) : BoxS F 9 (.mk fun _ l s k => fNew l s k) := by
  intro rec hrec l s k h
  refine ⟨ent_meter Tryz.func9 (by kernel_rfl) (by kernel_rfl), fun b m w args hS hv => ?_⟩
  have h' : fNew l s k = true := h
  -- any new meter
  have key : ∀ (v : A) (i : Int), 0 ≤ i → l = [v] → (∀ y, VR m F v y → y = .int .i64 i) → oneA v = true → newK s (.cells [v, .b false]) (fun q s => k (.p q 0) s) = true →
      Calls Tryz.prog 9 args w fun e w' => ∃ v s' m' x, e = .returned x ∧ k v s' = true ∧ St F b m' s' w' ∧ m.le m' ∧ VR m' F v x := by
    intro v i hi hl hvi ho hk
    subst hl
    obtain ⟨y, hy, hvy⟩ := hv.inv1
    have hargs : args = #[y] := Array.toList_inj.1 hy
    obtain rfl := hvi y hvy
    subst hargs
    obtain ⟨r, hr, hk2⟩ := newK_iff hk
    have hm : m s.next = none := (hS.fresh s.next (Nat.le_refl _)).2
    refine (mnew_any i w).mono fun e w' he => ?_
    obtain ⟨rfl, rfl⟩ := he
    rw [show max i 0 = i by omega]
    have hOR : OR m F 2 (.cells [v, .b false]) (.cells #[.int .i64 i, .bool false] 63) := OR.new (c := #[.int .i64 i, .bool false]) (.cons hvy (.one (.b false))) (by
      intro x hx
      rcases List.mem_cons.1 hx with rfl | hx
      · exact ho
      · rw [List.mem_singleton.1 hx]; rfl)
    obtain ⟨hB, hle⟩ := (hS.new (o := .cells [v, .b false]) hr).born (q := s.next) (z := 2) (obj := .cells #[.int .i64 i, .bool false] 63) (by simp only; omega) hS.next hm (by
      show OR m F 2 (getO s.next (s.put s.next (.cells [v, .b false])).h) _
      rw [S.get_put_same]
      exact hOR)
    exact ⟨_, _, _, _, rfl, hk2, hB, hle, .p (Mp.set_same _ _ _)⟩
  unfold fNew at h'
  split at h'
  · rename_i o
    refine key (.o (.sym o)) (F - o) ?_ rfl (fun y hy => by cases hy; rfl) rfl h'
    obtain ⟨y, _, hvy⟩ := hv.inv1
    cases hvy with
    | sym h => omega
  · obtain ⟨n, rfl, h1⟩ := asI_iff.1 h'
    rcases ifB_iff.1 h1 with ⟨_, h2⟩ | ⟨h2, h3⟩
    · exact no h2
    · rw [ltI_eq] at h2
      exact key (.i n) n (by simpa using h2) rfl (fun y hy => hy.i_inv) rfl h3
  · exact no h'
theorem box_spend (F : Int) (hF : F ≤ 1073741824) : BoxS F 79 (.mk fun _ l s k => fSpend l s k) := by
  intro rec hrec l s k h
  refine ⟨ent_meter Tryz.func79 (by kernel_rfl) (by kernel_rfl), fun b m w args hS hv => ?_⟩
  have h' : fSpend l s k = true := h
  unfold fSpend at h'
  obtain ⟨x, y, rfl, h1⟩ := list2_iff h'
  obtain ⟨xv, yv, hargs, hx, hy⟩ := hv.inv2
  have hargs' : args = #[xv, yv] := Array.toList_inj.1 hargs
  subst hargs'
  obtain ⟨q, o, rfl, h2⟩ := asP_iff.1 h1
  obtain ⟨β, z, hq, rfl⟩ := hx.p_inv
  obtain ⟨n, rfl, h3⟩ := asI_iff.1 h2
  obtain ⟨n, rfl, h4⟩ := natI_iff.1 h3
  obtain rfl := hy.i_inv
  obtain ⟨ho, h5⟩ := ifB_t.1 h4
  have ho' : o = 0 := Nat.eq_of_beq_eq_true ho
  subst ho'
  obtain ⟨l, hl, h6, _⟩ := readK_iff h5
  -- a meter's cells, written anew
  have wr : ∀ {vs : List A} {ys : List Value} {l' : List A}, getO q s.h = .cells l → l.length = 2 → vs.length ≤ 2 → VRs m F vs ys → (∀ x ∈ vs, oneA x = true) → l' = vs ++ l.drop vs.length → St F b m (s.put q (.cells l')) (w.setCells β 0 ys) := by
    intro vs ys l' hl hlen hvl hvr h1 he
    obtain ⟨_, _, h3⟩ := hS.write hq hl (o := 0) (vs := vs) (ys := ys) (by omega) hvr h1
    simp only [List.take_zero, List.nil_append, Nat.zero_add] at h3
    rw [he]
    exact h3
  have cells : ∀ {v0 v1 : A}, getO q s.h = .cells [v0, v1] → ∃ y0 y1, VR m F v0 y0 ∧ VR m F v1 y1 ∧ w.cell? ⟨β, 0, none⟩ = some y0 ∧ w.cell? ⟨β, 1, none⟩ = some y1 ∧ w.frozen? ⟨β, 0, none⟩ = false ∧ w.frozen? ⟨β, 1, none⟩ = false := by
    intro v0 v1 hl
    obtain ⟨c, t, fr, k1, k2, k3, k4, k5, k6, k7⟩ := hS.cells hq hl
    have hz : 2 ≤ z := k3
    obtain ⟨y0, y1, he, g0, g1⟩ := k4.inv2
    have a0 : c[0]? = some y0 := by
      have := congrArg (fun l => l[0]?) he
      simp only [List.length_cons, List.length_nil] at this
      rw [List.getElem?_take_of_lt (by omega)] at this
      simpa using this
    have a1 : c[1]? = some y1 := by
      have := congrArg (fun l => l[1]?) he
      simp only [List.length_cons, List.length_nil] at this
      rw [List.getElem?_take_of_lt (by omega)] at this
      simpa using this
    refine ⟨y0, y1, g0, g1, (k7 0).trans a0, (k7 1).trans a1, ?_, ?_⟩
    · simp only [World.frozen?, k1]
      rcases k5 with k5 | k5 <;> simp <;> omega
    · simp only [World.frozen?, k1]
      rcases k5 with k5 | k5 <;> simp <;> omega
  have hn0 : (0 : Int) ≤ (n : Int) := by omega
  split at h6
  · rename_i off _
    obtain ⟨y0, y1, g0, g1, c0, c1, f0, f1⟩ := cells hl
    obtain rfl := g1.b_inv
    have hoff : (off : Int) ≤ F ∧ y0 = .int .i64 (F - off) := by cases g0 with | sym h => exact ⟨h, rfl⟩
    obtain ⟨hoff, rfl⟩ := hoff
    have h7 := h6
    rw [fN_eq] at h7
    obtain ⟨h8, h9⟩ := ifB_t.1 h7
    rw [writeK_eq] at h8 h9
    by_cases hlt : F - off < n
    · refine (mspend2_short c0 c1 f0 f1 hn0 rfl hlt).mono fun e w' he => ?_
      obtain ⟨rfl, rfl⟩ := he
      have hS2 := wr (vs := [.i 0, .b true]) (ys := [.int .i64 0, .bool true]) (l' := [.i 0, .b true]) hl rfl (by simp) (.cons (.i 0) (.one (.b true))) (by intro x hx; rcases List.mem_cons.1 hx with rfl | hx; rfl; rw [List.mem_singleton.1 hx]; rfl) rfl
      exact ⟨_, _, m, _, rfl, h8, hS2.bounds hS2.lo (.inr (by simp only [Nat.add_eq]; omega)), Mp.le_refl m, .b false⟩
    · refine (mspend2_ok c0 c1 f0 hn0 rfl (by omega) (by omega) hlt).mono fun e w' he => ?_
      obtain ⟨rfl, rfl⟩ := he
      have hv1 : VR m F (.o (.sym (off + n))) (.int .i64 (F - off - n)) := by
        have := VR.sym (m := m) (F := F) (off := off + n) (by omega)
        rw [show F - ((off + n : Nat) : Int) = F - off - n by omega] at this
        exact this
      have hS2 := wr (vs := [.o (.sym (off + n))]) (ys := [.int .i64 (F - off - n)]) (l' := [.o (.sym (off + n)), .b false]) hl rfl (by simp) (.one hv1) (by intro x hx; rw [List.mem_singleton.1 hx]; rfl) rfl
      exact ⟨_, _, m, _, rfl, h9, hS2.bounds (by simp only [Nat.add_eq]; omega) hS2.hi, Mp.le_refl m, .b true⟩
  · rename_i v0 v1 _
    obtain ⟨y0, y1, g0, g1, c0, c1, f0, f1⟩ := cells hl
    obtain ⟨x0, rfl, h7⟩ := asI_iff.1 h6
    obtain ⟨x0, rfl, h8⟩ := natI_iff.1 h7
    obtain ⟨b1, rfl, h9⟩ := asB_iff.1 h8
    obtain ⟨h10, h11⟩ := ifB_t.1 h9
    have hx0 := Nat.le_of_ble_eq_true h10
    obtain rfl := g0.i_inv
    obtain rfl := g1.b_inv
    rcases ifB_iff.1 h11 with ⟨rfl, h12⟩ | ⟨rfl, h12⟩
    · refine (mspend2_out c1 hn0 rfl).mono fun e w' he => ?_
      obtain ⟨rfl, rfl⟩ := he
      exact ⟨_, _, m, _, rfl, h12, hS, Mp.le_refl m, .b false⟩
    · rcases ifB_iff.1 h12 with ⟨h13, h14⟩ | ⟨h13, h14⟩
      · rw [writeK_eq] at h14
        have hlt : x0 < n := by rw [Nat.blt_eq] at h13; exact h13
        refine (mspend2_short c0 c1 f0 f1 hn0 rfl (by omega)).mono fun e w' he => ?_
        obtain ⟨rfl, rfl⟩ := he
        have hS2 := wr (vs := [.i 0, .b true]) (ys := [.int .i64 0, .bool true]) (l' := [.i 0, .b true]) hl rfl (by simp) (.cons (.i 0) (.one (.b true))) (by intro x hx; rcases List.mem_cons.1 hx with rfl | hx; rfl; rw [List.mem_singleton.1 hx]; rfl) rfl
        exact ⟨_, _, m, _, rfl, h14, hS2, Mp.le_refl m, .b false⟩
      · rw [fN_eq, writeK_eq] at h14
        have hlt : ¬ x0 < n := by
          intro h
          rw [← Nat.blt_eq] at h
          rw [h] at h13
          cases h13
        refine (mspend2_ok c0 c1 f0 hn0 rfl (by omega) (by omega) (by omega)).mono fun e w' he => ?_
        obtain ⟨rfl, rfl⟩ := he
        have hv1 : VR m F (.i (Int.ofNat (x0 - n))) (.int .i64 ((x0 : Int) - n)) := by
          rw [show (x0 : Int) - n = Int.ofNat (x0 - n) by simp only [Int.ofNat_eq_natCast]; omega]
          exact .i _
        have hS2 := wr (vs := [.i (Int.ofNat (x0 - n))]) (ys := [.int .i64 ((x0 : Int) - n)]) (l' := [.i (Int.ofNat (x0 - n)), .b false]) hl rfl (by simp) (.one hv1) (by intro x hx; rw [List.mem_singleton.1 hx]; rfl) rfl
        exact ⟨_, _, m, _, rfl, h14, hS2, Mp.le_refl m, .b true⟩
  · exact no h6
/-- All boxes, the meter's two among them. -/
def boxA (f : FuncId) : Box := match Nat.beq f 9 with
  | true => .mk fun _ l s k => fNew l s k
  | false => match Nat.beq f 79 with
    | true => .mk fun _ l s k => fSpend l s k
    | false => boxF f
theorem boxA_sound {F : Int} (hF : F ≤ 1073741824) (f : FuncId) : BoxS F f (boxA f) := by
  unfold boxA
  cases h1 : Nat.beq f 9 with
  | true => rw [Nat.eq_of_beq_eq_true h1]; exact box_new F
  | false =>
    cases h2 : Nat.beq f 79 with
    | true => rw [Nat.eq_of_beq_eq_true h2]; exact box_spend F hF
    | false => exact boxF_sound F f
theorem runA_sound {F : Int} (hF : F ≤ 1073741824) (n : Nat) : RecS F (runG boxA n) := run_sound (fun f => boxA_sound hF f) n
end Go.Proofs.YtpknalhjgbgpiaaGreatDoor
