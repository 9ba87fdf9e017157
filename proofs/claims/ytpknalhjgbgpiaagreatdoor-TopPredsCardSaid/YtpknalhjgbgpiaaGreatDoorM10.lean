/- Parts of the proof: EvO10, EvO11. -/
import Derived.Test.YtpknalhjgbgpiaaGreatDoorM9
namespace Go.Proofs.YtpknalhjgbgpiaaGreatDoor
open Go Go.RowKit
/-- A part's place, forced. -/
def plcB {R : Type} (g : Nat → Option (Nat × Nat)) (bad : R) : Nat → KR R (Nat × Nat) := fun i k => match g i with
  | some p => fNB p.1 fun a => fNB p.2 fun b => k (a, b)
  | none => bad
theorem plcB_some {R : Type} {g : Nat → Option (Nat × Nat)} {i : Nat} {p : Nat × Nat} (h : g i = some p) (bad : R) (k : Nat × Nat → R) : plcB g bad i k = k p := by
  unfold plcB
  rw [h]
  show (fNB p.1 fun a => fNB p.2 fun b => k (a, b)) = _
  rw [fNB_eq, fNB_eq]
theorem plcB_none {R : Type} {g : Nat → Option (Nat × Nat)} {i : Nat} (h : g i = none) (bad : R) (k : Nat × Nat → R) : plcB g bad i k = bad := by
  unfold plcB
  rw [h]
theorem mapB_cons {R α β : Type} (x : α) (l : List α) (g : α → KR R β) (k : List β → R) : mapB (x :: l) g k = g x fun y => mapB l g fun r => k (y :: r) := rfl
theorem places_eq (g : Nat → Option (Nat × Nat)) (ix : List Nat) :
    (∃ ps, Pl g ix ps ∧ ∀ {R : Type} (bad : R) (k : List (Nat × Nat) → R), mapB ix (plcB g bad) k = k ps) ∨
    ∀ {R : Type} (bad : R) (k : List (Nat × Nat) → R), mapB ix (plcB g bad) k = bad := by
  induction ix with
  | nil => exact .inl ⟨[], .nil, fun bad k => rfl⟩
  | cons i ix ih =>
    cases hi : g i with
    | none => exact .inr fun bad k => by rw [mapB_cons, plcB_none hi]
    | some p =>
      rcases ih with ⟨ps, h1, h2⟩ | h2
      · exact .inl ⟨p :: ps, .cons hi h1, fun bad k => by rw [mapB_cons, plcB_some hi, h2]⟩
      · exact .inr fun bad k => by rw [mapB_cons, plcB_some hi, h2]
theorem placesS_some {R : Type} {P : Program} {fs : Array Field} {pl : List (Nat × Nat)} (h : (fs.toList.mapM fun f => (P.info? f.type).map fun i => (f.offset, i.size)) = some pl) (bad : R) (ix : List Nat) (k : List (Nat × Nat) → R) : placesS P fs bad ix k = mapB ix (plcB (pl[·]?) bad) k := by
  unfold placesS
  rw [h]
  rfl
theorem placesS_none {R : Type} {P : Program} {fs : Array Field} (h : (fs.toList.mapM fun f => (P.info? f.type).map fun i => (f.offset, i.size)) = none) (bad : R) (ix : List Nat) (k : List (Nat × Nat) → R) : placesS P fs bad ix k = bad := by
  unfold placesS
  rw [h]
theorem placesE_eq (sz : Nat) (ix : List Nat) : ∃ ps, Pl (fun i => some (i * sz, sz)) ix ps ∧ ∀ {R : Type} (k : List (Nat × Nat) → R), placesE sz ix k = k ps := by
  refine ⟨ix.map fun i => (i * sz, sz), ?_, fun {R} k => mapB_eq (f := fun i => (i * sz, sz)) (fun x k => fNB_eq _ _) ix k⟩
  induction ix with
  | nil => exact .nil
  | cons i ix ih => exact .cons rfl ih
theorem parts_zip (ρ : Operand → Value) (ps : Array (Nat × Operand)) : ((ps.toList.map (·.1)).zip ((ps.toList.map (·.2)).map ρ)).toArray = ps.map fun (i, x) => (i, ρ x) := by
  apply Array.toList_inj.1
  rw [Array.toList_map]
  show (ps.toList.map (·.1)).zip ((ps.toList.map (·.2)).map ρ) = _
  induction ps.toList with
  | nil => rfl
  | cons p l ih => simp only [List.map_cons, List.zip_cons_cons, ih]
/-- A row of parts, as a value. -/
theorem build_of {o : Oper} {t : TypeId} {z : Value} {zero : List A} {place : Nat → Option (Nat × Nat)} {ps : Array (Nat × Operand)} {pl : List (Nat × Nat)} (ho : o.op = .build t ps) (hp : Pl place (ps.toList.map (·.1)) pl)
    (hz : ∀ m F, VRs m F zero z.cells.toList) (h1 : ∀ x ∈ zero, oneA x = true) (hb : ∀ parts, Tryz.prog.built t parts = Instr.fill place z.cells parts) : COpS o (.pl (gbuild pl zero) (ps.toList.map (·.2))) := by
  intro m F l ys c hl hv hg
  obtain ⟨v', e, y', h2, h3⟩ := build_R hp hz h1 hb (by rw [hl, List.length_map, List.length_map]) hv hg
  refine ⟨v', e, y', h2, fun ρ w hρ => ?_⟩
  have hx : execOp ρ o = (do pure (.value (← Instr.build t (ps.map fun (i, x) => (i, ρ x)))) : Sem Next) := by
    unfold execOp
    rw [ho]
  rw [hx, ← parts_zip, hρ, Sem.run_bind, h3]
  rfl
theorem built_struct {t : TypeId} {fs : Array Field} {z : Value} {pl : List (Nat × Nat)} (hu : Tryz.prog.underlying t = some (.struct fs)) (hz : (Tryz.prog.info? t).bind (·.zero) = some z) (hp : (fs.toList.mapM fun f => (Tryz.prog.info? f.type).map fun i => (f.offset, i.size)) = some pl) :
    ∀ parts, Tryz.prog.built t parts = Instr.fill (pl[·]?) z.cells parts := by
  intro parts
  unfold Program.built
  cases hi : Tryz.prog.info? t with
  | none => rw [hi] at hz; cases hz
  | some i =>
    rw [hi] at hz
    have hz' : i.zero = some z := hz
    simp only [hu, hz', hp]
    have e : (fun i => pl.toArray[i]?) = fun i => pl[i]? := funext fun i => List.getElem?_toArray
    rw [e]
theorem built_array {t e : TypeId} {n sz : Nat} {z : Value} (hu : Tryz.prog.underlying t = some (.array n e)) (hz : (Tryz.prog.info? t).bind (·.zero) = some z) (hs : (Tryz.prog.info? e).map (·.size) = some sz) :
    ∀ parts, Tryz.prog.built t parts = Instr.fill (fun i => some (i * sz, sz)) z.cells parts := by
  intro parts
  unfold Program.built
  cases hi : Tryz.prog.info? t with
  | none => rw [hi] at hz; cases hz
  | some i =>
    rw [hi] at hz
    have hz' : i.zero = some z := hz
    cases he : Tryz.prog.info? e with
    | none => rw [he] at hs; cases hs
    | some j =>
      rw [he] at hs
      have hs' : j.size = sz := Option.some.inj hs
      simp only [hu, hz', he, hs']
section
variable {dst : Option Tmp} {type : TypeId} {pos : String} {after : Array Edge} {guard : Option (Nat × Bool)}
theorem made_build (t : TypeId) (ps : Array (Nat × Operand)) : Made ⟨dst, .build t ps, type, pos, after, guard⟩ (opK Tryz.prog ⟨dst, .build t ps, type, pos, after, guard⟩) := by
  cases hd : undT Tryz.prog t with
  | struct fs =>
    have hu := und_of hd (fun e => by cases e)
    cases hp : fs.toList.mapM (fun f => (Tryz.prog.info? f.type).map fun i => (f.offset, i.size)) with
    | none => exact made_bad (w := "build") fun k => by simp only [opK, hd, placesS_none hp]
    | some pl =>
      rcases places_eq (pl[·]?) (ps.toList.map (·.1)) with ⟨qs, h1, h2⟩ | h2
      · cases e : (Tryz.prog.info? t).bind (·.zero) with
        | none => exact made_bad (w := "build") fun k => by simp only [opK, hd, placesS_some hp, h2, zcB, e]
        | some v =>
          cases hz : okZ v with
          | false => exact made_bad (w := "build") fun k => by simp only [opK, hd, placesS_some hp, h2, zcB, e, hz, ifZ]
          | true =>
            have em : ∀ {R : Type} (k : List A → R), mapB (cellsV (absV v)) aB k = k (cellsV (absV v)) := fun k => mapB_id (fun x k => aB_eq x k) _ _
            exact ⟨.pl (gbuild qs (cellsV (absV v))) (ps.toList.map (·.2)), fun k => by simp only [opK, hd, placesS_some hp, h2, zcB, e, hz, ifZ, em],
              build_of rfl h1 (fun m F => (zero_VR hz).1) (zero_VR (m := fun _ => none) (F := 0) hz).2 (built_struct hu e hp)⟩
      · exact made_bad (w := "build") fun k => by simp only [opK, hd, placesS_some hp, h2]
  | array n e =>
    have hu := und_of hd (fun e => by cases e)
    cases hs : (Tryz.prog.info? e) with
    | none => exact made_bad (w := "build") fun k => by simp only [opK, hd, szB, hs]
    | some j =>
      obtain ⟨qs, h1, h2⟩ := placesE_eq j.size (ps.toList.map (·.1))
      cases hv : (Tryz.prog.info? t).bind (·.zero) with
      | none => exact made_bad (w := "build") fun k => by simp only [opK, hd, szB, hs, fNB_eq, h2, zcB, hv]
      | some v =>
        cases hz : okZ v with
        | false => exact made_bad (w := "build") fun k => by simp only [opK, hd, szB, hs, fNB_eq, h2, zcB, hv, hz, ifZ]
        | true =>
          have em : ∀ {R : Type} (k : List A → R), mapB (cellsV (absV v)) aB k = k (cellsV (absV v)) := fun k => mapB_id (fun x k => aB_eq x k) _ _
          exact ⟨.pl (gbuild qs (cellsV (absV v))) (ps.toList.map (·.2)), fun k => by simp only [opK, hd, szB, hs, fNB_eq, h2, zcB, hv, hz, ifZ, em],
            build_of rfl h1 (fun m F => (zero_VR hz).1) (zero_VR (m := fun _ => none) (F := 0) hz).2 (built_array hu hv (by rw [hs]; rfl))⟩
  | _ => exact made_bad (w := "build") fun k => by simp only [opK, hd]
theorem made_buildSlice (t : TypeId) (n : Nat) (ps : Array (Nat × Operand)) : Made ⟨dst, .buildSlice t n ps, type, pos, after, guard⟩ (opK Tryz.prog ⟨dst, .buildSlice t n ps, type, pos, after, guard⟩) := by
  cases hd : undT Tryz.prog t with
  | slice e =>
    have hu := und_of hd (fun e => by cases e)
    cases hs : Tryz.prog.info? e with
    | none => exact made_bad (w := "buildSlice") fun k => by simp only [opK, hd, szB, hs]
    | some j =>
      obtain ⟨qs, h1, h2⟩ := placesE_eq j.size (ps.toList.map (·.1))
      cases hv : j.zero with
      | none => exact made_bad (w := "buildSlice") fun k => by simp only [opK, hd, szB, hs, fNB_eq, h2, zcB, Option.bind_some, hv]
      | some v =>
        have hv' : (Tryz.prog.info? e).bind (·.zero) = some v := by rw [hs]; exact hv
        cases hz : okZ v with
        | false => exact made_bad (w := "buildSlice") fun k => by simp only [opK, hd, szB, hs, fNB_eq, h2, zcB, Option.bind_some, hv, hz, ifZ]
        | true =>
          have em : ∀ {R : Type} (k : List A → R), mapB (cellsV (absV v)) aB k = k (cellsV (absV v)) := fun k => mapB_id (fun x k => aB_eq x k) _ _
          cases hl : (Nat.beq (cellsV (absV v)).length j.size && Nat.ble (n * j.size) 16777216) with
          | false => exact made_bad (w := "buildSlice") fun k => by simp only [opK, hd, szB, hs, fNB_eq, h2, zcB, Option.bind_some, hv, hz, ifZ, em, repB_eq, hl]
          | true =>
            obtain ⟨l1, l2⟩ := Bool.and_eq_true_iff.1 hl
            refine ⟨.al (sbuild n j.size qs (List.replicate n (cellsV (absV v))).flatten) (ps.toList.map (·.2)), fun k => by simp only [opK, hd, szB, hs, fNB_eq, h2, zcB, Option.bind_some, hv, hz, ifZ, em, repB_eq, hl], ?_⟩
            intro m F l ys c hlen hy hg
            obtain ⟨ob, hq, e1, e2, e3, obj, zz, yv, e4, e5, e6⟩ := buildSlice_R hu (by rw [hs]; rfl) (fun m F => (zero_VR hz).1) (zero_VR (m := fun _ => none) (F := 0) hz).2 (zero_run hv') (Nat.eq_of_beq_eq_true l1) (Nat.le_of_ble_eq_true l2) h1 (by rw [hlen, List.length_map, List.length_map]) hy hg
            refine ⟨ob, hq, e1, e2, e3, obj, zz, yv, e4, e5, fun ρ w hρ => ?_⟩
            have hx : execOp ρ ⟨dst, .buildSlice t n ps, type, pos, after, guard⟩ = (do pure (.value (← Instr.buildSlice t n (ps.map fun (i, x) => (i, ρ x)))) : Sem Next) := rfl
            rw [hx, ← parts_zip, hρ, Sem.run_bind, e6]
            rfl
  | _ => exact made_bad (w := "buildSlice") fun k => by simp only [opK, hd]
end
end Go.Proofs.YtpknalhjgbgpiaaGreatDoor
namespace Go.Proofs.YtpknalhjgbgpiaaGreatDoor
open Go Go.RowKit
theorem enter_wp {o : Oper} {a : Act} {w : World} {next : Act → World → Prop} {Q : Exit → Act → World → Prop} {f : FuncId} {args : Array Value} {R : Ending → World → Prop} (he : Enters f)
    (hx : (execOp a.eval o).run Tryz.prog w = (callFunc f args).run Tryz.prog w) (hc : Calls Tryz.prog f args w R) (hR : ∀ e w', R e w' → ∃ x, e = .returned x ∧ next (a.put o.dst x) w') : o.wp Tryz.prog a w next Q := by
  unfold Oper.wp
  rw [hx, he, Oper.upon_enter]
  refine hc.mono fun e w' h => ?_
  obtain ⟨x, rfl, hn⟩ := hR e w' h
  exact hn
theorem exec_call {o : Oper} {c : Call} {x : Operand} (ho : o.op = .call c) (hc : c.callee = .value x) {ρ : Operand → Value} {f : FuncId} {fst cap : Array Value} (hx : ρ x = .func (.func f) fst cap) (w : World) :
    (execOp ρ o).run Tryz.prog w = (callFunc f (fst ++ c.args.map ρ ++ cap)).run Tryz.prog w := by
  have : execOp ρ o = (do let d ← resolve ρ c o.type; invoke d.target d.args : Sem Next) := by
    unfold execOp
    rw [ho]
  rw [this]
  unfold resolve
  rw [hc]
  show ((do let d ← Deferred.ofValue (ρ x) (c.args.map ρ); invoke d.target d.args : Sem Next)).run Tryz.prog w = _
  rw [hx]
  rfl
theorem exec_invoke {o : Oper} {c : Call} {r : Operand} {n : String} (ho : o.op = .call c) (hc : c.callee = .invoke r n) {ρ : Operand → Value} {t : TypeId} {v : Value} (hr : ρ r = .iface t v) (w : World) :
    (execOp ρ o).run Tryz.prog w = (do let (f, receiver) ← method (Tryz.prog.types.size + Made.depth) t v n; callFunc f (#[receiver] ++ c.args.map ρ) : Sem Next).run Tryz.prog w := by
  have : execOp ρ o = (do let d ← resolve ρ c o.type; invoke d.target d.args : Sem Next) := by
    unfold execOp
    rw [ho]
  rw [this]
  unfold resolve
  rw [hc]
  show (invoke (.fn (.method n) #[]) (#[ρ r] ++ c.args.map ρ)).run Tryz.prog w = _
  rw [hr]
  have h0 : (#[Value.iface t v] ++ c.args.map ρ)[0]? = some (.iface t v) := by rw [Array.getElem?_append_left (show 0 < (#[Value.iface t v]).size from Nat.zero_lt_one)]; rfl
  have h1 : (#[Value.iface t v] ++ c.args.map ρ).extract 1 (#[Value.iface t v] ++ c.args.map ρ).size = c.args.map ρ := by
    apply Array.toList_inj.1
    simp only [Array.toList_extract, List.extract_eq_take_drop, Array.toList_append]
    show ((c.args.map ρ).toList).take _ = _
    exact List.take_of_length_le (by simp)
  unfold invoke
  simp only [h0, h1]
  show (callMethod (.iface t v) n (c.args.map ρ)).run Tryz.prog w = _
  unfold callMethod
  simp only [Sem.run_bind, run_program, Result.andThen_ok]
theorem depth_eq (n : Nat) : n + Made.depth = (n + 99) + 1 := rfl
theorem map1 (ρ : Operand → Value) (x : Operand) : #[x].map ρ = #[ρ x] := by simp
theorem map2 (ρ : Operand → Value) (x y : Operand) : #[x, y].map ρ = #[ρ x, ρ y] := by simp
theorem method_run {t : TypeId} {name : String} {f : FuncId} (h : methT Tryz.prog name t = some f) (n : Nat) (v : Value) (w : World) : (method (n + 1) t v name).run Tryz.prog w = .ok (f, v) w := by
  unfold methT at h
  cases hi : Tryz.prog.info? t with
  | none => rw [hi] at h; cases h
  | some i =>
    rw [hi] at h
    simp only [Option.bind_some] at h
    cases hm : i.methods.find? (·.name == name) with
    | none => rw [hm] at h; cases h
    | some m =>
      rw [hm] at h
      simp only at h
      unfold method
      simp only [typeInfo, Sem.run_bind, run_program, Result.andThen_ok, hi, Sem.run_pure, hm]
      cases hp : m.path.isEmpty with
      | false => rw [hp] at h; cases h
      | true =>
        rw [hp] at h
        have hl : m.path.toList = [] := by simpa using hp
        rw [hl]
        cases hf : m.func with
        | none => rw [hf] at h; cases hd : undT Tryz.prog t <;> rw [hd] at h <;> cases h
        | some g =>
          obtain ⟨g, ptr⟩ := g
          rw [hf] at h
          have hu : undT Tryz.prog t ≠ .invalid := fun e => by rw [e] at h; cases ptr <;> cases h
          have hu' := und_of rfl hu
          cases ptr with
          | true =>
            cases hd : undT Tryz.prog t with
            | pointer e =>
              rw [hd] at h hu'
              obtain rfl : g = f := by simpa using h
              simp [follow, receiverAt, run_underlying hu', Result.andThen, Place.get]
            | _ => rw [hd] at h; cases h
          | false =>
            cases hd : undT Tryz.prog t with
            | pointer e => rw [hd] at h; cases h
            | invalid => exact absurd hd hu
            | _ =>
              rw [hd] at h hu'
              obtain rfl : g = f := by simpa using h
              simp [follow, receiverAt, run_underlying hu', Result.andThen, Place.get]
theorem call_of {o : Oper} {c : Call} {f : FuncId} (ho : o.op = .call c) (hc : c.callee = .value (.func f)) : COpS o (.ch (ccall f) c.args.toList) := by
  intro F rec hrec b m s w l ys k _ hS hl hg a next Q ha hn
  have hg' : rec f l s k = true := hg
  obtain ⟨he, hcall⟩ := hrec f l s k hg'
  have hargs : (c.args.map a.eval).toList = ys := by rw [Array.toList_map, ha]
  refine enter_wp (args := c.args.map a.eval) he ?_ (hcall b m w (c.args.map a.eval) hS (by rw [hargs]; exact hl)) ?_
  · rw [exec_call ho hc (f := f) (fst := #[]) (cap := #[]) rfl]
    simp
  · rintro e w' ⟨v, s', m', x, rfl, h1, h2, h3, h4⟩
    exact ⟨x, rfl, hn v s' m' x w' h1 h2 h3 h4⟩
theorem callV_of {o : Oper} {c : Call} {x : Operand} (ho : o.op = .call c) (hc : c.callee = .value x) : COpS o (.ch ccallV (x :: c.args.toList)) := by
  intro F rec hrec b m s w l ys k _ hS hl hg a next Q ha hn
  rw [List.map_cons] at ha
  subst ha
  cases hl with
  | @cons v _ r _ hx hl =>
    have hg' : (asF v fun fn a b => match fn with
      | .func f => appK r b fun r => appK a r fun r => rec f r s k
      | _ => stk "call of a method") = true := hg
    obtain ⟨fn, p, q, rfl, g1⟩ := asF_iff.1 hg'
    cases fn with
    | func f =>
      simp only [appK_eq] at g1
      obtain ⟨he, hcall⟩ := hrec f _ s k g1
      obtain ⟨cp, cq, e, h1, h2⟩ := VR.f_iff.1 hx
      have hargs : (cp ++ c.args.map a.eval ++ cq).toList = cp.toList ++ (c.args.toList.map a.eval ++ cq.toList) := by simp
      refine enter_wp he (exec_call ho hc e w) (hcall b m w _ hS (by rw [hargs]; exact h1.append (hl.append h2))) ?_
      rintro e w' ⟨v, s', m', x, rfl, h1, h2, h3, h4⟩
      exact ⟨x, rfl, hn v s' m' x w' h1 h2 h3 h4⟩
    | _ => exact no g1
theorem invoke_of {o : Oper} {c : Call} {r : Operand} {n : String} {tab : List (TypeId × FuncId)} (ho : o.op = .call c) (hc : c.callee = .invoke r n) (ht : ∀ t f, tab.lookup t = some f → methT Tryz.prog n t = some f) : COpS o (.ch (cinvoke tab) (r :: c.args.toList)) := by
  intro F rec hrec b m s w l ys k _ hS hl hg a next Q ha hn
  rw [List.map_cons] at ha
  subst ha
  cases hl with
  | @cons v _ l _ hx hl =>
    have hg' : (asT v (fun _ => stk "invoke of nil") fun t v => match tab.lookup t with
      | some f => rec f (v :: l) s k
      | none => stk "invoke") = true := hg
    rcases asT_iff.1 hg' with ⟨_, g1⟩ | ⟨t, v, rfl, g1⟩
    · exact no g1
    · cases hlk : tab.lookup t with
      | none => rw [hlk] at g1; exact no g1
      | some f =>
        rw [hlk] at g1
        obtain ⟨he, hcall⟩ := hrec f _ s k g1
        obtain ⟨y, e, hy⟩ := hx.t_inv
        have hargs : (#[y] ++ c.args.map a.eval).toList = y :: c.args.toList.map a.eval := by simp
        refine enter_wp he ?_ (hcall b m w (#[y] ++ c.args.map a.eval) hS (by rw [hargs]; exact .cons hy hl)) ?_
        · rw [exec_invoke ho hc e w, show Tryz.prog.types.size + Made.depth = (Tryz.prog.types.size + 99) + 1 from depth_eq _, Sem.run_bind, method_run (ht t f hlk), Result.andThen_ok]
        · rintro e w' ⟨v, s', m', x, rfl, h1, h2, h3, h4⟩
          exact ⟨x, rfl, hn v s' m' x w' h1 h2 h3 h4⟩
theorem lookup_meth {P : Program} {n : String} {ts : List TypeId} {t : TypeId} {f : FuncId} (h : (ts.filterMap fun t => (methT P n t).map fun f => (t, f)).lookup t = some f) : methT P n t = some f := by
  induction ts with
  | nil => cases h
  | cons u ts ih =>
    cases hm : methT P n u with
    | none =>
      rw [List.filterMap_cons_none (by rw [hm]; rfl)] at h
      exact ih h
    | some g =>
      rw [List.filterMap_cons_some (b := (u, g)) (by rw [hm]; rfl), List.lookup_cons] at h
      cases e : t == u with
      | false => rw [e] at h; exact ih h
      | true =>
        rw [e] at h
        have e1 : t = u := by simpa using e
        have e2 : g = f := by simpa using h
        rw [e1, hm, e2]
section
variable {dst : Option Tmp} {type : TypeId} {pos : String} {after : Array Edge} {guard : Option (Nat × Bool)}
theorem made_len (t : TypeId) (x : Operand) : Made ⟨dst, .call ⟨.builtin .len, #[x], #[t]⟩, type, pos, after, guard⟩ (lenB Tryz.prog t x) := by
  cases hd : undT Tryz.prog t with
  | map kt et => exact ⟨.r1 rlenM x, fun k => by simp only [lenB, hd], r1_of (lenM_R (ty := type) (und_of hd (fun e => by cases e))) fun ρ => (builtin_run (o := ⟨dst, .call ⟨.builtin .len, #[x], #[t]⟩, type, pos, after, guard⟩) (c := ⟨.builtin .len, #[x], #[t]⟩) rfl rfl ρ).trans (by rw [map1]; rfl)⟩
  | string => exact ⟨.p1 glenS x, fun k => by simp only [lenB, hd], p1_of (lenS_R (ty := type) (und_of hd (fun e => by cases e))) fun ρ => (builtin_run (o := ⟨dst, .call ⟨.builtin .len, #[x], #[t]⟩, type, pos, after, guard⟩) (c := ⟨.builtin .len, #[x], #[t]⟩) rfl rfl ρ).trans (by rw [map1]; rfl)⟩
  | slice e => exact ⟨.p1 glenSl x, fun k => by simp only [lenB, hd], p1_of (lenSl_R (ty := type) (und_of hd (fun e => by cases e))) fun ρ => (builtin_run (o := ⟨dst, .call ⟨.builtin .len, #[x], #[t]⟩, type, pos, after, guard⟩) (c := ⟨.builtin .len, #[x], #[t]⟩) rfl rfl ρ).trans (by rw [map1]; rfl)⟩
  | _ => exact made_bad (w := "len") fun k => by simp only [lenB, hd]
theorem made_append (t xt : TypeId) (x y : Operand) : Made ⟨dst, .call ⟨.builtin .append, #[x, y], #[t, xt]⟩, type, pos, after, guard⟩ (appB Tryz.prog t xt [x, y]) := by
  cases hd : undT Tryz.prog t with
  | slice e =>
    have hu := und_of hd (fun e => by cases e)
    have key : ∀ d, undT Tryz.prog xt = d → ((∃ f, d = .slice f) ∨ d = .string) → Made ⟨dst, .call ⟨.builtin .append, #[x, y], #[t, xt]⟩, type, pos, after, guard⟩
        (fun {R : Type} (k : COp → R) => smB Tryz.prog e (k (.bad "size")) fun sz => zcB Tryz.prog e (k (.bad "zero")) fun z => ifZ (Nat.beq z.length sz) (k (.ch (cappend sz) [x, y])) (k (.bad "append"))) := by
      intro d hx hds
      have hux := und_of hx (fun e => by rcases hds with ⟨f, rfl⟩ | rfl <;> cases e)
      cases hi : Tryz.prog.info? e with
      | none => exact made_bad (w := "size") fun k => by simp only [smB, hi]
      | some j =>
        cases hb : Nat.ble j.bytes 4096 with
        | false => exact made_bad (w := "size") fun k => by simp only [smB, hi, hb]
        | true =>
          cases hv : j.zero with
          | none => exact made_bad (w := "zero") fun k => by simp only [smB, hi, hb, fNB_eq, zcB, Option.bind_some, hv]
          | some v =>
            cases hz : okZ v with
            | false => exact made_bad (w := "zero") fun k => by simp only [smB, hi, hb, fNB_eq, zcB, Option.bind_some, hv, hz, ifZ]
            | true =>
              have em : ∀ {R : Type} (k : List A → R), mapB (cellsV (absV v)) aB k = k (cellsV (absV v)) := fun k => mapB_id (fun x k => aB_eq x k) _ _
              cases hl : Nat.beq (cellsV (absV v)).length j.size with
              | false => exact made_bad (w := "append") fun k => by simp only [smB, hi, hb, fNB_eq, zcB, Option.bind_some, hv, hz, ifZ, em, hl]
              | true =>
                refine ⟨.ch (cappend j.size) [x, y], fun k => by simp only [smB, hi, hb, fNB_eq, zcB, Option.bind_some, hv, hz, ifZ, em, hl], ?_⟩
                exact ch_of (append_R (ty := type) hu hi rfl (Nat.le_of_ble_eq_true hb) hv ((cellsV_len hz).symm.trans (Nat.eq_of_beq_eq_true hl)) hux hds) fun ρ => (builtin_run (o := ⟨dst, .call ⟨.builtin .append, #[x, y], #[t, xt]⟩, type, pos, after, guard⟩) (c := ⟨.builtin .append, #[x, y], #[t, xt]⟩) rfl rfl ρ).trans (by rw [map2]; rfl)
    cases hx : undT Tryz.prog xt with
    | slice f =>
      obtain ⟨C, h1, h2⟩ := key _ hx (.inl ⟨f, rfl⟩)
      exact ⟨C, fun k => by simp only [appB, hd, hx]; exact h1 k, h2⟩
    | string =>
      obtain ⟨C, h1, h2⟩ := key _ hx (.inr rfl)
      exact ⟨C, fun k => by simp only [appB, hd, hx]; exact h1 k, h2⟩
    | _ => exact made_bad (w := "append") fun k => by simp only [appB, hd, hx]
  | _ => exact made_bad (w := "append") fun k => by simp only [appB, hd]
theorem made_clear (t : TypeId) (x : Operand) : Made ⟨dst, .call ⟨.builtin .clear, #[x], #[t]⟩, type, pos, after, guard⟩ (clearB Tryz.prog t [x]) := by
  cases hd : undT Tryz.prog t with
  | slice e =>
    have hu := und_of hd (fun e => by cases e)
    cases hi : Tryz.prog.info? e with
    | none => exact made_bad (w := "size") fun k => by simp only [clearB, hd, szB, hi]
    | some j =>
      cases hv : j.zero with
      | none => exact made_bad (w := "zero") fun k => by simp only [clearB, hd, szB, hi, fNB_eq, zcB, Option.bind_some, hv]
      | some v =>
        have hv' : (Tryz.prog.info? e).bind (·.zero) = some v := by rw [hi]; exact hv
        cases hz : okZ v with
        | false => exact made_bad (w := "zero") fun k => by simp only [clearB, hd, szB, hi, fNB_eq, zcB, Option.bind_some, hv, hz, ifZ]
        | true =>
          have em : ∀ {R : Type} (k : List A → R), mapB (cellsV (absV v)) aB k = k (cellsV (absV v)) := fun k => mapB_id (fun x k => aB_eq x k) _ _
          exact ⟨.ch (cclear j.size (cellsV (absV v))) [x], fun k => by simp only [clearB, hd, szB, hi, fNB_eq, zcB, Option.bind_some, hv, hz, ifZ, em],
            ch_of (clear_R (ty := type) hu (fun m F => (zero_VR hz).1) (zero_VR (m := fun _ => none) (F := 0) hz).2 (zero_run hv')) fun ρ => (builtin_run (o := ⟨dst, .call ⟨.builtin .clear, #[x], #[t]⟩, type, pos, after, guard⟩) (c := ⟨.builtin .clear, #[x], #[t]⟩) rfl rfl ρ).trans (by rw [map1]; rfl)⟩
  | _ => exact made_bad (w := "clear") fun k => by simp only [clearB, hd]
set_option maxRecDepth 100000 in
theorem made_builtin (b : Go.Builtin) (xs : List Operand) (ts : List TypeId) : Made ⟨dst, .call ⟨.builtin b, ⟨xs⟩, ⟨ts⟩⟩, type, pos, after, guard⟩ (builtK Tryz.prog b ts xs) := by
  cases b with
  | len => match ts, xs with
    | [t], [x] => exact made_len t x
    | [], _ | [_], [] | [_], _ :: _ :: _ | _ :: _ :: _, _ => exact made_bad (w := "len") fun k => rfl
  | append => match ts, xs with
    | [t, u], [x, y] => exact made_append t u x y
    | [], _ | [_], _ | [_, _], [] | [_, _], [_] | [_, _], _ :: _ :: _ :: _ | _ :: _ :: _ :: _, _ => exact made_bad (w := "append") fun k => rfl
  | max => exact ⟨_, fun k => rfl, max_of (c := ⟨.builtin .max, ⟨xs⟩, ⟨ts⟩⟩) rfl rfl⟩
  | min => exact ⟨_, fun k => rfl, min_of (c := ⟨.builtin .min, ⟨xs⟩, ⟨ts⟩⟩) rfl rfl⟩
  | clear => match ts, xs with
    | [t], [x] => exact made_clear t x
    | [], _ | [_], [] | [_], _ :: _ :: _ | _ :: _ :: _, _ => exact made_bad (w := "clear") fun k => rfl
  | _ => exact made_bad (w := "builtin") fun k => rfl
set_option maxRecDepth 100000 in
theorem made_call (c : Call) : Made ⟨dst, .call c, type, pos, after, guard⟩ (opK Tryz.prog ⟨dst, .call c, type, pos, after, guard⟩) := by
  obtain ⟨callee, ⟨xs⟩, ⟨ts⟩⟩ := c
  cases callee with
  | value x =>
    cases x with
    | func f =>
      refine ⟨.ch (ccall f) xs, fun k => ?_, call_of (c := ⟨.value (.func f), ⟨xs⟩, ⟨ts⟩⟩) rfl rfl⟩
      show fNB f (fun f => k (.ch (ccall f) xs)) = _
      exact fNB_eq _ _
    | tmp x => exact ⟨.ch ccallV (.tmp x :: xs), fun k => rfl, callV_of (c := ⟨.value (.tmp x), ⟨xs⟩, ⟨ts⟩⟩) rfl rfl⟩
    | const x => exact ⟨.ch ccallV (.const x :: xs), fun k => rfl, callV_of (c := ⟨.value (.const x), ⟨xs⟩, ⟨ts⟩⟩) rfl rfl⟩
    | global x => exact ⟨.ch ccallV (.global x :: xs), fun k => rfl, callV_of (c := ⟨.value (.global x), ⟨xs⟩, ⟨ts⟩⟩) rfl rfl⟩
  | invoke r n =>
    have h : ∀ {R : Type} (p : TypeId × FuncId) (k : TypeId × FuncId → R), (fNB p.1 fun a => fNB p.2 fun b => k (a, b)) = k p := fun p k => by
      obtain ⟨a, b⟩ := p
      show (fNB a fun a => fNB b fun b => k (a, b)) = _
      rw [fNB_eq, fNB_eq]
    refine ⟨.ch (cinvoke ((List.range Tryz.prog.types.size).filterMap fun t => (methT Tryz.prog n t).map fun f => (t, f))) (r :: xs), fun {R} k => ?_, invoke_of (c := ⟨.invoke r n, ⟨xs⟩, ⟨ts⟩⟩) rfl rfl fun t f => lookup_meth⟩
    show mapB ((List.range Tryz.prog.types.size).filterMap fun t => (methT Tryz.prog n t).map fun f => (t, f)) (fun p k => fNB p.1 fun a => fNB p.2 fun b => k (a, b)) (fun tab => k (.ch (cinvoke tab) (r :: xs))) = _
    exact mapB_id h _ _
  | builtin b => exact made_builtin b xs ts
end
end Go.Proofs.YtpknalhjgbgpiaaGreatDoor
