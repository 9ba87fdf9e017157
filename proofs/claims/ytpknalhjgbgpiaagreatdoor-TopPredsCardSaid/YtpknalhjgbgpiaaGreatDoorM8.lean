/- Parts of the proof: EvO2, EvO3, EvO4. -/
import Derived.Test.YtpknalhjgbgpiaaGreatDoorM7
namespace Go.Proofs.YtpknalhjgbgpiaaGreatDoor
open Go Go.RowKit
/-- A function that is entered when it is called. -/
def Enters (f : FuncId) : Prop := ∀ (args : Array Value) (w : World), (callFunc f args).run Tryz.prog w = .ok (.enter f args) w
/-- Calls that are sound. -/
def RecS (F : Int) (rec : Rec) : Prop := ∀ (f : FuncId) (l : List A) (s : S) (k : KS), rec f l s k = true → Enters f ∧ ∀ (b : Base) (m : Mp) (w : World) (args : Array Value), St F b m s w → VRs m F l args.toList →
  Calls Tryz.prog f args w fun e w' => ∃ v s' m' x, e = .returned x ∧ k v s' = true ∧ St F b m' s' w' ∧ m.le m' ∧ VR m' F v x
/-- What an operation's text says of it. -/
def COpS (o : Oper) : COp → Prop
  | .mv x => ∀ (ρ : Operand → Value) (w : World), (execOp ρ o).run Tryz.prog w = .ok (.value (ρ x)) w
  | .p1 g x => ∀ (m : Mp) (F : Int) (v : A) (y : Value) (c : KA), VR m F v y → g v c = true →
      ∃ v', (∀ c', g v c' = c' v') ∧ ∃ y', VR m F v' y' ∧ ∀ (ρ : Operand → Value) (w : World), ρ x = y → (execOp ρ o).run Tryz.prog w = .ok (.value y') w
  | .p2 g x1 x2 => ∀ (m : Mp) (F : Int) (v u : A) (y z : Value) (c : KA), VR m F v y → VR m F u z → g v u c = true →
      ∃ v', (∀ c', g v u c' = c' v') ∧ ∃ y', VR m F v' y' ∧ ∀ (ρ : Operand → Value) (w : World), ρ x1 = y → ρ x2 = z → (execOp ρ o).run Tryz.prog w = .ok (.value y') w
  | .pl g xs => ∀ (m : Mp) (F : Int) (l : List A) (ys : List Value) (c : KA), l.length = xs.length → VRs m F l ys → g l c = true →
      ∃ v', (∀ c', g l c' = c' v') ∧ ∃ y', VR m F v' y' ∧ ∀ (ρ : Operand → Value) (w : World), xs.map ρ = ys → (execOp ρ o).run Tryz.prog w = .ok (.value y') w
  | .r1 g x => ∀ (F : Int) (b : Base) (m : Mp) (s : S) (w : World) (v : A) (y : Value) (c : KA), St F b m s w → VR m F v y → g s v c = true →
      ∃ v', (∀ c', g s v c' = c' v') ∧ ∃ y', VR m F v' y' ∧ ∀ (ρ : Operand → Value), ρ x = y → (execOp ρ o).run Tryz.prog w = .ok (.value y') w
  | .r2 g x1 x2 => ∀ (F : Int) (b : Base) (m : Mp) (s : S) (w : World) (v u : A) (y z : Value) (c : KA), St F b m s w → VR m F v y → VR m F u z → g s v u c = true →
      ∃ v', (∀ c', g s v u c' = c' v') ∧ ∃ y', VR m F v' y' ∧ ∀ (ρ : Operand → Value), ρ x1 = y → ρ x2 = z → (execOp ρ o).run Tryz.prog w = .ok (.value y') w
  | .al g xs => ∀ (m : Mp) (F : Int) (l : List A) (ys : List Value) (c : O → (Q → A) → Bool), l.length = xs.length → VRs m F l ys → g l c = true →
      ∃ ob h, (∀ c', g l c' = c' ob h) ∧ c ob h = true ∧ ob ≠ .none ∧ ∃ obj z, ∃ yv : Nat → Value, OR m F z ob obj ∧ (∀ (m' : Mp) (q : Q) (β : Nat), m' q = some (β, z) → VR m' F (h q) (yv β)) ∧
        ∀ (ρ : Operand → Value) (w : World), xs.map ρ = ys → (execOp ρ o).run Tryz.prog w = .ok (.value (yv w.heap.size)) (w.alloc obj)
  | .ch g xs => ∀ (F : Int) (rec : Rec), RecS F rec → ∀ (b : Base) (m : Mp) (s : S) (w : World) (l : List A) (ys : List Value) (c : KS), l.length = xs.length → St F b m s w → VRs m F l ys → g rec s l c = true →
      ∀ (a : Act) (next : Act → World → Prop) (Q : Exit → Act → World → Prop), xs.map a.eval = ys →
        (∀ v s' m' y' w', c v s' = true → St F b m' s' w' → m.le m' → VR m' F v y' → next (a.put o.dst y') w') → o.wp Tryz.prog a w next Q
  | .bad _ => True
/-- One text for whatever it is made into. -/
def Made (o : Oper) (f : {R : Type} → KR R COp) : Prop := ∃ C, (∀ {R : Type} (k : COp → R), f k = k C) ∧ COpS o C
section
variable {o : Oper}
theorem made_bad {f : {R : Type} → KR R COp} {w : String} (h : ∀ {R : Type} (k : COp → R), f k = k (.bad w)) : Made o f := ⟨.bad w, h, trivial⟩
theorem p1_of {g : G1} {x : Operand} {f : Value → Sem Value} (h : G1R g f) (he : ∀ ρ : Operand → Value, execOp ρ o = do pure (.value (← f (ρ x)))) : COpS o (.p1 g x) := by
  intro m F v y c hv hg
  obtain ⟨v', e, y', h1, h2⟩ := h m F v y c hv hg
  refine ⟨v', e, y', h1, fun ρ w hρ => ?_⟩
  rw [he, hρ, Sem.run_bind, h2]
  rfl
theorem p2_of {g : G2} {x1 x2 : Operand} {f : Value → Value → Sem Value} (h : G2R g f) (he : ∀ ρ : Operand → Value, execOp ρ o = do pure (.value (← f (ρ x1) (ρ x2)))) : COpS o (.p2 g x1 x2) := by
  intro m F v u y z c hv hu hg
  obtain ⟨v', e, y', h1, h2⟩ := h m F v u y z c hv hu hg
  refine ⟨v', e, y', h1, fun ρ w hρ hρ2 => ?_⟩
  rw [he, hρ, hρ2, Sem.run_bind, h2]
  rfl
theorem bin_of {g : G2} {op : BinOp} {t u : TypeId} {x1 x2 : Operand} (ho : o.op = .binOp op t x1 x2 u) (h : BinR g op t) : COpS o (.p2 g x1 x2) := by
  intro m F v u y z c hv hu hg
  obtain ⟨v', e, y', h1, h2⟩ := h m F v u y z c hv hu hg
  refine ⟨v', e, y', h1, fun ρ w hρ hρ2 => ?_⟩
  have : execOp ρ o = (do pure (.value (← (do eqGuard op t x1 x2 (ρ x1) (ρ x2); binOp op t (ρ x1) (ρ x2) : Sem Value))) : Sem Next) := by
    unfold execOp
    rw [ho]
  rw [this, hρ, hρ2, Sem.run_bind, h2]
  rfl
theorem pl_of {g : GL} {xs : List Operand} {f : List Value → Sem Value} (h : GLR g f) (he : ∀ ρ : Operand → Value, execOp ρ o = do pure (.value (← f (xs.map ρ)))) : COpS o (.pl g xs) := by
  intro m F l ys c _ hv hg
  obtain ⟨v', e, y', h1, h2⟩ := h m F l ys c hv hg
  refine ⟨v', e, y', h1, fun ρ w hρ => ?_⟩
  rw [he, hρ, Sem.run_bind, h2]
  rfl
theorem r1_of {g : R1} {x : Operand} {f : Value → Sem Value} (h : R1R g f) (he : ∀ ρ : Operand → Value, execOp ρ o = do pure (.value (← f (ρ x)))) : COpS o (.r1 g x) := by
  intro F b m s w v y c hS hv hg
  obtain ⟨v', e, y', h1, h2⟩ := h F b m s w v y c hS hv hg
  refine ⟨v', e, y', h1, fun ρ hρ => ?_⟩
  rw [he, hρ, Sem.run_bind, h2]
  rfl
theorem r2_of {g : R2} {x1 x2 : Operand} {f : Value → Value → Sem Value} (h : R2R g f) (he : ∀ ρ : Operand → Value, execOp ρ o = do pure (.value (← f (ρ x1) (ρ x2)))) : COpS o (.r2 g x1 x2) := by
  intro F b m s w v u y z c hS hv hu hg
  obtain ⟨v', e, y', h1, h2⟩ := h F b m s w v u y z c hS hv hu hg
  refine ⟨v', e, y', h1, fun ρ hρ hρ2 => ?_⟩
  rw [he, hρ, hρ2, Sem.run_bind, h2]
  rfl
theorem al_of {g : GS} {xs : List Operand} {f : List Value → Sem Value} (h : AlR g f) (he : ∀ ρ : Operand → Value, execOp ρ o = do pure (.value (← f (xs.map ρ)))) : COpS o (.al g xs) := by
  intro m F l ys c _ hv hg
  obtain ⟨ob, hq, e1, e2, e3, obj, z, yv, e4, e5, e6⟩ := h m F l ys c hv hg
  refine ⟨ob, hq, e1, e2, e3, obj, z, yv, e4, e5, fun ρ w hρ => ?_⟩
  rw [he, hρ, Sem.run_bind, e6]
  rfl
/-- A chain's operation that yields a value. -/
theorem ch_of {g : GC} {xs : List Operand} {f : List Value → Sem Value} (h : ChR g f) (he : ∀ ρ : Operand → Value, execOp ρ o = do pure (.value (← f (xs.map ρ)))) : COpS o (.ch g xs) := by
  intro F rec _ b m s w l ys c _ hS hv hg a next Q ha hn
  obtain ⟨v, s', m', y', w', h1, h2, h3, h4, h5⟩ := h F b m s w l ys rec c hS hv hg
  unfold Oper.wp
  rw [he, ha, Sem.run_bind, h5]
  exact hn v s' m' y' w' h1 h2 h3 h4
/-- .. that yields none. -/
theorem chu_of {g : GC} {xs : List Operand} {f : List Value → Sem Unit} (h : ChR g fun l => (do f l; pure undef : Sem Value)) (he : ∀ ρ : Operand → Value, execOp ρ o = do f (xs.map ρ); pure .skip) : COpS o (.ch g xs) := by
  intro F rec _ b m s w l ys c _ hS hv hg a next Q ha hn
  obtain ⟨v, s', m', y', w', h1, h2, h3, h4, h5⟩ := h F b m s w l ys rec c hS hv hg
  unfold Oper.wp
  rw [he, ha, Sem.run_bind]
  rw [Sem.run_bind] at h5
  cases hr : (f ys).run Tryz.prog w with
  | halt x w2 => rw [hr] at h5; cases h5
  | ok u w2 =>
    rw [hr] at h5
    have h6 : Result.ok undef w2 = Result.ok y' w' := h5
    injection h6 with e1 e2
    subst e2
    subst e1
    exact hn v s' m' _ w2 h1 h2 h3 h4
end
end Go.Proofs.YtpknalhjgbgpiaaGreatDoor
namespace Go.Proofs.YtpknalhjgbgpiaaGreatDoor
open Go Go.RowKit
section
variable {dst : Option Tmp} {type : TypeId} {pos : String} {after : Array Edge} {guard : Option (Nat × Bool)}
theorem made_move (x : Operand) : Made ⟨dst, .move x, type, pos, after, guard⟩ (opK Tryz.prog ⟨dst, .move x, type, pos, after, guard⟩) := ⟨.mv x, fun _ => rfl, fun _ _ => rfl⟩
theorem made_assign (x : Operand) : Made ⟨dst, .assign x, type, pos, after, guard⟩ (opK Tryz.prog ⟨dst, .assign x, type, pos, after, guard⟩) := ⟨.mv x, fun _ => rfl, fun _ _ => rfl⟩
theorem made_pick (c a b : Operand) : Made ⟨dst, .pick c a b, type, pos, after, guard⟩ (opK Tryz.prog ⟨dst, .pick c a b, type, pos, after, guard⟩) := by
  refine ⟨.pl gpick [c, a, b], fun _ => rfl, ?_⟩
  intro m F l ys k _ hv hg
  unfold gpick at hg
  obtain ⟨t, u, v, rfl, g1⟩ := list3_iff hg
  obtain ⟨y1, y2, y3, rfl, h1, h2, h3⟩ := hv.inv3
  obtain ⟨t, rfl, g2⟩ := asB_iff.1 g1
  obtain rfl := h1.b_inv
  have run : ∀ (ρ : Operand → Value) (w : World), [c, a, b].map ρ = [.bool t, y2, y3] → (execOp ρ ⟨dst, .pick c a b, type, pos, after, guard⟩).run Tryz.prog w = .ok (.value (if t then y2 else y3)) w := by
    intro ρ w h
    simp only [List.map_cons, List.map_nil, List.cons.injEq, and_true] at h
    obtain ⟨h1, h2, h3⟩ := h
    simp [execOp, h1, h2, h3, asBool]
  cases t with
  | true => exact ⟨u, fun _ => rfl, y2, h2, run⟩
  | false => exact ⟨v, fun _ => rfl, y3, h3, run⟩
theorem made_alloc (t : TypeId) : Made ⟨dst, .alloc t, type, pos, after, guard⟩ (opK Tryz.prog ⟨dst, .alloc t, type, pos, after, guard⟩) := by
  cases e : (Tryz.prog.info? t).bind (·.zero) with
  | none => exact made_bad (w := "zero") fun k => by simp only [opK, zcB, e]
  | some v =>
    cases hz : okZ v with
    | false => exact made_bad (w := "zero") fun k => by simp only [opK, zcB, e, hz, ifZ]
    | true =>
      refine ⟨.al (salloc (cellsV (absV v))) [], fun k => ?_, al_of (alloc_R (fun m F => (zero_VR hz).1) (zero_VR (m := fun _ => none) (F := 0) hz).2 (zero_run e)) fun ρ => rfl⟩
      simp only [opK, zcB, e, hz, ifZ]
      exact mapB_id (fun x k => aB_eq x k) _ _
theorem made_box (t : TypeId) (x : Operand) : Made ⟨dst, .box t x, type, pos, after, guard⟩ (opK Tryz.prog ⟨dst, .box t x, type, pos, after, guard⟩) := ⟨.al sbox [x], fun _ => rfl, al_of (box_R (t := t)) fun _ρ => rfl⟩
theorem made_nilCheck (x : Operand) : Made ⟨dst, .nilCheck x, type, pos, after, guard⟩ (opK Tryz.prog ⟨dst, .nilCheck x, type, pos, after, guard⟩) := by
  refine ⟨.p1 gnilCheck x, fun _ => rfl, ?_⟩
  intro m F v y c hv hg
  obtain ⟨q, o, rfl, g1⟩ := asP_iff.1 hg
  obtain ⟨β, z, hq, rfl⟩ := hv.p_inv
  refine ⟨.p q o, fun _ => rfl, _, hv, fun ρ w h => ?_⟩
  simp [execOp, h]
theorem made_unOp (op : UnOp) (t : TypeId) (x : Operand) : Made ⟨dst, .unOp op t x, type, pos, after, guard⟩ (opK Tryz.prog ⟨dst, .unOp op t x, type, pos, after, guard⟩) := by
  cases op with
  | not => exact ⟨.p1 gnot x, fun _ => rfl, p1_of not_R fun ρ => rfl⟩
  | _ => exact made_bad (w := "un") fun _ => rfl
theorem made_extract (x : Operand) (i : Nat) : Made ⟨dst, .extract x i, type, pos, after, guard⟩ (opK Tryz.prog ⟨dst, .extract x i, type, pos, after, guard⟩) := ⟨.p1 (gextract i) x, fun _ => fNB_eq _ _, p1_of (extract_R i) fun _ρ => rfl⟩
theorem made_next (x : Operand) (s : Bool) : Made ⟨dst, .next x s, type, pos, after, guard⟩ (opK Tryz.prog ⟨dst, .next x s, type, pos, after, guard⟩) := by
  cases s with
  | true => exact ⟨.ch cnext [x], fun _ => rfl, ch_of (next_R (ty := type)) fun ρ => rfl⟩
  | false => exact made_bad (w := "op") fun _ => rfl
theorem made_makeFunc (fn : Fn) (a b : Array Operand) : Made ⟨dst, .makeFunc fn a b, type, pos, after, guard⟩ (opK Tryz.prog ⟨dst, .makeFunc fn a b, type, pos, after, guard⟩) := by
  cases fn with
  | func f =>
    refine ⟨.pl (gfunc (.func f) a.size) (a.toList ++ b.toList), fun k => ?_, pl_of (func_R f a.size) fun ρ => ?_⟩
    · show fNB a.size (fun n => fNB f fun f => k (.pl (gfunc (.func f) n) (a.toList ++ b.toList))) = _
      rw [fNB_eq, fNB_eq]
    · have e1 : (((a.toList ++ b.toList).map ρ).take a.size).toArray = a.map ρ := by
        rw [List.map_append, List.take_append_of_le_length (by simp), List.take_of_length_le (by simp)]
        apply Array.toList_inj.1
        rw [Array.toList_map]
      have e2 : (((a.toList ++ b.toList).map ρ).drop a.size).toArray = b.map ρ := by
        rw [List.map_append, List.drop_append_of_le_length (by simp), List.drop_of_length_le (by simp)]
        apply Array.toList_inj.1
        rw [List.nil_append, Array.toList_map]
      rw [e1, e2]
      rfl
  | _ => exact made_bad (w := "makeFunc") fun _ => rfl
theorem made_iface (t : TypeId) (x : Operand) : Made ⟨dst, .makeInterface t x, type, pos, after, guard⟩ (opK Tryz.prog ⟨dst, .makeInterface t x, type, pos, after, guard⟩) := by
  cases hd : undT Tryz.prog t with
  | interface ms => exact made_bad (w := "makeInterface") fun k => by simp only [opK, hd]
  | invalid => exact made_bad (w := "makeInterface") fun k => by simp only [opK, hd]
  | _ => exact ⟨.p1 (giface t) x, fun k => by simp only [opK, hd, fNB_eq], p1_of (iface_R (und_of hd (fun e => by cases e)) (fun ms e => by cases e)) fun ρ => rfl⟩
theorem made_fieldAddr (t : TypeId) (x : Operand) (f : Nat) : Made ⟨dst, .fieldAddr t x f, type, pos, after, guard⟩ (opK Tryz.prog ⟨dst, .fieldAddr t x f, type, pos, after, guard⟩) := by
  cases hd : undT Tryz.prog t with
  | struct fs =>
    have hu := und_of hd (fun e => by cases e)
    cases hf : fs[f]? with
    | none => exact made_bad (w := "fieldAddr") fun k => by simp only [opK, hd, hf]
    | some y =>
      cases hi : Tryz.prog.info? y.type with
      | none => exact made_bad (w := "fieldAddr") fun k => by simp only [opK, hd, hf, szB, hi]
      | some i =>
        cases hz : Nat.beq i.size 0 with
        | true => exact made_bad (w := "fieldAddr") fun k => by simp only [opK, hd, hf, szB, hi, fNB_eq, hz, ifZ]
        | false =>
          refine ⟨.p1 (gfieldAddr y.offset) x, fun k => by simp only [opK, hd, hf, szB, hi, fNB_eq, hz, ifZ], p1_of (fieldAddr_R (n := i.size) hu hf (by rw [hi]; rfl) (Nat.ne_of_beq_eq_false hz)) fun ρ => rfl⟩
  | _ => exact made_bad (w := "fieldAddr") fun k => by simp only [opK, hd]
end
end Go.Proofs.YtpknalhjgbgpiaaGreatDoor
namespace Go.Proofs.YtpknalhjgbgpiaaGreatDoor
open Go Go.RowKit
section
variable {dst : Option Tmp} {type : TypeId} {pos : String} {after : Array Edge} {guard : Option (Nat × Bool)}
theorem row_of {t : TypeId} {d : TypeDesc} (h : undT Tryz.prog t = d) (hd : d ≠ .invalid) : Tryz.prog.underlying t = some d ∧ d.isRow = aggT Tryz.prog t := by
  refine ⟨und_of h hd, ?_⟩
  unfold aggT
  rw [h]
  cases d <;> rfl
theorem made_load (t : TypeId) (x : Operand) : Made ⟨dst, .load t x, type, pos, after, guard⟩ (opK Tryz.prog ⟨dst, .load t x, type, pos, after, guard⟩) := by
  cases ha : aggT Tryz.prog t with
  | true =>
    cases hi : Tryz.prog.info? t with
    | none => exact made_bad (w := "size") fun k => by simp only [opK, ha, szB, hi]
    | some i =>
      have hn : undT Tryz.prog t ≠ .invalid := fun e => by unfold aggT at ha; rw [e] at ha; cases ha
      obtain ⟨hu, hr⟩ := row_of rfl hn
      exact ⟨.r1 (rloadN i.size) x, fun k => by simp only [opK, ha, szB, hi, fNB_eq], r1_of (loadN_R hu (hr.trans ha) (by rw [hi]; rfl)) fun ρ => rfl⟩
  | false =>
    cases hd : undT Tryz.prog t with
    | invalid => exact made_bad (w := "load") fun k => by simp only [opK, ha, hd]
    | _ =>
      obtain ⟨hu, hr⟩ := row_of hd (fun e => by cases e)
      exact ⟨.r1 rload1 x, fun k => by simp only [opK, ha, hd], r1_of (load1_R hu (hr.trans ha)) fun ρ => rfl⟩
theorem made_store (t : TypeId) (x v : Operand) : Made ⟨dst, .store t x v, type, pos, after, guard⟩ (opK Tryz.prog ⟨dst, .store t x v, type, pos, after, guard⟩) := by
  cases hi : Tryz.prog.info? t with
  | none => exact made_bad (w := "size") fun k => by cases ha : aggT Tryz.prog t <;> simp only [opK, ha, szB, hi]
  | some i =>
    cases ha : aggT Tryz.prog t with
    | true => exact ⟨.ch (cstoreN i.size) [x, v], fun k => by simp only [opK, ha, szB, hi, fNB_eq], chu_of (storeN_R (t := t) (by rw [hi]; rfl)) fun ρ => rfl⟩
    | false =>
      cases hz : Nat.beq i.size 1 with
      | false => exact made_bad (w := "store") fun k => by simp only [opK, ha, szB, hi, fNB_eq, hz, ifZ]
      | true => exact ⟨.ch cstore1 [x, v], fun k => by simp only [opK, ha, szB, hi, fNB_eq, hz, ifZ], chu_of (store1_R (t := t) (by rw [hi, Option.map_some, Nat.eq_of_beq_eq_true hz])) fun ρ => rfl⟩
theorem made_field (t : TypeId) (x : Operand) (f : Nat) : Made ⟨dst, .field t x f, type, pos, after, guard⟩ (opK Tryz.prog ⟨dst, .field t x f, type, pos, after, guard⟩) := by
  cases hd : undT Tryz.prog t with
  | struct fs =>
    have hu := und_of hd (fun e => by cases e)
    cases hf : fs[f]? with
    | none => exact made_bad (w := "field") fun k => by simp only [opK, hd, hf]
    | some y =>
      cases ha : aggT Tryz.prog y.type with
      | true =>
        cases hi : Tryz.prog.info? y.type with
        | none => exact made_bad (w := "size") fun k => by simp only [opK, hd, hf, ha, szB, hi, fNB_eq]
        | some i =>
          have hn : undT Tryz.prog y.type ≠ .invalid := fun e => by unfold aggT at ha; rw [e] at ha; cases ha
          obtain ⟨hu2, hr⟩ := row_of rfl hn
          exact ⟨.p1 (gfieldN i.size y.offset) x, fun k => by simp only [opK, hd, hf, ha, szB, hi, fNB_eq], p1_of (fieldN_R hu hf hu2 (hr.trans ha) (by rw [hi]; rfl)) fun ρ => rfl⟩
      | false =>
        cases hd2 : undT Tryz.prog y.type with
        | invalid => exact made_bad (w := "field") fun k => by simp only [opK, hd, hf, ha, hd2, fNB_eq]
        | _ =>
          obtain ⟨hu2, hr⟩ := row_of hd2 (fun e => by cases e)
          exact ⟨.p1 (gfield1 y.offset) x, fun k => by simp only [opK, hd, hf, ha, hd2, fNB_eq], p1_of (field1_R hu hf hu2 (hr.trans ha)) fun ρ => rfl⟩
  | _ => exact made_bad (w := "field") fun k => by simp only [opK, hd]
theorem made_convert (s t : TypeId) (x : Operand) : Made ⟨dst, .convert s t x, type, pos, after, guard⟩ (opK Tryz.prog ⟨dst, .convert s t x, type, pos, after, guard⟩) := by
  cases hs : undT Tryz.prog s with
  | int a =>
    have hu := und_of hs (fun e => by cases e)
    cases ht : undT Tryz.prog t with
    | int d =>
      have hv := und_of ht (fun e => by cases e)
      cases d with
      | i64 => exact ⟨.p1 gconv64 x, fun k => by simp only [opK, convB, hs, ht], p1_of (conv64_R hu hv) fun ρ => rfl⟩
      | _ => exact ⟨.p1 (gconvI _) x, fun k => by simp only [opK, convB, hs, ht, kindB], p1_of (convI_R hu hv) fun ρ => rfl⟩
    | _ => exact made_bad (w := "convert") fun k => by simp only [opK, convB, hs, ht]
  | slice e =>
    have hu := und_of hs (fun e => by cases e)
    cases ht : undT Tryz.prog t with
    | string =>
      have hv := und_of ht (fun e => by cases e)
      cases he : undT Tryz.prog e with
      | int d =>
        cases d with
        | u8 => exact ⟨.r1 rbytesStr x, fun k => by simp only [opK, convB, hs, ht, he], r1_of (bytesStr_R hu (und_of he (fun e => by cases e)) hv) fun ρ => rfl⟩
        | _ => exact made_bad (w := "convert") fun k => by simp only [opK, convB, hs, ht, he]
      | _ => exact made_bad (w := "convert") fun k => by simp only [opK, convB, hs, ht, he]
    | _ => exact made_bad (w := "convert") fun k => by simp only [opK, convB, hs, ht]
  | _ => exact made_bad (w := "convert") fun k => by simp only [opK, convB, hs]
end
end Go.Proofs.YtpknalhjgbgpiaaGreatDoor
