/- Parts of the proof: EvT3, EvT4. -/
import Derived.Orders
import Derived.Test.YtpknalhjgbgpiaaGreatDoorM11
noncomputable section
namespace Go.Proofs.YtpknalhjgbgpiaaGreatDoor
open Go Go.RowKit
/-- The temporaries, but for some. -/
structure EnvX (n : Nat) (ds : List Deferred) (X : Tmp → Prop) (m : Mp) (F : Int) (e : TE) (a : Act) : Prop where
  size : a.tmps.size = n
  defers : a.defers = ds
  at_ : ∀ t, okT n t = true → ¬ X t → VR m F (getE t e) (a.tmps.getD t undef)
abbrev EnvR (n : Nat) (ds : List Deferred) (m : Mp) (F : Int) (e : TE) (a : Act) : Prop := EnvX n ds (fun _ => False) m F e a
theorem okT_lt {n t : Nat} (h : okT n t = true) : t < n ∧ t < 256 := by
  unfold okT at h
  rw [Bool.and_eq_true_iff, Nat.blt_eq, Nat.blt_eq] at h
  exact h
def dstE (d : Option Tmp) (v : A) (e : TE) : TE := match d with
  | some t => putE t v e
  | none => e
theorem dstT_eq (d : Option Tmp) (e : TE) (v : A) (k : TE → Bool) : dstT d e v k = k (dstE d v e) := by cases d <;> rfl
section
variable {n : Nat} {ds : List Deferred} {X : Tmp → Prop} {m m' : Mp} {F : Int} {e : TE} {a : Act}
theorem EnvX.mono (h : EnvX n ds X m F e a) (hm : m.le m') : EnvX n ds X m' F e a := ⟨h.size, h.defers, fun t h1 h2 => (h.at_ t h1 h2).mono hm⟩
theorem EnvX.weak {Y : Tmp → Prop} (h : EnvX n ds X m F e a) (hY : ∀ t, X t → Y t) : EnvX n ds Y m F e a := ⟨h.size, h.defers, fun t h1 h2 => h.at_ t h1 fun h => h2 (hY t h)⟩
theorem put_size (a : Act) (d : Option Tmp) (y : Value) : (a.put d y).tmps.size = a.tmps.size := by
  cases d with
  | none => rfl
  | some t => exact Array.size_setIfInBounds
theorem put_defers (a : Act) (d : Option Tmp) (y : Value) : (a.put d y).defers = a.defers := by cases d <;> rfl
theorem EnvX.put {d : Option Tmp} {v : A} {y : Value} (h : EnvX n ds X m F e a) (hd : okD n d = true) (hv : VR m F v y) : EnvX n ds (fun t => X t ∧ d ≠ some t) m F (dstE d v e) (a.put d y) := by
  refine ⟨(put_size a d y).trans h.size, (put_defers a d y).trans h.defers, fun t ht hX => ?_⟩
  cases d with
  | none =>
    exact h.at_ t ht fun hx => hX ⟨hx, fun e => by cases e⟩
  | some u =>
    obtain ⟨h1, h2⟩ := okT_lt ht
    obtain ⟨h3, h4⟩ := okT_lt hd
    by_cases hu : t = u
    · subst hu
      show VR m F (getE t (putE t v e)) ((a.tmps.setIfInBounds t y).getD t undef)
      rw [getE_same, Array.getD_eq_getD_getElem?, Array.getElem?_setIfInBounds_self_of_lt (by rw [h.size]; exact h1)]
      exact hv
    · show VR m F (getE t (putE u v e)) ((a.tmps.setIfInBounds u y).getD t undef)
      rw [getE_ne h2 h4 hu, Array.getD_eq_getD_getElem?, Array.getElem?_setIfInBounds_ne (fun e => hu e.symm), ← Array.getD_eq_getD_getElem?]
      exact h.at_ t ht fun hx => hX ⟨hx, fun e => hu (by injection e with e; exact e.symm)⟩
theorem EnvX.opT (h : EnvX n ds X m F e a) (hg : ∀ g, g < 4 → ∃ z, m (numQ g) = some (g, z)) {x : Operand} (hx : okX n x = true) (hX : ∀ t, x = .tmp t → ¬ X t) : VR m F (opT x e) (a.eval x) := by
  cases x with
  | tmp t => exact h.at_ t hx (hX t rfl)
  | const v => exact absV_VR hx
  | global g =>
    obtain ⟨z, hz⟩ := hg g (by rw [← Nat.blt_eq]; exact hx)
    exact .p hz
  | func f => exact .f rfl rfl (fun i x y hx => by simp at hx) (fun i x y hx => by simp at hx)
theorem EnvX.args (h : EnvX n ds X m F e a) (hg : ∀ g, g < 4 → ∃ z, m (numQ g) = some (g, z)) {xs : List Operand} (hx : xs.all (okX n) = true) (hX : ∀ x ∈ xs, ∀ t, x = .tmp t → ¬ X t) : VRs m F (xs.map fun x => YtpknalhjgbgpiaaGreatDoor.opT x e) (xs.map a.eval) := by
  induction xs with
  | nil => exact .nil
  | cons x xs ih =>
    rw [List.all_cons, Bool.and_eq_true_iff] at hx
    exact .cons (h.opT hg hx.1 (hX x (by simp))) (ih hx.2 fun x hm => hX x (by simp [hm]))
end
/-- What an operation looks at. -/
def lookC : COp → List Operand
  | .mv x | .p1 _ x | .r1 _ x => [x]
  | .p2 _ x y | .r2 _ x y => [x, y]
  | .pl _ xs | .al _ xs | .ch _ xs => xs
  | .bad _ => []
section
variable {n : Nat} {ds : List Deferred} {X : Tmp → Prop} {F : Int} {b : Base} {m : Mp} {s : S} {w : World} {e : TE} {a : Act} {rec : Rec} {k : KE}
theorem St.gl (h : St F b m s w) : ∀ g, g < 4 → ∃ z, m (numQ g) = some (g, z) := fun g hg => let ⟨z, e⟩ := h.glob g hg; ⟨z, h.mono _ _ e⟩
theorem cop_wp {o : Oper} {C : COp} (hC : COpS o C) (ok : okC n C = true) (hrec : RecS F rec) (hS : St F b m s w) (hE : EnvX n ds X m F e a) (hX : ∀ x ∈ lookC C, ∀ t, x = .tmp t → ¬ X t) {next : RegF}
    (hg : copT C (dstT o.dst) next rec e s k = true) {K : Act → World → Prop} {Q : Exit → Act → World → Prop}
    (hK : ∀ v s' m' y w', next rec (dstE o.dst v e) s' k = true → St F b m' s' w' → m.le m' → VR m' F v y → K (a.put o.dst y) w') : o.wp Tryz.prog a w K Q := by
  have val : ∀ {y : Value} {w' : World}, (execOp a.eval o).run Tryz.prog w = .ok (.value y) w' → K (a.put o.dst y) w' → o.wp Tryz.prog a w K Q := by
    intro y w' h hk
    unfold Oper.wp
    rw [h, Oper.upon_value]
    exact hk
  have gl := hS.gl
  cases C with
  | mv x =>
    have hg' : dstT o.dst e (opT x e) (fun e => next rec e s k) = true := hg
    rw [dstT_eq] at hg'
    exact val (hC a.eval w) (hK _ _ _ _ _ hg' hS (Mp.le_refl _) (hE.opT gl ok (hX x (List.mem_singleton.2 rfl))))
  | p1 g x =>
    have hg' : g (opT x e) (fun v => dstT o.dst e v (fun e => next rec e s k)) = true := hg
    obtain ⟨v', h1, y', h2, h3⟩ := hC m F _ _ _ (hE.opT gl ok (hX x (List.mem_singleton.2 rfl))) hg'
    rw [h1, dstT_eq] at hg'
    exact val (h3 a.eval w rfl) (hK _ _ _ _ _ hg' hS (Mp.le_refl _) h2)
  | p2 g x x2 =>
    have hg' : g (opT x e) (opT x2 e) (fun v => dstT o.dst e v (fun e => next rec e s k)) = true := hg
    rw [okC, Bool.and_eq_true_iff] at ok
    obtain ⟨v', h1, y', h2, h3⟩ := hC m F _ _ _ _ _ (hE.opT gl ok.1 (hX x (by simp [lookC]))) (hE.opT gl ok.2 (hX x2 (by simp [lookC]))) hg'
    rw [h1, dstT_eq] at hg'
    exact val (h3 a.eval w rfl rfl) (hK _ _ _ _ _ hg' hS (Mp.le_refl _) h2)
  | pl g xs =>
    have hg' : g (xs.map fun x => opT x e) (fun v => dstT o.dst e v (fun e => next rec e s k)) = true := hg
    obtain ⟨v', h1, y', h2, h3⟩ := hC m F _ _ _ (by rw [List.length_map]) (hE.args gl ok hX) hg'
    rw [h1, dstT_eq] at hg'
    exact val (h3 a.eval w rfl) (hK _ _ _ _ _ hg' hS (Mp.le_refl _) h2)
  | r1 g x =>
    have hg' : g s (opT x e) (fun v => dstT o.dst e v (fun e => next rec e s k)) = true := hg
    obtain ⟨v', h1, y', h2, h3⟩ := hC F b m s w _ _ _ hS (hE.opT gl ok (hX x (List.mem_singleton.2 rfl))) hg'
    rw [h1, dstT_eq] at hg'
    exact val (h3 a.eval rfl) (hK _ _ _ _ _ hg' hS (Mp.le_refl _) h2)
  | r2 g x x2 =>
    have hg' : g s (opT x e) (opT x2 e) (fun v => dstT o.dst e v (fun e => next rec e s k)) = true := hg
    rw [okC, Bool.and_eq_true_iff] at ok
    obtain ⟨v', h1, y', h2, h3⟩ := hC F b m s w _ _ _ _ _ hS (hE.opT gl ok.1 (hX x (by simp [lookC]))) (hE.opT gl ok.2 (hX x2 (by simp [lookC]))) hg'
    rw [h1, dstT_eq] at hg'
    exact val (h3 a.eval rfl rfl) (hK _ _ _ _ _ hg' hS (Mp.le_refl _) h2)
  | al g xs =>
    have hg' : g (xs.map fun x => opT x e) (fun o' h => newK s o' fun q s => dstT o.dst e (h q) fun e => next rec e s k) = true := hg
    obtain ⟨ob, h, _, h2, h3, obj, z, yv, h4, h5, h6⟩ := hC m F _ _ _ (by rw [List.length_map]) (hE.args gl ok hX) hg'
    obtain ⟨r, hr, h7⟩ := newK_iff h2
    rw [dstT_eq] at h7
    have hN := hS.new (o := ob) hr
    have hm : m s.next = none := (hS.fresh s.next (Nat.le_refl _)).2
    obtain ⟨hB, hle⟩ := hN.born (q := s.next) (z := z) (obj := obj) (by simp only; omega) hS.next hm (by
      show OR m F z (getO s.next (s.put s.next ob).h) obj
      rw [S.get_put_same]
      exact h4)
    exact val (h6 a.eval w rfl) (hK _ _ _ _ _ h7 hB hle (h5 _ _ _ (Mp.set_same _ _ _)))
  | ch g xs =>
    have hg' : g rec s (xs.map fun x => opT x e) (fun v s => dstT o.dst e v fun e => next rec e s k) = true := hg
    refine hC F rec hrec b m s w _ _ _ (by rw [List.length_map]) hS (hE.args gl ok hX) hg' a K Q rfl fun v s' m' y' w' h1 h2 h3 h4 => ?_
    rw [dstT_eq] at h1
    exact hK v s' m' y' w' h1 h2 h3 h4
  | bad w => exact no hg
end
-- guards
theorem eqB_iff {a b : Bool} : eqB a b = true ↔ a = b := by cases a <;> cases b <;> simp [eqB, ifB]
theorem asGd_iff {v : A} {want : Bool} {ky kn : Unit → Bool} (h : asGd v want ky kn = true) : (v = .b want ∧ ky () = true) ∨ ((v = .b (!want) ∨ v = undefA) ∧ kn () = true) := by
  cases v with
  | b x =>
    have h' : ifB (eqB x want) (ky ()) (kn ()) = true := h
    rcases ifB_iff.1 h' with ⟨h1, h2⟩ | ⟨h1, h2⟩
    · exact .inl ⟨by rw [eqB_iff.1 h1], h2⟩
    · refine .inr ⟨.inl ?_, h2⟩
      have : x ≠ want := fun e => by rw [eqB_iff.2 e] at h1; cases h1
      cases x <;> cases want <;> first | rfl | exact absurd rfl this
  | g t l =>
    cases t with
    | false => exact no h
    | true => cases l with
      | nil => exact .inr ⟨.inr rfl, h⟩
      | cons x l => exact no h
  | _ => exact no h
theorem guard_wanted {n : Nat} {ops : Array Oper} {o g : Oper} {j : Nat} {want : Bool} {t : Tmp} {m : Mp} {F : Int} {v : A} {a : Act} (hg : o.guard = some (j, want)) (hj : ops.toList[j]? = some g) (ht : g.dst = some t) (hk : okT n t = true) (hs : a.tmps.size = n)
    (hv : VR m F v (a.tmps.getD t undef)) : (v = .b want → Region.wanted o (yielded ops a.tmps) = true) ∧ (v = .b (!want) ∨ v = undefA → Region.wanted o (yielded ops a.tmps) = false) := by
  obtain ⟨h1, _⟩ := okT_lt hk
  have hlt : t < a.tmps.size := by rw [hs]; exact h1
  have hj' : ops[j]? = some g := by simpa using hj
  have e : yielded ops a.tmps j = match a.tmps.getD t undef with
      | .bool b => some b
      | _ => none := by
    unfold yielded
    rw [hj', Option.bind_some, ht, Option.bind_some, Array.getElem?_eq_getElem hlt, Array.getD_eq_getD_getElem?, Array.getElem?_eq_getElem hlt, Option.getD_some]
    generalize a.tmps[t] = y
    cases y <;> rfl
  unfold Region.wanted
  rw [hg]
  simp only
  rw [e]
  constructor
  · rintro rfl
    rw [hv.b_inv]
    simp
  · rintro (rfl | rfl)
    · rw [hv.b_inv]
      cases want <;> rfl
    · obtain ⟨cs, h2, _⟩ := VR.tup_iff.1 hv
      rw [h2]
      rfl
-- a region that does not draw
section
variable {n : Nat} {ds : List Deferred} {F : Int} {b : Base} {rec : Rec} {k : KE} {ops : Array Oper}
theorem plain_wp (hrec : RecS F rec) {Q : Exit → Act → World → Prop} {m0 : Mp}
    (hQ : ∀ e s m a w, k e s = true → St F b m s w → m0.le m → EnvR n ds m F e a → Q .normal a w) :
    ∀ (l : List Nat) (f : RegF), IsSteps n ops.toList (l.map (2 * ·)) f → ∀ (e : TE) (s : S) (m : Mp) (a : Act) (w : World), f rec e s k = true → St F b m s w → m0.le m → EnvR n ds m F e a → wpOps Tryz.prog ops Q l a w := by
  intro l
  induction l with
  | nil =>
    intro f hf e s m a w hk hS hm hE
    cases hf
    exact hQ e s m a w hk hS hm hE
  | cons i l ih =>
    intro f hf e s m a w hk hS hm hE
    rw [List.map_cons] at hf
    cases hf with
    | cons hi hl =>
      rename_i next
      rw [wpOps_cons]
      unfold wpOp
      -- the operation itself
      have run : ∀ {o : Oper} {f : RegF}, okD n o.dst = true → IsOp n o next f → f rec e s k = true → o.wp Tryz.prog a w (wpOps Tryz.prog ops Q l) Q := by
        intro o f hd hop hk
        rcases hop with ⟨ok, rfl⟩ | ⟨w', rfl⟩
        · exact cop_wp (op_sound o).1 ok hrec hS hE (fun _ _ _ _ h => h) hk fun v s' m' y w' h1 h2 h3 h4 =>
            ih next hl _ _ _ _ _ h1 h2 (Mp.le_trans hm h3) (((hE.mono h3).put hd h4).weak fun t h => h.1)
        · exact no hk
      generalize hii : 2 * i = ii at hi
      cases hi with
      | bad w' => exact no hk
      | run ho hd hg h =>
        rename_i i' o
        have hi' : i' = i := by omega
        subst hi'
        have ho' : ops[i']? = some o := by simpa using ho
        have hw : Region.wanted o (yielded ops a.tmps) = true := by unfold Region.wanted; rw [hg]
        simp only [ho', hw, if_true]
        exact .inl (run hd h hk)
      | runG ho hd hg hj ht hkt h =>
        rename_i i' f o g j want t
        have hi' : i' = i := by omega
        subst hi'
        have ho' : ops[i']? = some o := by simpa using ho
        have hk' : asGd (getE t e) want (fun _ => f rec e s k) (fun _ => dstT o.dst e undefA fun e => next rec e s k) = true := hk
        obtain ⟨w1, w2⟩ := guard_wanted hg hj ht hkt hE.size (hE.at_ t hkt fun h => h)
        simp only [ho']
        rcases asGd_iff hk' with ⟨h1, h2⟩ | ⟨h1, h2⟩
        · simp only [w1 h1, if_true]
          exact .inl (run hd h h2)
        · simp only [w2 h1, Bool.false_eq_true, if_false]
          rw [dstT_eq] at h2
          exact ih next hl _ _ _ _ _ h2 hS hm ((hE.put hd undef_VR).weak fun t h => h.1)
      | chk ho hd hkt hg h => omega
      | chkG ho hd hkd hg hj ht hkt h => omega
end
end Go.Proofs.YtpknalhjgbgpiaaGreatDoor
noncomputable section
namespace Go.Proofs.YtpknalhjgbgpiaaGreatDoor
open Go Go.RowKit
-- values that are the same
theorem eqQ_iff {a b : Q} (h : eqQ a b = true) : a = b := numOf_inj (Nat.eq_of_beq_eq_true h)
theorem eqFn_iff {a b : Fn} (h : eqFn a b = true) : a = b := by
  cases a with
  | func f => cases b with
    | func g => rw [Nat.eq_of_beq_eq_true h]
    | _ => exact no h
  | _ => exact no h
theorem eqTag_iff {t : Bool} {v : A} {k : List A → Bool} (h : eqTag t v k = true) : ∃ l, v = .g t l ∧ k l = true := by
  cases v with
  | g u l => cases t <;> cases u <;> first | exact ⟨l, rfl, h⟩ | exact no h
  | _ => exact no h
theorem eqA_iff : ∀ v w : A, eqA v w = true → v = w := by
  have key : ∀ v : A, (∀ w, eqA v w = true → v = w) := by
    refine A.rec (motive_1 := fun v => ∀ w, eqA v w = true → v = w) (motive_2 := fun l => ∀ m, eqA (.g true l) (.g true m) = true → l = m) ?_ ?_ ?_ ?_ ?_ ?_ ?_ ?_ ?_ ?_ ?_ ?_ ?_ ?_
    · intro n w h
      obtain ⟨m, rfl, g⟩ := asI_iff.1 (show asI w (fun m => eqI n m) = true from h)
      rw [eqI_eq, decide_eq_true_eq] at g
      rw [g]
    · intro x w h
      obtain ⟨y, rfl, g⟩ := asB_iff.1 (show asB w (fun y => Bool.rec (Bool.rec true false y) y x) = true from h)
      cases x <;> cases y <;> first | rfl | exact no g
    · intro q o w h
      obtain ⟨r, u, rfl, g⟩ := asP_iff.1 (show asP w (fun r u => ifB (Nat.beq o u) (eqQ q r) false) = true from h)
      obtain ⟨h1, h2⟩ := ifB_t.1 g
      rw [Nat.eq_of_beq_eq_true h1, eqQ_iff h2]
    · intro q o l e c w h
      rcases asSl_iff.1 (show asSl w (fun _ => false) (fun q' o' l' e' c' => ifB (Nat.beq o o') (ifB (Nat.beq l l') (ifB (Nat.beq e e') (ifB (eqQ q q') (Option.rec (Option.rec true (fun _ => false) c') (fun n => Option.rec false (fun m => Nat.beq n m) c') c) false) false) false) false) = true from h) with ⟨_, g⟩ | ⟨q', o', l', e', c', rfl, g⟩
      · exact no g
      · obtain ⟨h1, g1⟩ := ifB_t.1 g
        obtain ⟨h2, g2⟩ := ifB_t.1 g1
        obtain ⟨h3, g3⟩ := ifB_t.1 g2
        obtain ⟨h4, g4⟩ := ifB_t.1 g3
        rw [Nat.eq_of_beq_eq_true h1, Nat.eq_of_beq_eq_true h2, Nat.eq_of_beq_eq_true h3, eqQ_iff h4]
        cases c <;> cases c' <;> first | rfl | exact no g4 | rw [Nat.eq_of_beq_eq_true g4]
    · intro t l ih w h
      have h' : eqTag t w (fun m => eqA (.g true l) (.g true m)) = true := h
      obtain ⟨m, rfl, g⟩ := eqTag_iff h'
      rw [ih m g]
    · intro l w h
      obtain ⟨m, rfl, g⟩ := asS_iff.1 (show asS w (fun m => eqLN l m) = true from h)
      rw [eqLN_eq, decide_eq_true_eq] at g
      rw [g]
    · intro a n w h
      rcases ifB_iff.1 (show ifB (kEq a .i64) false (asJ w fun b m => ifB (kEq a b) (eqI n m) false) = true from h) with ⟨_, g⟩ | ⟨h0, g⟩
      · exact no g
      · rcases asJ_iff.1 g with ⟨m, rfl, g⟩ | ⟨b, m, rfl, g⟩
        · obtain ⟨h1, _⟩ := ifB_t.1 g
          rw [h0] at h1
          cases h1
        · obtain ⟨h1, h2⟩ := ifB_t.1 g
          rw [kEq_eq, decide_eq_true_eq] at h1
          rw [eqI_eq, decide_eq_true_eq] at h2
          rw [h1, h2]
    · intro n w h
      obtain ⟨m, rfl, g⟩ := asZ_iff.1 (show asZ w (fun m => Nat.beq n m) = true from h)
      rw [Nat.eq_of_beq_eq_true g]
    · intro q w h
      obtain ⟨r, rfl, g⟩ := asM_iff.1 (show asM w (fun r => eqQ q r) = true from h)
      rw [eqQ_iff g]
    · intro fn a b iha ihb w h
      obtain ⟨fn', a', b', rfl, g⟩ := asF_iff.1 (show asF w (fun fn' a' b' => ifB (eqFn fn fn') (ifB (eqA (.g true a) (.g true a')) (eqA (.g true b) (.g true b')) false) false) = true from h)
      obtain ⟨h1, g1⟩ := ifB_t.1 g
      obtain ⟨h2, h3⟩ := ifB_t.1 g1
      rw [eqFn_iff h1, iha a' h2, ihb b' h3]
    · intro t v ih w h
      rcases asT_iff.1 (show asT w (fun _ => false) (fun u x => ifB (Nat.beq t u) (eqA v x) false) = true from h) with ⟨_, g⟩ | ⟨u, x, rfl, g⟩
      · exact no g
      · obtain ⟨h1, h2⟩ := ifB_t.1 g
        rw [Nat.eq_of_beq_eq_true h1, ih x h2]
    · intro x w h
      exact no h
    · intro m h
      cases m with
      | nil => rfl
      | cons y m => exact no h
    · intro x l ihx ihl m h
      cases m with
      | nil => exact no h
      | cons y m =>
        obtain ⟨h1, h2⟩ := ifB_t.1 (show ifB (eqA x y) (eqA (.g true l) (.g true m)) false = true from h)
        rw [ihx y h1, ihl m h2]
  exact key
-- what a region's operations are
/-- What must lie ahead of an operation. -/
def predsO (o : Oper) : List Nat := (o.after.toList.filter fun e => Region.binds .any e).map (·.on)
def chC : COp → Bool
  | .ch _ _ => true
  | .bad _ => true
  | _ => false
def rdC : COp → Bool
  | .r1 _ _ | .r2 _ _ _ => true
  | _ => false
def alC : COp → Bool
  | .al _ _ => true
  | _ => false
/-- An operation that stands in the chain: it writes, or calls. -/
def isCh (o : Oper) : Bool := chC (opC Tryz.prog o) || match o.op with
  | .assign _ => true
  | _ => false
def isRd (o : Oper) : Bool := rdC (opC Tryz.prog o)
def isAl (o : Oper) : Bool := alC (opC Tryz.prog o)
def tmpsX (xs : List Operand) : List Tmp := xs.filterMap fun
  | .tmp t => some t
  | _ => none
/-- The temporaries that an operation looks at. -/
def looksO (ops : List Oper) (o : Oper) : List Tmp := tmpsX (lookC (opC Tryz.prog o)) ++ match o.guard with
  | some (j, _) => ((ops[j]?).bind (·.dst)).toList
  | none => []
theorem mem_tmpsX {xs : List Operand} {t : Tmp} (h : .tmp t ∈ xs) : t ∈ tmpsX xs := List.mem_filterMap.2 ⟨_, h, rfl⟩
/-- What lies ahead, at last. -/
inductive Anc (ops : List Oper) : Nat → Nat → Prop
  | one {i p : Nat} {o : Oper} (ho : ops[i]? = some o) (h : p ∈ predsO o) : Anc ops i p
  | more {i p q : Nat} {o : Oper} (ho : ops[i]? = some o) (h : p ∈ predsO o) (t : Anc ops p q) : Anc ops i q
def Closed (ops : List Oper) (Ls : Nat → Prop) : Prop := ∀ i, Ls i → ∀ o, ops[i]? = some o → ∀ p ∈ predsO o, Ls p
theorem Anc.closed {ops : List Oper} {Ls : Nat → Prop} (hc : Closed ops Ls) {i k : Nat} (h : Anc ops i k) : ∀ {o : Oper}, ops[i]? = some o → (∀ p ∈ predsO o, Ls p) → Ls k := by
  induction h with
  | one ho h =>
    intro o ho' hp
    rw [ho] at ho'
    cases ho'
    exact hp _ h
  | more ho h t ih =>
    intro o ho' hp
    rw [ho] at ho'
    cases ho'
    have hl := hp _ h
    cases t with
    | one ho2 h2 => exact ih ho2 fun p hm => hc _ hl _ ho2 p hm
    | more ho2 h2 t2 => exact ih ho2 fun p hm => hc _ hl _ ho2 p hm
theorem Anc.tail {ops : List Oper} {i p q : Nat} (h : Anc ops i p) (t : Anc ops p q) : Anc ops i q := by
  induction h with
  | one ho h => exact .more ho h t
  | more ho h _ ih => exact .more ho h (ih t)
/-- What was done, the last first: in an order in which it may be. -/
inductive DOk (ops : List Oper) : List Nat → Prop
  | nil : DOk ops []
  | cons {i : Nat} {D : List Nat} {o : Oper} (h : DOk ops D) (ho : ops[i]? = some o) (hi : i ∉ D) (hp : ∀ p ∈ predsO o, p ∈ D)
      (hl : ∀ k ∈ D, ∀ ok, ops[k]? = some ok → isCh ok = false → ∀ t, ok.dst = some t → t ∈ looksO ops o → Anc ops i k)
      (hd : isCh o = false → ∀ t, o.dst = some t → t ∉ looksO ops o ∧ ∀ k ∈ D, ∀ ok, ops[k]? = some ok → t ∉ looksO ops ok ∧ ok.dst ≠ some t)
      (hc : isCh o = true → ∀ t, o.dst = some t → ∀ k ∈ D, ∀ ok, ops[k]? = some ok → isCh ok = false → (t ∈ looksO ops ok ∨ ok.dst = some t) → Anc ops i k) : DOk ops (i :: D)
theorem DOk.has {ops : List Oper} {D : List Nat} (h : DOk ops D) : ∀ i ∈ D, ∃ o, ops[i]? = some o := by
  induction h with
  | nil => exact fun i hi => by cases hi
  | cons h ho hi hp hl hd hc ih =>
    intro i hm
    rcases List.mem_cons.1 hm with rfl | hm
    · exact ⟨_, ho⟩
    · exact ih i hm
/-- What is looked at, and what yields it. -/
theorem DOk.look {ops : List Oper} {D : List Nat} (h : DOk ops D) : ∀ i ∈ D, ∀ o, ops[i]? = some o → ∀ k ∈ D, ∀ ok, ops[k]? = some ok → isCh ok = false → ∀ t, ok.dst = some t → t ∈ looksO ops o → Anc ops i k := by
  induction h with
  | nil => exact fun i hi => by cases hi
  | cons h ho hi hp hl hd hc ih =>
    rename_i j D oj
    intro i hm o hio k hk ok hko hch t ht hlk
    rcases List.mem_cons.1 hm with rfl | hm2 <;> rcases List.mem_cons.1 hk with rfl | hk2
    · rw [ho] at hio hko
      cases hio
      cases hko
      exact absurd hlk (hd hch t ht).1
    · rw [ho] at hio
      cases hio
      exact hl k hk2 ok hko hch t ht hlk
    · rw [ho] at hko
      cases hko
      exact absurd hlk ((hd hch t ht).2 i hm2 o hio).1
    · exact ih i hm2 o hio k hk2 ok hko hch t ht hlk
/-- No two that float yield one temporary. -/
theorem DOk.dsts {ops : List Oper} {D : List Nat} (h : DOk ops D) : ∀ i ∈ D, ∀ o, ops[i]? = some o → isCh o = false → ∀ k ∈ D, ∀ ok, ops[k]? = some ok → isCh ok = false → ∀ t, o.dst = some t → ok.dst = some t → i = k := by
  induction h with
  | nil => exact fun i hi => by cases hi
  | cons h ho hi hp hl hd hc ih =>
    rename_i j D oj
    intro i hm o hio hch k hk ok hko hck t ht hkt
    rcases List.mem_cons.1 hm with rfl | hm2 <;> rcases List.mem_cons.1 hk with rfl | hk2
    · rfl
    · rw [ho] at hio
      cases hio
      exact absurd hkt ((hd hch t ht).2 k hk2 ok hko).2
    · rw [ho] at hko
      cases hko
      exact absurd ht ((hd hck t hkt).2 i hm2 o hio).2
    · exact ih i hm2 o hio hch k hk2 ok hko hck t ht hkt
end Go.Proofs.YtpknalhjgbgpiaaGreatDoor
