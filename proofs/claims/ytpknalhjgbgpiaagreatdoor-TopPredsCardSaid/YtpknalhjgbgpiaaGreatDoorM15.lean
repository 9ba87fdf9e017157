/- Parts of the proof: EvT9, EvC0, EvC1. -/
import Derived.LoopN
import Derived.TacticsIn
import Derived.Test.YtpknalhjgbgpiaaGreatDoorM14
noncomputable section
namespace Go.Proofs.YtpknalhjgbgpiaaGreatDoor
open Go Go.RowKit
def memB (x : Nat) (l : List Nat) : Bool := l.any fun y => Nat.beq x y
theorem memB_iff {x : Nat} {l : List Nat} : memB x l = true ↔ x ∈ l := by
  unfold memB
  rw [List.any_eq_true]
  constructor
  · rintro ⟨y, hy, h⟩
    rw [Nat.eq_of_beq_eq_true h]
    exact hy
  · exact fun h => ⟨x, h, Nat.beq_refl x⟩
/-- What the plan's test asks of an operation. -/
structure OI where
  ch : Bool
  rd : Bool
  al : Bool
  dst : Option Tmp
  looks : List Tmp
  preds : List Nat
def infoO (ops : List Oper) (o : Oper) : OI := ⟨isCh o, isRd o, isAl o, o.dst, looksO ops o, predsO o⟩
def addU (x : Nat) (l : List Nat) : List Nat := match memB x l with
  | true => l
  | false => x :: l
theorem mem_addU {x y : Nat} {l : List Nat} : y ∈ addU x l ↔ y = x ∨ y ∈ l := by
  unfold addU
  cases h : memB x l with
  | true =>
    have := memB_iff.1 h
    constructor
    · exact fun h => .inr h
    · rintro (rfl | h)
      · exact this
      · exact h
  | false => exact List.mem_cons
def findT (T : List (Nat × List Nat)) (i : Nat) : Option (List Nat) := match T with
  | [] => none
  | (j, l) :: T => match Nat.beq i j with
    | true => some l
    | false => findT T i
def ancB (T : List (Nat × List Nat)) (pr : List Nat) : List Nat := pr.foldr (fun p acc => addU p (match findT T p with
  | some l => l.foldr addU acc
  | none => acc)) []
theorem mem_foldr_addU {y : Nat} {l acc : List Nat} : y ∈ l.foldr addU acc ↔ y ∈ l ∨ y ∈ acc := by
  induction l with
  | nil => simp
  | cons x l ih => rw [List.foldr_cons, mem_addU, ih, List.mem_cons, or_assoc]
theorem mem_ancB {T : List (Nat × List Nat)} {pr : List Nat} {y : Nat} : y ∈ ancB T pr ↔ y ∈ pr ∨ ∃ p ∈ pr, ∃ l, findT T p = some l ∧ y ∈ l := by
  unfold ancB
  induction pr with
  | nil => simp
  | cons p pr ih =>
    rw [List.foldr_cons, mem_addU]
    cases h : findT T p with
    | none =>
      simp only
      rw [ih, List.mem_cons]
      constructor
      · rintro (h1 | h1 | ⟨q, h1, l, h2, h3⟩)
        · exact .inl (.inl h1)
        · exact .inl (.inr h1)
        · exact .inr ⟨q, List.mem_cons_of_mem _ h1, l, h2, h3⟩
      · rintro ((h1 | h1) | ⟨q, h1, l, h2, h3⟩)
        · exact .inl h1
        · exact .inr (.inl h1)
        · rcases List.mem_cons.1 h1 with rfl | h1
          · rw [h] at h2; cases h2
          · exact .inr (.inr ⟨q, h1, l, h2, h3⟩)
    | some l0 =>
      simp only
      rw [mem_foldr_addU, ih, List.mem_cons]
      constructor
      · rintro (h1 | h1 | h1 | ⟨q, h1, l, h2, h3⟩)
        · exact .inl (.inl h1)
        · exact .inr ⟨p, by simp, l0, h, h1⟩
        · exact .inl (.inr h1)
        · exact .inr ⟨q, List.mem_cons_of_mem _ h1, l, h2, h3⟩
      · rintro ((h1 | h1) | ⟨q, h1, l, h2, h3⟩)
        · exact .inl h1
        · exact .inr (.inr (.inl h1))
        · rcases List.mem_cons.1 h1 with rfl | h1
          · rw [h] at h2
            cases h2
            exact .inr (.inl h3)
          · exact .inr (.inr (.inr ⟨q, h1, l, h2, h3⟩))
def statB (inf : List OI) (o : OI) (D an : List Nat) : Bool :=
  (D.all fun k => match inf[k]? with
    | some ok => ok.ch || match ok.dst with
      | some t => !memB t o.looks || memB k an
      | none => true
    | none => false) &&
  match o.dst with
  | none => true
  | some t => match o.ch with
    | false => !memB t o.looks && D.all fun k => match inf[k]? with
      | some ok => !memB t ok.looks && match ok.dst with
        | some u => !Nat.beq u t
        | none => true
      | none => false
    | true => D.all fun k => match inf[k]? with
      | some ok => ok.ch || memB k an || (!memB t ok.looks && match ok.dst with
        | some u => !Nat.beq u t
        | none => true)
      | none => false
def sureB (inf : List OI) (an V K : List Nat) : Bool := an.all fun r => match inf[r]? with
  | some o => !o.rd || memB r V || memB r K
  | none => false
def newVB (o : OI) (i : Nat) (V : List Nat) : List Nat := match o.al with
  | true => []
  | false => match o.rd with
    | true => i :: V
    | false => V
def planB (inf : List OI) : List Nat → List Nat → List Nat → List Nat → List (Nat × List Nat) → Bool
  | [], D, V, K, _ => (List.range inf.length).all (memB · D) && sureB inf D V K
  | st :: pl, D, V, K, T => match inf[st / 2]? with
    | none => false
    | some o => match st % 2 with
      | 0 => !memB (st / 2) D && o.preds.all (memB · D) && statB inf o D (ancB T o.preds) && match o.ch with
        | true => sureB inf D V K && ((List.range inf.length).all fun j => memB j D || Nat.beq j (st / 2) || match inf[j]? with
            | some oj => oj.preds.any fun p => !memB p D
            | none => true) && planB inf pl (st / 2 :: D) [] (st / 2 :: ancB T o.preds ++ K) ((st / 2, ancB T o.preds) :: T)
        | false => sureB inf (ancB T o.preds) V K && planB inf pl (st / 2 :: D) (newVB o (st / 2) V) K ((st / 2, ancB T o.preds) :: T)
      | _ => memB (st / 2) D && match findT T (st / 2) with
        | some an => sureB inf an V K && planB inf pl D (st / 2 :: V) K T
        | none => false
section
variable {ops : List Oper}
/-- The table of what lies ahead is right. -/
def TOk (ops : List Oper) (D : List Nat) (T : List (Nat × List Nat)) : Prop := ∀ i ∈ D, ∃ l, findT T i = some l ∧ ∀ x, x ∈ l ↔ Anc ops i x
theorem info_at {i : Nat} {o : Oper} (h : ops[i]? = some o) : (ops.map (infoO ops))[i]? = some (infoO ops o) := by simp [h]
theorem info_some {i : Nat} {q : OI} (h : (ops.map (infoO ops))[i]? = some q) : ∃ o, ops[i]? = some o ∧ q = infoO ops o := by
  rw [List.getElem?_map] at h
  cases ho : ops[i]? with
  | none => rw [ho] at h; cases h
  | some o =>
    rw [ho] at h
    exact ⟨o, rfl, (Option.some.inj h).symm⟩
theorem anc_iff {D : List Nat} {T : List (Nat × List Nat)} (hT : TOk ops D T) {i : Nat} {o : Oper} (ho : ops[i]? = some o) (hp : ∀ p ∈ predsO o, p ∈ D) (x : Nat) : x ∈ ancB T (predsO o) ↔ Anc ops i x := by
  rw [mem_ancB]
  constructor
  · rintro (h | ⟨p, h1, l, h2, h3⟩)
    · exact .one ho h
    · obtain ⟨l', h4, h5⟩ := hT p (hp p h1)
      rw [h2] at h4
      cases h4
      exact .more ho h1 ((h5 x).1 h3)
  · intro h
    cases h with
    | one ho2 h =>
      rw [ho] at ho2
      cases ho2
      exact .inl h
    | more ho2 h t =>
      rw [ho] at ho2
      cases ho2
      obtain ⟨l, h4, h5⟩ := hT _ (hp _ h)
      exact .inr ⟨_, h, l, h4, (h5 x).2 t⟩
theorem TOk.cons {D : List Nat} {T : List (Nat × List Nat)} (hT : TOk ops D T) {i : Nat} {l : List Nat} (h : ∀ x, x ∈ l ↔ Anc ops i x) (hi : i ∉ D) : TOk ops (i :: D) ((i, l) :: T) := by
  intro k hk
  rcases List.mem_cons.1 hk with rfl | hk2
  · refine ⟨l, ?_, h⟩
    simp only [findT, Nat.beq_refl]
  · obtain ⟨l', h1, h2⟩ := hT k hk2
    refine ⟨l', ?_, h2⟩
    have : Nat.beq k i = false := by
      cases e : Nat.beq k i with
      | false => rfl
      | true => exact absurd (Nat.eq_of_beq_eq_true e ▸ hk2) hi
    simp only [findT, this]
    exact h1
theorem not_memB {x : Nat} {l : List Nat} : (!memB x l) = true ↔ x ∉ l := by
  rw [Bool.not_eq_true']
  constructor
  · intro h hm
    rw [memB_iff.2 hm] at h
    cases h
  · intro h
    cases e : memB x l with
    | false => rfl
    | true => exact absurd (memB_iff.1 e) h
theorem not_dst {d : Option Tmp} {t : Tmp} : (match d with
    | some u => !Nat.beq u t
    | none => true) = true ↔ d ≠ some t := by
  cases d with
  | none => simp
  | some u =>
    simp only [Bool.not_eq_true', ne_eq, Option.some.injEq]
    constructor
    · intro h e
      rw [e, Nat.beq_refl] at h
      cases h
    · intro h
      cases e : Nat.beq u t with
      | false => rfl
      | true => exact absurd (Nat.eq_of_beq_eq_true e) h
theorem sure_of {an V K : List Nat} (h : sureB (ops.map (infoO ops)) an V K = true) : ∀ i ∈ an, ∀ o, ops[i]? = some o → isRd o = true → i ∈ V ∨ i ∈ K := by
  intro i hi o ho hr
  have := List.all_eq_true.1 h i hi
  rw [info_at ho] at this
  simp only [infoO, hr, Bool.not_true, Bool.false_or, Bool.or_eq_true, memB_iff] at this
  exact this
theorem stat_of {D : List Nat} {i : Nat} {o : Oper} {an : List Nat} (ho : ops[i]? = some o) (hD : DOk ops D) (hi : i ∉ D) (hp : ∀ p ∈ predsO o, p ∈ D) (ha : ∀ x, x ∈ an ↔ Anc ops i x) (h : statB (ops.map (infoO ops)) (infoO ops o) D an = true) : DOk ops (i :: D) := by
  unfold statB at h
  rw [Bool.and_eq_true_iff] at h
  obtain ⟨h1, h2⟩ := h
  refine .cons hD ho hi hp (fun k hk ok hok hck t hd hl => ?_) (fun hc t hd => ?_) (fun hc t hd k hk ok hok hck hx => ?_)
  · have := List.all_eq_true.1 h1 k hk
    rw [info_at hok] at this
    simp only [infoO, hck, Bool.false_or, hd, Bool.or_eq_true] at this
    rcases this with h' | h'
    · exact absurd hl (not_memB.1 h')
    · exact (ha k).1 (memB_iff.1 h')
  · simp only [infoO, hd, hc, Bool.and_eq_true] at h2
    refine ⟨not_memB.1 h2.1, fun k hk ok hok => ?_⟩
    have := List.all_eq_true.1 h2.2 k hk
    rw [info_at hok] at this
    simp only [infoO, Bool.and_eq_true] at this
    exact ⟨not_memB.1 this.1, not_dst.1 this.2⟩
  · simp only [infoO, hd, hc] at h2
    have := List.all_eq_true.1 h2 k hk
    rw [info_at hok] at this
    simp only [infoO, hck, Bool.false_or, Bool.or_eq_true, Bool.and_eq_true] at this
    rcases this with h' | ⟨h3, h4⟩
    · exact (ha k).1 (memB_iff.1 h')
    · rcases hx with hx | hx
      · exact absurd hx (not_memB.1 h3)
      · exact absurd hx (not_dst.1 h4)
theorem newVB_eq (o : Oper) (i : Nat) (V : List Nat) : newVB (infoO ops o) i V = newV o i V := by
  unfold newVB newV
  simp only [infoO]
  cases isAl o with
  | true => rfl
  | false => cases isRd o <;> rfl
/-- A plan that is tested fits. -/
theorem plan_of : ∀ (pl D V K : List Nat) (T : List (Nat × List Nat)), DOk ops D → TOk ops D T → planB (ops.map (infoO ops)) pl D V K T = true → PlanOk ops pl D V K := by
  intro pl
  induction pl with
  | nil =>
    intro D V K T hD hT h
    unfold planB at h
    rw [Bool.and_eq_true_iff] at h
    refine .done (fun i o ho => ?_) (sure_of h.2)
    have hlt : i < ops.length := (List.getElem?_eq_some_iff.1 ho).1
    exact memB_iff.1 (List.all_eq_true.1 h.1 i (by rw [List.mem_range, List.length_map]; exact hlt))
  | cons st pl ih =>
    intro D V K T hD hT h
    unfold planB at h
    cases hi : (ops.map (infoO ops))[st / 2]? with
    | none => rw [hi] at h; cases h
    | some q =>
      obtain ⟨o, ho, rfl⟩ := info_some hi
      rw [hi] at h
      simp only at h
      rcases Nat.mod_two_eq_zero_or_one st with hm | hm
      · rw [hm] at h
        simp only [Bool.and_eq_true] at h
        obtain ⟨⟨⟨h1, h2⟩, h3⟩, h4⟩ := h
        have hiD : st / 2 ∉ D := not_memB.1 h1
        have hp : ∀ p ∈ predsO o, p ∈ D := fun p hp => memB_iff.1 (List.all_eq_true.1 h2 p hp)
        have ha : ∀ x, x ∈ ancB T (predsO o) ↔ Anc ops (st / 2) x := anc_iff hT ho hp
        have hD' := stat_of ho hD hiD hp ha h3
        have hT' := hT.cons ha hiD
        rw [← two_mul_div st hm]
        cases hc : isCh o with
        | true =>
          have hcc : (infoO ops o).ch = true := hc
          rw [hcc] at h4
          simp only [Bool.and_eq_true] at h4
          obtain ⟨⟨h5, h6⟩, h7⟩ := h4
          refine .chain ho hc hD' (sure_of h5) (fun j oj hj hjD => ?_) (fun x hx => ?_) (ih _ _ _ _ hD' hT' h7)
          · have hlt : j < ops.length := (List.getElem?_eq_some_iff.1 hj).1
            have := List.all_eq_true.1 h6 j (by rw [List.mem_range, List.length_map]; exact hlt)
            rw [info_at hj] at this
            simp only [Bool.or_eq_true] at this
            rcases this with (h' | h') | h'
            · exact absurd (memB_iff.1 h') hjD
            · exact .inl (Nat.eq_of_beq_eq_true h')
            · obtain ⟨p, hp1, hp2⟩ := List.any_eq_true.1 h'
              exact .inr ⟨p, hp1, not_memB.1 hp2⟩
          · rcases List.mem_cons.1 hx with rfl | hx
            · exact .inr (.inl rfl)
            · rcases List.mem_append.1 hx with hx | hx
              · exact .inr (.inr ((ha x).1 hx))
              · exact .inl hx
        | false =>
          have hcc : (infoO ops o).ch = false := hc
          rw [hcc] at h4
          simp only [Bool.and_eq_true] at h4
          obtain ⟨h5, h6⟩ := h4
          rw [newVB_eq] at h6
          exact .float ho hc hD' (fun r hr o' ho' hrd => sure_of h5 r ((ha r).2 hr) o' ho' hrd) (ih _ _ _ _ hD' hT' h6)
      · rw [hm] at h
        simp only [Bool.and_eq_true] at h
        obtain ⟨h1, h2⟩ := h
        have hiD := memB_iff.1 h1
        obtain ⟨l, h3, h4⟩ := hT _ hiD
        rw [h3] at h2
        simp only [Bool.and_eq_true] at h2
        rw [← two_mul_div1 st hm]
        exact .chk ho hiD (fun r hr o' ho' hrd => sure_of h2.1 r ((h4 r).2 hr) o' ho' hrd) (ih _ _ _ _ hD hT h2.2)
end
end Go.Proofs.YtpknalhjgbgpiaaGreatDoor
noncomputable section
namespace Go.Proofs.YtpknalhjgbgpiaaGreatDoor
open Go Go.RowKit
/-- In a round. -/
abbrev inR (l : Nat) : Fence := Fence.wide.inRound l
theorem callsIn_round {l nf : Nat} {P : Program} {f : FuncId} {args : Array Value} {w : World} {R : Ending → World → Prop} (h : Calls P f args w R) : CallsIn (inR l) nf P f args w R :=
  ⟨trivial, fun cs _ => let ⟨e, w', fr, r, s, x⟩ := h cs; ⟨e, w', fr, r, comesIn_wide.2 s, x⟩⟩
theorem rowsIn_round {l nf : Nat} {P : Program} {row : String} {args : Array Value} {w : World} {R : Value → World → Prop} (h : Rows P row args w R) : RowsIn (inR l) nf P row args w R :=
  fun c cs _ => let ⟨v, w', r, s⟩ := h c cs; ⟨v, w', r, stepsIn_wide.2 s⟩
theorem oper_in {l nf : Nat} {P : Program} {o : Oper} {a : Act} {w : World} {K : Act → World → Prop} {Q : Exit → Act → World → Prop} (hd : ∀ c, o.op ≠ .defer c) (h : o.wp P a w K Q) : o.wpIn (inR l) nf P a w K Q := by
  refine ⟨fun f _ => trivial, ?_⟩
  rw [Oper.semAt_eq _ _ _ hd]
  unfold Oper.wp at h
  have nd : (inR l).depth.isSome = true → 1 ≤ nf := fun h => by cases h
  cases hr : (execOp a.eval o).run P w with
  | ok x w' =>
    rw [hr] at h
    cases x with
    | value v => exact h
    | skip => exact h
    | defer d => exact h
    | enter f args =>
      rw [Oper.upon_enter] at h
      rw [Oper.uponIn_enter]
      exact ⟨nd, callsIn_round h⟩
    | row row args =>
      rw [Oper.upon_row] at h
      rw [Oper.uponIn_row]
      exact ⟨nd, rowsIn_round h⟩
    | _ => exact h.elim
  | halt x w' =>
    rw [hr] at h
    cases x with
    | panic v => exact h
    | _ => exact h.elim
theorem defer_bad {o : Oper} {c : Call} (h : o.op = .defer c) : opC Tryz.prog o = .bad "op" := by
  unfold opC opK
  rw [h]
  rfl
section
variable {n : Nat} {ds : List Deferred} {F : Int} {b : Base} {rec : Rec} {k : KE} {ops : Array Oper} {l nf : Nat}
theorem plain_wpIn (hrec : RecS F rec) {Q : Exit → Act → World → Prop} {m0 : Mp}
    (hQ : ∀ e s m a w, k e s = true → St F b m s w → m0.le m → EnvR n ds m F e a → Q .normal a w) :
    ∀ (li : List Nat) (f : RegF), IsSteps n ops.toList (li.map (2 * ·)) f → ∀ (e : TE) (s : S) (m : Mp) (a : Act) (w : World), f rec e s k = true → St F b m s w → m0.le m → EnvR n ds m F e a → wpOpsIn (inR l) nf Tryz.prog ops Q li a w := by
  intro li
  induction li with
  | nil =>
    intro f hf e s m a w hk hS hm hE
    cases hf
    exact hQ e s m a w hk hS hm hE
  | cons i li ih =>
    intro f hf e s m a w hk hS hm hE
    rw [List.map_cons] at hf
    cases hf with
    | cons hi hl =>
      rename_i next
      unfold wpOpsIn
      have run : ∀ {o : Oper} {f : RegF}, okD n o.dst = true → IsOp n o next f → f rec e s k = true → o.wpIn (inR l) nf Tryz.prog a w (wpOpsIn (inR l) nf Tryz.prog ops Q li) Q := by
        intro o f hd hop hk
        rcases hop with ⟨ok, rfl⟩ | ⟨w', rfl⟩
        · refine oper_in (fun c hc => ?_) (cop_wp (op_sound o).1 ok hrec hS hE (fun _ _ _ _ h => h) hk fun v s' m' y w' h1 h2 h3 h4 =>
            ih next hl _ _ _ _ _ h1 h2 (Mp.le_trans hm h3) (((hE.mono h3).put hd h4).weak fun t h => h.1))
          rw [defer_bad hc] at hk
          exact no hk
        · exact no hk
      generalize hii : 2 * i = ii at hi
      cases hi with
      | bad w' => exact no hk
      | run ho hd hg h =>
        rename_i i' o
        have hi' : i' = i := by omega
        subst hi'
        have ho' : ops[i']? = some o := by simpa using ho
        have hw : Region.wanted o (yielded ops a.tmps) = true := by unfold Region.wanted; rw [hg]
        simp only [ho', hw, if_true]
        exact run hd h hk
      | runG ho hd hg hj ht hkt h =>
        rename_i i' f o g j want t
        have hi' : i' = i := by omega
        subst hi'
        have ho' : ops[i']? = some o := by simpa using ho
        have hk' : asGd (getE t e) want (fun _ => f rec e s k) (fun _ => dstT o.dst e undefA fun e => next rec e s k) = true := hk
        obtain ⟨w1, w2⟩ := guard_wanted hg hj ht hkt hE.size (hE.at_ t hkt fun h => h)
        simp only [ho']
        rcases asGd_iff hk' with ⟨h1, h2⟩ | ⟨h1, h2⟩
        · simp only [w1 h1, if_true]
          exact run hd h h2
        · simp only [w2 h1, Bool.false_eq_true, if_false]
          rw [dstT_eq] at h2
          exact ⟨fun f _ => trivial, ih next hl _ _ _ _ _ h2 hS hm ((hE.put hd undef_VR).weak fun t h => h.1)⟩
      | chk ho hd hkt hg h => omega
      | chkG ho hd hkd hg hj ht hkt h => omega
end
end Go.Proofs.YtpknalhjgbgpiaaGreatDoor
noncomputable section
namespace Go.Proofs.YtpknalhjgbgpiaaGreatDoor
open Go Go.RowKit
/-- How code ends. -/
def PostC (n : Nat) (ds : List Deferred) (F : Int) (b : Base) (m : Mp) (kn : KE) (ke : Nat → KE) (kr : KE) : Exit → Act → World → Prop := fun x a w => ∃ e s m', St F b m' s w ∧ m.le m' ∧ EnvR n ds m' F e a ∧ match x with
  | .normal => kn e s = true
  | .exit id => ke id e s = true
  | .ret => kr e s = true
  | _ => False
def CodeS (n : Nat) (c : Code) (f : CF) : Prop := ∀ (F : Int) (rec : Rec), RecS F rec → ∀ (b : Base) (m : Mp) (s : S) (w : World) (e : TE) (a : Act) (kn : KE) (ke : Nat → KE) (kr : KE) (ds : List Deferred), St F b m s w → EnvR n ds m F e a → f rec e s kn ke kr = true →
  c.wp Tryz.prog (PostC n ds F b m kn ke kr) a w
/-- .. in a round. -/
def CodeSI (n : Nat) (c : Code) (f : CF) : Prop := ∀ (l nf : Nat) (F : Int) (rec : Rec), RecS F rec → ∀ (b : Base) (m : Mp) (s : S) (w : World) (e : TE) (a : Act) (kn : KE) (ke : Nat → KE) (kr : KE) (ds : List Deferred), St F b m s w → EnvR n ds m F e a → f rec e s kn ke kr = true →
  c.wpIn (inR l) nf Tryz.prog (PostC n ds F b m kn ke kr) a w
section
variable {n : Nat}
theorem PostC.le {ds : List Deferred} {F : Int} {b : Base} {m m' : Mp} {kn : KE} {ke : Nat → KE} {kr : KE} {x : Exit} {a : Act} {w : World} (h : PostC n ds F b m' kn ke kr x a w) (hm : m.le m') : PostC n ds F b m kn ke kr x a w := by
  obtain ⟨e, s, m2, h1, h2, h3, h4⟩ := h
  exact ⟨e, s, m2, h1, Mp.le_trans hm h2, h3, h4⟩
theorem code_stuck (c : Code) (w : String) : CodeS n c (stuckF w) := fun _ _ _ _ _ _ _ _ _ _ _ _ _ _ _ h => no h
theorem code_skip : CodeS n .skip skipF := by
  intro F rec hrec b m s w e a kn ke kr ds hS hE h
  exact wp_skip ⟨e, s, m, hS, Mp.le_refl _, hE, h⟩
theorem code_exit (id : Nat) : CodeS n (.exit id) (exitF id) := by
  intro F rec hrec b m s w e a kn ke kr ds hS hE h
  exact wp_exit ⟨e, s, m, hS, Mp.le_refl _, hE, h⟩
theorem code_ret : CodeS n .ret retF := by
  intro F rec hrec b m s w e a kn ke kr ds hS hE h
  exact wp_ret ⟨e, s, m, hS, Mp.le_refl _, hE, h⟩
theorem code_plain {id : Nat} {ops : Array Oper} {f : RegF} (hf : IsSteps n ops.toList ((List.range ops.toList.length).map (2 * ·)) f) : CodeS n (.region id ops false) (regF f) := by
  intro F rec hrec b m s w e a kn ke kr ds hS hE h
  have h' : f rec e s kn = true := h
  refine wp_region ?_
  rw [← Array.length_toList]
  exact plain_wp hrec (fun e s m' a w h1 h2 h3 h4 => ⟨e, s, m', h2, h3, h4, h1⟩) _ f hf e s m a w h' hS (Mp.le_refl _) hE
theorem code_draw {id : Nat} {ops : Array Oper} {pl : List Nat} {f : RegF} (hp : PlanOk ops.toList pl [] [] []) (hf : IsSteps n ops.toList pl f) : CodeS n (.region id ops true) (regF f) := by
  intro F rec hrec b m s w e a kn ke kr ds hS hE h
  have h' : f rec e s kn = true := h
  exact draw_wp hrec (fun e s m' a w h1 h2 h3 h4 => ⟨e, s, m', h2, h3, h4, h1⟩) hp hf h' hS hE
/-- A mark of a range that is over, among the deferred calls. -/
def markD (D : Nat) : Deferred := { target := .collected D, args := #[] }
def Marks (ds : List Deferred) (b : Base) (w : World) (m : Mp) (s : S) : Prop := ∃ Ds : List Nat, ds = Ds.map markD ∧ Ds.Nodup ∧ ∀ D ∈ Ds, w.heap[D]? = some (.deferred (some [])) ∧ ¬ liveB m s D ∧ b.W.heap.size ≤ D
theorem Marks.nil {b : Base} {w : World} {m : Mp} {s : S} : Marks [] b w m s := ⟨[], rfl, List.nodup_nil, fun _D hD => absurd hD List.not_mem_nil⟩
theorem Marks.keep {ds : List Deferred} {b : Base} {F : Int} {m m' : Mp} {s s' : S} {w w' : World} (h : Marks ds b w m s) (k : St F ⟨w, liveB m s, m, s⟩ m' s' w') : Marks ds b w' m' s' := by
  obtain ⟨Ds, h1, h2, h3⟩ := h
  refine ⟨Ds, h1, h2, fun D hD => ?_⟩
  obtain ⟨h4, h5, h6⟩ := h3 D hD
  have hlt : D < w.heap.size := (Array.getElem?_eq_some_iff.1 h4).1
  refine ⟨(k.fr.block D hlt h5).trans h4, ?_, h6⟩
  rintro ⟨q, z, h7, h8⟩
  rcases k.own q D z h7 h8 with h9 | h9
  · exact h5 h9
  · exact absurd hlt (Nat.not_lt.2 h9)
/-- How code ends, marks and all. -/
def PostM (n : Nat) (F : Int) (b : Base) (m : Mp) (kn : KE) (ke : Nat → KE) (kr : KE) : Exit → Act → World → Prop := fun x a w => ∃ e s m' ds, St F b m' s w ∧ m.le m' ∧ EnvR n ds m' F e a ∧ Marks ds b w m' s ∧ match x with
  | .normal => kn e s = true
  | .exit id => ke id e s = true
  | .ret => kr e s = true
  | _ => False
def CodeM (n : Nat) (c : Code) (f : CF) : Prop := ∀ (F : Int) (rec : Rec), RecS F rec → ∀ (b : Base) (m : Mp) (s : S) (w : World) (e : TE) (a : Act) (kn : KE) (ke : Nat → KE) (kr : KE) (ds : List Deferred), St F b m s w → EnvR n ds m F e a → Marks ds b w m s → f rec e s kn ke kr = true →
  c.wp Tryz.prog (PostM n F b m kn ke kr) a w
theorem PostM.le {F : Int} {b : Base} {m m' : Mp} {kn : KE} {ke : Nat → KE} {kr : KE} {x : Exit} {a : Act} {w : World} (h : PostM n F b m' kn ke kr x a w) (hm : m.le m') : PostM n F b m kn ke kr x a w := by
  obtain ⟨e, s, m2, ds, h1, h2, h3, h5, h4⟩ := h
  exact ⟨e, s, m2, ds, h1, Mp.le_trans hm h2, h3, h5, h4⟩
theorem CodeS.m {c : Code} {f : CF} (h : CodeS n c f) : CodeM n c f := by
  intro F rec hrec b m s w e a kn ke kr ds hS hE hM hf
  refine wp_mono (h F rec hrec ⟨w, liveB m s, m, s⟩ m s w e a kn ke kr ds hS.rebase hE hf) fun x a' w' hq => ?_
  obtain ⟨e', s', m', h1, h2, h3, h4⟩ := hq
  exact ⟨e', s', m', ds, hS.trans h1, h2, h3, hM.keep h1, h4⟩
theorem code_seq {c d : Code} {f g : CF} (hc : CodeM n c f) (hd : CodeM n d g) : CodeM n (.seq c d) (seqF f g) := by
  intro F rec hrec b m s w e a kn ke kr ds hS hE hM h
  have h' : f rec e s (fun e s => g rec e s kn ke kr) ke kr = true := h
  refine wp_seq (wp_mono (hc F rec hrec b m s w e a _ _ _ ds hS hE hM h') fun x a' w' hq => ?_)
  obtain ⟨e', s', m', ds', h1, h2, h3, hM', h4⟩ := hq
  cases x with
  | normal => exact wp_mono (hd F rec hrec b m' s' w' e' a' kn ke kr ds' h1 h3 hM' h4) fun _ _ _ hp => hp.le h2
  | exit id => exact ⟨e', s', m', ds', h1, h2, h3, hM', h4⟩
  | ret => exact ⟨e', s', m', ds', h1, h2, h3, hM', h4⟩
  | _ => exact h4.elim
theorem code_cond {x : Operand} {c d : Code} {f g : CF} (hx : okX n x = true) (hc : CodeM n c f) (hd : CodeM n d g) : CodeM n (.cond x c d) (condF (opT x) f g) := by
  intro F rec hrec b m s w e a kn ke kr ds hS hE hM h
  obtain ⟨t, ht, h1⟩ := asB_iff.1 (show asB (opT x e) (fun b => ifB b (f rec e s kn ke kr) (g rec e s kn ke kr)) = true from h)
  have hv := hE.opT hS.gl hx (fun _ _ h => h)
  rw [ht] at hv
  refine wp_cond hv.b_inv ?_
  cases t with
  | true => exact hc F rec hrec b m s w e a kn ke kr ds hS hE hM h1
  | false => exact hd F rec hrec b m s w e a kn ke kr ds hS hE hM h1
theorem code_block {id : Nat} {c : Code} {f : CF} (hc : CodeM n c f) : CodeM n (.block id c) (blockF id f) := by
  intro F rec hrec b m s w e a kn ke kr ds hS hE hM h
  have h' : f rec e s kn (fun j e s => ifB (Nat.beq j id) (kn e s) (ke j e s)) kr = true := h
  refine wp_block (wp_mono (hc F rec hrec b m s w e a _ _ _ ds hS hE hM h') fun x a' w' hq => ?_)
  obtain ⟨e', s', m', ds', h1, h2, h3, hM', h4⟩ := hq
  cases x with
  | normal => exact ⟨e', s', m', ds', h1, h2, h3, hM', h4⟩
  | exit j =>
    show if j = id then _ else _
    have h5 : ifB (Nat.beq j id) (kn e' s') (ke j e' s') = true := h4
    rcases ifB_iff.1 h5 with ⟨h6, h7⟩ | ⟨h6, h7⟩
    · rw [if_pos (Nat.eq_of_beq_eq_true h6)]
      exact ⟨e', s', m', ds', h1, h2, h3, hM', h7⟩
    · rw [if_neg (Nat.ne_of_beq_eq_false h6)]
      exact ⟨e', s', m', ds', h1, h2, h3, hM', h7⟩
  | ret => exact ⟨e', s', m', ds', h1, h2, h3, hM', h4⟩
  | _ => exact h4.elim
theorem code_loop {c : Code} {f : CF} (hc : CodeM n c f) : CodeM n (.loop c) (loopF f) := by
  intro F rec hrec b m s w e a kn ke kr ds hS hE hM h
  refine wp_loop_rounds 1000000 ?_
  have key : ∀ (j : Nat) (m' : Mp) (s : S) (w : World) (e : TE) (a : Act) (ds : List Deferred), m.le m' → St F b m' s w → EnvR n ds m' F e a → Marks ds b w m' s → againF f j rec ke kr e s = true → Code.rounds Tryz.prog c (PostM n F b m kn ke kr) j a w := by
    intro j
    induction j with
    | zero => exact fun m' s w e a ds _ _ _ _ h => no h
    | succ j ih =>
      intro m' s w e a ds hm hS hE hM h
      have h' : f rec e s (againF f j rec ke kr) ke kr = true := h
      rw [rounds_succ]
      refine wp_mono (hc F rec hrec b m' s w e a _ _ _ ds hS hE hM h') fun x a' w' hq => ?_
      obtain ⟨e', s', m2, ds', h1, h2, h3, hM', h4⟩ := hq
      cases x with
      | normal => exact ih m2 s' w' e' a' ds' (Mp.le_trans hm h2) h1 h3 hM' h4
      | exit id => exact ⟨e', s', m2, ds', h1, Mp.le_trans hm h2, h3, hM', h4⟩
      | ret => exact ⟨e', s', m2, ds', h1, Mp.le_trans hm h2, h3, hM', h4⟩
      | _ => exact h4.elim
  exact key _ m s w e a ds (Mp.le_refl _) hS hE hM h
-- in a round
theorem codeI_stuck (c : Code) (w : String) : CodeSI n c (stuckF w) := fun _ _ _ _ _ _ _ _ _ _ _ _ _ _ _ _ _ h => no h
theorem codeI_skip : CodeSI n .skip skipF := by
  intro l nf F rec hrec b m s w e a kn ke kr ds hS hE h
  exact wpIn_skip ⟨e, s, m, hS, Mp.le_refl _, hE, h⟩
theorem codeI_exit (id : Nat) : CodeSI n (.exit id) (exitF id) := by
  intro l nf F rec hrec b m s w e a kn ke kr ds hS hE h
  exact wpIn_exit ⟨e, s, m, hS, Mp.le_refl _, hE, h⟩
theorem codeI_ret : CodeSI n .ret retF := by
  intro l nf F rec hrec b m s w e a kn ke kr ds hS hE h
  exact wpIn_ret ⟨e, s, m, hS, Mp.le_refl _, hE, h⟩
theorem codeI_seq {c d : Code} {f g : CF} (hc : CodeSI n c f) (hd : CodeSI n d g) : CodeSI n (.seq c d) (seqF f g) := by
  intro l nf F rec hrec b m s w e a kn ke kr ds hS hE h
  have h' : f rec e s (fun e s => g rec e s kn ke kr) ke kr = true := h
  refine wpIn_seq (wpIn_mono (hc l nf F rec hrec b m s w e a _ _ _ ds hS hE h') fun x a' w' hq => ?_)
  obtain ⟨e', s', m', h1, h2, h3, h4⟩ := hq
  cases x with
  | normal => exact wpIn_mono (hd l nf F rec hrec b m' s' w' e' a' kn ke kr ds h1 h3 h4) fun _ _ _ hp => hp.le h2
  | exit id => exact ⟨e', s', m', h1, h2, h3, h4⟩
  | ret => exact ⟨e', s', m', h1, h2, h3, h4⟩
  | _ => exact h4.elim
theorem codeI_cond {x : Operand} {c d : Code} {f g : CF} (hx : okX n x = true) (hc : CodeSI n c f) (hd : CodeSI n d g) : CodeSI n (.cond x c d) (condF (opT x) f g) := by
  intro l nf F rec hrec b m s w e a kn ke kr ds hS hE h
  obtain ⟨t, ht, h1⟩ := asB_iff.1 (show asB (opT x e) (fun b => ifB b (f rec e s kn ke kr) (g rec e s kn ke kr)) = true from h)
  have hv := hE.opT hS.gl hx (fun _ _ h => h)
  rw [ht] at hv
  refine wpIn_cond hv.b_inv ?_
  cases t with
  | true => exact hc l nf F rec hrec b m s w e a kn ke kr ds hS hE h1
  | false => exact hd l nf F rec hrec b m s w e a kn ke kr ds hS hE h1
theorem codeI_block {id : Nat} {c : Code} {f : CF} (hc : CodeSI n c f) : CodeSI n (.block id c) (blockF id f) := by
  intro l nf F rec hrec b m s w e a kn ke kr ds hS hE h
  have h' : f rec e s kn (fun j e s => ifB (Nat.beq j id) (kn e s) (ke j e s)) kr = true := h
  refine wpIn_block (wpIn_mono (hc l nf F rec hrec b m s w e a _ _ _ ds hS hE h') fun x a' w' hq => ?_)
  obtain ⟨e', s', m', h1, h2, h3, h4⟩ := hq
  cases x with
  | normal => exact ⟨e', s', m', h1, h2, h3, h4⟩
  | exit j =>
    show if j = id then _ else _
    have h5 : ifB (Nat.beq j id) (kn e' s') (ke j e' s') = true := h4
    rcases ifB_iff.1 h5 with ⟨h6, h7⟩ | ⟨h6, h7⟩
    · rw [if_pos (Nat.eq_of_beq_eq_true h6)]
      exact ⟨e', s', m', h1, h2, h3, h7⟩
    · rw [if_neg (Nat.ne_of_beq_eq_false h6)]
      exact ⟨e', s', m', h1, h2, h3, h7⟩
  | ret => exact ⟨e', s', m', h1, h2, h3, h4⟩
  | _ => exact h4.elim
theorem codeI_plain {id : Nat} {ops : Array Oper} {f : RegF} (hf : IsSteps n ops.toList ((List.range ops.toList.length).map (2 * ·)) f) : CodeSI n (.region id ops false) (regF f) := by
  intro l nf F rec hrec b m s w e a kn ke kr ds hS hE h
  have h' : f rec e s kn = true := h
  refine wpIn_region ?_
  rw [← Array.length_toList]
  exact plain_wpIn hrec (fun e s m' a w h1 h2 h3 h4 => ⟨e, s, m', h2, h3, h4, h1⟩) _ f hf e s m a w h' hS (Mp.le_refl _) hE
end
/-- Code that may stand in a round. -/
def calmC : Code → Bool
  | .skip => true
  | .region _ _ draw => !draw
  | .seq c d | .cond _ c d => calmC c && calmC d
  | .block _ c => calmC c
  | .exit _ => true
  | .ret => true
  | _ => false
/-- The plans of code fit. -/
def okPl (pl : List (Nat × List Nat)) : Code → Bool
  | .region id ops true => planB (ops.toList.map (infoO ops.toList)) (planOf pl id ops.toList true) [] [] [] []
  | .seq c d | .cond _ c d => okPl pl c && okPl pl d
  | .rangeFunc _ _ c d => okPl pl c && (okPl pl d && (calmC c && calmC d))
  | .block _ c | .loop c => okPl pl c
  | _ => true
/-- What is laid for code that ranges over a function is sound. -/
def RangeS (n : Nat) (bk : BK) : Prop := ∀ (x : Operand) (p q : Tmp) (c d : Code) (f g : CF), okX n x = true → okT n p = true → okT n q = true → CodeSI n c f → CodeSI n d g → CodeM n (.rangeFunc x #[p, q] c d) (rangeF bk (opT x) (updT p) (updT q) f g)
theorem code_made {n : Nat} {bk : BK} (hR : RangeS n bk) {pl : List (Nat × List Nat)} (c : Code) : okPl pl c = true → ∃ f, CodeM n c f ∧ (calmC c = true → CodeSI n c f) ∧ ∀ {R : Type} (k : CF → R), codeB Tryz.prog bk pl n c k = k f := by
  induction c with
  | skip => exact fun _ => ⟨_, code_skip.m, fun _ => codeI_skip, fun k => rfl⟩
  | region id ops draw =>
    intro h
    obtain ⟨f, h1, h2⟩ := steps_made n ops.toList (planOf pl id ops.toList draw)
    refine ⟨regF f, ?_, fun hc => ?_, fun k => h2 _⟩
    · cases draw with
      | true => exact (code_draw (plan_of _ _ _ _ _ .nil (fun i hi => absurd hi List.not_mem_nil) h) h1).m
      | false => exact (code_plain h1).m
    · cases draw with
      | true => cases hc
      | false => exact codeI_plain h1
  | seq c d ihc ihd =>
    intro h
    have h' : (okPl pl c && okPl pl d) = true := h
    rw [Bool.and_eq_true_iff] at h'
    obtain ⟨f, h1, h1i, h2⟩ := ihc h'.1
    obtain ⟨g, h3, h3i, h4⟩ := ihd h'.2
    refine ⟨_, code_seq h1 h3, fun hc => ?_, fun k => ?_⟩
    · have hc' : (calmC c && calmC d) = true := hc
      rw [Bool.and_eq_true_iff] at hc'
      exact codeI_seq (h1i hc'.1) (h3i hc'.2)
    · show codeB Tryz.prog bk pl n c (fun a => codeB Tryz.prog bk pl n d fun b => k (seqF a b)) = _
      rw [h2, h4]
  | cond x c d ihc ihd =>
    intro h
    have h' : (okPl pl c && okPl pl d) = true := h
    rw [Bool.and_eq_true_iff] at h'
    obtain ⟨f, h1, h1i, h2⟩ := ihc h'.1
    obtain ⟨g, h3, h3i, h4⟩ := ihd h'.2
    have e : ∀ {R : Type} (k : CF → R), codeB Tryz.prog bk pl n (.cond x c d) k = opdB n x (k (stuckF "cond")) fun x => codeB Tryz.prog bk pl n c fun a => codeB Tryz.prog bk pl n d fun b => k (condF x a b) := fun k => rfl
    rcases opdB_eq n x with ⟨hx, h5⟩ | h5
    · refine ⟨_, code_cond hx h1 h3, fun hc => ?_, fun k => by rw [e, h5, h2, h4]⟩
      have hc' : (calmC c && calmC d) = true := hc
      rw [Bool.and_eq_true_iff] at hc'
      exact codeI_cond hx (h1i hc'.1) (h3i hc'.2)
    · exact ⟨_, (code_stuck _ "cond").m, fun _ => codeI_stuck _ "cond", fun k => by rw [e, h5]⟩
  | block id c ih =>
    intro h
    obtain ⟨f, h1, h1i, h2⟩ := ih h
    refine ⟨_, code_block h1, fun hc => codeI_block (h1i hc), fun k => ?_⟩
    show fNB id (fun id => codeB Tryz.prog bk pl n c fun a => k (blockF id a)) = _
    rw [fNB_eq, h2]
  | loop c ih =>
    intro h
    obtain ⟨f, h1, _, h2⟩ := ih h
    refine ⟨_, code_loop h1, fun hc => (by cases hc), fun k => ?_⟩
    show codeB Tryz.prog bk pl n c (fun a => k (loopF a)) = _
    rw [h2]
  | rangeFunc x ps c d ihc ihd =>
    intro h
    have h' : (okPl pl c && (okPl pl d && (calmC c && calmC d))) = true := h
    simp only [Bool.and_eq_true] at h'
    obtain ⟨f, _, h1, h2⟩ := ihc h'.1
    obtain ⟨g, _, h3, h4⟩ := ihd h'.2.1
    obtain ⟨ps⟩ := ps
    match ps with
    | [p, q] =>
      have e : ∀ {R : Type} (k : CF → R), codeB Tryz.prog bk pl n (.rangeFunc x #[p, q] c d) k = opdB n x (k (stuckF "range")) fun x => updB n p (k (stuckF "range")) fun p => updB n q (k (stuckF "range")) fun q => codeB Tryz.prog bk pl n c fun a => codeB Tryz.prog bk pl n d fun b => k (rangeF bk x p q a b) := fun k => rfl
      rcases opdB_eq n x with ⟨hx, h5⟩ | h5
      · rcases updB_eq n p with ⟨hp, h6⟩ | h6
        · rcases updB_eq n q with ⟨hq, h7⟩ | h7
          · exact ⟨_, hR x p q c d f g hx hp hq (h1 h'.2.2.1) (h3 h'.2.2.2), fun hc => (by cases hc), fun k => by rw [e, h5, h6, h7, h2, h4]⟩
          · exact ⟨_, (code_stuck _ "range").m, fun hc => (by cases hc), fun k => by rw [e, h5, h6, h7]⟩
        · exact ⟨_, (code_stuck _ "range").m, fun hc => (by cases hc), fun k => by rw [e, h5, h6]⟩
      · exact ⟨_, (code_stuck _ "range").m, fun hc => (by cases hc), fun k => by rw [e, h5]⟩
    | [] | [_] | _ :: _ :: _ :: _ => exact ⟨_, (code_stuck _ "rangeFunc").m, fun hc => (by cases hc), fun k => rfl⟩
  | exit id => exact fun _ => ⟨_, (code_exit id).m, fun _ => codeI_exit id, fun k => fNB_eq _ _⟩
  | scope c ih => exact fun _ => ⟨_, (code_stuck _ "scope").m, fun hc => (by cases hc), fun k => rfl⟩
  | label l => exact fun _ => ⟨_, (code_stuck _ "label").m, fun hc => (by cases hc), fun k => rfl⟩
  | goto l => exact fun _ => ⟨_, (code_stuck _ "goto").m, fun hc => (by cases hc), fun k => rfl⟩
  | ret => exact fun _ => ⟨_, code_ret.m, fun _ => codeI_ret, fun k => rfl⟩
  | refuse w => exact fun _ => ⟨_, (code_stuck _ "refuse").m, fun hc => (by cases hc), fun k => rfl⟩
end Go.Proofs.YtpknalhjgbgpiaaGreatDoor
