/- Plain: the tokens of a formula's text. -/
import Derived.Test.YteikakoheibnjaaDoorLexShow
namespace Go.Proofs.YteikakoheibnjaaDoor
open Go

/-- Rows of tokens, commas between. -/
def sepT : List (List TS) → List TS
  | [] => []
  | [x] => x
  | x :: y :: r => x ++ (3, [44], 0) :: sepT (y :: r)
mutual
def tkT : Node → List TS
  | .node o s n _ ks =>
    if o = nVar then [(1, s, 0)]
    else if o = nNum then [(2, [], n.toNat)]
    else if o = nPlus then (tkTL ks).getD 0 [] ++ [(3, [43], 0), (2, [], n.toNat)]
    else if o = nSet then (3, [123], 0) :: (sepT (tkTL ks) ++ [(3, [125], 0)])
    else (tkTL ks).getD 0 [] ++ (3, signOf o, 0) :: (tkTL ks).getD 1 []
def tkTL : List Node → List (List TS)
  | [] => []
  | x :: r => tkT x :: tkTL r
end
mutual
def tkF : Node → List TS
  | .node o s n _ ks =>
    if o = nTrue ∨ o = nFalse then [(3, o, 0)]
    else if o = nNot then (3, [126], 0) :: (tkFL ks).getD 0 []
    else if binOp o then (3, [40], 0) :: ((tkFL ks).getD 0 [] ++ (3, signOf o, 0) :: ((tkFL ks).getD 1 [] ++ [(3, [41], 0)]))
    else if o = nEx ∨ o = nAll then (3, [40], 0) :: (3, o ++ dig n.toNat, 0) :: (1, s, 0) :: (3, [58], 0) :: ((tkFL ks).getD 0 [] ++ [(3, [41], 0)])
    else if o = nIs then [(1, s, 0)]
    else if o = nCall then (1, s, 0) :: (3, [40], 0) :: (sepT (tkTL ks) ++ [(3, [41], 0)])
    else (tkTL ks).getD 0 [] ++ (3, signOf o, 0) :: (tkTL ks).getD 1 []
def tkFL : List Node → List (List TS)
  | [] => []
  | x :: r => tkF x :: tkFL r
end
theorem tkTL_map : ∀ ks, tkTL ks = ks.map tkT
  | [] => by simp [tkTL]
  | x :: r => by rw [tkTL, tkTL_map r, List.map_cons]
theorem tkFL_map : ∀ ks, tkFL ks = ks.map tkF
  | [] => by simp [tkFL]
  | x :: r => by rw [tkFL, tkFL_map r, List.map_cons]

/-- What is asked of a byte that a breaker begins with. -/
def brkC (c : UInt8) : Bool := decide (c.toNat < 128) && !(more (c.toNat, [c])) && c != 61 && c != 62
theorem brk_ascii {c : UInt8} {b : List UInt8} {R : List Ru} (h : brkC c = true) : brk ((each (c :: b)).1 ++ R) := by
  unfold brkC at h
  simp only [Bool.and_eq_true, decide_eq_true_eq, Bool.not_eq_true', bne_iff_ne, ne_eq] at h
  rw [each_ascii c b h.1.1.1]
  refine brk_cons ⟨h.1.1.2, ?_, ?_⟩
  · intro e
    exact h.1.2 (UInt8.toNat_inj.1 e)
  · intro e
    exact h.2 (UInt8.toNat_inj.1 e)
/-- A text's first rune is no '='. -/
def hd61 (b : List UInt8) : Prop := ∃ r R, (each b).1 = r :: R ∧ r.1 ≠ 61
theorem hd61_ascii {c : UInt8} {b : List UInt8} (h : c.toNat < 128) (h2 : c.toNat ≠ 61) : hd61 (c :: b) := ⟨_, _, by rw [each_ascii c b h], h2⟩
theorem hd61_app {a b : List UInt8} (h : hd61 a) (hb : (each a).2 = false) : hd61 (a ++ b) := by
  obtain ⟨r, R, e, h2⟩ := h
  refine ⟨r, R ++ (each b).1, ?_, h2⟩
  rw [each_app b a hb, e]
  rfl
theorem hd61_name {s : List UInt8} (h : nameB s = true) : hd61 s := by
  obtain ⟨_, h2, _⟩ := nameB_runes h
  obtain ⟨h3, h4, _⟩ := h2
  cases hS : (each s).1 with
  | nil => exact absurd hS h3
  | cons r R =>
    rw [hS] at h4
    refine ⟨r, R, hS, ?_⟩
    have := h4 r (by simp)
    intro e
    rw [e] at this
    revert this
    decide
theorem hd61_num : ∀ i : Fin 100, hd61 (dig i.val) := by
  intro i
  obtain ⟨h1, h2⟩ := nums_ok i
  cases hS : (each (dig i.val)).1 with
  | nil => rw [hS] at h2; cases h2
  | cons r R =>
    rw [hS] at h2
    refine ⟨r, R, hS, ?_⟩
    unfold numRb at h2
    simp only [Bool.and_eq_true, List.all_cons] at h2
    have := h2.1.1.1
    intro e
    unfold digit at this
    rw [e] at this
    revert this
    decide
/-- Texts between commas. -/
theorem lx_commas {f : Node → List UInt8} {g : Node → List TS} : ∀ (ks : List Node), (∀ k ∈ ks, ∀ R, brk R → Lx (f k) (g k) R) → ∀ R, brk R → Lx (commas (ks.map f)) (sepT (ks.map g)) R
  | [], _, R, _ => Lx_nil R
  | [x], h, R, hb => by simpa [commas, sepT] using h x (by simp) R hb
  | x :: y :: r, h, R, hb => by
    have ih := lx_commas (y :: r) (fun k hk => h k (by simp [hk])) R hb
    simp only [List.map_cons] at ih ⊢
    simp only [commas, sepT, List.append_assoc, List.cons_append, List.nil_append]
    exact Lx_app (h x (by simp) _ (brk_ascii (by decide))) (Lx_one 44 (by decide) (Lx_sp 32 (Or.inl rfl) ih))
/-- A sign, or a word, with blanks about. -/
theorem lx_joined {o a b : List UInt8} {ta tb : List TS} {R : List Ru} (ho : setOp o = true ∨ binOp o = true ∨ relOp o = true) (ha : ∀ R, brk R → Lx a ta R) (hb : Lx b tb R) : Lx (joined a o b) (ta ++ (3, signOf o, 0) :: tb) R := by
  have hs : signOf o ∈ ([[38], [124], [61, 62], [60, 61, 62], [61], [126, 61], [60], [60, 61], [92]] : List (List UInt8)) ∨ signOf o ∈ wordL := by
    unfold setOp binOp relOp at ho
    simp only [Bool.or_eq_true, decide_eq_true_eq] at ho
    rcases ho with ((rfl | rfl) | rfl) | (((rfl | rfl) | rfl) | rfl) | ((((((rfl | rfl) | rfl) | rfl) | rfl) | rfl) | rfl) <;> decide
  unfold joined
  simp only [List.append_assoc, List.cons_append, List.nil_append]
  refine Lx_app (ha _ (brk_ascii (by decide))) (Lx_sp 32 (Or.inl rfl) ?_)
  rcases hs with h | h
  · exact Lx_rel _ h hb
  · exact Lx_app (Lx_word h (brk_ascii (by decide))) (Lx_sp 32 (Or.inl rfl) hb)
theorem two_kids {α : Type} [Inhabited α] {f : Node → α} {ks : List Node} {d : α} (h : ks.length = 2) : ∃ x y, ks = [x, y] ∧ (ks.map f).getD 0 d = f x ∧ (ks.map f).getD 1 d = f y := by
  match ks, h with
  | [x, y], _ => exact ⟨x, y, rfl, rfl, rfl⟩
theorem one_kid {ks : List Node} (h : ks.length = 1) : ∃ x, ks = [x] := by
  match ks, h with
  | [x], _ => exact ⟨x, rfl⟩
/-- A term's text is its tokens. -/
theorem lx_term : ∀ t : Node, termB t = true → (∀ R, brk R → Lx (termS t) (tkT t) R) ∧ hd61 (termS t) := by
  intro t
  induction t using Node.ind with
  | h o s n p ks ih =>
    intro h
    rw [termB] at h
    rw [termS, tkT, termSL_map, tkTL_map]
    have hk : termsB ks = true → ∀ k ∈ ks, (∀ R, brk R → Lx (termS k) (tkT k) R) ∧ hd61 (termS k) := fun hh k hk => by
      rw [termsB_all, List.all_eq_true] at hh
      exact ih k hk (hh k hk)
    by_cases h1 : o = nVar
    · rw [if_pos h1] at h ⊢
      rw [if_pos h1]
      have hn := (hasB_name h).2.2.2.2 rfl
      exact ⟨fun R hb => Lx_name hn hb, hd61_name hn⟩
    rw [if_neg h1] at h ⊢
    rw [if_neg h1]
    by_cases h2 : o = nNum
    · rw [if_pos h2] at h ⊢
      rw [if_pos h2]
      simp only [Bool.and_eq_true, decide_eq_true_eq] at h
      exact ⟨fun R hb => Lx_num (by omega) hb, hd61_num ⟨n.toNat, by omega⟩⟩
    rw [if_neg h2] at h ⊢
    rw [if_neg h2]
    by_cases h3 : o = nPlus
    · rw [if_pos h3] at h ⊢
      rw [if_pos h3]
      simp only [Bool.and_eq_true, decide_eq_true_eq] at h
      obtain ⟨x, rfl⟩ := one_kid (hasB_name h.1.1.1.1).2.1
      obtain ⟨k1, k2⟩ := hk h.2 x (by simp)
      refine ⟨fun R hb => ?_, ?_⟩
      · simp only [List.map_cons, List.map_nil, List.getD_cons_zero, List.append_assoc, List.cons_append, List.nil_append]
        exact Lx_app (k1 _ (brk_ascii (by decide))) (Lx_sp 32 (Or.inl rfl) (Lx_one 43 (by decide) (Lx_sp 32 (Or.inl rfl) (Lx_num (by omega) hb))))
      · simp only [List.map_cons, List.map_nil, List.getD_cons_zero, List.append_assoc]
        exact hd61_app k2 (k1 [] brk_nil).1
    rw [if_neg h3] at h ⊢
    rw [if_neg h3]
    by_cases h4 : o = nSet
    · rw [if_pos h4] at h ⊢
      rw [if_pos h4]
      simp only [Bool.and_eq_true, decide_eq_true_eq] at h
      refine ⟨fun R hb => ?_, ?_⟩
      · simp only [List.cons_append, List.nil_append]
        exact Lx_one 123 (by decide) (Lx_app (lx_commas ks (fun k hk' => (hk h.2 k hk').1) _ (brk_ascii (by decide))) (Lx_one 125 (by decide) (Lx_nil R)))
      · simp only [List.cons_append, List.nil_append]
        exact hd61_ascii (by decide) (by decide)
    rw [if_neg h4] at h ⊢
    rw [if_neg h4]
    simp only [Bool.and_eq_true] at h
    obtain ⟨x, y, hxy, e1, e2⟩ := two_kids (f := termS) (d := []) (hasB_name h.1.1.2).2.1
    obtain ⟨_, _, hxy', e3, e4⟩ := two_kids (f := tkT) (d := []) (hasB_name h.1.1.2).2.1
    rw [hxy] at hxy'
    injection hxy' with i1 i2
    injection i2 with i2 _
    subst i1
    subst i2
    obtain ⟨k1, k2⟩ := hk h.1.2 x (by simp [hxy])
    obtain ⟨k3, k4⟩ := hk h.1.2 y (by simp [hxy])
    rw [e1, e2, e3, e4]
    refine ⟨fun R hb => lx_joined (Or.inl h.1.1.1) k1 (k3 R hb), ?_⟩
    unfold joined
    simp only [List.append_assoc]
    exact hd61_app k2 (k1 [] brk_nil).1
/-- A formula's text is its tokens. -/
theorem lx_form : ∀ t : Node, formB t = true → (∀ R, brk R → Lx (formS t) (tkF t) R) ∧ hd61 (formS t) := by
  intro t
  induction t using Node.ind with
  | h o s n p ks ih =>
    intro h
    rw [formB] at h
    rw [formS, tkF, termSL_map, tkTL_map, formSL_map, tkFL_map]
    have hk : formsB ks = true → ∀ k ∈ ks, (∀ R, brk R → Lx (formS k) (tkF k) R) ∧ hd61 (formS k) := fun hh k hk => by
      rw [formsB_all, List.all_eq_true] at hh
      exact ih k hk (hh k hk)
    have ht : termsB ks = true → ∀ k ∈ ks, (∀ R, brk R → Lx (termS k) (tkT k) R) ∧ hd61 (termS k) := fun hh k hk => by
      rw [termsB_all, List.all_eq_true] at hh
      exact lx_term k (hh k hk)
    clear ih
    by_cases h1 : o = nTrue ∨ o = nFalse
    · rw [if_pos h1, if_pos h1]
      have hw : o ∈ wordL := by rcases h1 with rfl | rfl <;> decide
      refine ⟨fun R hb => Lx_word hw hb, ?_⟩
      rcases h1 with rfl | rfl
      · exact hd61_ascii (by decide) (by decide)
      · exact hd61_ascii (by decide) (by decide)
    rw [if_neg h1] at h ⊢
    rw [if_neg h1]
    by_cases h2 : o = nNot
    · rw [if_pos h2] at h ⊢
      rw [if_pos h2]
      simp only [Bool.and_eq_true] at h
      obtain ⟨x, rfl⟩ := one_kid (hasB_name h.1).2.1
      obtain ⟨k1, k2⟩ := hk h.2 x (by simp)
      simp only [List.map_cons, List.map_nil, List.getD_cons_zero, List.cons_append, List.nil_append]
      refine ⟨fun R hb => Lx_not ?_ (k1 R hb), hd61_ascii (by decide) (by decide)⟩
      obtain ⟨r, S, e, h61⟩ := k2
      rw [e]
      intro r' hr'
      simp at hr'
      subst hr'
      exact h61
    rw [if_neg h2] at h ⊢
    rw [if_neg h2]
    by_cases h3 : binOp o = true
    · rw [if_pos h3] at h ⊢
      rw [if_pos h3]
      simp only [Bool.and_eq_true] at h
      obtain ⟨x, y, hxy, e1, e2⟩ := two_kids (f := formS) (d := []) (hasB_name h.1).2.1
      obtain ⟨_, _, hxy', e3, e4⟩ := two_kids (f := tkF) (d := []) (hasB_name h.1).2.1
      rw [hxy] at hxy'
      injection hxy' with i1 i2
      injection i2 with i2 _
      subst i1
      subst i2
      obtain ⟨k1, _⟩ := hk h.2 x (by simp [hxy])
      obtain ⟨k3, _⟩ := hk h.2 y (by simp [hxy])
      rw [e1, e2, e3, e4]
      simp only [List.cons_append, List.nil_append]
      refine ⟨fun R hb => Lx_one 40 (by decide) ?_, hd61_ascii (by decide) (by decide)⟩
      have hj := lx_joined (o := o) (a := formS x) (b := formS y ++ [41]) (ta := tkF x) (tb := tkF y ++ [(3, [41], 0)]) (R := R) (Or.inr (Or.inl h3)) k1 (Lx_app (k3 _ (brk_ascii (by decide))) (Lx_one 41 (by decide) (Lx_nil R)))
      unfold joined at hj ⊢
      simpa only [List.append_assoc, List.cons_append, List.nil_append] using hj
    rw [if_neg h3] at h ⊢
    rw [if_neg h3]
    by_cases h4 : o = nEx ∨ o = nAll
    · rw [if_pos h4] at h ⊢
      rw [if_pos h4]
      simp only [Bool.and_eq_true, decide_eq_true_eq] at h
      obtain ⟨x, rfl⟩ := one_kid (hasB_name h.1.1.1).2.1
      have hn := (hasB_name h.1.1.1).2.2.2.2 rfl
      obtain ⟨k1, k2⟩ := hk h.2 x (by simp)
      have hw : o ++ dig n.toNat ∈ wordL := by
        have h012 : n.toNat = 0 ∨ n.toNat = 1 ∨ n.toNat = 2 := by omega
        rcases h4 with rfl | rfl <;> rcases h012 with e | e | e <;> rw [e] <;> decide
      simp only [List.map_cons, List.map_nil, List.getD_cons_zero, List.append_assoc, List.cons_append, List.nil_append]
      refine ⟨fun R hb => Lx_one 40 (by decide) ?_, hd61_ascii (by decide) (by decide)⟩
      rw [← List.append_assoc o]
      exact Lx_app (ts := [_]) (Lx_word hw (brk_ascii (by decide))) (Lx_sp 32 (Or.inl rfl) (Lx_app (ts := [_]) (Lx_name hn (brk_ascii (by decide))) (Lx_one 58 (by decide) (Lx_sp 32 (Or.inl rfl) (Lx_app (k1 _ (brk_ascii (by decide))) (Lx_one 41 (by decide) (Lx_nil R)))))))
    rw [if_neg h4] at h ⊢
    rw [if_neg h4]
    by_cases h5 : o = nIs
    · rw [if_pos h5] at h ⊢
      rw [if_pos h5]
      have hn := (hasB_name h).2.2.2.2 rfl
      exact ⟨fun R hb => Lx_name hn hb, hd61_name hn⟩
    rw [if_neg h5] at h ⊢
    rw [if_neg h5]
    by_cases h6 : relOp o = true
    · rw [if_pos h6] at h
      have h7 : ¬ o = nCall := by rintro rfl; revert h6; decide
      rw [if_neg h7, if_neg h7]
      simp only [Bool.and_eq_true] at h
      obtain ⟨x, y, hxy, e1, e2⟩ := two_kids (f := termS) (d := []) (hasB_name h.1).2.1
      obtain ⟨_, _, hxy', e3, e4⟩ := two_kids (f := tkT) (d := []) (hasB_name h.1).2.1
      rw [hxy] at hxy'
      injection hxy' with i1 i2
      injection i2 with i2 _
      subst i1
      subst i2
      obtain ⟨k1, k2⟩ := ht h.2 x (by simp [hxy])
      obtain ⟨k3, k4⟩ := ht h.2 y (by simp [hxy])
      rw [e1, e2, e3, e4]
      refine ⟨fun R hb => lx_joined (Or.inr (Or.inr h6)) k1 (k3 R hb), ?_⟩
      unfold joined
      simp only [List.append_assoc]
      exact hd61_app k2 (k1 [] brk_nil).1
    rw [if_neg h6] at h
    by_cases h7 : o = nCall
    · rw [if_pos h7] at h ⊢
      rw [if_pos h7]
      simp only [Bool.and_eq_true, decide_eq_true_eq] at h
      have hn := (hasB_name h.1.1).2.2.2.2 rfl
      simp only [List.append_assoc, List.cons_append, List.nil_append]
      refine ⟨fun R hb => Lx_app (ts := [_]) (Lx_name hn (brk_ascii (by decide))) (Lx_one 40 (by decide) (Lx_app (lx_commas ks (fun k hk' => (ht h.2 k hk').1) _ (brk_ascii (by decide))) (Lx_one 41 (by decide) (Lx_nil R)))), ?_⟩
      exact hd61_app (hd61_name hn) (Lx_name hn brk_nil).1
    · rw [if_neg h7] at h
      cases h

-- programs
def sixT (d : DeclP) : List TS := [(3, nVarK ++ dig d.order.toNat, 0), (1, d.name, 0)]
def declS (d : DeclP) : List UInt8 := nVarK ++ dig d.order.toNat ++ [32] ++ d.name
def predS (x : PredP) : List UInt8 := nPred ++ [32] ++ x.name ++ [40] ++ commas (x.params.map declS) ++ [41, 32, 61, 32] ++ formS x.body ++ [59, 10]
def progS (p : ProgP) : List UInt8 := p.decls.flatMap (fun d => declS d ++ [59, 10]) ++ p.preds.flatMap predS ++ formS p.main ++ [59, 10]
def tkD (d : DeclP) : List TS := sixT d ++ [(3, [59], 0)]
def tkQ (x : PredP) : List TS := (3, nPred, 0) :: (1, x.name, 0) :: (3, [40], 0) :: (sepT (x.params.map sixT) ++ (3, [41], 0) :: (3, [61], 0) :: (tkF x.body ++ [(3, [59], 0)]))
def tkP (p : ProgP) : List TS := p.decls.flatMap tkD ++ p.preds.flatMap tkQ ++ tkF p.main ++ [(3, [59], 0)]
def declB (d : DeclP) : Bool := nameB d.name && decide (0 ≤ d.order) && decide (d.order ≤ 2)
def predB (x : PredP) : Bool := nameB x.name && decide (x.params.length ≤ 6) && x.params.all declB && (smallB x.body && formB x.body)
def progB (p : ProgP) : Bool := p.preds.all predB && p.decls.all declB && (smallB p.main && formB p.main)
theorem lx_declS {d : DeclP} (h : declB d = true) {R : List Ru} (hb : brk R) : Lx (declS d) (sixT d) R := by
  unfold declB at h
  simp only [Bool.and_eq_true, decide_eq_true_eq] at h
  have hw : nVarK ++ dig d.order.toNat ∈ wordL := by
    have h012 : d.order.toNat = 0 ∨ d.order.toNat = 1 ∨ d.order.toNat = 2 := by omega
    rcases h012 with e | e | e <;> rw [e] <;> decide
  unfold declS sixT
  simp only [List.append_assoc, List.cons_append, List.nil_append]
  rw [← List.append_assoc nVarK]
  exact Lx_app (ts := [_]) (Lx_word hw (brk_ascii (by decide))) (Lx_sp 32 (Or.inl rfl) (Lx_name h.1.1 hb))
theorem lx_commasD : ∀ (ks : List DeclP), (∀ k ∈ ks, declB k = true) → ∀ R, brk R → Lx (commas (ks.map declS)) (sepT (ks.map sixT)) R
  | [], _, R, _ => Lx_nil R
  | [x], h, R, hb => by simpa [commas, sepT] using lx_declS (h x (by simp)) hb
  | x :: y :: r, h, R, hb => by
    have ih := lx_commasD (y :: r) (fun k hk => h k (by simp [hk])) R hb
    simp only [List.map_cons] at ih ⊢
    simp only [commas, sepT, List.append_assoc, List.cons_append, List.nil_append]
    exact Lx_app (lx_declS (h x (by simp)) (brk_ascii (by decide))) (Lx_one 44 (by decide) (Lx_sp 32 (Or.inl rfl) ih))
theorem lx_pred {x : PredP} (h : predB x = true) (R : List Ru) : Lx (predS x) (tkQ x) R := by
  unfold predB at h
  simp only [Bool.and_eq_true, decide_eq_true_eq, List.all_eq_true] at h
  unfold predS tkQ
  simp only [List.append_assoc, List.cons_append, List.nil_append]
  have e61 : ∀ b ts, Lx b ts R → Lx (61 :: 32 :: b) ((3, [61], 0) :: ts) R := fun b ts hb => Lx_rel [61] (by decide) hb
  exact Lx_app (ts := [_]) (Lx_word (by decide) (brk_ascii (by decide))) (Lx_sp 32 (Or.inl rfl) (Lx_app (ts := [_]) (Lx_name h.1.1.1 (brk_ascii (by decide))) (Lx_one 40 (by decide)
    (Lx_app (lx_commasD _ h.1.2 _ (brk_ascii (by decide))) (Lx_one 41 (by decide) (Lx_sp 32 (Or.inl rfl) (e61 _ _ (Lx_app ((lx_form _ h.2.2).1 _ (brk_ascii (by decide))) (Lx_one 59 (by decide) (Lx_sp 10 (Or.inr rfl) (Lx_nil R)))))))))))
theorem lx_flat {α : Type} {f : α → List UInt8} {g : α → List TS} : ∀ (l : List α), (∀ x ∈ l, ∀ R, Lx (f x) (g x) R) → ∀ R, Lx (l.flatMap f) (l.flatMap g) R
  | [], _, R => Lx_nil R
  | x :: r, h, R => by
    simp only [List.flatMap_cons]
    exact Lx_app (h x (by simp) _) (lx_flat r (fun y hy => h y (by simp [hy])) R)
theorem lx_prog {p : ProgP} (h : progB p = true) : Lx (progS p) (tkP p) [] := by
  unfold progB at h
  simp only [Bool.and_eq_true, List.all_eq_true] at h
  unfold progS tkP
  simp only [List.append_assoc]
  refine Lx_app (lx_flat p.decls (fun d hd R => ?_) _) (Lx_app (lx_flat p.preds (fun x hx R => lx_pred (h.1.1 x hx) R) _) (Lx_app ((lx_form _ h.2.2).1 _ (brk_ascii (by decide))) (Lx_one 59 (by decide) (Lx_sp 10 (Or.inr rfl) (Lx_nil [])))))
  unfold tkD
  exact Lx_app (lx_declS (h.1.2 d hd) (brk_ascii (by decide))) (Lx_one 59 (by decide) (Lx_sp 10 (Or.inr rfl) (Lx_nil R)))
/-- The tokens of a text that is all pieces. -/
theorem tokens_of_lx {s : List UInt8} {ts : List TS} (h : Lx s ts []) (hs : s.length ≤ 2000) : ∃ l, tokens s = (l, s.length, 0) ∧ l.map spec = ts ++ [(4, [], 0)] := by
  obtain ⟨h1, h2⟩ := h
  rw [List.append_nil, TSR_nil] at h2
  unfold TSR at h2
  injection h2 with h3 h4
  refine ⟨(toks (each s).1 0).1 ++ [⟨4, [], 0, s.length⟩], ?_, ?_⟩
  · unfold tokens
    rw [if_neg (by omega)]
    have h5 : (toks (each s).1 0).2 = none := by
      cases hh : (toks (each s).1 0).2 with
      | none => rfl
      | some x => rw [hh] at h4; cases h4
    rw [h5]
    simp only
    rw [h1, if_neg (by decide)]
  · rw [List.map_append, h3]
    simp [spec]
end Go.Proofs.YteikakoheibnjaaDoor
