/- Plain: a formula as a text, and that the text tells the formula. -/
import Derived.Test.YtcgjacaemblnmaaDoorTree
namespace Go.Proofs.YtcgjacaemblnmaaDoor

/-- A number in digits. -/
def decF : Nat → Nat → List UInt8
  | 0, _ => []
  | f + 1, n => if n < 10 then [UInt8.ofNat (48 + n)] else decF f (n / 10) ++ [UInt8.ofNat (48 + n % 10)]
def dec (n : Nat) : List UInt8 := decF 20 n

def varTxt (v : Int) : List UInt8 := [32, 120] ++ dec v.toNat
def varsTxt (vars : Nat) (a b c : Int) : List UInt8 :=
  (if 0 < vars then varTxt a else []) ++ (if 1 < vars then varTxt b else []) ++ (if 2 < vars then varTxt c else [])
def numTxt (num : Bool) (n : Int) : List UInt8 := if num then [32] ++ dec n.toNat else []
def headTxt (o : List UInt8) (a b c n : Int) : List UInt8 :=
  match shapeOf o with
  | some (vars, num, _) => [40] ++ o ++ (varsTxt vars a b c ++ numTxt num n)
  | none => [40] ++ o
mutual
def showT : Core → List UInt8
  | .node o a b c n k => headTxt o a b c n ++ showL k ++ [41]
def showL : List Core → List UInt8
  | [] => []
  | x :: r => [32] ++ showT x ++ showL r
end

/-- The head of a text up to the first byte that fails a test. -/
theorem span_eq (p : UInt8 → Bool) : ∀ (u v x y : List UInt8), (∀ b ∈ u, p b = true) → (∀ b ∈ v, p b = true) → (∀ b, x.head? = some b → p b = false) → (∀ b, y.head? = some b → p b = false) →
    u ++ x = v ++ y → u = v ∧ x = y
  | [], [], _, _, _, _, _, _, h => ⟨rfl, by simpa using h⟩
  | [], b :: v, x, y, _, hv, hx, _, h => by
    simp only [List.nil_append, List.cons_append] at h
    subst h
    have h1 := hx b rfl
    have h2 := hv b (by simp)
    rw [h1] at h2; cases h2
  | b :: u, [], x, y, hu, _, _, hy, h => by
    simp only [List.nil_append, List.cons_append] at h
    subst h
    have h1 := hy b rfl
    have h2 := hu b (by simp)
    rw [h1] at h2; cases h2
  | b :: u, d :: v, x, y, hu, hv, hx, hy, h => by
    simp only [List.cons_append, List.cons.injEq] at h
    obtain ⟨rfl, h⟩ := h
    obtain ⟨h1, h2⟩ := span_eq p u v x y (fun b hb => hu b (by simp [hb])) (fun b hb => hv b (by simp [hb])) hx hy h
    exact ⟨by rw [h1], h2⟩

def isDig (b : UInt8) : Bool := decide (48 ≤ b.toNat) && decide (b.toNat ≤ 57)
def isLet (b : UInt8) : Bool := decide (97 ≤ b.toNat)

theorem dec_small : ∀ n : Fin 100, (∀ b ∈ dec n.val, isDig b = true) ∧ dec n.val ≠ [] := by decide
theorem dec_inj : ∀ n : Fin 21, ∀ m : Fin 21, dec n.val = dec m.val → n = m := by decide
theorem dec_dig (n : Nat) (h : n < 100) : ∀ b ∈ dec n, isDig b = true := (dec_small ⟨n, h⟩).1
theorem dec_eq (n m : Nat) (hn : n < 21) (hm : m < 21) (h : dec n = dec m) : n = m := by
  have := dec_inj ⟨n, hn⟩ ⟨m, hm⟩ h
  simpa using this

/-- What comes behind a number or an op: a blank or a closing bracket. -/
def Stop (x : List UInt8) : Prop := ∃ r, x = 32 :: r ∨ x = 41 :: r
theorem Stop.dig {x : List UInt8} (h : Stop x) : ∀ b, x.head? = some b → isDig b = false := by
  rintro b hb
  obtain ⟨r, rfl | rfl⟩ := h <;> (simp at hb; subst hb; decide)
theorem Stop.let_ {x : List UInt8} (h : Stop x) : ∀ b, x.head? = some b → isLet b = false := by
  rintro b hb
  obtain ⟨r, rfl | rfl⟩ := h <;> (simp at hb; subst hb; decide)
theorem stop_blank (r : List UInt8) : Stop (32 :: r) := ⟨r, .inl rfl⟩
theorem stop_close (r : List UInt8) : Stop (41 :: r) := ⟨r, .inr rfl⟩
theorem stop_showL (k : List Core) (r : List UInt8) : Stop (showL k ++ [41] ++ r) := by
  cases k with
  | nil => exact stop_close _
  | cons x s => unfold showL; exact stop_blank _
theorem stop_num (num : Bool) (n : Int) {x : List UInt8} (h : Stop x) : Stop (numTxt num n ++ x) := by
  unfold numTxt
  cases num
  · exact h
  · exact stop_blank _
theorem stop_vars (vars : Nat) (a b c : Int) {x : List UInt8} (h : Stop x) : Stop (varsTxt vars a b c ++ x) := by
  unfold varsTxt varTxt
  by_cases h0 : 0 < vars
  · rw [if_pos h0]; exact stop_blank _
  · rw [if_neg h0, if_neg (by omega), if_neg (by omega)]; exact h

theorem num_inj {n m : Int} {x y : List UInt8} (hn : 0 ≤ n ∧ n ≤ 20) (hm : 0 ≤ m ∧ m ≤ 20) (hx : Stop x) (hy : Stop y) (h : dec n.toNat ++ x = dec m.toNat ++ y) : n = m ∧ x = y := by
  obtain ⟨h1, h2⟩ := span_eq isDig _ _ x y (dec_dig _ (by omega)) (dec_dig _ (by omega)) hx.dig hy.dig h
  have := dec_eq _ _ (by omega) (by omega) h1
  exact ⟨by omega, h2⟩

theorem let_all : ∀ e ∈ shapes, ∀ b ∈ e.1, isLet b = true := by decide
theorem let_ops : ∀ o, (∃ s, shapeOf o = some s) → ∀ b ∈ o, isLet b = true := by
  rintro o ⟨s, h⟩
  exact let_all _ (shapeOf_mem h)
theorem var_all : ∀ e ∈ shapes, e.2.1 ≤ 3 ∧ (e.1 = oEx → e.2.1 = 1) := by decide

/-- A number that an op asks, in what may be. -/
theorem fieldsB_num {t : Core} {m : Int} {v : Nat} {k : Nat} (h : fieldsB t m = true) (hs : shapeOf t.op = some (v, true, k)) : 0 ≤ t.vn ∧ t.vn ≤ 20 := by
  unfold fieldsB at h
  rw [hs] at h
  simp only [Bool.and_eq_true, decide_eq_true_eq, if_true] at h
  exact h.1.1.1.1.2
theorem fieldsB_nonum {t : Core} {m : Int} {v : Nat} {k : Nat} (h : fieldsB t m = true) (hs : shapeOf t.op = some (v, false, k)) : t.vn = 0 := by
  unfold fieldsB at h
  rw [hs] at h
  simp at h
  exact h.1.1.1.1.2
theorem fieldsB_kids {t : Core} {m : Int} {v : Nat} {b : Bool} {k : Nat} (h : fieldsB t m = true) (hs : shapeOf t.op = some (v, b, k)) : t.kids.length = k := by
  unfold fieldsB at h
  rw [hs] at h
  simp only [Bool.and_eq_true, decide_eq_true_eq] at h
  exact h.1.1.1.1.1
/-- Each variable: bound by what may be, or nothing. -/
theorem fieldsB_vars {t : Core} {m : Int} {v : Nat} {b : Bool} {k : Nat} (h : fieldsB t m = true) (hs : shapeOf t.op = some (v, b, k)) (hm : 0 ≤ m ∧ m ≤ 6) :
    (if 0 < v then 0 ≤ t.va ∧ t.va ≤ 6 else t.va = 0) ∧ (if 1 < v then 0 ≤ t.vb ∧ t.vb ≤ 6 else t.vb = 0) ∧ (if 2 < v then 0 ≤ t.vc ∧ t.vc ≤ 6 else t.vc = 0) := by
  unfold fieldsB at h
  rw [hs] at h
  simp only [Bool.and_eq_true, decide_eq_true_eq] at h
  obtain ⟨⟨⟨⟨_, h0⟩, h1⟩, h2⟩, h3⟩ := h
  have hv : v ≤ 3 ∧ (t.op = oEx → v = 1) := var_all _ (shapeOf_mem hs)
  unfold varB at h0 h1 h2
  by_cases hx : t.op = oEx
  · have hv1 := hv.2 hx
    subst hv1
    rw [if_pos hx] at h3
    simp at h0 h1 h2 h3
    exact ⟨by rw [if_pos (by omega)]; omega, by rw [if_neg (by omega)]; exact h1, by rw [if_neg (by omega)]; exact h2⟩
  · simp only [if_neg hx] at h0 h1 h2
    refine ⟨?_, ?_, ?_⟩
    · by_cases c : 0 < v
      · rw [if_neg (by omega)] at h0; rw [if_pos c]; simp at h0; omega
      · rw [if_pos (by omega)] at h0; rw [if_neg c]; simpa using h0
    · by_cases c : 1 < v
      · rw [if_neg (by omega)] at h1; rw [if_pos c]; simp at h1; omega
      · rw [if_pos (by omega)] at h1; rw [if_neg c]; simpa using h1
    · by_cases c : 2 < v
      · rw [if_neg (by omega)] at h2; rw [if_pos c]; simp at h2; omega
      · rw [if_pos (by omega)] at h2; rw [if_neg c]; simpa using h2
theorem fieldsB_shape {t : Core} {m : Int} (h : fieldsB t m = true) : ∃ s, shapeOf t.op = some s := by
  unfold fieldsB at h
  cases hs : shapeOf t.op with
  | none => rw [hs] at h; cases h
  | some s => exact ⟨s, rfl⟩

theorem var_inj (p : Prop) [Decidable p] {a b : Int} {x y : List UInt8} (ha : if p then 0 ≤ a ∧ a ≤ 6 else a = 0) (hb : if p then 0 ≤ b ∧ b ≤ 6 else b = 0) (hx : Stop x) (hy : Stop y)
    (h : (if p then varTxt a else []) ++ x = (if p then varTxt b else []) ++ y) : a = b ∧ x = y := by
  by_cases hp : p
  · rw [if_pos hp] at ha hb
    rw [if_pos hp, if_pos hp] at h
    unfold varTxt at h
    simp only [List.cons_append, List.nil_append, List.cons.injEq, true_and] at h
    exact num_inj (by omega) (by omega) hx hy h
  · rw [if_neg hp] at ha hb
    rw [if_neg hp, if_neg hp] at h
    exact ⟨by omega, by simpa using h⟩
theorem stop_var (p : Prop) [Decidable p] (a : Int) {x : List UInt8} (h : Stop x) : Stop ((if p then varTxt a else []) ++ x) := by
  by_cases hp : p
  · rw [if_pos hp]; exact stop_blank _
  · rw [if_neg hp]; exact h

theorem showL_inj : ∀ (ks : List Core), (∀ x ∈ ks, ∀ (t : Core) (m : Int) (r q : List UInt8), 0 ≤ m → m ≤ 6 → isB x m = true → isB t m = true → showT x ++ r = showT t ++ q → x = t ∧ r = q) →
    ∀ (ks' : List Core) (m : Int) (r q : List UInt8), 0 ≤ m → m ≤ 6 → isL ks m = true → isL ks' m = true → ks.length = ks'.length → showL ks ++ 41 :: r = showL ks' ++ 41 :: q → ks = ks' ∧ r = q
  | [], _, [], _, r, q, _, _, _, _, _, h => by simpa [showL] using h
  | [], _, _ :: _, _, _, _, _, _, _, _, hl, _ => by simp at hl
  | _ :: _, _, [], _, _, _, _, _, _, _, hl, _ => by simp at hl
  | x :: s, ih, y :: s', m, r, q, h0, h6, hks, hkt, hl, h => by
    unfold isL at hks hkt
    rw [Bool.and_eq_true] at hks hkt
    unfold showL at h
    simp only [List.append_assoc, List.cons_append, List.nil_append, List.cons.injEq, true_and] at h
    obtain ⟨e1, g⟩ := ih x (by simp) y m _ _ h0 h6 hks.1 hkt.1 h
    obtain ⟨e2, e3⟩ := showL_inj s (fun k hk => ih k (by simp [hk])) s' m r q h0 h6 hks.2 hkt.2 (by simpa using hl) g
    exact ⟨by rw [e1, e2], e3⟩
theorem showT_inj : ∀ (s t : Core) (m : Int) (r q : List UInt8), 0 ≤ m → m ≤ 6 → isB s m = true → isB t m = true → showT s ++ r = showT t ++ q → s = t ∧ r = q := by
  intro s
  induction s using Core.ind with
  | h o a b c n ks ih =>
    intro t m r q hm0 hm6 hs ht h
    cases t with
    | node o' a' b' c' n' ks' =>
      unfold isB at hs ht
      rw [Bool.and_eq_true] at hs ht
      obtain ⟨hfs, hks⟩ := hs
      obtain ⟨hft, hkt⟩ := ht
      obtain ⟨⟨v, nu, kn⟩, hsh⟩ := fieldsB_shape hfs
      obtain ⟨⟨v', nu', kn'⟩, hsh'⟩ := fieldsB_shape hft
      have hsh0 : shapeOf o = some (v, nu, kn) := hsh
      have hsh0' : shapeOf o' = some (v', nu', kn') := hsh'
      unfold showT headTxt at h
      rw [hsh0, hsh0'] at h
      simp only [List.append_assoc, List.cons_append, List.nil_append, List.cons.injEq, true_and] at h
      have st1 : Stop (varsTxt v a b c ++ (numTxt nu n ++ (showL ks ++ 41 :: r))) := stop_vars _ _ _ _ (stop_num _ _ (by have := stop_showL ks r; simpa using this))
      have st2 : Stop (varsTxt v' a' b' c' ++ (numTxt nu' n' ++ (showL ks' ++ 41 :: q))) := stop_vars _ _ _ _ (stop_num _ _ (by have := stop_showL ks' q; simpa using this))
      obtain ⟨ho, g1⟩ := span_eq isLet o o' _ _ (let_ops o ⟨_, hsh0⟩) (let_ops o' ⟨_, hsh0'⟩) st1.let_ st2.let_ h
      subst ho
      rw [hsh0] at hsh0'
      simp only [Option.some.injEq, Prod.mk.injEq] at hsh0'
      obtain ⟨rfl, rfl, rfl⟩ := hsh0'
      have vs := fieldsB_vars hfs hsh ⟨hm0, hm6⟩
      have vt := fieldsB_vars hft hsh' ⟨hm0, hm6⟩
      have s3 : Stop (numTxt nu n ++ (showL ks ++ 41 :: r)) := stop_num _ _ (by have := stop_showL ks r; simpa using this)
      have t3 : Stop (numTxt nu n' ++ (showL ks' ++ 41 :: q)) := stop_num _ _ (by have := stop_showL ks' q; simpa using this)
      clear h
      unfold varsTxt at g1
      rw [List.append_assoc, List.append_assoc, List.append_assoc, List.append_assoc] at g1
      obtain ⟨ea, g2⟩ := var_inj (0 < v) vs.1 vt.1 (stop_var _ _ (stop_var _ _ s3)) (stop_var _ _ (stop_var _ _ t3)) g1
      obtain ⟨eb, g3⟩ := var_inj (1 < v) vs.2.1 vt.2.1 (stop_var _ _ s3) (stop_var _ _ t3) g2
      obtain ⟨ec, g4⟩ := var_inj (2 < v) vs.2.2 vt.2.2 s3 t3 g3
      have ea : a = a' := ea
      have eb : b = b' := eb
      have ec : c = c' := ec
      have hn : n = n' ∧ showL ks ++ 41 :: r = showL ks' ++ 41 :: q := by
        cases nu with
        | true =>
          have n1 := fieldsB_num hfs hsh
          have n2 := fieldsB_num hft hsh'
          unfold numTxt at g4
          simp only [if_true, List.cons_append, List.nil_append, List.cons.injEq, true_and] at g4
          exact num_inj n1 n2 (by have := stop_showL ks r; simpa using this) (by have := stop_showL ks' q; simpa using this) g4
        | false =>
          have n1 := fieldsB_nonum hfs hsh
          have n2 := fieldsB_nonum hft hsh'
          have n1 : n = 0 := n1
          have n2 : n' = 0 := n2
          exact ⟨by omega, by simpa [numTxt] using g4⟩
      obtain ⟨en, g5⟩ := hn
      have hl : ks.length = ks'.length := by
        have k1 := fieldsB_kids hfs hsh
        have k2 := fieldsB_kids hft hsh'
        exact k1.trans k2.symm
      have hun : 0 ≤ under o m ∧ under o m ≤ 6 := by
        unfold under
        by_cases hx : o = oEx
        · rw [if_pos hx]
          unfold fieldsB at hfs
          rw [hsh] at hfs
          simp only [Bool.and_eq_true] at hfs
          have := hfs.2
          rw [show (Core.node o a b c n ks).op = o from rfl, if_pos hx] at this
          simp at this
          omega
        · rw [if_neg hx]; exact ⟨hm0, hm6⟩
      have hk : ks = ks' ∧ r = q := showL_inj ks ih ks' (under o m) r q hun.1 hun.2 hks hkt hl g5
      obtain ⟨ek, er⟩ := hk
      subst ea eb ec en ek
      exact ⟨rfl, er⟩
theorem showT_eq (s t : Core) (m : Int) (hm0 : 0 ≤ m) (hm6 : m ≤ 6) (hs : isB s m = true) (ht : isB t m = true) : showT s = showT t ↔ s = t := by
  constructor
  · intro h
    exact (showT_inj s t m [] [] hm0 hm6 hs ht (by rw [h])).1
  · rintro rfl; rfl
end Go.Proofs.YtcgjacaemblnmaaDoor
