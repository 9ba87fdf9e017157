/- Parts of the proof: NodePure. -/
import Derived.Test.YteikakoheibnjaaDoorM1
namespace Go.Proofs.YteikakoheibnjaaDoor
open Go

/-- A formula or a term: its op, a name, a number, a place, kids. -/
inductive Node where
  | node (op name : List UInt8) (n at_ : Int) (kids : List Node)
namespace Node
def op : Node → List UInt8 | .node o _ _ _ _ => o
def name : Node → List UInt8 | .node _ s _ _ _ => s
def num : Node → Int | .node _ _ n _ _ => n
def pos : Node → Int | .node _ _ _ p _ => p
def kids : Node → List Node | .node _ _ _ _ k => k
end Node
mutual
def nodes : Node → Nat
  | .node _ _ _ _ k => nodesL k + 1
def nodesL : List Node → Nat
  | [] => 0
  | x :: r => nodes x + nodesL r
end
theorem nodes_node (o s : List UInt8) (n p : Int) (ks : List Node) : nodes (.node o s n p ks) = nodesL ks + 1 := by rw [nodes]
theorem nodes_pos : ∀ t : Node, 1 ≤ nodes t
  | .node _ _ _ _ k => by unfold nodes; omega
theorem nodes_kid : ∀ (ks : List Node) (k : Node), k ∈ ks → nodes k ≤ nodesL ks
  | x :: r, k, h => by
    rcases List.mem_cons.1 h with rfl | h
    · simp only [nodesL]
      omega
    · have := nodes_kid r k h
      simp only [nodesL]
      omega
/-- An induction over a tree and its kids. -/
theorem Node.ind {P : Node → Prop} (h : ∀ o s n p ks, (∀ k ∈ ks, P k) → P (.node o s n p ks)) : ∀ t, P t := by
  intro t
  suffices H : ∀ m t, nodes t ≤ m → P t from H _ t (Nat.le_refl _)
  intro m
  induction m with
  | zero => intro t ht; have := nodes_pos t; omega
  | succ m ih =>
    intro t ht
    cases t with
    | node o s n p ks =>
      refine h o s n p ks fun k hk => ih k ?_
      have := nodes_kid ks k hk
      unfold nodes at ht
      omega
mutual
def depth : Node → Nat
  | .node _ _ _ _ k => depthL k + 1
def depthL : List Node → Nat
  | [] => 0
  | x :: r => max (depth x) (depthL r)
end
theorem depth_node (o s : List UInt8) (n p : Int) (ks : List Node) : depth (.node o s n p ks) = depthL ks + 1 := by rw [depth]

-- the ops, as bytes
def nVar : List UInt8 := [118, 97, 114]
def nNum : List UInt8 := [110, 117, 109]
def nPlus : List UInt8 := [112, 108, 117, 115]
def nSet : List UInt8 := [115, 101, 116]
def nUnion : List UInt8 := [117, 110, 105, 111, 110]
def nInter : List UInt8 := [105, 110, 116, 101, 114]
def nMinus : List UInt8 := [109, 105, 110, 117, 115]
def nTrue : List UInt8 := [116, 114, 117, 101]
def nFalse : List UInt8 := [102, 97, 108, 115, 101]
def nNot : List UInt8 := [110, 111, 116]
def nAnd : List UInt8 := [97, 110, 100]
def nOr : List UInt8 := [111, 114]
def nImp : List UInt8 := [105, 109, 112]
def nIff : List UInt8 := [105, 102, 102]
def nEx : List UInt8 := [101, 120]
def nAll : List UInt8 := [97, 108, 108]
def nIs : List UInt8 := [105, 115]
def nCall : List UInt8 := [99, 97, 108, 108]
def nEq : List UInt8 := [101, 113]
def nNe : List UInt8 := [110, 101]
def nLt : List UInt8 := [108, 116]
def nLe : List UInt8 := [108, 101]
def nIn : List UInt8 := [105, 110]
def nNotin : List UInt8 := [110, 111, 116, 105, 110]
def nSub : List UInt8 := [115, 117, 98]

/-- Is it a union, inter or minus? -/
def setOp (o : List UInt8) : Bool := decide (o = nUnion) || decide (o = nInter) || decide (o = nMinus)
/-- Just so many kids, and a name, a number, if asked. -/
def hasB (kids : Nat) (s : List UInt8) (n : Int) (k : Nat) (name num : Bool) : Bool :=
  decide (kids = k) && (name || decide (s = [])) && (num || decide (n = 0)) && (!name || nameB s)
mutual
def termB : Node → Bool
  | .node o s n _ ks =>
    if o = nVar then hasB ks.length s n 0 true false
    else if o = nNum then hasB ks.length s n 0 false true && decide (0 ≤ n) && decide (n ≤ 99)
    else if o = nPlus then hasB ks.length s n 1 false true && decide (1 ≤ n) && decide (n ≤ 99) && ks.all (fun k => decide (k.op = nVar)) && termsB ks
    else if o = nSet then !(ks.any fun k => setOp k.op || decide (k.op = nSet)) && hasB ks.length s n ks.length false false && decide (ks.length ≤ 6) && termsB ks
    else setOp o && hasB ks.length s n 2 false false && termsB ks && !(ks.drop 1).any (fun k => setOp k.op)
def termsB : List Node → Bool
  | [] => true
  | x :: r => termB x && termsB r
end
def relOp (o : List UInt8) : Bool := decide (o = nEq) || decide (o = nNe) || decide (o = nLt) || decide (o = nLe) || decide (o = nIn) || decide (o = nNotin) || decide (o = nSub)
def binOp (o : List UInt8) : Bool := decide (o = nAnd) || decide (o = nOr) || decide (o = nImp) || decide (o = nIff)
mutual
def formB : Node → Bool
  | .node o s n _ ks =>
    if o = nTrue ∨ o = nFalse then hasB ks.length s n 0 false false
    else if o = nNot then hasB ks.length s n 1 false false && formsB ks
    else if binOp o then hasB ks.length s n 2 false false && formsB ks
    else if o = nEx ∨ o = nAll then hasB ks.length s n 1 true true && decide (0 ≤ n) && decide (n ≤ 2) && formsB ks
    else if o = nIs then hasB ks.length s n 0 true false
    else if relOp o then hasB ks.length s n 2 false false && termsB ks
    else if o = nCall then hasB ks.length s n ks.length true false && decide (ks.length ≤ 6) && termsB ks
    else false
def formsB : List Node → Bool
  | [] => true
  | x :: r => formB x && formsB r
end
theorem termsB_all : ∀ ks, termsB ks = ks.all termB
  | [] => by simp [termsB]
  | x :: r => by rw [termsB, termsB_all r, List.all_cons]
theorem formsB_all : ∀ ks, formsB ks = ks.all formB
  | [] => by simp [formsB]
  | x :: r => by rw [formsB, formsB_all r, List.all_cons]
def smallB (t : Node) : Bool := decide (depth t ≤ 30) && decide (nodes t ≤ 2000)

/-- A number in digits. -/
def digF : Nat → Nat → List UInt8
  | 0, _ => []
  | f + 1, n => if n < 10 then [UInt8.ofNat (48 + n)] else digF f (n / 10) ++ [UInt8.ofNat (48 + n % 10)]
def dig (n : Nat) : List UInt8 := digF 20 n
theorem dig_len100 : ∀ i : Fin 100, 1 ≤ (dig i.val).length ∧ (dig i.val).length ≤ 2 := by decide

/-- How an op is written. -/
def signOf (o : List UInt8) : List UInt8 :=
  if o = nAnd then [38] else if o = nOr then [124] else if o = nImp then [61, 62] else if o = nIff then [60, 61, 62] else if o = nEq then [61] else if o = nNe then [126, 61]
  else if o = nLt then [60] else if o = nLe then [60, 61] else if o = nMinus then [92] else o
/-- Texts, with a comma and a blank between. -/
def commas : List (List UInt8) → List UInt8
  | [] => []
  | [x] => x
  | x :: y :: r => x ++ [44, 32] ++ commas (y :: r)
def joined (a o b : List UInt8) : List UInt8 := a ++ [32] ++ signOf o ++ [32] ++ b
mutual
def termS : Node → List UInt8
  | .node o s n _ ks =>
    if o = nVar then s
    else if o = nNum then dig n.toNat
    else if o = nPlus then (termSL ks).getD 0 [] ++ [32, 43, 32] ++ dig n.toNat
    else if o = nSet then [123] ++ commas (termSL ks) ++ [125]
    else joined ((termSL ks).getD 0 []) o ((termSL ks).getD 1 [])
def termSL : List Node → List (List UInt8)
  | [] => []
  | x :: r => termS x :: termSL r
end
mutual
def formS : Node → List UInt8
  | .node o s n _ ks =>
    if o = nTrue ∨ o = nFalse then o
    else if o = nNot then [126] ++ (formSL ks).getD 0 []
    else if binOp o then [40] ++ joined ((formSL ks).getD 0 []) o ((formSL ks).getD 1 []) ++ [41]
    else if o = nEx ∨ o = nAll then [40] ++ o ++ dig n.toNat ++ [32] ++ s ++ [58, 32] ++ (formSL ks).getD 0 [] ++ [41]
    else if o = nIs then s
    else if o = nCall then s ++ [40] ++ commas (termSL ks) ++ [41]
    else joined ((termSL ks).getD 0 []) o ((termSL ks).getD 1 [])
def formSL : List Node → List (List UInt8)
  | [] => []
  | x :: r => formS x :: formSL r
end
theorem termSL_map : ∀ ks, termSL ks = ks.map termS
  | [] => by simp [termSL]
  | x :: r => by rw [termSL, termSL_map r, List.map_cons]
theorem formSL_map : ∀ ks, formSL ks = ks.map formS
  | [] => by simp [formSL]
  | x :: r => by rw [formSL, formSL_map r, List.map_cons]
theorem commas_snoc (x : List UInt8) : ∀ l : List (List UInt8), l ≠ [] → commas (l ++ [x]) = commas l ++ [44, 32] ++ x
  | [], h => absurd rfl h
  | [y], _ => by simp [commas]
  | y :: z :: r, _ => by
    have := commas_snoc x (z :: r) (by simp)
    simp only [List.cons_append] at this ⊢
    simp only [commas, this, List.append_assoc, List.cons_append, List.nil_append]

/-- What a name may take. -/
theorem hasB_name {kids k : Nat} {s : List UInt8} {n : Int} {name num : Bool} (h : hasB kids s n k name num = true) : s.length ≤ 2000 ∧ kids = k ∧ (name = false → s = []) ∧ (num = false → n = 0) ∧ (name = true → nameB s = true) := by
  unfold hasB at h
  simp only [Bool.and_eq_true, Bool.or_eq_true, decide_eq_true_eq, Bool.not_eq_true'] at h
  obtain ⟨⟨⟨h1, h2⟩, h3⟩, h4⟩ := h
  refine ⟨?_, h1, fun e => ?_, fun e => ?_, fun e => ?_⟩
  · cases name with
    | false =>
      rcases h2 with h2 | h2
      · cases h2
      · rw [h2]; simp
    | true =>
      rcases h4 with h4 | h4
      · cases h4
      · exact nameB_len h4
  · subst e
    rcases h2 with h2 | h2
    · cases h2
    · exact h2
  · subst e
    rcases h3 with h3 | h3
    · cases h3
    · exact h3
  · subst e
    rcases h4 with h4 | h4
    · cases h4
    · exact h4
theorem commas_len (B : Nat) : ∀ l : List (List UInt8), (commas l).length ≤ (l.map (fun x => x.length + 2)).sum
  | [] => by simp [commas]
  | [x] => by simp [commas]
  | x :: y :: r => by
    have := commas_len B (y :: r)
    simp only [commas, List.map_cons, List.sum_cons, List.length_append, List.length_cons, List.length_nil] at this ⊢
    omega
theorem signOf_len (o : List UInt8) (h : o.length ≤ 5) : (signOf o).length ≤ 5 := by
  unfold signOf
  repeat' split
  all_goals first | exact h | decide
theorem setOp_len {o : List UInt8} (h : setOp o = true) : o.length ≤ 5 := by
  unfold setOp at h
  simp only [Bool.or_eq_true, decide_eq_true_eq] at h
  rcases h with (rfl | rfl) | rfl <;> decide
theorem relOp_len {o : List UInt8} (h : relOp o = true) : o.length ≤ 5 := by
  unfold relOp at h
  simp only [Bool.or_eq_true, decide_eq_true_eq] at h
  rcases h with (((((rfl | rfl) | rfl) | rfl) | rfl) | rfl) | rfl <;> decide
theorem binOp_len {o : List UInt8} (h : binOp o = true) : o.length ≤ 5 := by
  unfold binOp at h
  simp only [Bool.or_eq_true, decide_eq_true_eq] at h
  rcases h with ((rfl | rfl) | rfl) | rfl <;> decide
theorem getD_map_len {f : Node → List UInt8} {B : Nat} : ∀ (ks : List Node) (i : Nat), (∀ k ∈ ks, (f k).length ≤ B * nodes k) → ((ks.map f).getD i []).length ≤ B * nodesL (ks.drop i)
  | [], i, _ => by simp
  | x :: r, 0, h => by
    have := h x (by simp)
    simp only [List.map_cons, List.getD_cons_zero, List.drop_zero, nodesL, Nat.mul_add]
    omega
  | x :: r, i + 1, h => by
    have := getD_map_len r i (fun k hk => h k (by simp [hk]))
    simpa using this
theorem sum_map_len {f : Node → List UInt8} {B : Nat} : ∀ (ks : List Node), (∀ k ∈ ks, (f k).length + 2 ≤ B * nodes k) → ((ks.map f).map (fun x => x.length + 2)).sum ≤ B * nodesL ks
  | [], _ => by simp [nodesL]
  | x :: r, h => by
    have h1 := h x (by simp)
    have h2 := sum_map_len r (fun k hk => h k (by simp [hk]))
    simp only [List.map_cons, List.sum_cons, nodesL, Nat.mul_add] at h2 ⊢
    omega
theorem two_len {f : Node → List UInt8} {B : Nat} (ks : List Node) (h : ∀ k ∈ ks, (f k).length ≤ B * nodes k) : ((ks.map f).getD 0 []).length + ((ks.map f).getD 1 []).length ≤ B * nodesL ks := by
  cases ks with
  | nil => simp
  | cons x r =>
    have h1 := h x (by simp)
    have h2 := getD_map_len r 0 (fun k hk => h k (by simp [hk]))
    simp only [List.map_cons, List.getD_cons_zero, List.getD_cons_succ, nodesL, Nat.mul_add, List.drop_zero] at h2 ⊢
    omega
theorem termS_len : ∀ t : Node, termB t = true → (termS t).length + 20 ≤ 2100 * nodes t := by
  intro t
  induction t using Node.ind with
  | h o s n p ks ih =>
    intro h
    rw [termB] at h
    rw [termS, nodes_node, termSL_map]
    have hk : termsB ks = true → ∀ k ∈ ks, (termS k).length + 20 ≤ 2100 * nodes k := fun hh k hk => by
      rw [termsB_all, List.all_eq_true] at hh
      exact ih k hk (hh k hk)
    by_cases h1 : o = nVar
    · rw [if_pos h1] at h ⊢
      have := (hasB_name h).1
      omega
    rw [if_neg h1] at h ⊢
    by_cases h2 : o = nNum
    · rw [if_pos h2] at h ⊢
      simp only [Bool.and_eq_true, decide_eq_true_eq] at h
      have := dig_len100 ⟨n.toNat, by omega⟩
      simp only at this
      omega
    rw [if_neg h2] at h ⊢
    by_cases h3 : o = nPlus
    · rw [if_pos h3] at h ⊢
      simp only [Bool.and_eq_true, decide_eq_true_eq] at h
      have h5 := dig_len100 ⟨n.toNat, by omega⟩
      have h6 := getD_map_len ks 0 (fun k hk' => Nat.le_trans (Nat.le_add_right _ 20) (hk h.2 k hk'))
      simp only at h5
      simp only [List.length_append, List.length_cons, List.length_nil, List.drop_zero] at h6 ⊢
      omega
    rw [if_neg h3] at h ⊢
    by_cases h4 : o = nSet
    · rw [if_pos h4] at h ⊢
      simp only [Bool.and_eq_true] at h
      have h5 := commas_len 0 (ks.map termS)
      have h6 := sum_map_len (f := termS) (B := 2100) ks (fun k hk' => by have := hk h.2 k hk'; omega)
      simp only [List.length_append, List.length_cons, List.length_nil] at h6 ⊢
      omega
    rw [if_neg h4] at h ⊢
    simp only [Bool.and_eq_true] at h
    have h5 := two_len ks (fun k hk' => Nat.le_trans (Nat.le_add_right _ 20) (hk h.1.2 k hk'))
    have h6 := signOf_len o (setOp_len h.1.1.1)
    unfold joined
    simp only [List.length_append, List.length_cons, List.length_nil] at h5 ⊢
    omega
theorem formS_len : ∀ t : Node, formB t = true → (formS t).length + 20 ≤ 2100 * nodes t := by
  intro t
  induction t using Node.ind with
  | h o s n p ks ih =>
    intro h
    rw [formB] at h
    rw [formS, nodes_node, termSL_map, formSL_map]
    have hk : formsB ks = true → ∀ k ∈ ks, (formS k).length + 20 ≤ 2100 * nodes k := fun hh k hk => by
      rw [formsB_all, List.all_eq_true] at hh
      exact ih k hk (hh k hk)
    have ht : termsB ks = true → ∀ k ∈ ks, (termS k).length + 20 ≤ 2100 * nodes k := fun hh k hk => by
      rw [termsB_all, List.all_eq_true] at hh
      exact termS_len k (hh k hk)
    by_cases h1 : o = nTrue ∨ o = nFalse
    · rw [if_pos h1]
      have : o.length ≤ 5 := by rcases h1 with rfl | rfl <;> decide
      omega
    rw [if_neg h1] at h ⊢
    by_cases h2 : o = nNot
    · rw [if_pos h2] at h ⊢
      simp only [Bool.and_eq_true] at h
      have h6 := getD_map_len ks 0 (fun k hk' => Nat.le_trans (Nat.le_add_right _ 20) (hk h.2 k hk'))
      simp only [List.length_append, List.length_cons, List.length_nil, List.drop_zero] at h6 ⊢
      omega
    rw [if_neg h2] at h ⊢
    by_cases h3 : binOp o = true
    · rw [if_pos h3] at h ⊢
      simp only [Bool.and_eq_true] at h
      have h5 := two_len ks (fun k hk' => Nat.le_trans (Nat.le_add_right _ 20) (hk h.2 k hk'))
      have h6 := signOf_len o (binOp_len h3)
      unfold joined
      simp only [List.length_append, List.length_cons, List.length_nil] at h5 ⊢
      omega
    rw [if_neg h3] at h ⊢
    by_cases h4 : o = nEx ∨ o = nAll
    · rw [if_pos h4] at h ⊢
      simp only [Bool.and_eq_true, decide_eq_true_eq] at h
      have h5 := dig_len100 ⟨n.toNat, by omega⟩
      have h6 := getD_map_len ks 0 (fun k hk' => Nat.le_trans (Nat.le_add_right _ 20) (hk h.2 k hk'))
      have h7 := (hasB_name h.1.1.1).1
      have h8 : o.length ≤ 5 := by rcases h4 with rfl | rfl <;> decide
      simp only at h5
      simp only [List.length_append, List.length_cons, List.length_nil, List.drop_zero] at h6 ⊢
      omega
    rw [if_neg h4] at h ⊢
    by_cases h5 : o = nIs
    · rw [if_pos h5] at h ⊢
      have := (hasB_name h).1
      omega
    rw [if_neg h5] at h ⊢
    by_cases h6 : relOp o = true
    · rw [if_pos h6] at h
      have hc : ¬ o = nCall := by rintro rfl; revert h6; decide
      rw [if_neg hc]
      simp only [Bool.and_eq_true] at h
      have h7 := two_len ks (fun k hk' => Nat.le_trans (Nat.le_add_right _ 20) (ht h.2 k hk'))
      have h8 := signOf_len o (relOp_len h6)
      unfold joined
      simp only [List.length_append, List.length_cons, List.length_nil] at h7 ⊢
      omega
    rw [if_neg h6] at h
    by_cases h7 : o = nCall
    · rw [if_pos h7] at h ⊢
      simp only [Bool.and_eq_true] at h
      have h8 := commas_len 0 (ks.map termS)
      have h9 := sum_map_len (f := termS) (B := 2100) ks (fun k hk' => by have := ht h.2 k hk'; omega)
      have h10 := (hasB_name h.1.1).1
      simp only [List.length_append, List.length_cons, List.length_nil] at h9 ⊢
      omega
    · rw [if_neg h7] at h
      cases h
end Go.Proofs.YteikakoheibnjaaDoor
