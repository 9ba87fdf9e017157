/- Plain: core formulas as trees; what may be; how great; the same; how it is shown. -/
namespace Go.Proofs.YtcgjacaemblnmaaDoor

/-- A formula: its op's bytes, three variables, a number, kids. -/
inductive Core where
  | node (op : List UInt8) (a b c n : Int) (kids : List Core)

namespace Core
def op : Core → List UInt8 | .node o _ _ _ _ _ => o
def va : Core → Int | .node _ a _ _ _ _ => a
def vb : Core → Int | .node _ _ b _ _ _ => b
def vc : Core → Int | .node _ _ _ c _ _ => c
def vn : Core → Int | .node _ _ _ _ n _ => n
def kids : Core → List Core | .node _ _ _ _ _ k => k
end Core

mutual
def nodes : Core → Nat
  | .node _ _ _ _ _ k => nodesL k + 1
def nodesL : List Core → Nat
  | [] => 0
  | x :: r => nodes x + nodesL r
end
theorem nodes_pos : ∀ t : Core, 1 ≤ nodes t
  | .node _ _ _ _ _ k => by unfold nodes; omega

/-- An induction over a tree and its kids. -/
theorem Core.ind {P : Core → Prop} (h : ∀ o a b c n ks, (∀ k ∈ ks, P k) → P (.node o a b c n ks)) : ∀ t, P t := by
  intro t
  suffices H : ∀ m t, nodes t ≤ m → P t from H _ t (Nat.le_refl _)
  intro m
  induction m with
  | zero => intro t ht; have := nodes_pos t; omega
  | succ m ih =>
    intro t ht
    cases t with
    | node o a b c n ks =>
      refine h o a b c n ks fun k hk => ih k ?_
      have : nodes k ≤ nodesL ks := by
        clear ht h
        induction ks with
        | nil => simp at hk
        | cons x r ihr =>
          unfold nodesL
          rcases List.mem_cons.1 hk with rfl | hk
          · omega
          · have := ihr hk; omega
      unfold nodes at ht
      omega

-- the ops, as bytes
def oTrue : List UInt8 := [116, 114, 117, 101]
def oSub : List UInt8 := [115, 117, 98]
def oSing : List UInt8 := [115, 105, 110, 103]
def oFlag : List UInt8 := [102, 108, 97, 103]
def oNone : List UInt8 := [110, 111, 110, 101]
def oLess : List UInt8 := [108, 101, 115, 115]
def oPlus : List UInt8 := [112, 108, 117, 115]
def oNum : List UInt8 := [110, 117, 109]
def oUnion : List UInt8 := [117, 110, 105, 111, 110]
def oInter : List UInt8 := [105, 110, 116, 101, 114]
def oMinus : List UInt8 := [109, 105, 110, 117, 115]
def oNot : List UInt8 := [110, 111, 116]
def oAnd : List UInt8 := [97, 110, 100]
def oEx : List UInt8 := [101, 120]

/-- What an op has: how many variables, a number, how many kids. -/
def shapes : List (List UInt8 × (Nat × Bool × Nat)) :=
  [(oTrue, (0, false, 0)), (oSub, (2, false, 0)), (oSing, (1, false, 0)), (oFlag, (1, false, 0)), (oNone, (1, false, 0)), (oLess, (2, false, 0)), (oPlus, (2, true, 0)), (oNum, (1, true, 0)),
   (oUnion, (3, false, 0)), (oInter, (3, false, 0)), (oMinus, (3, false, 0)), (oNot, (0, false, 1)), (oAnd, (0, false, 2)), (oEx, (1, false, 1))]
def shapeOf (o : List UInt8) : Option (Nat × Bool × Nat) := (shapes.find? (fun e => e.1 == o)).map (·.2)
theorem shapeOf_mem {o : List UInt8} {s : Nat × Bool × Nat} (h : shapeOf o = some s) : (o, s) ∈ shapes := by
  unfold shapeOf at h
  rw [Option.map_eq_some_iff] at h
  obtain ⟨e, he, rfl⟩ := h
  have h1 := List.find?_some he
  have h2 := List.mem_of_find?_eq_some he
  simp only [beq_iff_eq] at h1
  rw [← h1]
  exact h2

/-- Is variable i, which holds v, as it may be? -/
def varB (o : List UInt8) (vars : Nat) (n : Int) (i : Nat) (v : Int) : Bool :=
  if vars ≤ i then v == 0 else if o = oEx then true else decide (0 ≤ v) && decide (v < n)
def fieldsB (t : Core) (n : Int) : Bool :=
  match shapeOf t.op with
  | none => false
  | some (vars, num, kids) => decide (t.kids.length = kids) && (if num then decide (0 ≤ t.vn) && decide (t.vn ≤ 20) else t.vn == 0) &&
      varB t.op vars n 0 t.va && varB t.op vars n 1 t.vb && varB t.op vars n 2 t.vc && (if t.op = oEx then decide (t.va = n) && decide (n < 6) else true)
def under (o : List UInt8) (n : Int) : Int := if o = oEx then n + 1 else n
mutual
def isB : Core → Int → Bool
  | .node o a b c m k, n => fieldsB (.node o a b c m k) n && isL k (under o n)
def isL : List Core → Int → Bool
  | [], _ => true
  | x :: r, n => isB x n && isL r n
end
def isTop (t : Core) (n : Int) : Bool := decide (0 ≤ n) && decide (n ≤ 6) && decide (nodes t ≤ 2000) && isB t n

mutual
def sameB : Core → Core → Bool
  | .node o a b c n k, .node o' a' b' c' n' k' => decide (o = o') && decide (a = a') && decide (b = b') && decide (c = c') && decide (n = n') && sameL k k'
def sameL : List Core → List Core → Bool
  | [], [] => true
  | x :: r, y :: s => sameB x y && sameL r s
  | _, _ => false
end
theorem sameB_iff : ∀ s t : Core, sameB s t = true ↔ s = t := by
  intro s
  induction s using Core.ind with
  | h o a b c n ks ih =>
    intro t
    cases t with
    | node o' a' b' c' n' ks' =>
      have hl : ∀ ls : List Core, sameL ks ls = true ↔ ks = ls := by
        clear o a b c n
        induction ks with
        | nil => intro ls; cases ls <;> simp [sameL]
        | cons x r ihr =>
          intro ls
          cases ls with
          | nil => simp [sameL]
          | cons y s =>
            unfold sameL
            rw [Bool.and_eq_true, ih x (by simp) y, ihr (fun k hk => ih k (by simp [hk])) s]
            simp
      unfold sameB
      simp only [Bool.and_eq_true, decide_eq_true_eq, hl, Core.node.injEq]
      constructor
      · rintro ⟨⟨⟨⟨⟨h1, h2⟩, h3⟩, h4⟩, h5⟩, h6⟩; exact ⟨h1, h2, h3, h4, h5, h6⟩
      · rintro ⟨h1, h2, h3, h4, h5, h6⟩; exact ⟨⟨⟨⟨⟨h1, h2⟩, h3⟩, h4⟩, h5⟩, h6⟩
mutual
def freeB : Core → Bool
  | .node o _ _ _ _ k => freeL k && !decide (o = oEx)
def freeL : List Core → Bool
  | [] => true
  | x :: r => freeB x && freeL r
end
mutual
def deepN : Core → Nat
  | .node o _ _ _ _ k => deepL k + if o = oEx then 1 else 0
def deepL : List Core → Nat
  | [] => 0
  | x :: r => max (deepN x) (deepL r)
end
end Go.Proofs.YtcgjacaemblnmaaDoor
