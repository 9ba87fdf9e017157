/- Parts of the proof: ParsePure. -/
import Derived.Test.YteikakoheibnjaaDoorM2
namespace Go.Proofs.YteikakoheibnjaaDoor
open Go

structure DeclP where
  name : List UInt8
  order : Int
  at_ : Int
structure PredP where
  name : List UInt8
  params : List DeclP
  body : Node
  at_ : Int
structure ProgP where
  decls : List DeclP
  preds : List PredP
  main : Node

/-- The parser's state: the next token's number, the first error, where. -/
structure PS where
  i : Nat
  e : Nat
  at_ : Nat
def zTok : Tok := ⟨0, [], 0, 0⟩
def zNode : Node := .node [] [] 0 0 []
section
variable (l : List Tok)
def nowP (s : PS) : Tok := if s.e = 0 then l.getD s.i ⟨4, [], 0, 0⟩ else ⟨4, [], 0, 0⟩
def isW (s : PS) (x : List UInt8) : Bool := (nowP l s).kind == 3 && (nowP l s).text == x
def failP (s : PS) (p e : Nat) : PS := if s.e = 0 then ⟨s.i, e, p⟩ else s
def nextP (s : PS) : PS := if s.e = 0 ∧ (nowP l s).kind ≠ 4 then ⟨s.i + 1, s.e, s.at_⟩ else s
def takeP (s : PS) (x : List UInt8) : Bool × PS := if isW l s x then (true, nextP l s) else (false, s)
def mustP (s : PS) (x : List UInt8) : PS := if isW l s x then nextP l s else failP s (nowP l s).at_ 2
def nameP (s : PS) : Tok × PS := if (nowP l s).kind = 1 then (nowP l s, nextP l s) else (zTok, failP s (nowP l s).at_ 2)
def orderP (s : PS) (x : List UInt8) : Int := if isW l s (x ++ [48]) then 0 else if isW l s (x ++ [49]) then 1 else if isW l s (x ++ [50]) then 2 else -1

/-- A part that begins with a name. -/
def partName (s : PS) : Node × PS :=
  let t := nowP l s
  let n : Node := .node nVar t.text 0 t.at_ []
  let a := takeP l (nextP l s) [43]
  if a.1 then
    let k := nowP l a.2
    if k.kind ≠ 2 ∨ k.n = 0 then (n, failP a.2 k.at_ 2) else (.node nPlus [] k.n t.at_ [n], nextP l a.2)
  else (n, a.2)
/-- A part within braces. -/
def partT (s : PS) : Node × PS :=
  let t := nowP l s
  if t.kind = 1 then partName l s
  else if t.kind = 2 then (.node nNum [] t.n t.at_ [], nextP l s)
  else (zNode, failP s t.at_ 2)
/-- A row's rounds: at most so many. -/
def rowF (g : PS → Node × PS) (stop : List UInt8) : Nat → List Node → PS → List Node × PS
  | 0, acc, s => (acc, s)
  | f + 1, acc, s =>
    if s.e = 0 then
      if acc.length = 6 then (acc, failP s (nowP l s).at_ 2)
      else
        let r := g s
        let a := takeP l r.2 [44]
        if a.1 then rowF g stop f (acc ++ [r.1]) a.2 else (acc ++ [r.1], mustP l a.2 stop)
    else (acc, s)
def rowP (g : PS → Node × PS) (stop : List UInt8) (s : PS) : List Node × PS :=
  let a := takeP l s stop
  if a.1 then ([], a.2) else rowF l g stop 8 [] a.2
def part (s : PS) : Node × PS :=
  let t := nowP l s
  if t.kind = 1 then partName l s
  else if t.kind = 2 then (.node nNum [] t.n t.at_ [], nextP l s)
  else if isW l s [123] then
    let r := rowP l (partT l) [125] (nextP l s)
    (.node nSet [] 0 t.at_ r.1, r.2)
  else (zNode, failP s t.at_ 2)
def termF : Nat → Node → PS → Node × PS
  | 0, n, s => (n, s)
  | f + 1, n, s =>
    if s.e = 0 then
      let t := nowP l s
      if isW l s nUnion || isW l s nInter then
        let r := part l (nextP l s)
        termF f (.node t.text [] 0 t.at_ [n, r.1]) r.2
      else if isW l s [92] then
        let r := part l (nextP l s)
        termF f (.node nMinus [] 0 t.at_ [n, r.1]) r.2
      else (n, s)
    else (n, s)
def termP (s : PS) : Node × PS :=
  let r := part l s
  termF l (l.length + 1) r.1 r.2
def relP (s : PS) : List UInt8 :=
  if isW l s [61] then nEq else if isW l s [126, 61] then nNe else if isW l s [60] then nLt else if isW l s [60, 61] then nLe
  else if isW l s nIn then nIn else if isW l s nNotin then nNotin else if isW l s nSub then nSub else []
def atomP (s : PS) : Node × PS :=
  let t := nowP l s
  let t1 := l.getD (s.i + 1) ⟨4, [], 0, 0⟩
  if t.kind = 1 ∧ t1.kind = 3 ∧ t1.text = [40] then
    let r := rowP l (termP l) [41] (nextP l (nextP l s))
    (.node nCall t.text 0 t.at_ r.1, r.2)
  else
    let a := termP l s
    let op := relP l a.2
    if a.2.e = 0 ∧ op ≠ [] then
      let b := termP l (nextP l a.2)
      (.node op [] 0 (nowP l a.2).at_ [a.1, b.1], b.2)
    else (.node nIs a.1.name 0 t.at_ [], if a.1.op = nVar then a.2 else failP a.2 t.at_ 2)
/-- A row of operands, a sign between, put together from the left. -/
def leftF (g : PS → Node × PS) (x op : List UInt8) : Nat → Node → PS → Node × PS
  | 0, n, s => (n, s)
  | f + 1, n, s =>
    if isW l s x then
      let r := g (nextP l s)
      leftF g x op f (.node op [] 0 (nowP l s).at_ [n, r.1]) r.2
    else (n, s)
def leftP (g : PS → Node × PS) (x op : List UInt8) (s : PS) : Node × PS :=
  let r := g s
  leftF l g x op (l.length + 1) r.1 r.2
def andP (u : PS → Node × PS) : PS → Node × PS := leftP l u [38] nAnd
def orP (u : PS → Node × PS) : PS → Node × PS := leftP l (andP l u) [124] nOr
def impF (u : PS → Node × PS) : Nat → PS → Node × PS
  | 0, s => orP l u s
  | f + 1, s =>
    let r := orP l u s
    if isW l r.2 [61, 62] then
      let q := impF u f (nextP l r.2)
      (.node nImp [] 0 (nowP l r.2).at_ [r.1, q.1], q.2)
    else r
def impP (u : PS → Node × PS) : PS → Node × PS := impF l u (l.length + 1)
/-- May a formula begin, so many more within? -/
def enterP (k : Nat) (s : PS) : PS := if k = 0 then failP s (nowP l s).at_ 4 else s
def formulaP (u : PS → Node × PS) (k : Nat) (s : PS) : Node × PS :=
  if (enterP l k s).e = 0 then leftP l (impP l u) [60, 61, 62] nIff (enterP l k s) else (zNode, enterP l k s)
/-- un: k more may lie within. -/
def unP : Nat → PS → Node × PS
  | 0, s => (zNode, enterP l 0 s)
  | k + 1, s =>
    if s.e ≠ 0 then (zNode, s) else
    let t := nowP l s
    if isW l s [126] then
      let r := unP k (nextP l s)
      (.node nNot [] 0 t.at_ [r.1], r.2)
    else if 0 ≤ orderP l s nEx ∨ 0 ≤ orderP l s nAll then
      let a := nameP l (nextP l s)
      let r := formulaP l (unP k) k (mustP l a.2 [58])
      (.node (if orderP l s nEx < 0 then nAll else nEx) a.1.text (if orderP l s nEx < 0 then orderP l s nAll else orderP l s nEx) t.at_ [r.1], r.2)
    else if isW l s nTrue || isW l s nFalse then (.node t.text [] 0 t.at_ [], nextP l s)
    else if isW l s [40] then
      let r := formulaP l (unP k) k (nextP l s)
      (r.1, mustP l r.2 [41])
    else atomP l s
def formP : PS → Node × PS := formulaP l (unP l 30) 30
def nVarK : List UInt8 := [118, 97, 114]
def declF (k : Int) : Nat → List DeclP → PS → List DeclP × PS
  | 0, acc, s => (acc, s)
  | f + 1, acc, s =>
    if s.e = 0 then
      let a := nameP l s
      let b := takeP l a.2 [44]
      if b.1 then declF k f (acc ++ [⟨a.1.text, k, a.1.at_⟩]) b.2 else (acc ++ [⟨a.1.text, k, a.1.at_⟩], mustP l b.2 [59])
    else (acc, s)
def declP (s : PS) : List DeclP × PS := declF l (orderP l s nVarK) (l.length + 1) [] (nextP l s)
def paramsF : Nat → List DeclP → PS → List DeclP × PS
  | 0, acc, s => (acc, s)
  | f + 1, acc, s =>
    if s.e = 0 then
      let k := orderP l s nVarK
      let s1 := if k < 0 then failP s (nowP l s).at_ 2 else s
      let s2 := nextP l s1
      let s3 := if acc.length = 6 then failP s2 (nowP l s2).at_ 2 else s2
      let a := nameP l s3
      let b := takeP l a.2 [44]
      if b.1 then paramsF f (acc ++ [⟨a.1.text, k, a.1.at_⟩]) b.2 else (acc ++ [⟨a.1.text, k, a.1.at_⟩], mustP l b.2 [41])
    else (acc, s)
def paramsP (s : PS) : List DeclP × PS :=
  let a := takeP l s [41]
  if a.1 then ([], a.2) else paramsF l 8 [] a.2
def nPred : List UInt8 := [112, 114, 101, 100]
def predP (s : PS) : PredP × PS :=
  let t := nameP l (nextP l s)
  let q := paramsP l (mustP l t.2 [40])
  let f := formP l (mustP l q.2 [61])
  (⟨t.1.text, q.1, f.1, t.1.at_⟩, mustP l f.2 [59])
def progF : Nat → List DeclP → List PredP → PS → (List DeclP × List PredP) × PS
  | 0, ds, ps, s => ((ds, ps), s)
  | f + 1, ds, ps, s =>
    if s.e = 0 ∧ (isW l s nPred = true ∨ 0 ≤ orderP l s nVarK) then
      if isW l s nPred then
        let r := predP l s
        progF f ds (ps ++ [r.1]) r.2
      else
        let r := declP l s
        progF f (ds ++ r.1) ps r.2
    else ((ds, ps), s)
def progP : ProgP × PS :=
  let r := progF l (l.length + 1) [] [] ⟨0, 0, 0⟩
  let m := formP l r.2
  let s1 := mustP l m.2 [59]
  let s2 := if (nowP l s1).kind ≠ 4 then failP s1 (nowP l s1).at_ 2 else s1
  (⟨r.1.1, r.1.2, m.1⟩, s2)
end
/-- A text's program: the program, a place, an error. -/
def parseP (s : List UInt8) : ProgP × Nat × Nat :=
  if (tokens s).2.2 ≠ 0 then (⟨[], [], zNode⟩, (tokens s).2.1, (tokens s).2.2)
  else if (progP (tokens s).1).2.e ≠ 0 then (⟨[], [], zNode⟩, (progP (tokens s).1).2.at_, (progP (tokens s).1).2.e)
  else ((progP (tokens s).1).1, s.length, 0)
end Go.Proofs.YteikakoheibnjaaDoor
