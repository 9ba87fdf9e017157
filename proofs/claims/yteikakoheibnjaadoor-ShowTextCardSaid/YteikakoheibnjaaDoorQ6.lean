/- Parts of the proof: ParsePure, LexShow, TokShow, ProgAt, FineP, Itoa. -/
import Derived.Test.YteikakoheibnjaaDoorQ5
namespace Go.Proofs.YteikakoheibnjaaDoor
open Go

structure DeclP where
 name : List UInt8
 order : Int
 at_ : Int
structure PredP where
 name : List UInt8
 params : List DeclP
 body : Node
 at_ : Int
structure ProgP where
 decls : List DeclP
 preds : List PredP
 main : Node

structure PS where
 i : Nat
 e : Nat
 at_ : Nat
def zTok : Tok := ⟨0, [], 0, 0⟩
def zNode : Node := .node [] [] 0 0 []
section
variable (l : List Tok)
def nowP (s : PS) : Tok := if s.e = 0 then l.getD s.i ⟨4, [], 0, 0⟩ else ⟨4, [], 0, 0⟩
def isW (s : PS) (x : List UInt8) : Bool := (nowP l s).kind == 3 && (nowP l s).text == x
def failP (s : PS) (p e : Nat) : PS := if s.e = 0 then ⟨s.i, e, p⟩ else s
def nextP (s : PS) : PS := if s.e = 0 ∧ (nowP l s).kind ≠ 4 then ⟨s.i + 1, s.e, s.at_⟩ else s
def takeP (s : PS) (x : List UInt8) : Bool × PS := if isW l s x then (true, nextP l s) else (false, s)
def mustP (s : PS) (x : List UInt8) : PS := if isW l s x then nextP l s else failP s (nowP l s).at_ 2
def nameP (s : PS) : Tok × PS := if (nowP l s).kind = 1 then (nowP l s, nextP l s) else (zTok, failP s (nowP l s).at_ 2)
def orderP (s : PS) (x : List UInt8) : Int := if isW l s (x ++ [48]) then 0 else if isW l s (x ++ [49]) then 1 else if isW l s (x ++ [50]) then 2 else -1

def partName (s : PS) : Node × PS :=
 let t := nowP l s
 let n : Node := .node nVar t.text 0 t.at_ []
 let a := takeP l (nextP l s) [43]
 if a.1 then
  let k := nowP l a.2
  if k.kind ≠ 2 ∨ k.n = 0 then (n, failP a.2 k.at_ 2) else (.node nPlus [] k.n t.at_ [n], nextP l a.2)
 else (n, a.2)
def partT (s : PS) : Node × PS :=
 let t := nowP l s
 if t.kind = 1 then partName l s
 else if t.kind = 2 then (.node nNum [] t.n t.at_ [], nextP l s)
 else (zNode, failP s t.at_ 2)
def rowF (g : PS → Node × PS) (stop : List UInt8) : Nat → List Node → PS → List Node × PS
 | 0, acc, s => (acc, s)
 | f + 1, acc, s =>
   if s.e = 0 then
    if acc.length = 6 then (acc, failP s (nowP l s).at_ 2)
    else
     let r := g s
     let a := takeP l r.2 [44]
     if a.1 then rowF g stop f (acc ++ [r.1]) a.2 else (acc ++ [r.1], mustP l a.2 stop)
   else (acc, s)
def rowP (g : PS → Node × PS) (stop : List UInt8) (s : PS) : List Node × PS :=
 let a := takeP l s stop
 if a.1 then ([], a.2) else rowF l g stop 8 [] a.2
def part (s : PS) : Node × PS :=
 let t := nowP l s
 if t.kind = 1 then partName l s
 else if t.kind = 2 then (.node nNum [] t.n t.at_ [], nextP l s)
 else if isW l s [123] then
  let r := rowP l (partT l) [125] (nextP l s)
  (.node nSet [] 0 t.at_ r.1, r.2)
 else (zNode, failP s t.at_ 2)
def termF : Nat → Node → PS → Node × PS
 | 0, n, s => (n, s)
 | f + 1, n, s =>
   if s.e = 0 then
    let t := nowP l s
    if isW l s nUnion || isW l s nInter then
     let r := part l (nextP l s)
     termF f (.node t.text [] 0 t.at_ [n, r.1]) r.2
    else if isW l s [92] then
     let r := part l (nextP l s)
     termF f (.node nMinus [] 0 t.at_ [n, r.1]) r.2
    else (n, s)
   else (n, s)
def termP (s : PS) : Node × PS :=
 let r := part l s
 termF l (l.length + 1) r.1 r.2
def relP (s : PS) : List UInt8 :=
 if isW l s [61] then nEq else if isW l s [126, 61] then nNe else if isW l s [60] then nLt else if isW l s [60, 61] then nLe
 else if isW l s nIn then nIn else if isW l s nNotin then nNotin else if isW l s nSub then nSub else []
def atomP (s : PS) : Node × PS :=
 let t := nowP l s
 let t1 := l.getD (s.i + 1) ⟨4, [], 0, 0⟩
 if t.kind = 1 ∧ t1.kind = 3 ∧ t1.text = [40] then
  let r := rowP l (termP l) [41] (nextP l (nextP l s))
  (.node nCall t.text 0 t.at_ r.1, r.2)
 else
  let a := termP l s
  let op := relP l a.2
  if a.2.e = 0 ∧ op ≠ [] then
   let b := termP l (nextP l a.2)
   (.node op [] 0 (nowP l a.2).at_ [a.1, b.1], b.2)
  else (.node nIs a.1.name 0 t.at_ [], if a.1.op = nVar then a.2 else failP a.2 t.at_ 2)
def leftF (g : PS → Node × PS) (x op : List UInt8) : Nat → Node → PS → Node × PS
 | 0, n, s => (n, s)
 | f + 1, n, s =>
   if isW l s x then
    let r := g (nextP l s)
    leftF g x op f (.node op [] 0 (nowP l s).at_ [n, r.1]) r.2
   else (n, s)
def leftP (g : PS → Node × PS) (x op : List UInt8) (s : PS) : Node × PS :=
 let r := g s
 leftF l g x op (l.length + 1) r.1 r.2
def andP (u : PS → Node × PS) : PS → Node × PS := leftP l u [38] nAnd
def orP (u : PS → Node × PS) : PS → Node × PS := leftP l (andP l u) [124] nOr
def impF (u : PS → Node × PS) : Nat → PS → Node × PS
 | 0, s => orP l u s
 | f + 1, s =>
   let r := orP l u s
   if isW l r.2 [61, 62] then
    let q := impF u f (nextP l r.2)
    (.node nImp [] 0 (nowP l r.2).at_ [r.1, q.1], q.2)
   else r
def impP (u : PS → Node × PS) : PS → Node × PS := impF l u (l.length + 1)
def enterP (k : Nat) (s : PS) : PS := if k = 0 then failP s (nowP l s).at_ 4 else s
def formulaP (u : PS → Node × PS) (k : Nat) (s : PS) : Node × PS :=
 if (enterP l k s).e = 0 then leftP l (impP l u) [60, 61, 62] nIff (enterP l k s) else (zNode, enterP l k s)
def unP : Nat → PS → Node × PS
 | 0, s => (zNode, enterP l 0 s)
 | k + 1, s =>
   if s.e ≠ 0 then (zNode, s) else
   let t := nowP l s
   if isW l s [126] then
    let r := unP k (nextP l s)
    (.node nNot [] 0 t.at_ [r.1], r.2)
   else if 0 ≤ orderP l s nEx ∨ 0 ≤ orderP l s nAll then
    let a := nameP l (nextP l s)
    let r := formulaP l (unP k) k (mustP l a.2 [58])
    (.node (if orderP l s nEx < 0 then nAll else nEx) a.1.text (if orderP l s nEx < 0 then orderP l s nAll else orderP l s nEx) t.at_ [r.1], r.2)
   else if isW l s nTrue || isW l s nFalse then (.node t.text [] 0 t.at_ [], nextP l s)
   else if isW l s [40] then
    let r := formulaP l (unP k) k (nextP l s)
    (r.1, mustP l r.2 [41])
   else atomP l s
def formP : PS → Node × PS := formulaP l (unP l 30) 30
def nVarK : List UInt8 := [118, 97, 114]
def declF (k : Int) : Nat → List DeclP → PS → List DeclP × PS
 | 0, acc, s => (acc, s)
 | f + 1, acc, s =>
   if s.e = 0 then
    let a := nameP l s
    let b := takeP l a.2 [44]
    if b.1 then declF k f (acc ++ [⟨a.1.text, k, a.1.at_⟩]) b.2 else (acc ++ [⟨a.1.text, k, a.1.at_⟩], mustP l b.2 [59])
   else (acc, s)
def declP (s : PS) : List DeclP × PS := declF l (orderP l s nVarK) (l.length + 1) [] (nextP l s)
def paramsF : Nat → List DeclP → PS → List DeclP × PS
 | 0, acc, s => (acc, s)
 | f + 1, acc, s =>
   if s.e = 0 then
    let k := orderP l s nVarK
    let s1 := if k < 0 then failP s (nowP l s).at_ 2 else s
    let s2 := nextP l s1
    let s3 := if acc.length = 6 then failP s2 (nowP l s2).at_ 2 else s2
    let a := nameP l s3
    let b := takeP l a.2 [44]
    if b.1 then paramsF f (acc ++ [⟨a.1.text, k, a.1.at_⟩]) b.2 else (acc ++ [⟨a.1.text, k, a.1.at_⟩], mustP l b.2 [41])
   else (acc, s)
def paramsP (s : PS) : List DeclP × PS :=
 let a := takeP l s [41]
 if a.1 then ([], a.2) else paramsF l 8 [] a.2
def nPred : List UInt8 := [112, 114, 101, 100]
def predP (s : PS) : PredP × PS :=
 let t := nameP l (nextP l s)
 let q := paramsP l (mustP l t.2 [40])
 let f := formP l (mustP l q.2 [61])
 (⟨t.1.text, q.1, f.1, t.1.at_⟩, mustP l f.2 [59])
def progF : Nat → List DeclP → List PredP → PS → (List DeclP × List PredP) × PS
 | 0, ds, ps, s => ((ds, ps), s)
 | f + 1, ds, ps, s =>
   if s.e = 0 ∧ (isW l s nPred = true ∨ 0 ≤ orderP l s nVarK) then
    if isW l s nPred then
     let r := predP l s
     progF f ds (ps ++ [r.1]) r.2
    else
     let r := declP l s
     progF f (ds ++ r.1) ps r.2
   else ((ds, ps), s)
def progP : ProgP × PS :=
 let r := progF l (l.length + 1) [] [] ⟨0, 0, 0⟩
 let m := formP l r.2
 let s1 := mustP l m.2 [59]
 let s2 := if (nowP l s1).kind ≠ 4 then failP s1 (nowP l s1).at_ 2 else s1
 (⟨r.1.1, r.1.2, m.1⟩, s2)
end
def parseP (s : List UInt8) : ProgP × Nat × Nat :=
 if (tokens s).2.2 ≠ 0 then (⟨[], [], zNode⟩, (tokens s).2.1, (tokens s).2.2)
 else if (progP (tokens s).1).2.e ≠ 0 then (⟨[], [], zNode⟩, (progP (tokens s).1).2.at_, (progP (tokens s).1).2.e)
 else ((progP (tokens s).1).1, s.length, 0)
end Go.Proofs.YteikakoheibnjaaDoor
namespace Go.Proofs.YteikakoheibnjaaDoor
open Go

abbrev TS := Nat × List UInt8 × Nat
def spec (t : Tok) : TS := (t.kind, t.text, t.n)
theorem tokR_at (p q : Nat) (R : List Ru) : (tokR p R).map (fun x => (spec x.1, x.2)) = (tokR q R).map (fun x => (spec x.1, x.2)) := by
 cases R with
 | nil => rfl
 | cons r R =>
   unfold tokR
   dsimp only
   split
   · split <;> rfl
   · split
     · split <;> rfl
     · split <;> rfl
theorem toks_at : ∀ (n : Nat) (R : List Ru) (p q : Nat), R.length ≤ n → (toks R p).1.map spec = (toks R q).1.map spec ∧ (toks R p).2.isSome = (toks R q).2.isSome := by
 intro n
 induction n with
 | zero =>
   intro R p q h
   have : R = [] := List.eq_nil_of_length_eq_zero (by omega)
   subst this
   rw [toks_eq, toks_eq [] q]
   simp
 | succ n ih =>
   intro R p q h
   rw [toks_eq, toks_eq R q]
   split
   · exact ⟨rfl, rfl⟩
   · have e := tokR_at (p + (flat (R.take (skipM false R))).length) (q + (flat (R.take (skipM false R))).length) (R.drop (skipM false R))
     cases h1 : tokR (p + (flat (R.take (skipM false R))).length) (R.drop (skipM false R)) with
     | none =>
       rw [h1] at e
       cases h2 : tokR (q + (flat (R.take (skipM false R))).length) (R.drop (skipM false R)) with
       | none => exact ⟨rfl, rfl⟩
       | some y => rw [h2] at e; cases e
     | some x =>
       rw [h1] at e
       cases h2 : tokR (q + (flat (R.take (skipM false R))).length) (R.drop (skipM false R)) with
       | none => rw [h2] at e; cases e
       | some y =>
         rw [h2] at e
         obtain ⟨t, k⟩ := x
         obtain ⟨t', k'⟩ := y
         simp only [Option.map_some, Option.some.injEq, Prod.mk.injEq] at e
         obtain ⟨e1, rfl⟩ := e
         have h3 := tokR_len h1
         rw [List.length_drop] at h3
         obtain ⟨i1, i2⟩ := ih ((R.drop (skipM false R)).drop k) (p + (flat (R.take (skipM false R))).length + (flat ((R.drop (skipM false R)).take k)).length) (q + (flat (R.take (skipM false R))).length + (flat ((R.drop (skipM false R)).take k)).length) (by simp; omega)
         dsimp only
         rw [List.map_cons, List.map_cons, i1, e1, i2]
         exact ⟨rfl, rfl⟩
def TSR (R : List Ru) : List TS × Bool := ((toks R 0).1.map spec, (toks R 0).2.isSome)
theorem TSR_nil : TSR [] = ([], false) := by
 unfold TSR
 rw [toks_eq]
 simp
theorem TSR_tok {R : List Ru} {t : Tok} {n : Nat} (h : skipM false R = 0) (hR : R ≠ []) (ht : tokR 0 R = some (t, n)) : TSR R = (spec t :: (TSR (R.drop n)).1, (TSR (R.drop n)).2) := by
 have hh := toks_eq R 0
 rw [h] at hh
 simp only [List.drop_zero, List.take_zero, flat_nil, List.length_nil, Nat.add_zero] at hh
 rw [if_neg hR, ht] at hh
 simp only at hh
 obtain ⟨i1, i2⟩ := toks_at (R.drop n).length (R.drop n) (0 + (flat (R.take n)).length) 0 (Nat.le_refl _)
 unfold TSR
 rw [hh]
 simp only [List.map_cons]
 rw [i1, i2]
theorem TSR_skip {R : List Ru} : TSR R = TSR (R.drop (skipM false R)) := by
 have h1 := toks_eq R 0
 have h2 := toks_eq (R.drop (skipM false R)) 0
 have hs : ∀ (R : List Ru) (b : Bool), skipM false (R.drop (skipM b R)) = 0 := by
  intro R
  induction R with
  | nil => intro b; cases b <;> simp [skipM]
  | cons r t ih =>
    intro b
    cases b with
    | true =>
      by_cases c : r.1 = 10
      · have e : skipM true (r :: t) = skipM false t + 1 := by simp [skipM, c]
        rw [e]
        simpa using ih false
      · have e : skipM true (r :: t) = skipM true t + 1 := by simp [skipM, c]
        rw [e]
        simpa using ih true
    | false =>
      by_cases c1 : cls r.1 = 3
      · have e : skipM false (r :: t) = skipM false t + 1 := by simp [skipM, c1]
        rw [e]
        simpa using ih false
      · by_cases c2 : r.1 = 35
        · have e : skipM false (r :: t) = skipM true t + 1 := by simp [skipM, c2, show cls 35 ≠ 3 by decide]
          rw [e]
          simpa using ih true
        · have e : skipM false (r :: t) = 0 := by simp [skipM, c1, c2]
          rw [e]
          exact e
 rw [hs R false] at h2
 simp only [List.drop_zero, List.take_zero, flat_nil, List.length_nil, Nat.add_zero] at h2
 unfold TSR
 generalize R.drop (skipM false R) = S at *
 rw [h1, h2]
 split
 · rfl
 · have e := tokR_at (0 + (flat (R.take (skipM false R))).length) 0 S
   cases h3 : tokR (0 + (flat (R.take (skipM false R))).length) S with
   | none =>
     rw [h3] at e
     cases h4 : tokR 0 S with
     | none => rfl
     | some y => rw [h4] at e; cases e
   | some x =>
     rw [h3] at e
     cases h4 : tokR 0 S with
     | none => rw [h4] at e; cases e
     | some y =>
       rw [h4] at e
       obtain ⟨t, k⟩ := x
       obtain ⟨t', k'⟩ := y
       simp only [Option.map_some, Option.some.injEq, Prod.mk.injEq] at e
       obtain ⟨e1, rfl⟩ := e
       obtain ⟨i1, i2⟩ := toks_at (S.drop k).length (S.drop k) (0 + (flat (R.take (skipM false R))).length + (flat (S.take k)).length) (0 + (flat (S.take k)).length) (Nat.le_refl _)
       dsimp only
       rw [List.map_cons, List.map_cons, i1, e1, i2]
theorem TSR_blank (r : Ru) (R : List Ru) (h : cls r.1 = 3) : TSR (r :: R) = TSR R := by
 rw [TSR_skip, TSR_skip (R := R)]
 have e : skipM false (r :: R) = skipM false R + 1 := by simp [skipM, h]
 rw [e]
 rfl

def brk (R : List Ru) : Prop := ∀ r ∈ R.head?, more r = false ∧ r.1 ≠ 61 ∧ r.1 ≠ 62
theorem brk_nil : brk [] := fun _ h => by cases h
theorem brk_cons {r : Ru} {R : List Ru} (h : more r = false ∧ r.1 ≠ 61 ∧ r.1 ≠ 62) : brk (r :: R) := fun x hx => by
 simp at hx
 subst hx
 exact h
theorem takeWhile_app {α : Type} (p : α → Bool) : ∀ (A B : List α), (∀ x ∈ A, p x = true) → (∀ x ∈ B.head?, p x = false) → (A ++ B).takeWhile p = A
 | [], [], _, _ => rfl
 | [], b :: B, _, h => by
   have := h b (by simp)
   simp [this]
 | a :: A, B, h, hb => by
   rw [List.cons_append, List.takeWhile_cons, if_pos (h a (by simp)), takeWhile_app p A B (fun x hx => h x (by simp [hx])) hb]
def nameR (N : List Ru) : Prop := N ≠ [] ∧ (∀ r ∈ N.head?, cls r.1 = 1) ∧ (∀ r ∈ N.tail, more r = true) ∧ N.length ≤ 12
theorem TSR_name {N R : List Ru} (h : nameR N) (hb : brk R) : TSR (N ++ R) = ((if flat N ∈ wordL then 3 else 1, flat N, 0) :: (TSR R).1, (TSR R).2) := by
 obtain ⟨h1, h2, h3, h4⟩ := h
 cases N with
 | nil => exact absurd rfl h1
 | cons r N =>
   have hc : cls r.1 = 1 := h2 r (by simp)
   have hn : nameLen (r :: N ++ R) = N.length + 1 := by
    show ((N ++ R).takeWhile more).length + 1 = _
    rw [takeWhile_app more N R (fun x hx => h3 x hx) (fun x hx => (hb x hx).1)]
   have ht : tokR 0 (r :: N ++ R) = some (⟨if flat (r :: N) ∈ wordL then 3 else 1, flat (r :: N), 0, 0⟩, N.length + 1) := by
    rw [List.cons_append] at hn ⊢
    unfold tokR
    dsimp only
    have e : (r :: (N ++ R)).take (N.length + 1) = r :: N := by simp
    rw [if_pos hc, hn, e, if_pos (by simpa using h4)]
   rw [TSR_tok (by simp [skipM, hc, show r.1 ≠ 35 by intro e; rw [e] at hc; revert hc; decide]) (by simp) ht]
   simp [spec]
theorem TSR_num {D R : List Ru} (n : Nat) (hD : D ≠ []) (hd : ∀ r ∈ D, digit r = true) (hv : numVal D = n) (hn : n ≤ 99) (hz : ¬ (∃ r ∈ D.head?, r.1 = 48 ∧ 1 < D.length)) (hb : brk R) :
  TSR (D ++ R) = ((2, [], n) :: (TSR R).1, (TSR R).2) := by
 cases D with
 | nil => exact absurd rfl hD
 | cons r D =>
   have hc : cls r.1 = 2 := by simpa [digit] using hd r (by simp)
   have hw : (r :: D ++ R).takeWhile digit = r :: D := takeWhile_app digit (r :: D) R hd (fun x hx => by
    have := (hb x hx).1
    unfold more at this
    simp only [Bool.or_eq_false_iff] at this
    exact this.1.2)
   have ht : tokR 0 (r :: D ++ R) = some (⟨2, [], n, 0⟩, D.length + 1) := by
    rw [List.cons_append] at hw ⊢
    unfold tokR
    dsimp only
    rw [if_neg (by rw [hc]; decide), if_pos hc, hw, hv, if_pos ⟨hn, fun hh => hz ⟨r, by simp, hh⟩⟩]
    rfl
   rw [TSR_tok (by simp [skipM, hc, show r.1 ≠ 35 by intro e; rw [e] at hc; revert hc; decide]) (by simp) ht]
   simp [spec]
theorem TSR_sign {S : List Ru} {s : List UInt8} (h1 : ∀ r ∈ S.head?, cls r.1 = 4 ∧ r.1 ≠ 35) (hf : signL.find? (isPre · S) = some s) : TSR S = ((3, s, 0) :: (TSR (S.drop s.length)).1, (TSR (S.drop s.length)).2) := by
 cases S with
 | nil =>
   have : signL.find? (isPre · ([] : List Ru)) = none := by decide
   rw [this] at hf
   cases hf
 | cons r R =>
   obtain ⟨hc, h35⟩ := h1 r (by simp)
   have ht : tokR 0 (r :: R) = some (⟨3, s, 0, 0⟩, s.length) := by
    unfold tokR
    dsimp only
    rw [if_neg (by rw [hc]; decide), if_neg (by rw [hc]; decide), hf]
   rw [TSR_tok (by simp [skipM, hc, h35]) (by simp) ht]
   simp [spec]
theorem each_ascii (c : UInt8) (t : List UInt8) (h : c.toNat < 128) : each (c :: t) = ((c.toNat, [c]) :: (each t).1, (each t).2) := by
 have e := dec_ascii c t h
 rw [each_step (by simp) (by rw [e]; omega), e]
 simp
def Lx (b : List UInt8) (ts : List TS) (R : List Ru) : Prop := (each b).2 = false ∧ TSR ((each b).1 ++ R) = (ts ++ (TSR R).1, (TSR R).2)
theorem Lx_nil (R : List Ru) : Lx [] [] R := ⟨rfl, rfl⟩
theorem Lx_app {a b : List UInt8} {ts us : List TS} {R : List Ru} (ha : Lx a ts ((each b).1 ++ R)) (hb : Lx b us R) : Lx (a ++ b) (ts ++ us) R := by
 have e := each_app b a ha.1
 refine ⟨by rw [e]; exact hb.1, ?_⟩
 rw [e]
 dsimp only
 rw [List.append_assoc, ha.2, hb.2, List.append_assoc]
theorem Lx_sp {b : List UInt8} {ts : List TS} {R : List Ru} (c : UInt8) (hc : c = 32 ∨ c = 10) (hb : Lx b ts R) : Lx (c :: b) ts R := by
 have h : c.toNat < 128 := by rcases hc with rfl | rfl <;> decide
 have h3 : cls c.toNat = 3 := by rcases hc with rfl | rfl <;> decide
 rw [Lx, each_ascii c b h]
 refine ⟨hb.1, ?_⟩
 dsimp only
 rw [List.cons_append, TSR_blank _ _ h3]
 exact hb.2
theorem Lx_one {b : List UInt8} {ts : List TS} {R : List Ru} (c : UInt8) (hc : c ∈ ([38, 124, 40, 41, 123, 125, 44, 59, 58, 43, 92] : List UInt8)) (hb : Lx b ts R) : Lx (c :: b) ((3, [c], 0) :: ts) R := by
 have h : c.toNat < 128 ∧ cls c.toNat = 4 ∧ c.toNat ≠ 35 := by
  revert hc
  revert c
  decide
 rw [Lx, each_ascii c b h.1]
 refine ⟨hb.1, ?_⟩
 dsimp only
 rw [List.cons_append]
 have hf : signL.find? (isPre · ((c.toNat, [c]) :: ((each b).1 ++ R))) = some [c] := by
  simp only [List.mem_cons, List.not_mem_nil, or_false] at hc
  rcases hc with rfl | rfl | rfl | rfl | rfl | rfl | rfl | rfl | rfl | rfl | rfl <;> simp [signL, isPre, List.find?]
 rw [TSR_sign (by simpa using h.2) hf]
 simp only [List.length_cons, List.length_nil, List.drop_succ_cons, List.drop_zero]
 rw [hb.2]
 rfl
theorem Lx_not {b : List UInt8} {ts : List TS} {R : List Ru} (hn : ∀ r ∈ ((each b).1 ++ R).head?, r.1 ≠ 61) (hb : Lx b ts R) : Lx (126 :: b) ((3, [126], 0) :: ts) R := by
 rw [Lx, each_ascii 126 b (by decide)]
 refine ⟨hb.1, ?_⟩
 dsimp only
 rw [List.cons_append]
 have hf : signL.find? (isPre · (((126 : UInt8).toNat, [126]) :: ((each b).1 ++ R))) = some [126] := by
  cases hS : (each b).1 ++ R with
  | nil => simp [signL, isPre, List.find?]
  | cons r S =>
    rw [hS] at hn
    have h61 := hn r (by simp)
    have g1 : (r.1 == 61) = false := beq_false_of_ne h61
    simp [signL, isPre, List.find?, g1]
 rw [TSR_sign (by simp; decide) hf]
 simp only [List.length_cons, List.length_nil, List.drop_succ_cons, List.drop_zero]
 rw [hb.2]
 rfl
theorem Lx_rel {b : List UInt8} {ts : List TS} {R : List Ru} (x : List UInt8) (hx : x ∈ ([[38], [124], [61, 62], [60, 61, 62], [61], [126, 61], [60], [60, 61], [92]] : List (List UInt8))) (hb : Lx b ts R) : Lx (x ++ 32 :: b) ((3, x, 0) :: ts) R := by
 simp only [List.mem_cons, List.not_mem_nil, or_false] at hx
 have hsp : TSR ((32, [32]) :: ((each b).1 ++ R)) = (ts ++ (TSR R).1, (TSR R).2) := by rw [TSR_blank _ _ (by decide)]; exact hb.2
 have e32 := each_ascii 32 b (by decide)
 rcases hx with rfl | rfl | rfl | rfl | rfl | rfl | rfl | rfl | rfl
 all_goals
  simp only [List.cons_append, List.nil_append]
  rw [Lx]
  repeat rw [each_ascii _ _ (by decide)]
  refine ⟨hb.1, ?_⟩
  simp only [List.cons_append]
  rw [TSR_sign (by simp; decide) (by simp [signL, isPre, List.find?]; rfl)]
  simp only [List.length_cons, List.length_nil, List.drop_succ_cons, List.drop_zero]
  rw [show ((32 : UInt8).toNat, [(32 : UInt8)]) = (32, [32]) from rfl, hsp]
def nameRb : List Ru → Bool
 | [] => false
 | r :: t => cls r.1 == 1 && t.all more && decide (t.length ≤ 11)
theorem nameR_of {N : List Ru} (h : nameRb N = true) : nameR N := by
 cases N with
 | nil => cases h
 | cons r t =>
   unfold nameRb at h
   simp only [Bool.and_eq_true, decide_eq_true_eq, beq_iff_eq, List.all_eq_true] at h
   exact ⟨by simp, fun x hx => by simp at hx; subst hx; exact h.1.1, fun x hx => h.1.2 x hx, by simp; omega⟩
theorem words_ok : ∀ x ∈ wordL, (each x).2 = false ∧ nameRb (each x).1 = true ∧ flat (each x).1 = x := by decide
theorem Lx_word {x : List UInt8} {R : List Ru} (hx : x ∈ wordL) (hb : brk R) : Lx x [(3, x, 0)] R := by
 obtain ⟨h1, h2, h3⟩ := words_ok x hx
 refine ⟨h1, ?_⟩
 rw [TSR_name (nameR_of h2) hb, h3, if_pos hx]
 rfl
theorem flat_len_pos : ∀ (R : List Ru), (∀ r ∈ R, 1 ≤ r.2.length) → R.length ≤ (flat R).length
 | [], _ => by simp
 | r :: R, h => by
   have := flat_len_pos R (fun x hx => h x (by simp [hx]))
   have := h r (by simp)
   rw [flat_cons, List.length_append]
   simp
   omega
theorem flat_split {R : List Ru} (hR : ∀ r ∈ R, 1 ≤ r.2.length) (k n : Nat) (hk : k ≤ R.length) (hn : n ≤ R.length - k) (h : (flat ((R.drop k).take n)).length = (flat R).length) : k = 0 ∧ n = R.length := by
 have e : R = R.take k ++ ((R.drop k).take n ++ (R.drop k).drop n) := by rw [List.take_append_drop, List.take_append_drop]
 have e2 := congrArg (fun x => (flat x).length) e
 simp only [flat_app, List.length_append] at e2
 have h1 := flat_len_pos (R.take k) (fun r hr => hR r (List.mem_of_mem_take hr))
 have h2 := flat_len_pos ((R.drop k).drop n) (fun r hr => hR r (List.mem_of_mem_drop (List.mem_of_mem_drop hr)))
 simp only [List.length_take, List.length_drop] at h1 h2
 omega
theorem nameB_runes {s : List UInt8} (h : nameB s = true) : (each s).2 = false ∧ nameR (each s).1 ∧ flat (each s).1 = s ∧ s ∉ wordL := by
 unfold nameB tokens at h
 by_cases hl : 2000 < s.length
 · rw [if_pos hl] at h
   simp at h
 rw [if_neg hl] at h
 obtain ⟨rest, hfl, hr1, _⟩ := each_flat s
 have hmem := each_mem s
 cases ht : (toks (each s).1 0).2 with
 | some p => rw [ht] at h; simp at h
 | none =>
   rw [ht] at h
   simp only at h
   cases hb : (each s).2 with
   | true => rw [hb] at h; simp at h
   | false =>
     rw [hb] at h
     have hrest := hr1 hb
     rw [hrest, List.append_nil] at hfl
     generalize (each s).1 = R at *
     rw [if_neg (by decide)] at h
     simp only [Bool.and_eq_true, beq_self_eq_true, true_and] at h
     rw [toks_eq] at h ht
     by_cases hd : R.drop (skipM false R) = []
     · rw [if_pos hd] at h
       simp at h
     · rw [if_neg hd] at h ht
       cases hk : tokR (0 + (flat (R.take (skipM false R))).length) (R.drop (skipM false R)) with
       | none => rw [hk] at ht; cases ht
       | some x =>
         obtain ⟨t, n⟩ := x
         rw [hk] at h
         simp only [List.cons_append] at h
         split at h
         · next t' _ heq =>
           injection heq with e1 e2
           subst e1
           simp only [Bool.and_eq_true, beq_iff_eq] at h
           obtain ⟨hk1, htx⟩ := h
           have hln := tokR_len hk
           rw [List.length_drop] at hln
           cases hS : R.drop (skipM false R) with
           | nil => exact absurd hS hd
           | cons r S =>
             rw [hS] at hk
             unfold tokR at hk
             dsimp only at hk
             split at hk
             · next hc =>
               split at hk
               · next hn =>
                 simp only [Option.some.injEq, Prod.mk.injEq] at hk
                 obtain ⟨e3, e4⟩ := hk
                 have hkind := congrArg Tok.kind e3
                 have htext := congrArg Tok.text e3
                 simp only at hkind htext
                 have htx2 : flat ((R.drop (skipM false R)).take n) = s := by rw [hS, ← e4, htext, htx]
                 have hin : (if flat ((R.drop (skipM false R)).take n) ∈ wordL then 3 else 1) = 1 := by rw [hS, ← e4, hkind, hk1]
                 have hsp := flat_split (fun r hr => (hmem r hr).2) (skipM false R) n (skipM_le R false) hln.2 (by rw [htx2, hfl])
                 rw [hsp.1, List.drop_zero] at hS hin
                 have hnl : nameLen R = R.length := by rw [hS, e4, hsp.2, hS]
                 refine ⟨rfl, ⟨by rw [hS]; simp, ?_, ?_, ?_⟩, hfl.symm, ?_⟩
                 · intro x hx
                   rw [hS] at hx
                   simp at hx
                   subst hx
                   exact hc
                 · rw [hS]
                   rw [hS] at hnl
                   have hw : (S.takeWhile more).length = S.length := by
                    unfold nameLen at hnl
                    simpa using hnl
                   have hw2 : S.takeWhile more = S := (List.takeWhile_sublist more).eq_of_length hw
                   intro x hx
                   rw [List.tail_cons, ← hw2] at hx
                   exact (List.all_eq_true.1 (List.all_takeWhile (l := S) (p := more))) x hx
                 · rw [← hnl, hS]
                   exact hn
                 · intro hh
                   rw [hsp.2, List.take_length, ← hfl, if_pos hh] at hin
                   cases hin
               · cases hk
             · split at hk
               · split at hk
                 · simp only [Option.some.injEq, Prod.mk.injEq] at hk
                   rw [← hk.1] at hk1
                   cases hk1
                 · cases hk
               · split at hk
                 · simp only [Option.some.injEq, Prod.mk.injEq] at hk
                   rw [← hk.1] at hk1
                   cases hk1
                 · cases hk
         · cases h
theorem Lx_name {s : List UInt8} {R : List Ru} (hs : nameB s = true) (hb : brk R) : Lx s [(1, s, 0)] R := by
 obtain ⟨h1, h2, h3, h4⟩ := nameB_runes hs
 refine ⟨h1, ?_⟩
 rw [TSR_name h2 hb, h3, if_neg h4]
 rfl
def numRb (D : List Ru) (n : Nat) : Bool := match D with
 | [] => false
 | r :: t => (r :: t).all digit && numVal (r :: t) == n && !(r.1 == 48 && decide (0 < t.length))
theorem nums_ok : ∀ i : Fin 100, (each (dig i.val)).2 = false ∧ numRb (each (dig i.val)).1 i.val = true := by decide
theorem Lx_num {n : Nat} {R : List Ru} (hn : n ≤ 99) (hb : brk R) : Lx (dig n) [(2, [], n)] R := by
 obtain ⟨h1, h2⟩ := nums_ok ⟨n, by omega⟩
 simp only at h1 h2
 refine ⟨h1, ?_⟩
 generalize (each (dig n)).1 = D at *
 cases D with
 | nil => cases h2
 | cons r t =>
   unfold numRb at h2
   simp only [Bool.and_eq_true, beq_iff_eq, Bool.not_eq_true', Bool.and_eq_false_iff, decide_eq_false_iff_not] at h2
   rw [TSR_num n (by simp) (fun x hx => List.all_eq_true.1 h2.1.1 x hx) h2.1.2 hn (fun ⟨y, hy, h48, hl⟩ => by
    simp at hy
    subst hy
    rcases h2.2 with h | h
    · simp at h
      exact h h48
    · simp at hl
      omega) hb]
   rfl
end Go.Proofs.YteikakoheibnjaaDoor
namespace Go.Proofs.YteikakoheibnjaaDoor
open Go

def sepT : List (List TS) → List TS
 | [] => []
 | [x] => x
 | x :: y :: r => x ++ (3, [44], 0) :: sepT (y :: r)
mutual
def tkT : Node → List TS
 | .node o s n _ ks =>
   if o = nVar then [(1, s, 0)]
   else if o = nNum then [(2, [], n.toNat)]
   else if o = nPlus then (tkTL ks).getD 0 [] ++ [(3, [43], 0), (2, [], n.toNat)]
   else if o = nSet then (3, [123], 0) :: (sepT (tkTL ks) ++ [(3, [125], 0)])
   else (tkTL ks).getD 0 [] ++ (3, signOf o, 0) :: (tkTL ks).getD 1 []
def tkTL : List Node → List (List TS)
 | [] => []
 | x :: r => tkT x :: tkTL r
end
mutual
def tkF : Node → List TS
 | .node o s n _ ks =>
   if o = nTrue ∨ o = nFalse then [(3, o, 0)]
   else if o = nNot then (3, [126], 0) :: (tkFL ks).getD 0 []
   else if binOp o then (3, [40], 0) :: ((tkFL ks).getD 0 [] ++ (3, signOf o, 0) :: ((tkFL ks).getD 1 [] ++ [(3, [41], 0)]))
   else if o = nEx ∨ o = nAll then (3, [40], 0) :: (3, o ++ dig n.toNat, 0) :: (1, s, 0) :: (3, [58], 0) :: ((tkFL ks).getD 0 [] ++ [(3, [41], 0)])
   else if o = nIs then [(1, s, 0)]
   else if o = nCall then (1, s, 0) :: (3, [40], 0) :: (sepT (tkTL ks) ++ [(3, [41], 0)])
   else (tkTL ks).getD 0 [] ++ (3, signOf o, 0) :: (tkTL ks).getD 1 []
def tkFL : List Node → List (List TS)
 | [] => []
 | x :: r => tkF x :: tkFL r
end
theorem tkTL_map : ∀ ks, tkTL ks = ks.map tkT
 | [] => by simp [tkTL]
 | x :: r => by rw [tkTL, tkTL_map r, List.map_cons]
theorem tkFL_map : ∀ ks, tkFL ks = ks.map tkF
 | [] => by simp [tkFL]
 | x :: r => by rw [tkFL, tkFL_map r, List.map_cons]

def brkC (c : UInt8) : Bool := decide (c.toNat < 128) && !(more (c.toNat, [c])) && c != 61 && c != 62
theorem brk_ascii {c : UInt8} {b : List UInt8} {R : List Ru} (h : brkC c = true) : brk ((each (c :: b)).1 ++ R) := by
 unfold brkC at h
 simp only [Bool.and_eq_true, decide_eq_true_eq, Bool.not_eq_true', bne_iff_ne, ne_eq] at h
 rw [each_ascii c b h.1.1.1]
 refine brk_cons ⟨h.1.1.2, ?_, ?_⟩
 · intro e
   exact h.1.2 (UInt8.toNat_inj.1 e)
 · intro e
   exact h.2 (UInt8.toNat_inj.1 e)
def hd61 (b : List UInt8) : Prop := ∃ r R, (each b).1 = r :: R ∧ r.1 ≠ 61
theorem hd61_ascii {c : UInt8} {b : List UInt8} (h : c.toNat < 128) (h2 : c.toNat ≠ 61) : hd61 (c :: b) := ⟨_, _, by rw [each_ascii c b h], h2⟩
theorem hd61_app {a b : List UInt8} (h : hd61 a) (hb : (each a).2 = false) : hd61 (a ++ b) := by
 obtain ⟨r, R, e, h2⟩ := h
 refine ⟨r, R ++ (each b).1, ?_, h2⟩
 rw [each_app b a hb, e]
 rfl
theorem hd61_name {s : List UInt8} (h : nameB s = true) : hd61 s := by
 obtain ⟨_, h2, _⟩ := nameB_runes h
 obtain ⟨h3, h4, _⟩ := h2
 cases hS : (each s).1 with
 | nil => exact absurd hS h3
 | cons r R =>
   rw [hS] at h4
   refine ⟨r, R, hS, ?_⟩
   have := h4 r (by simp)
   intro e
   rw [e] at this
   revert this
   decide
theorem hd61_num : ∀ i : Fin 100, hd61 (dig i.val) := by
 intro i
 obtain ⟨h1, h2⟩ := nums_ok i
 cases hS : (each (dig i.val)).1 with
 | nil => rw [hS] at h2; cases h2
 | cons r R =>
   rw [hS] at h2
   refine ⟨r, R, hS, ?_⟩
   unfold numRb at h2
   simp only [Bool.and_eq_true, List.all_cons] at h2
   have := h2.1.1.1
   intro e
   unfold digit at this
   rw [e] at this
   revert this
   decide
theorem lx_commas {f : Node → List UInt8} {g : Node → List TS} : ∀ (ks : List Node), (∀ k ∈ ks, ∀ R, brk R → Lx (f k) (g k) R) → ∀ R, brk R → Lx (commas (ks.map f)) (sepT (ks.map g)) R
 | [], _, R, _ => Lx_nil R
 | [x], h, R, hb => by simpa [commas, sepT] using h x (by simp) R hb
 | x :: y :: r, h, R, hb => by
   have ih := lx_commas (y :: r) (fun k hk => h k (by simp [hk])) R hb
   simp only [List.map_cons] at ih ⊢
   simp only [commas, sepT, List.append_assoc, List.cons_append, List.nil_append]
   exact Lx_app (h x (by simp) _ (brk_ascii (by decide))) (Lx_one 44 (by decide) (Lx_sp 32 (Or.inl rfl) ih))
theorem lx_joined {o a b : List UInt8} {ta tb : List TS} {R : List Ru} (ho : setOp o = true ∨ binOp o = true ∨ relOp o = true) (ha : ∀ R, brk R → Lx a ta R) (hb : Lx b tb R) : Lx (joined a o b) (ta ++ (3, signOf o, 0) :: tb) R := by
 have hs : signOf o ∈ ([[38], [124], [61, 62], [60, 61, 62], [61], [126, 61], [60], [60, 61], [92]] : List (List UInt8)) ∨ signOf o ∈ wordL := by
  unfold setOp binOp relOp at ho
  simp only [Bool.or_eq_true, decide_eq_true_eq] at ho
  rcases ho with ((rfl | rfl) | rfl) | (((rfl | rfl) | rfl) | rfl) | ((((((rfl | rfl) | rfl) | rfl) | rfl) | rfl) | rfl) <;> decide
 unfold joined
 simp only [List.append_assoc, List.cons_append, List.nil_append]
 refine Lx_app (ha _ (brk_ascii (by decide))) (Lx_sp 32 (Or.inl rfl) ?_)
 rcases hs with h | h
 · exact Lx_rel _ h hb
 · exact Lx_app (Lx_word h (brk_ascii (by decide))) (Lx_sp 32 (Or.inl rfl) hb)
theorem two_kids {α : Type} [Inhabited α] {f : Node → α} {ks : List Node} {d : α} (h : ks.length = 2) : ∃ x y, ks = [x, y] ∧ (ks.map f).getD 0 d = f x ∧ (ks.map f).getD 1 d = f y := by
 match ks, h with
 | [x, y], _ => exact ⟨x, y, rfl, rfl, rfl⟩
theorem one_kid {ks : List Node} (h : ks.length = 1) : ∃ x, ks = [x] := by
 match ks, h with
 | [x], _ => exact ⟨x, rfl⟩
theorem lx_term : ∀ t : Node, termB t = true → (∀ R, brk R → Lx (termS t) (tkT t) R) ∧ hd61 (termS t) := by
 intro t
 induction t using Node.ind with
 | h o s n p ks ih =>
   intro h
   rw [termB] at h
   rw [termS, tkT, termSL_map, tkTL_map]
   have hk : termsB ks = true → ∀ k ∈ ks, (∀ R, brk R → Lx (termS k) (tkT k) R) ∧ hd61 (termS k) := fun hh k hk => by
    rw [termsB_all, List.all_eq_true] at hh
    exact ih k hk (hh k hk)
   by_cases h1 : o = nVar
   · rw [if_pos h1] at h ⊢
     rw [if_pos h1]
     have hn := (hasB_name h).2.2.2.2 rfl
     exact ⟨fun R hb => Lx_name hn hb, hd61_name hn⟩
   rw [if_neg h1] at h ⊢
   rw [if_neg h1]
   by_cases h2 : o = nNum
   · rw [if_pos h2] at h ⊢
     rw [if_pos h2]
     simp only [Bool.and_eq_true, decide_eq_true_eq] at h
     exact ⟨fun R hb => Lx_num (by omega) hb, hd61_num ⟨n.toNat, by omega⟩⟩
   rw [if_neg h2] at h ⊢
   rw [if_neg h2]
   by_cases h3 : o = nPlus
   · rw [if_pos h3] at h ⊢
     rw [if_pos h3]
     simp only [Bool.and_eq_true, decide_eq_true_eq] at h
     obtain ⟨x, rfl⟩ := one_kid (hasB_name h.1.1.1.1).2.1
     obtain ⟨k1, k2⟩ := hk h.2 x (by simp)
     refine ⟨fun R hb => ?_, ?_⟩
     · simp only [List.map_cons, List.map_nil, List.getD_cons_zero, List.append_assoc, List.cons_append, List.nil_append]
       exact Lx_app (k1 _ (brk_ascii (by decide))) (Lx_sp 32 (Or.inl rfl) (Lx_one 43 (by decide) (Lx_sp 32 (Or.inl rfl) (Lx_num (by omega) hb))))
     · simp only [List.map_cons, List.map_nil, List.getD_cons_zero, List.append_assoc]
       exact hd61_app k2 (k1 [] brk_nil).1
   rw [if_neg h3] at h ⊢
   rw [if_neg h3]
   by_cases h4 : o = nSet
   · rw [if_pos h4] at h ⊢
     rw [if_pos h4]
     simp only [Bool.and_eq_true, decide_eq_true_eq] at h
     refine ⟨fun R hb => ?_, ?_⟩
     · simp only [List.cons_append, List.nil_append]
       exact Lx_one 123 (by decide) (Lx_app (lx_commas ks (fun k hk' => (hk h.2 k hk').1) _ (brk_ascii (by decide))) (Lx_one 125 (by decide) (Lx_nil R)))
     · simp only [List.cons_append, List.nil_append]
       exact hd61_ascii (by decide) (by decide)
   rw [if_neg h4] at h ⊢
   rw [if_neg h4]
   simp only [Bool.and_eq_true] at h
   obtain ⟨x, y, hxy, e1, e2⟩ := two_kids (f := termS) (d := []) (hasB_name h.1.1.2).2.1
   obtain ⟨_, _, hxy', e3, e4⟩ := two_kids (f := tkT) (d := []) (hasB_name h.1.1.2).2.1
   rw [hxy] at hxy'
   injection hxy' with i1 i2
   injection i2 with i2 _
   subst i1
   subst i2
   obtain ⟨k1, k2⟩ := hk h.1.2 x (by simp [hxy])
   obtain ⟨k3, k4⟩ := hk h.1.2 y (by simp [hxy])
   rw [e1, e2, e3, e4]
   refine ⟨fun R hb => lx_joined (Or.inl h.1.1.1) k1 (k3 R hb), ?_⟩
   unfold joined
   simp only [List.append_assoc]
   exact hd61_app k2 (k1 [] brk_nil).1
theorem lx_form : ∀ t : Node, formB t = true → (∀ R, brk R → Lx (formS t) (tkF t) R) ∧ hd61 (formS t) := by
 intro t
 induction t using Node.ind with
 | h o s n p ks ih =>
   intro h
   rw [formB] at h
   rw [formS, tkF, termSL_map, tkTL_map, formSL_map, tkFL_map]
   have hk : formsB ks = true → ∀ k ∈ ks, (∀ R, brk R → Lx (formS k) (tkF k) R) ∧ hd61 (formS k) := fun hh k hk => by
    rw [formsB_all, List.all_eq_true] at hh
    exact ih k hk (hh k hk)
   have ht : termsB ks = true → ∀ k ∈ ks, (∀ R, brk R → Lx (termS k) (tkT k) R) ∧ hd61 (termS k) := fun hh k hk => by
    rw [termsB_all, List.all_eq_true] at hh
    exact lx_term k (hh k hk)
   clear ih
   by_cases h1 : o = nTrue ∨ o = nFalse
   · rw [if_pos h1, if_pos h1]
     have hw : o ∈ wordL := by rcases h1 with rfl | rfl <;> decide
     refine ⟨fun R hb => Lx_word hw hb, ?_⟩
     rcases h1 with rfl | rfl
     · exact hd61_ascii (by decide) (by decide)
     · exact hd61_ascii (by decide) (by decide)
   rw [if_neg h1] at h ⊢
   rw [if_neg h1]
   by_cases h2 : o = nNot
   · rw [if_pos h2] at h ⊢
     rw [if_pos h2]
     simp only [Bool.and_eq_true] at h
     obtain ⟨x, rfl⟩ := one_kid (hasB_name h.1).2.1
     obtain ⟨k1, k2⟩ := hk h.2 x (by simp)
     simp only [List.map_cons, List.map_nil, List.getD_cons_zero, List.cons_append, List.nil_append]
     refine ⟨fun R hb => Lx_not ?_ (k1 R hb), hd61_ascii (by decide) (by decide)⟩
     obtain ⟨r, S, e, h61⟩ := k2
     rw [e]
     intro r' hr'
     simp at hr'
     subst hr'
     exact h61
   rw [if_neg h2] at h ⊢
   rw [if_neg h2]
   by_cases h3 : binOp o = true
   · rw [if_pos h3] at h ⊢
     rw [if_pos h3]
     simp only [Bool.and_eq_true] at h
     obtain ⟨x, y, hxy, e1, e2⟩ := two_kids (f := formS) (d := []) (hasB_name h.1).2.1
     obtain ⟨_, _, hxy', e3, e4⟩ := two_kids (f := tkF) (d := []) (hasB_name h.1).2.1
     rw [hxy] at hxy'
     injection hxy' with i1 i2
     injection i2 with i2 _
     subst i1
     subst i2
     obtain ⟨k1, _⟩ := hk h.2 x (by simp [hxy])
     obtain ⟨k3, _⟩ := hk h.2 y (by simp [hxy])
     rw [e1, e2, e3, e4]
     simp only [List.cons_append, List.nil_append]
     refine ⟨fun R hb => Lx_one 40 (by decide) ?_, hd61_ascii (by decide) (by decide)⟩
     have hj := lx_joined (o := o) (a := formS x) (b := formS y ++ [41]) (ta := tkF x) (tb := tkF y ++ [(3, [41], 0)]) (R := R) (Or.inr (Or.inl h3)) k1 (Lx_app (k3 _ (brk_ascii (by decide))) (Lx_one 41 (by decide) (Lx_nil R)))
     unfold joined at hj ⊢
     simpa only [List.append_assoc, List.cons_append, List.nil_append] using hj
   rw [if_neg h3] at h ⊢
   rw [if_neg h3]
   by_cases h4 : o = nEx ∨ o = nAll
   · rw [if_pos h4] at h ⊢
     rw [if_pos h4]
     simp only [Bool.and_eq_true, decide_eq_true_eq] at h
     obtain ⟨x, rfl⟩ := one_kid (hasB_name h.1.1.1).2.1
     have hn := (hasB_name h.1.1.1).2.2.2.2 rfl
     obtain ⟨k1, k2⟩ := hk h.2 x (by simp)
     have hw : o ++ dig n.toNat ∈ wordL := by
      have h012 : n.toNat = 0 ∨ n.toNat = 1 ∨ n.toNat = 2 := by omega
      rcases h4 with rfl | rfl <;> rcases h012 with e | e | e <;> rw [e] <;> decide
     simp only [List.map_cons, List.map_nil, List.getD_cons_zero, List.append_assoc, List.cons_append, List.nil_append]
     refine ⟨fun R hb => Lx_one 40 (by decide) ?_, hd61_ascii (by decide) (by decide)⟩
     rw [← List.append_assoc o]
     exact Lx_app (ts := [_]) (Lx_word hw (brk_ascii (by decide))) (Lx_sp 32 (Or.inl rfl) (Lx_app (ts := [_]) (Lx_name hn (brk_ascii (by decide))) (Lx_one 58 (by decide) (Lx_sp 32 (Or.inl rfl) (Lx_app (k1 _ (brk_ascii (by decide))) (Lx_one 41 (by decide) (Lx_nil R)))))))
   rw [if_neg h4] at h ⊢
   rw [if_neg h4]
   by_cases h5 : o = nIs
   · rw [if_pos h5] at h ⊢
     rw [if_pos h5]
     have hn := (hasB_name h).2.2.2.2 rfl
     exact ⟨fun R hb => Lx_name hn hb, hd61_name hn⟩
   rw [if_neg h5] at h ⊢
   rw [if_neg h5]
   by_cases h6 : relOp o = true
   · rw [if_pos h6] at h
     have h7 : ¬ o = nCall := by rintro rfl; revert h6; decide
     rw [if_neg h7, if_neg h7]
     simp only [Bool.and_eq_true] at h
     obtain ⟨x, y, hxy, e1, e2⟩ := two_kids (f := termS) (d := []) (hasB_name h.1).2.1
     obtain ⟨_, _, hxy', e3, e4⟩ := two_kids (f := tkT) (d := []) (hasB_name h.1).2.1
     rw [hxy] at hxy'
     injection hxy' with i1 i2
     injection i2 with i2 _
     subst i1
     subst i2
     obtain ⟨k1, k2⟩ := ht h.2 x (by simp [hxy])
     obtain ⟨k3, k4⟩ := ht h.2 y (by simp [hxy])
     rw [e1, e2, e3, e4]
     refine ⟨fun R hb => lx_joined (Or.inr (Or.inr h6)) k1 (k3 R hb), ?_⟩
     unfold joined
     simp only [List.append_assoc]
     exact hd61_app k2 (k1 [] brk_nil).1
   rw [if_neg h6] at h
   by_cases h7 : o = nCall
   · rw [if_pos h7] at h ⊢
     rw [if_pos h7]
     simp only [Bool.and_eq_true, decide_eq_true_eq] at h
     have hn := (hasB_name h.1.1).2.2.2.2 rfl
     simp only [List.append_assoc, List.cons_append, List.nil_append]
     refine ⟨fun R hb => Lx_app (ts := [_]) (Lx_name hn (brk_ascii (by decide))) (Lx_one 40 (by decide) (Lx_app (lx_commas ks (fun k hk' => (ht h.2 k hk').1) _ (brk_ascii (by decide))) (Lx_one 41 (by decide) (Lx_nil R)))), ?_⟩
     exact hd61_app (hd61_name hn) (Lx_name hn brk_nil).1
   · rw [if_neg h7] at h
     cases h

-- programs
def sixT (d : DeclP) : List TS := [(3, nVarK ++ dig d.order.toNat, 0), (1, d.name, 0)]
def declS (d : DeclP) : List UInt8 := nVarK ++ dig d.order.toNat ++ [32] ++ d.name
def predS (x : PredP) : List UInt8 := nPred ++ [32] ++ x.name ++ [40] ++ commas (x.params.map declS) ++ [41, 32, 61, 32] ++ formS x.body ++ [59, 10]
def progS (p : ProgP) : List UInt8 := p.decls.flatMap (fun d => declS d ++ [59, 10]) ++ p.preds.flatMap predS ++ formS p.main ++ [59, 10]
def tkD (d : DeclP) : List TS := sixT d ++ [(3, [59], 0)]
def tkQ (x : PredP) : List TS := (3, nPred, 0) :: (1, x.name, 0) :: (3, [40], 0) :: (sepT (x.params.map sixT) ++ (3, [41], 0) :: (3, [61], 0) :: (tkF x.body ++ [(3, [59], 0)]))
def tkP (p : ProgP) : List TS := p.decls.flatMap tkD ++ p.preds.flatMap tkQ ++ tkF p.main ++ [(3, [59], 0)]
def declB (d : DeclP) : Bool := nameB d.name && decide (0 ≤ d.order) && decide (d.order ≤ 2)
def predB (x : PredP) : Bool := nameB x.name && decide (x.params.length ≤ 6) && x.params.all declB && (smallB x.body && formB x.body)
def progB (p : ProgP) : Bool := p.preds.all predB && p.decls.all declB && (smallB p.main && formB p.main)
theorem lx_declS {d : DeclP} (h : declB d = true) {R : List Ru} (hb : brk R) : Lx (declS d) (sixT d) R := by
 unfold declB at h
 simp only [Bool.and_eq_true, decide_eq_true_eq] at h
 have hw : nVarK ++ dig d.order.toNat ∈ wordL := by
  have h012 : d.order.toNat = 0 ∨ d.order.toNat = 1 ∨ d.order.toNat = 2 := by omega
  rcases h012 with e | e | e <;> rw [e] <;> decide
 unfold declS sixT
 simp only [List.append_assoc, List.cons_append, List.nil_append]
 rw [← List.append_assoc nVarK]
 exact Lx_app (ts := [_]) (Lx_word hw (brk_ascii (by decide))) (Lx_sp 32 (Or.inl rfl) (Lx_name h.1.1 hb))
theorem lx_commasD : ∀ (ks : List DeclP), (∀ k ∈ ks, declB k = true) → ∀ R, brk R → Lx (commas (ks.map declS)) (sepT (ks.map sixT)) R
 | [], _, R, _ => Lx_nil R
 | [x], h, R, hb => by simpa [commas, sepT] using lx_declS (h x (by simp)) hb
 | x :: y :: r, h, R, hb => by
   have ih := lx_commasD (y :: r) (fun k hk => h k (by simp [hk])) R hb
   simp only [List.map_cons] at ih ⊢
   simp only [commas, sepT, List.append_assoc, List.cons_append, List.nil_append]
   exact Lx_app (lx_declS (h x (by simp)) (brk_ascii (by decide))) (Lx_one 44 (by decide) (Lx_sp 32 (Or.inl rfl) ih))
theorem lx_pred {x : PredP} (h : predB x = true) (R : List Ru) : Lx (predS x) (tkQ x) R := by
 unfold predB at h
 simp only [Bool.and_eq_true, decide_eq_true_eq, List.all_eq_true] at h
 unfold predS tkQ
 simp only [List.append_assoc, List.cons_append, List.nil_append]
 have e61 : ∀ b ts, Lx b ts R → Lx (61 :: 32 :: b) ((3, [61], 0) :: ts) R := fun b ts hb => Lx_rel [61] (by decide) hb
 exact Lx_app (ts := [_]) (Lx_word (by decide) (brk_ascii (by decide))) (Lx_sp 32 (Or.inl rfl) (Lx_app (ts := [_]) (Lx_name h.1.1.1 (brk_ascii (by decide))) (Lx_one 40 (by decide)
  (Lx_app (lx_commasD _ h.1.2 _ (brk_ascii (by decide))) (Lx_one 41 (by decide) (Lx_sp 32 (Or.inl rfl) (e61 _ _ (Lx_app ((lx_form _ h.2.2).1 _ (brk_ascii (by decide))) (Lx_one 59 (by decide) (Lx_sp 10 (Or.inr rfl) (Lx_nil R)))))))))))
theorem lx_flat {α : Type} {f : α → List UInt8} {g : α → List TS} : ∀ (l : List α), (∀ x ∈ l, ∀ R, Lx (f x) (g x) R) → ∀ R, Lx (l.flatMap f) (l.flatMap g) R
 | [], _, R => Lx_nil R
 | x :: r, h, R => by
   simp only [List.flatMap_cons]
   exact Lx_app (h x (by simp) _) (lx_flat r (fun y hy => h y (by simp [hy])) R)
theorem lx_prog {p : ProgP} (h : progB p = true) : Lx (progS p) (tkP p) [] := by
 unfold progB at h
 simp only [Bool.and_eq_true, List.all_eq_true] at h
 unfold progS tkP
 simp only [List.append_assoc]
 refine Lx_app (lx_flat p.decls (fun d hd R => ?_) _) (Lx_app (lx_flat p.preds (fun x hx R => lx_pred (h.1.1 x hx) R) _) (Lx_app ((lx_form _ h.2.2).1 _ (brk_ascii (by decide))) (Lx_one 59 (by decide) (Lx_sp 10 (Or.inr rfl) (Lx_nil [])))))
 unfold tkD
 exact Lx_app (lx_declS (h.1.2 d hd) (brk_ascii (by decide))) (Lx_one 59 (by decide) (Lx_sp 10 (Or.inr rfl) (Lx_nil R)))
theorem tokens_of_lx {s : List UInt8} {ts : List TS} (h : Lx s ts []) (hs : s.length ≤ 2000) : ∃ l, tokens s = (l, s.length, 0) ∧ l.map spec = ts ++ [(4, [], 0)] := by
 obtain ⟨h1, h2⟩ := h
 rw [List.append_nil, TSR_nil] at h2
 unfold TSR at h2
 injection h2 with h3 h4
 refine ⟨(toks (each s).1 0).1 ++ [⟨4, [], 0, s.length⟩], ?_, ?_⟩
 · unfold tokens
   rw [if_neg (by omega)]
   have h5 : (toks (each s).1 0).2 = none := by
    cases hh : (toks (each s).1 0).2 with
    | none => rfl
    | some x => rw [hh] at h4; cases h4
   rw [h5]
   simp only
   rw [h1, if_neg (by decide)]
 · rw [List.map_append, h3]
   simp [spec]
end Go.Proofs.YteikakoheibnjaaDoor
namespace Go.Proofs.YteikakoheibnjaaDoor
open Go Go.RowKit

theorem box_at {w W : World} {cs : Array Value} {t : TypeId} (h : Below (w.heap.size + 1) (w.alloc (.cells cs t)) W) (j : Nat) (u : Value) (hu : cs[j]? = some u) : W.cell? ⟨w.heap.size, j, none⟩ = some u :=
 (h.cell (p := ⟨w.heap.size, j, none⟩) (Nat.lt_succ_self _)).trans ((cell_of_row _ w.heap.size j _ t (0, 0) (heap_alloc_new w _)).trans hu)
structure DeclsAt (w : World) (B : Nat) (A : Option Addr) (cap : Nat) (ds : List DeclP) : Prop where
 cap_ : ds.length ≤ cap
 small : ds.length ≤ 140737488355328
 name : ∀ d ∈ ds, d.name.length ≤ 140737488355328
 at_ : ∀ k (_ : k < ds.length), ∃ b off, A = some ⟨b, off, none⟩ ∧ b < B ∧ w.cell? ⟨b, off + k * 3, none⟩ = some (.string ⟨ds[k].name.toArray⟩) ∧ w.cell? ⟨b, off + k * 3 + 1, none⟩ = some (.int .i64 ds[k].order) ∧ w.cell? ⟨b, off + k * 3 + 2, none⟩ = some (.int .i64 ds[k].at_)
structure PredsAt (w : World) (B : Nat) (A : Option Addr) (cap : Nat) (ps : List PredP) : Prop where
 cap_ : ps.length ≤ cap
 small : ps.length ≤ 140737488355328
 name : ∀ x ∈ ps, x.name.length ≤ 140737488355328
 at_ : ∀ k (_ : k < ps.length), ∃ b off A1 c1 A2 c2, A = some ⟨b, off, none⟩ ∧ b < B ∧ (w.cell? ⟨b, off + k * 8, none⟩ = some (.string ⟨ps[k].name.toArray⟩) ∧ w.cell? ⟨b, off + k * 8 + 1, none⟩ = some (.slice A1 ps[k].params.length c1) ∧
  w.cell? ⟨b, off + k * 8 + 2, none⟩ = some (.string ⟨ps[k].body.op.toArray⟩) ∧ w.cell? ⟨b, off + k * 8 + 3, none⟩ = some (.string ⟨ps[k].body.name.toArray⟩) ∧ w.cell? ⟨b, off + k * 8 + 4, none⟩ = some (.int .i64 ps[k].body.num) ∧
  w.cell? ⟨b, off + k * 8 + 5, none⟩ = some (.int .i64 ps[k].body.pos) ∧ w.cell? ⟨b, off + k * 8 + 6, none⟩ = some (.slice A2 ps[k].body.kids.length c2) ∧ w.cell? ⟨b, off + k * 8 + 7, none⟩ = some (.int .i64 ps[k].at_)) ∧
  DeclsAt w B A1 c1 ps[k].params ∧ NodeAt w B ps[k].body A2 c2
structure ProgL where
 Ad : Option Addr
 cd : Nat
 Ap : Option Addr
 cp : Nat
 Ak : Option Addr
 ck : Nat
structure ProgAt (w : World) (B : Nat) (p : ProgP) (L : ProgL) : Prop where
 decls : DeclsAt w B L.Ad L.cd p.decls
 preds : PredsAt w B L.Ap L.cp p.preds
 main : NodeAt w B p.main L.Ak L.ck
section
variable {w w' W : World} {B B' : Nat} {A : Option Addr} {cap : Nat} {ds : List DeclP} {ps : List PredP} {p : ProgP} {L : ProgL}
theorem DeclsAt.keep (h : DeclsAt w B A cap ds) (hk : ∀ p : Addr, p.block < B → w'.cell? p = w.cell? p) : DeclsAt w' B A cap ds :=
 ⟨h.cap_, h.small, h.name, fun k hl => by
  obtain ⟨b, off, e, hb, c0, c1, c2⟩ := h.at_ k hl
  exact ⟨b, off, e, hb, (hk _ hb).trans c0, (hk _ hb).trans c1, (hk _ hb).trans c2⟩⟩
theorem DeclsAt.more (h : DeclsAt w B A cap ds) (hB : B ≤ B') : DeclsAt w B' A cap ds :=
 ⟨h.cap_, h.small, h.name, fun k hl => by
  obtain ⟨b, off, e, hb, hc⟩ := h.at_ k hl
  exact ⟨b, off, e, by omega, hc⟩⟩
theorem DeclsAt.later (h : DeclsAt w B A cap ds) (hb : Below B w W) (hB : B ≤ W.heap.size) : DeclsAt W W.heap.size A cap ds := (h.keep fun _ hp => hb.cell hp).more hB
theorem PredsAt.keep (h : PredsAt w B A cap ps) (hk : ∀ p : Addr, p.block < B → w'.cell? p = w.cell? p) : PredsAt w' B A cap ps :=
 ⟨h.cap_, h.small, h.name, fun k hl => by
  obtain ⟨b, off, A1, c1, A2, c2, e, hb, ⟨d0, d1, d2, d3, d4, d5, d6, d7⟩, hd, hn⟩ := h.at_ k hl
  exact ⟨b, off, A1, c1, A2, c2, e, hb, ⟨(hk _ hb).trans d0, (hk _ hb).trans d1, (hk _ hb).trans d2, (hk _ hb).trans d3, (hk _ hb).trans d4, (hk _ hb).trans d5, (hk _ hb).trans d6, (hk _ hb).trans d7⟩, hd.keep hk, NodeAt.keep hk _ _ _ hn⟩⟩
theorem PredsAt.more (h : PredsAt w B A cap ps) (hB : B ≤ B') : PredsAt w B' A cap ps :=
 ⟨h.cap_, h.small, h.name, fun k hl => by
  obtain ⟨b, off, A1, c1, A2, c2, e, hb, hc, hd, hn⟩ := h.at_ k hl
  exact ⟨b, off, A1, c1, A2, c2, e, by omega, hc, hd.more hB, NodeAt.more hB _ _ _ hn⟩⟩
theorem PredsAt.later (h : PredsAt w B A cap ps) (hb : Below B w W) (hB : B ≤ W.heap.size) : PredsAt W W.heap.size A cap ps := (h.keep fun _ hp => hb.cell hp).more hB
theorem ProgAt.later (h : ProgAt w B p L) (hb : Below B w W) (hB : B ≤ W.heap.size) : ProgAt W W.heap.size p L :=
 ⟨h.decls.later hb hB, h.preds.later hb hB, h.main.later hb hB⟩
end
def progW (nd : Nat) (np : Nat) (o s : List UInt8) (n q : Int) (nk : Nat) (L : ProgL) : Value :=
 .agg #[.slice L.Ad nd L.cd, .slice L.Ap np L.cp, .string ⟨o.toArray⟩, .string ⟨s.toArray⟩, .int .i64 n, .int .i64 q, .slice L.Ak nk L.ck]
abbrev progT (p : ProgP) (L : ProgL) : Value := progW p.decls.length p.preds.length p.main.op p.main.name p.main.num p.main.pos p.main.kids.length L
abbrev boxP (nd np : Nat) (o s : List UInt8) (n q : Int) (nk : Nat) (L : ProgL) : Obj :=
 .cells #[.slice L.Ad nd L.cd, .slice L.Ap np L.cp, .string ⟨o.toArray⟩, .string ⟨s.toArray⟩, .int .i64 n, .int .i64 q, .slice L.Ak nk L.ck] 33
abbrev boxQ (nm : List UInt8) (A1 : Option Addr) (n1 c1 : Nat) (o s : List UInt8) (n q : Int) (A2 : Option Addr) (n2 c2 : Nat) (a : Int) : Obj :=
 .cells #[.string ⟨nm.toArray⟩, .slice A1 n1 c1, .string ⟨o.toArray⟩, .string ⟨s.toArray⟩, .int .i64 n, .int .i64 q, .slice A2 n2 c2, .int .i64 a] 54
abbrev boxD (nm : List UInt8) (o a : Int) : Obj := .cells #[.string ⟨nm.toArray⟩, .int .i64 o, .int .i64 a] 60
theorem box7 {w W : World} {nd np : Nat} {o s : List UInt8} {n q : Int} {nk : Nat} {L : ProgL} (h : Below (w.heap.size + 1) (w.alloc (boxP nd np o s n q nk L)) W) :
  W.cell? ⟨w.heap.size, 0, none⟩ = some (.slice L.Ad nd L.cd) ∧ W.cell? ⟨w.heap.size, 1, none⟩ = some (.slice L.Ap np L.cp) ∧ W.cell? ⟨w.heap.size, 2, none⟩ = some (.string ⟨o.toArray⟩) ∧ W.cell? ⟨w.heap.size, 3, none⟩ = some (.string ⟨s.toArray⟩) ∧
   W.cell? ⟨w.heap.size, 4, none⟩ = some (.int .i64 n) ∧ W.cell? ⟨w.heap.size, 5, none⟩ = some (.int .i64 q) ∧ W.cell? ⟨w.heap.size, 6, none⟩ = some (.slice L.Ak nk L.ck) :=
 ⟨box_at h 0 _ rfl, box_at h 1 _ rfl, box_at h 2 _ rfl, box_at h 3 _ rfl, box_at h 4 _ rfl, box_at h 5 _ rfl, box_at h 6 _ rfl⟩
theorem box8 {w W : World} {nm : List UInt8} {A1 : Option Addr} {n1 c1 : Nat} {o s : List UInt8} {n q : Int} {A2 : Option Addr} {n2 c2 : Nat} {a : Int} (h : Below (w.heap.size + 1) (w.alloc (boxQ nm A1 n1 c1 o s n q A2 n2 c2 a)) W) :
  W.cell? ⟨w.heap.size, 0, none⟩ = some (.string ⟨nm.toArray⟩) ∧ W.cell? ⟨w.heap.size, 1, none⟩ = some (.slice A1 n1 c1) ∧ W.cell? ⟨w.heap.size, 2, none⟩ = some (.string ⟨o.toArray⟩) ∧ W.cell? ⟨w.heap.size, 3, none⟩ = some (.string ⟨s.toArray⟩) ∧
   W.cell? ⟨w.heap.size, 4, none⟩ = some (.int .i64 n) ∧ W.cell? ⟨w.heap.size, 5, none⟩ = some (.int .i64 q) ∧ W.cell? ⟨w.heap.size, 6, none⟩ = some (.slice A2 n2 c2) ∧ W.cell? ⟨w.heap.size, 7, none⟩ = some (.int .i64 a) :=
 ⟨box_at h 0 _ rfl, box_at h 1 _ rfl, box_at h 2 _ rfl, box_at h 3 _ rfl, box_at h 4 _ rfl, box_at h 5 _ rfl, box_at h 6 _ rfl, box_at h 7 _ rfl⟩
def fineB (p : ProgP) : Bool := decide (p.decls.length ≤ 20) && decide (p.preds.length ≤ 10) && decide (nodes p.main ≤ 150) && p.preds.all (fun x => decide (nodes x.body ≤ 100)) && progB p
theorem all_take_succ {α : Type} {f : α → Bool} {l : List α} {k : Nat} (hk : k < l.length) (h : (l.take k).all f = true) (h2 : f l[k] = true) : (l.take (k + 1)).all f = true := by
 rw [List.take_succ_eq_append_getElem hk, List.all_append, h]
 simp [h2]
theorem all_false_at {α : Type} {f : α → Bool} {l : List α} {k : Nat} (hk : k < l.length) (h : f l[k] = false) : l.all f = false := by
 rw [List.all_eq_false]
 exact ⟨l[k], List.getElem_mem hk, by rw [h]; decide⟩
end Go.Proofs.YteikakoheibnjaaDoor
namespace Go.Proofs.YteikakoheibnjaaDoor
open Go

theorem fine_parts {ds : List DeclP} {ps : List PredP} {t : Node} (h : fineB ⟨ds, ps, t⟩ = true) : ds.length ≤ 20 ∧ ps.length ≤ 10 ∧ nodes t ≤ 2000 ∧ (∀ x ∈ ps, nodes x.body ≤ 2000) ∧ progB ⟨ds, ps, t⟩ = true := by
 unfold fineB at h
 simp only [Bool.and_eq_true, decide_eq_true_eq, List.all_eq_true] at h
 obtain ⟨⟨⟨⟨h1, h2⟩, h3⟩, h4⟩, h5⟩ := h
 refine ⟨h1, h2, Nat.le_trans h3 (by omega), fun x hx => Nat.le_trans (h4 x hx) (by omega), h5⟩
end Go.Proofs.YteikakoheibnjaaDoor
namespace Go.Proofs.YteikakoheibnjaaDoor
open Go Go.RowKit

theorem dig_all : ∀ i : Fin 10, (({ data := #[48, 49, 50, 51, 52, 53, 54, 55, 56, 57, 97, 98, 99, 100, 101, 102, 103, 104, 105, 106, 107, 108, 109, 110, 111, 112, 113, 114, 115, 116, 117, 118, 119, 120, 121, 122] } : ByteArray).extract i.val (i.val + 1)).data = (dig i.val).toArray := by decide +kernel
set_option maxRecDepth 100000 in
theorem two_all : ∀ i : Fin 100, 10 ≤ i.val → (({ data := #[48, 48, 48, 49, 48, 50, 48, 51, 48, 52, 48, 53, 48, 54, 48, 55, 48, 56, 48, 57, 49, 48, 49, 49, 49, 50, 49, 51, 49, 52, 49, 53, 49, 54, 49, 55, 49, 56, 49, 57, 50, 48, 50, 49, 50, 50, 50, 51, 50, 52, 50, 53, 50, 54, 50, 55, 50, 56, 50, 57, 51, 48, 51, 49, 51, 50, 51, 51, 51, 52, 51, 53, 51, 54, 51, 55, 51, 56, 51, 57, 52, 48, 52, 49, 52, 50, 52, 51, 52, 52, 52, 53, 52, 54, 52, 55, 52, 56, 52, 57, 53, 48, 53, 49, 53, 50, 53, 51, 53, 52, 53, 53, 53, 54, 53, 55, 53, 56, 53, 57, 54, 48, 54, 49, 54, 50, 54, 51, 54, 52, 54, 53, 54, 54, 54, 55, 54, 56, 54, 57, 55, 48, 55, 49, 55, 50, 55, 51, 55, 52, 55, 53, 55, 54, 55, 55, 55, 56, 55, 57, 56, 48, 56, 49, 56, 50, 56, 51, 56, 52, 56, 53, 56, 54, 56, 55, 56, 56, 56, 57, 57, 48, 57, 49, 57, 50, 57, 51, 57, 52, 57, 53, 57, 54, 57, 55, 57, 56, 57, 57] } : ByteArray).extract (i.val * 2) (i.val * 2 + 2)).data = (dig i.val).toArray := by decide +kernel
set_option maxRecDepth 100000 in
theorem smallN_any (i : Nat) (hi : i < 100) (w : World) : Calls Tryd.prog 111 #[.int .i64 i] w fun e w' => e = .returned (.string ⟨(dig i).toArray⟩) ∧ w = w' := by
 by_cases h : i < 10
 · have g : decide ((i : Int) < 10) = true := decide_eq_true (by omega)
   have HI := Lib.hid (dig_all ⟨i, h⟩)
   go_enter Tryd.func111, Tryd.ntmps111
   go_wp2_with fail
   go_ret
   exact ⟨congrArg (fun x : Array UInt8 => Ending.returned (.string ⟨x⟩)) HI.out, rfl⟩
 · have g : decide ((i : Int) < 10) = false := decide_eq_false (by omega)
   have HI := Lib.hid (two_all ⟨i, hi⟩ (by show 10 ≤ i; omega))
   go_enter Tryd.func111, Tryd.ntmps111
   go_wp2_with fail
   go_ret
   exact ⟨congrArg (fun x : Array UInt8 => Ending.returned (.string ⟨x⟩)) HI.out, rfl⟩
theorem format_any (i : Nat) (hi : i < 100) (w : World) : Calls Tryd.prog 87 #[.int .i64 i, .int .i64 10] w fun e w' => e = .returned (.string ⟨(dig i).toArray⟩) ∧ w = w' := by
 have g0 : decide (0 ≤ (i : Int)) = true := decide_eq_true (by omega)
 have g1 : decide ((i : Int) < 100) = true := decide_eq_true (by omega)
 have HS := Lib.hid (fun W => smallN_any i hi W)
 go_enter Tryd.func87, Tryd.ntmps87
 go_wp2_with (
  go_at_call 111
  refine (HS.out _).mono ?_
  rintro e w2 ⟨rfl, rfl⟩)
 go_ret
 exact ⟨rfl, rfl⟩
theorem itoaI_any (i : Nat) (hi : i < 100) (w : World) : Calls Tryd.prog 63 #[.int .i64 i] w fun e w' => e = .returned (.string ⟨(dig i).toArray⟩) ∧ w = w' := by
 have HS := Lib.hid (fun W => format_any i hi W)
 go_enter Tryd.func63, Tryd.ntmps63
 go_wp2_with (
  go_at_call 87
  refine (HS.out _).mono ?_
  rintro e w2 ⟨rfl, rfl⟩)
 go_ret
 exact ⟨rfl, rfl⟩
theorem itoa_any (i : Nat) (hi : i < 100) (w : World) : Calls Tryd.prog 28 #[.int .i64 i] w fun e w' => e = .returned (.string ⟨(dig i).toArray⟩) ∧ w = w' := by
 have HS := Lib.hid (fun W => itoaI_any i hi W)
 go_enter Tryd.func28, Tryd.ntmps28
 go_wp2_with (
  go_at_call 63
  refine (HS.out _).mono ?_
  rintro e w2 ⟨rfl, rfl⟩)
 go_ret
 exact ⟨rfl, rfl⟩
end Go.Proofs.YteikakoheibnjaaDoor
