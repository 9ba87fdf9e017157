/- Parts of the proof: EvO12, EvK, EvT1, EvT2, VRes. -/
import Derived.Test.YtpknalhjgbgpiaaGreatDoorM0
import Derived.Test.YtpknalhjgbgpiaaGreatDoorM1
import Derived.Test.YtpknalhjgbgpiaaGreatDoorM10
namespace Go.Proofs.YtpknalhjgbgpiaaGreatDoor
open Go Go.RowKit
set_option maxRecDepth 100000 in
theorem made_op (o : Oper) : Made o (opK Tryz.prog o) := by
  obtain ⟨dst, op, type, pos, after, guard⟩ := o
  cases op with
  | move x => exact made_move x
  | assign x => exact made_assign x
  | pick c a b => exact made_pick c a b
  | alloc t => exact made_alloc t
  | box t x => exact made_box t x
  | build t ps => exact made_build t ps
  | buildSlice t n ps => exact made_buildSlice t n ps
  | insert t m x v => exact made_insert t m x v
  | mapUpdate t m x v => exact made_mapUpdate t m x v
  | load t x => exact made_load t x
  | store t x v => exact made_store t x v
  | nilCheck x => exact made_nilCheck x
  | binOp op t x y u => exact made_binOp op t x y u
  | unOp op t x => exact made_unOp op t x
  | convert s t x => exact made_convert s t x
  | makeInterface t x => exact made_iface t x
  | makeFunc fn a b => exact made_makeFunc fn a b
  | makeMap t r => cases r with
    | none => exact made_makeMap t
    | some r => exact made_bad (w := "op") fun k => rfl
  | makeSlice t a b => exact made_makeSlice t a b
  | slice t x l h m => exact made_slice t x l h m
  | fieldAddr t x f => exact made_fieldAddr t x f
  | field t x f => exact made_field t x f
  | indexAddr t x i => exact made_indexAddr t x i
  | index t x i => exact made_index t x i
  | lookup t m x ok => cases ok with
    | true => exact made_lookup t m x
    | false => exact made_bad (w := "op") fun k => rfl
  | range t x => exact made_range t x
  | next x s => exact made_next x s
  | typeAssert x a t ok => exact made_typeAssert x a t ok
  | extract x i => exact made_extract x i
  | call c => exact made_call c
  | _ => exact made_bad (w := "op") fun k => rfl
/-- What an operation is is sound. -/
theorem op_sound (o : Oper) : COpS o (opC Tryz.prog o) ∧ ∀ {R : Type} (k : COp → R), opK Tryz.prog o k = k (opC Tryz.prog o) := by
  obtain ⟨C, h1, h2⟩ := made_op o
  have e : opC Tryz.prog o = C := h1 id
  rw [e]
  exact ⟨h2, h1⟩
end Go.Proofs.YtpknalhjgbgpiaaGreatDoor
noncomputable section
namespace Go.Proofs.YtpknalhjgbgpiaaGreatDoor
open Go
-- temporaries
abbrev E1 := N4 A
abbrev E2 := N4 E1
abbrev E3 := N4 E2
abbrev TE := N4 E3
abbrev KE := TE → S → Bool
abbrev Opd := TE → A
abbrev Upd := TE → A → (TE → Bool) → Bool
def env0 : TE := n4 (n4 (n4 (n4 undefA)))
def opc (f : TE → E3) (g : E3 → E2) (h : E2 → E1) (j : E1 → A) : Opd := fun e => j (h (g (f e)))
def kon (a : A) : Opd := fun _ => a
def selE {α : Type} : List (N4 α → α) := [N4.a0, N4.a1, N4.a2, N4.a3]
def updE {α : Type} : List (N4 α → (α → (α → Bool) → Bool) → (N4 α → Bool) → Bool) := [upI0, upI1, upI2, upI3]
def updV : List (E1 → A → (E1 → Bool) → Bool) := [upV0, upV1, upV2, upV3]
def upc (f : TE → (E3 → (E3 → Bool) → Bool) → (TE → Bool) → Bool) (g : E3 → (E2 → (E2 → Bool) → Bool) → (E3 → Bool) → Bool) (h : E2 → (E1 → (E1 → Bool) → Bool) → (E2 → Bool) → Bool) (j : E1 → A → (E1 → Bool) → Bool) : Upd :=
  fun e v k => f e (fun n k => g n (fun n k => h n (fun n k => j n v k) k) k) k
def noUp : Upd := fun e _ k => k e
-- steps
abbrev RegF := Rec → TE → S → KE → Bool
abbrev ArgF := TE → (List A → Bool) → Bool
def arg0 : ArgF := fun _ k => k []
def argC (x : Opd) (r : ArgF) : ArgF := fun e k => r e fun l => k (x e :: l)
def stE : RegF := fun _ e s k => k e s
def tick (_ : S) (f : Unit → Bool) : Bool := f ()
def stMv (x : Opd) (u : Upd) (next : RegF) : RegF := fun rec e s k => u e (x e) fun e => next rec e s k
def stP1 (g : G1) (x : Opd) (u : Upd) (next : RegF) : RegF := fun rec e s k => g (x e) fun v => u e v fun e => next rec e s k
def stP2 (g : G2) (x y : Opd) (u : Upd) (next : RegF) : RegF := fun rec e s k => g (x e) (y e) fun v => u e v fun e => next rec e s k
def stPL (g : GL) (xs : ArgF) (u : Upd) (next : RegF) : RegF := fun rec e s k => xs e fun l => g l fun v => u e v fun e => next rec e s k
def stR1 (g : R1) (x : Opd) (u : Upd) (next : RegF) : RegF := fun rec e s k => g s (x e) fun v => u e v fun e => next rec e s k
def stR2 (g : R2) (x y : Opd) (u : Upd) (next : RegF) : RegF := fun rec e s k => g s (x e) (y e) fun v => u e v fun e => next rec e s k
def stA (g : GS) (xs : ArgF) (u : Upd) (next : RegF) : RegF := fun rec e s k => xs e fun l => g l fun o h => newK s o fun q s => u e (h q) fun e => next rec e s k
def stC (g : GC) (xs : ArgF) (u : Upd) (next : RegF) : RegF := fun rec e s k => xs e fun l => g rec s l fun v s => u e v fun e => next rec e s k
def stBad (w : String) : RegF := fun _ _ _ _ => stk w
/-- A read once more: what it reads is what it read. -/
def stChk1 (g : R1) (x y : Opd) (next : RegF) : RegF := fun rec e s k => g s (x e) fun v => ifB (eqA v (y e)) (next rec e s k) (stk "chk")
def stChk2 (g : R2) (x z y : Opd) (next : RegF) : RegF := fun rec e s k => g s (x e) (z e) fun v => ifB (eqA v (y e)) (next rec e s k) (stk "chk")
/-- A guard: a truth, or nothing, if what yields it was left out. -/
def asGd (v : A) (want : Bool) (ky kn : Unit → Bool) : Bool := A.casesOn (motive_1 := fun _ => Bool) v (fun _ => false) (fun b => ifB (eqB b want) (ky ()) (kn ())) (fun _ _ => false) (fun _ _ _ _ _ => false) (fun t l => ifB t (List.casesOn l (kn ()) fun _ _ => false) false) (fun _ => false) (fun _ _ => false) (fun _ => false) (fun _ => false) (fun _ _ _ => false) (fun _ _ => false) (fun _ => false)
def stG (t : Opd) (want : Bool) (u : Upd) (op next : RegF) : RegF := fun rec e s k => asGd (t e) want (fun _ => op rec e s k) fun _ => u e undefA fun e => next rec e s k
def stGChk (t : Opd) (want : Bool) (op next : RegF) : RegF := fun rec e s k => asGd (t e) want (fun _ => op rec e s k) fun _ => next rec e s k
-- code
abbrev CF := Rec → TE → S → KE → (Nat → KE) → KE → Bool
def seqF (f g : CF) : CF := fun rec e s kn ke kr => f rec e s (fun e s => g rec e s kn ke kr) ke kr
def regF (f : RegF) : CF := fun rec e s kn _ _ => f rec e s kn
def condF (x : Opd) (f g : CF) : CF := fun rec e s kn ke kr => asB (x e) fun b => ifB b (f rec e s kn ke kr) (g rec e s kn ke kr)
def blockF (id : Nat) (f : CF) : CF := fun rec e s kn ke kr => f rec e s kn (fun j e s => ifB (Nat.beq j id) (kn e s) (ke j e s)) kr
def exitF (id : Nat) : CF := fun _ e s _ ke _ => ke id e s
def retF : CF := fun _ e s _ _ kr => kr e s
def skipF : CF := fun _ e s kn _ _ => kn e s
def stuckF (w : String) : CF := fun _ _ _ _ _ _ => stk w
def againF (f : CF) (n : Nat) (rec : Rec) (ke : Nat → KE) (kr : KE) : KE := Nat.rec (fun _ _ => false) (fun _ ih e s => f rec e s ih ke kr) n
def loopF (f : CF) : CF := fun rec e s _ ke kr => againF f 1000000 rec ke kr e s
/-- A slice's elements, the last first: their number and they. -/
def backF (g : S → Nat → (S → Bool) → Bool) (n : Nat) (s : S) (k : S → Bool) : Bool := Nat.rec (motive := fun _ => S → (S → Bool) → Bool) (fun s k => k s) (fun m ih s k => g s m fun s => ih s k) n s k
def partB (agg : Bool) (sz off : Nat) (l : List A) (c : KA) : Bool := ifB agg (partN sz off l c) (part1 off l c)
abbrev BK := List (FuncId × (Bool × Nat))
def rangeF (tab : BK) (x : Opd) (p q : Upd) (f g : CF) : CF := fun rec e s kn ke kr => asF (x e) fun fn fs cs => match fn with
  | .func b => match tab.lookup b with
    | some (agg, sz) => match fs with
      | [] => list1 cs fun c => rload1 s c fun v => asSl v (fun _ => kn e s) fun r o len es _ => ifB (ifB (Nat.beq es sz) (Nat.ble len 1000000) false)
        (backF (fun s i k => rload1 s c fun v' => ifB (eqA v' v) (readK s r fun l => partB agg sz (Nat.add o (Nat.mul i sz)) l fun y => p e (.i (Int.ofNat i)) fun e' => q e' y fun e' =>
          f rec e' s (fun e' s => g rec e' s (fun _ s => k s) (fun j _ s => ke j e s) fun _ s => kr e s) (fun _ _ _ => stk "range") fun _ _ => stk "range") (stk "range turned")) len s fun s => kn e s) (stk "range size")
      | _ => stk "range"
    | none => stk "range over what"
  | _ => stk "rangeFunc"
inductive Box where | mk (f : Rec → List A → S → KS → Bool)
def stkB (w : String) : Box := .mk fun _ _ _ _ => stk w
section
variable {R : Type}
def nthB {α : Type} (l : List α) (n : Nat) (bad : R) : KR R α := fun k => List.rec (motive := fun _ => Nat → (α → R) → R) (fun _ _ => bad) (fun x _ ih n k => Nat.rec (motive := fun _ => α → (Nat → (α → R) → R) → (α → R) → R) (fun x _ k => k x) (fun m _ _ ih k => ih m k) n x ih k) l n k
def dig4 (t : Nat) (bad : R) (k : Nat → Nat → Nat → Nat → R) : R := ifZ (Nat.blt t 256) (fNB (t / 64) fun a => fNB (t / 16 % 4) fun b => fNB (t / 4 % 4) fun c => fNB (t % 4) fun d => k a b c d) bad
/-- An operand: of n temporaries. -/
def opdB (n : Nat) (x : Operand) (bad : R) : KR R Opd := fun k => match x with
  | .tmp t => ifZ (Nat.blt t n) (dig4 t bad fun a b c d => nthB selE a bad fun a => nthB selE b bad fun b => nthB selE c bad fun c => nthB selE d bad fun d => k (opc a b c d)) bad
  | .const v => ifZ (okV v) (absB v fun a => k (kon a)) bad
  | .global g => ifZ (Nat.blt g 4) (nthB digs g bad fun a => k (kon (.p ⟨.d0, .d0, .d0, .d0, .d0, .d0, .d0, a⟩ 0))) bad
  | .func f => fNB f fun f => k (kon (.f (.func f) [] []))
def updB (n : Nat) (t : Tmp) (bad : R) : KR R Upd := fun k => ifZ (Nat.blt t n) (dig4 t bad fun a b c d => nthB updE a bad fun a => nthB updE b bad fun b => nthB updE c bad fun c => nthB updV d bad fun d => k (upc a b c d)) bad
def dstB (n : Nat) (d : Option Tmp) (bad : R) : KR R Upd := fun k => match d with
  | some t => updB n t bad k
  | none => k noUp
def argsB (n : Nat) (xs : List Operand) (bad : R) : KR R ArgF := fun k => List.rec (motive := fun _ => (ArgF → R) → R) (fun k => k arg0) (fun x _ ih k => opdB n x bad fun x => ih fun r => k (argC x r)) xs k
/-- An operation's step. -/
def copB (n : Nat) (C : COp) (u : Upd) (next : RegF) : KR R RegF := fun k => match C with
  | .mv x => opdB n x (k (stBad "opd")) fun x => k (stMv x u next)
  | .p1 g x => opdB n x (k (stBad "opd")) fun x => k (stP1 g x u next)
  | .p2 g x y => opdB n x (k (stBad "opd")) fun x => opdB n y (k (stBad "opd")) fun y => k (stP2 g x y u next)
  | .pl g xs => argsB n xs (k (stBad "opd")) fun xs => k (stPL g xs u next)
  | .r1 g x => opdB n x (k (stBad "opd")) fun x => k (stR1 g x u next)
  | .r2 g x y => opdB n x (k (stBad "opd")) fun x => opdB n y (k (stBad "opd")) fun y => k (stR2 g x y u next)
  | .al g xs => argsB n xs (k (stBad "opd")) fun xs => k (stA g xs u next)
  | .ch g xs => argsB n xs (k (stBad "opd")) fun xs => k (stC g xs u next)
  | .bad w => k (stBad w)
/-- A read once more. -/
def chkB (n : Nat) (C : COp) (y : Opd) (next : RegF) : KR R RegF := fun k => match C with
  | .r1 g x => opdB n x (k (stBad "opd")) fun x => k (stChk1 g x y next)
  | .r2 g x z => opdB n x (k (stBad "opd")) fun x => opdB n z (k (stBad "opd")) fun z => k (stChk2 g x z y next)
  | _ => k (stBad "chk of what")
/-- A step: an operation (twice its number), or a read once more (one more). -/
def stepB (P : Program) (n : Nat) (ops : List Oper) (i : Nat) (next : RegF) : KR R RegF := fun k => nthB ops (i / 2) (k (stBad "step")) fun o =>
  match i % 2 with
  | 0 => dstB n o.dst (k (stBad "dst")) fun u => opK P o fun C => match o.guard with
    | none => copB n C u next k
    | some (j, want) => fBB want fun want => nthB ops j (k (stBad "guard")) fun g => match g.dst with
      | some t => opdB n (.tmp t) (k (stBad "guard")) fun t => copB n C u next fun op => k (stG t want u op next)
      | none => k (stBad "guard")
  | _ => match o.dst with
    | none => k (stBad "chk")
    | some d => opdB n (.tmp d) (k (stBad "chk")) fun y => opK P o fun C => match o.guard with
      | none => chkB n C y next k
      | some (j, want) => fBB want fun want => nthB ops j (k (stBad "guard")) fun g => match g.dst with
        | some t => opdB n (.tmp t) (k (stBad "guard")) fun t => chkB n C y next fun op => k (stGChk t want op next)
        | none => k (stBad "guard")
def stepsB (P : Program) (n : Nat) (ops : List Oper) (l : List Nat) : KR R RegF := fun k => List.rec (motive := fun _ => (RegF → R) → R) (fun k => k stE) (fun i _ ih k => ih fun next => stepB P n ops i next k) l k
def planOf (pl : List (Nat × List Nat)) (id : Nat) (ops : List Oper) (draw : Bool) : List Nat := match draw with
  | true => (pl.lookup id).getD [1]
  | false => (List.range ops.length).map (2 * ·)
def codeB (P : Program) (bk : BK) (pl : List (Nat × List Nat)) (n : Nat) (c : Code) : KR R CF := Code.rec (motive := fun _ => KR R CF) (fun k => k skipF) (fun id ops draw k => stepsB P n ops.toList (planOf pl id ops.toList draw) fun f => k (regF f)) (fun _ _ ia ib k => ia fun a => ib fun b => k (seqF a b)) (fun x _ _ ia ib k => opdB n x (k (stuckF "cond")) fun x => ia fun a => ib fun b => k (condF x a b)) (fun id _ ia k => fNB id fun id => ia fun a => k (blockF id a)) (fun _ ia k => ia fun a => k (loopF a)) (fun x ps _ _ ia ib k => match ps.toList with
  | [p, q] => opdB n x (k (stuckF "range")) fun x => updB n p (k (stuckF "range")) fun p => updB n q (k (stuckF "range")) fun q => ia fun a => ib fun b => k (rangeF bk x p q a b)
  | _ => k (stuckF "rangeFunc")) (fun id k => fNB id fun id => k (exitF id)) (fun _ _ k => k (stuckF "scope")) (fun _ k => k (stuckF "label")) (fun _ k => k (stuckF "goto")) (fun k => k retF) (fun _ k => k (stuckF "refuse")) c
/-- A call's temporaries, when it begins. -/
abbrev EnterF := TE → List A → (TE → Bool) → Bool
def ent0 : EnterF := fun e l k => match l with
  | [] => k e
  | _ => stk "too many arguments"
def entC (u : Upd) (next : EnterF) : EnterF := fun e l k => match l with
  | [] => k e
  | x :: l => u e x fun e => next e l k
def entB (n m : Nat) (t : Nat) (bad : R) : KR R EnterF := fun k => Nat.rec (motive := fun _ => Nat → (EnterF → R) → R) (fun _ k => k ent0) (fun _ ih t k => updB n t bad fun u => ih (Nat.succ t) fun next => k (entC u next)) m t k
abbrev ResF := TE → S → KS → Bool
abbrev Res1 := TE → S → KA → Bool
abbrev ResL := TE → S → (List A → Bool) → Bool
def resT (x : Opd) : Res1 := fun e _ k => k (x e)
def resG (x : Opd) (g : R1) : Res1 := fun e s k => g s (x e) k
def res1 (f : Res1) : ResF := fun e s k => f e s fun v => k v s
def resL0 : ResL := fun _ _ k => k []
def resLC (f : Res1) (r : ResL) : ResL := fun e s k => f e s fun v => r e s fun l => k (v :: l)
def resN (r : ResL) : ResF := fun e s k => r e s fun l => k (.g true l) s
def resB (P : Program) (n : Nat) (r : ResultVar) (bad : R) : KR R Res1 := fun k => match r with
  | .tmp t => opdB n (.tmp t) bad fun x => k (resT x)
  | .cell a t => opdB n (.tmp a) bad fun x => match aggT P t with
    | true => szB P t bad fun sz => k (resG x (rloadN sz))
    | false => match undT P t with
      | .invalid => bad
      | _ => k (resG x rload1)
def resLB (P : Program) (n : Nat) (rs : List ResultVar) (bad : R) : KR R ResL := fun k => List.rec (motive := fun _ => (ResL → R) → R) (fun k => k resL0) (fun r _ ih k => resB P n r bad fun f => ih fun g => k (resLC f g)) rs k
def resultsB (P : Program) (n : Nat) (rs : List ResultVar) (bad : R) : KR R ResF := fun k => match rs with
  | [r] => resB P n r bad fun f => k (res1 f)
  | _ => resLB P n rs bad fun f => k (resN f)
end
def bodyF (en : EnterF) (c : CF) (r : ResF) : Rec → List A → S → KS → Bool := fun rec l s k => en env0 l fun e => c rec e s (fun e s => r e s k) (fun _ _ _ => stk "exit") (fun e s => r e s k)
def bodyB (P : Program) (bk : BK) (pl : List (Nat × List Nat)) (fn : Func) : Box := match fn.body with
  | none => stkB "no body"
  | some c => fNB fn.ntmps fun n => entB n (fn.params.size + fn.nfree) 0 (stkB "enter") fun en => codeB P bk pl n c fun c => resultsB P n fn.results.toList (stkB "results") fun r => .mk (bodyF en c r)
def runBox (b : Box) : Rec → List A → S → KS → Bool := fun rec l s k => Box.rec (motive := fun _ => Rec → List A → S → KS → Bool) (fun f => f) b rec l s k
/-- The meter's two functions, the fuel being a letter. -/
def fuelNew : List A → S → KS → Bool := fun l s c => match l with
  | [.o (.sym o)] => newK s (.cells [.o (.sym o), .b false]) fun q s => c (.p q 0) s
  | [x] => asI x fun n => ifB (ltI n 0) (stk "New") (newK s (.cells [.i n, .b false]) fun q s => c (.p q 0) s)
  | _ => stk "New"
def fuelSpend : List A → S → KS → Bool := fun l s c => match l with
  | [x, y] => asP x fun r o => asI y fun n => natI n fun n => ifB (Nat.beq o 0) (readK s r fun l => match l with
    | [.o (.sym o), .b false] => fN (Nat.add o n) fun m => ifB (writeK s r (.cells [.i 0, .b true]) fun s => c (.b false) ⟨s.h, s.next, s.lo, m⟩) (writeK s r (.cells [.o (.sym m), .b false]) fun s => c (.b true) ⟨s.h, s.next, m, s.hi⟩) false
    | [x, y] => asI x fun x => natI x fun x => asB y fun b => ifB b (c (.b false) s) (ifB (Nat.blt x n) (writeK s r (.cells [.i 0, .b true]) fun s => c (.b false) s) (fN (Nat.sub x n) fun z => writeK s r (.cells [.i (Int.ofNat z), .b false]) fun s => c (.b true) s))
    | _ => stk "Spend") (stk "Spend")
  | _ => stk "Spend"
end Go.Proofs.YtpknalhjgbgpiaaGreatDoor
namespace Go.Proofs.YtpknalhjgbgpiaaGreatDoor
open Go Go.RowKit
def getE (t : Nat) (e : TE) : A := pick4 (digN t) (pick4 (digN (t / 4)) (pick4 (digN (t / 16)) (pick4 (digN (t / 64)) e)))
def putE (t : Nat) (v : A) (e : TE) : TE := lay4 (digN (t / 64)) (lay4 (digN (t / 16)) (lay4 (digN (t / 4)) (lay4 (digN t) fun _ => v))) e
theorem digN_inj {a b : Nat} (h : digN a = digN b) : a % 4 = b % 4 := by
  have ha : a % 4 < 4 := Nat.mod_lt _ (by omega)
  have hb : b % 4 < 4 := Nat.mod_lt _ (by omega)
  unfold digN at h
  generalize a % 4 = x at *
  generalize b % 4 = y at *
  match x, y, ha, hb with
  | 0, 0, _, _ | 1, 1, _, _ | 2, 2, _, _ | 3, 3, _, _ => rfl
  | 0, 1, _, _ | 0, 2, _, _ | 0, 3, _, _ | 1, 0, _, _ | 1, 2, _, _ | 1, 3, _, _ | 2, 0, _, _ | 2, 1, _, _ | 2, 3, _, _ | 3, 0, _, _ | 3, 1, _, _ | 3, 2, _, _ => cases h
theorem getE_same (t : Nat) (v : A) (e : TE) : getE t (putE t v e) = v := by simp only [getE, putE, pick4_same]
theorem getE_ne {t u : Nat} (ht : t < 256) (hu : u < 256) (h : t ≠ u) (v : A) (e : TE) : getE t (putE u v e) = getE t e := by
  simp only [getE, putE]
  by_cases e3 : digN (t / 64) = digN (u / 64)
  · rw [e3, pick4_same]
    by_cases e2 : digN (t / 16) = digN (u / 16)
    · rw [e2, pick4_same]
      by_cases e1 : digN (t / 4) = digN (u / 4)
      · rw [e1, pick4_same]
        by_cases e0 : digN t = digN u
        · have h0 := digN_inj e0; have h1 := digN_inj e1; have h2 := digN_inj e2; have h3 := digN_inj e3
          omega
        · rw [pick4_ne e0]
      · rw [pick4_ne e1]
    · rw [pick4_ne e2]
  · rw [pick4_ne e3]
section
variable {R : Type}
theorem nthB_eq {α : Type} (l : List α) (i : Nat) : (∃ x, l[i]? = some x ∧ ∀ {R : Type} (bad : R) (k : α → R), nthB l i bad k = k x) ∨ (l[i]? = none ∧ ∀ {R : Type} (bad : R) (k : α → R), nthB l i bad k = bad) := by
  induction l generalizing i with
  | nil => exact .inr ⟨by simp, fun bad k => rfl⟩
  | cons x l ih =>
    cases i with
    | zero => exact .inl ⟨x, rfl, fun bad k => rfl⟩
    | succ i =>
      rcases ih i with ⟨y, h1, h2⟩ | ⟨h1, h2⟩
      · exact .inl ⟨y, by simpa using h1, fun bad k => h2 bad k⟩
      · exact .inr ⟨by simpa using h1, fun bad k => h2 bad k⟩
theorem nthB_some {α : Type} {l : List α} {i : Nat} {x : α} (h : l[i]? = some x) (bad : R) (k : α → R) : nthB l i bad k = k x := by
  rcases nthB_eq l i with ⟨y, h1, h2⟩ | ⟨h1, _⟩
  · rw [h] at h1; cases h1; exact h2 bad k
  · rw [h] at h1; cases h1
theorem dig4_eq {t : Nat} (h : Nat.blt t 256 = true) (bad : R) (k : Nat → Nat → Nat → Nat → R) : dig4 t bad k = k (t / 64) (t / 16 % 4) (t / 4 % 4) (t % 4) := by
  unfold dig4
  rw [h]
  show fNB (t / 64) _ = _
  rw [fNB_eq, fNB_eq, fNB_eq, fNB_eq]
theorem dig4_bad {t : Nat} (h : Nat.blt t 256 = false) (bad : R) (k : Nat → Nat → Nat → Nat → R) : dig4 t bad k = bad := by
  unfold dig4
  rw [h]
  rfl
theorem ifZ_t {b : Bool} (h : b = true) (x y : R) : ifZ b x y = x := by rw [h]; rfl
theorem ifZ_f {b : Bool} (h : b = false) (x y : R) : ifZ b x y = y := by rw [h]; rfl
end
theorem selE_eq {α : Type} (i : Nat) : (selE : List (N4 α → α))[i % 4]? = some (fun n => pick4 (digN i) n) := by
  have h : i % 4 < 4 := Nat.mod_lt _ (by omega)
  unfold digN
  generalize i % 4 = x at *
  match x, h with
  | 0, _ | 1, _ | 2, _ | 3, _ => rfl
/-- A place's turning, in plain words. -/
def upP {α : Type} (i : Nat) (f : N4 α → (α → (α → Bool) → Bool) → (N4 α → Bool) → Bool) : Prop := ∀ (n : N4 α) (F : α → α) (k : N4 α → Bool), f n (fun x k => k (F x)) k = k (lay4 (digN i) F n)
theorem updE_eq {α : Type} (i : Nat) : ∃ f, (updE : List (N4 α → (α → (α → Bool) → Bool) → (N4 α → Bool) → Bool))[i % 4]? = some f ∧ upP i f := by
  have h : i % 4 < 4 := Nat.mod_lt _ (by omega)
  unfold upP digN
  generalize i % 4 = x at *
  match x, h with
  | 0, _ => exact ⟨_, rfl, fun n F k => rfl⟩
  | 1, _ => exact ⟨_, rfl, fun n F k => rfl⟩
  | 2, _ => exact ⟨_, rfl, fun n F k => rfl⟩
  | 3, _ => exact ⟨_, rfl, fun n F k => rfl⟩
theorem updV_eq (i : Nat) : ∃ f, updV[i % 4]? = some f ∧ ∀ (n : E1) (v : A) (k : E1 → Bool), f n v k = k (lay4 (digN i) (fun _ => v) n) := by
  have h : i % 4 < 4 := Nat.mod_lt _ (by omega)
  unfold digN
  generalize i % 4 = x at *
  match x, h with
  | 0, _ => exact ⟨_, rfl, fun n F k => rfl⟩
  | 1, _ => exact ⟨_, rfl, fun n F k => rfl⟩
  | 2, _ => exact ⟨_, rfl, fun n F k => rfl⟩
  | 3, _ => exact ⟨_, rfl, fun n F k => rfl⟩
-- operands
/-- There is such a temporary. -/
def okT (n t : Nat) : Bool := Nat.blt t n && Nat.blt t 256
def opT : Operand → Opd
  | .tmp t => fun e => getE t e
  | .const v => kon (absV v)
  | .global g => kon (.p (numQ g) 0)
  | .func f => kon (.f (.func f) [] [])
def okX (n : Nat) : Operand → Bool
  | .tmp t => okT n t
  | .const v => okV v
  | .global g => Nat.blt g 4
  | .func _ => true
theorem opdB_eq (n : Nat) (x : Operand) : (okX n x = true ∧ ∀ {R : Type} (bad : R) (k : Opd → R), opdB n x bad k = k (opT x)) ∨ ∀ {R : Type} (bad : R) (k : Opd → R), opdB n x bad k = bad := by
  cases x with
  | tmp t =>
    cases h1 : Nat.blt t n with
    | false => exact .inr fun bad k => ifZ_f h1 _ _
    | true =>
      cases h2 : Nat.blt t 256 with
      | false => exact .inr fun bad k => (ifZ_t h1 _ _).trans (dig4_bad h2 _ _)
      | true =>
        refine .inl ⟨by simp only [okX, okT, h1, h2, Bool.and_self], fun bad k => ?_⟩
        refine (ifZ_t h1 _ _).trans ((dig4_eq h2 _ _).trans ?_)
        have hlt : t / 64 % 4 = t / 64 := by
          rw [Nat.blt_eq] at h2
          exact Nat.mod_eq_of_lt (Nat.div_lt_of_lt_mul h2)
        have e3 := selE_eq (α := E3) (t / 64)
        rw [hlt] at e3
        rw [nthB_some e3, nthB_some (selE_eq (α := E2) (t / 16)), nthB_some (selE_eq (α := E1) (t / 4)), nthB_some (selE_eq (α := A) t)]
        rfl
  | const v =>
    cases h : okV v with
    | false => exact .inr fun bad k => ifZ_f h _ _
    | true => exact .inl ⟨h, fun bad k => (ifZ_t h _ _).trans (absB_eq _ _)⟩
  | global g =>
    cases h : Nat.blt g 4 with
    | false => exact .inr fun bad k => ifZ_f h _ _
    | true =>
      refine .inl ⟨h, fun bad k => (ifZ_t h _ _).trans ?_⟩
      have hg : g < 4 := by rw [Nat.blt_eq] at h; exact h
      match g, hg with
      | 0, _ | 1, _ | 2, _ | 3, _ => rfl
  | func f => exact .inl ⟨rfl, fun bad k => fNB_eq _ _⟩
def updT (t : Tmp) : Upd := fun e v k => k (putE t v e)
theorem updB_eq (n : Nat) (t : Tmp) : (okT n t = true ∧ ∀ {R : Type} (bad : R) (k : Upd → R), updB n t bad k = k (updT t)) ∨ ∀ {R : Type} (bad : R) (k : Upd → R), updB n t bad k = bad := by
  cases h1 : Nat.blt t n with
  | false => exact .inr fun bad k => ifZ_f h1 _ _
  | true =>
    cases h2 : Nat.blt t 256 with
    | false => exact .inr fun bad k => (ifZ_t h1 _ _).trans (dig4_bad h2 _ _)
    | true =>
      refine .inl ⟨by simp only [okT, h1, h2, Bool.and_self], fun bad k => ?_⟩
      refine (ifZ_t h1 _ _).trans ((dig4_eq h2 _ _).trans ?_)
      have hlt : t / 64 % 4 = t / 64 := by
        rw [Nat.blt_eq] at h2
        exact Nat.mod_eq_of_lt (Nat.div_lt_of_lt_mul h2)
      obtain ⟨f3, e3, p3⟩ := updE_eq (α := E3) (t / 64)
      obtain ⟨f2, e2, p2⟩ := updE_eq (α := E2) (t / 16)
      obtain ⟨f1, e1, p1⟩ := updE_eq (α := E1) (t / 4)
      obtain ⟨f0, e0, p0⟩ := updV_eq t
      rw [hlt] at e3
      rw [nthB_some e3, nthB_some e2, nthB_some e1, nthB_some e0]
      congr 1
      funext e v k
      show f3 e (fun n k => f2 n (fun n k => f1 n (fun n k => f0 n v k) k) k) k = _
      simp only [p0, p1 _ _, p2 _ _, p3 _ _]
      rfl
def dstT : Option Tmp → Upd
  | some t => updT t
  | none => noUp
def okD (n : Nat) : Option Tmp → Bool
  | some t => okT n t
  | none => true
theorem dstB_eq (n : Nat) (d : Option Tmp) : (okD n d = true ∧ ∀ {R : Type} (bad : R) (k : Upd → R), dstB n d bad k = k (dstT d)) ∨ ∀ {R : Type} (bad : R) (k : Upd → R), dstB n d bad k = bad := by
  cases d with
  | none => exact .inl ⟨rfl, fun bad k => rfl⟩
  | some t => exact updB_eq n t
def argsT (xs : List Operand) : ArgF := fun e k => k (xs.map fun x => opT x e)
theorem argsB_eq (n : Nat) (xs : List Operand) : (xs.all (okX n) = true ∧ ∀ {R : Type} (bad : R) (k : ArgF → R), argsB n xs bad k = k (argsT xs)) ∨ ∀ {R : Type} (bad : R) (k : ArgF → R), argsB n xs bad k = bad := by
  induction xs with
  | nil => exact .inl ⟨rfl, fun bad k => rfl⟩
  | cons x xs ih =>
    rcases opdB_eq n x with ⟨h1, h2⟩ | h2
    · rcases ih with ⟨h3, h4⟩ | h4
      · refine .inl ⟨by simp only [List.all_cons, h1, h3, Bool.and_self], fun bad k => ?_⟩
        show opdB n x bad (fun x => argsB n xs bad fun r => k (argC x r)) = _
        rw [h2, h4]
        rfl
      · refine .inr fun bad k => ?_
        show opdB n x bad (fun x => argsB n xs bad fun r => k (argC x r)) = _
        rw [h2, h4]
    · refine .inr fun bad k => ?_
      show opdB n x bad (fun x => argsB n xs bad fun r => k (argC x r)) = _
      rw [h2]
end Go.Proofs.YtpknalhjgbgpiaaGreatDoor
noncomputable section
namespace Go.Proofs.YtpknalhjgbgpiaaGreatDoor
open Go Go.RowKit
/-- What an operation's step does. -/
def copT (C : COp) (u : Upd) (next : RegF) : RegF := match C with
  | .mv x => stMv (opT x) u next
  | .p1 g x => stP1 g (opT x) u next
  | .p2 g x y => stP2 g (opT x) (opT y) u next
  | .pl g xs => stPL g (argsT xs) u next
  | .r1 g x => stR1 g (opT x) u next
  | .r2 g x y => stR2 g (opT x) (opT y) u next
  | .al g xs => stA g (argsT xs) u next
  | .ch g xs => stC g (argsT xs) u next
  | .bad w => stBad w
def okC (n : Nat) : COp → Bool
  | .mv x | .p1 _ x | .r1 _ x => okX n x
  | .p2 _ x y | .r2 _ x y => okX n x && okX n y
  | .pl _ xs | .al _ xs | .ch _ xs => xs.all (okX n)
  | .bad _ => true
theorem copB_eq (n : Nat) (C : COp) (u : Upd) (next : RegF) : (okC n C = true ∧ ∀ {R : Type} (k : RegF → R), copB n C u next k = k (copT C u next)) ∨ ∀ {R : Type} (k : RegF → R), copB n C u next k = k (stBad "opd") := by
  have one : ∀ (x : Operand) (st : Opd → RegF), (okX n x = true ∧ ∀ {R : Type} (k : RegF → R), opdB n x (k (stBad "opd")) (fun x => k (st x)) = k (st (opT x))) ∨ ∀ {R : Type} (k : RegF → R), opdB n x (k (stBad "opd")) (fun x => k (st x)) = k (stBad "opd") := by
    intro x st
    rcases opdB_eq n x with ⟨h1, h2⟩ | h2
    · exact .inl ⟨h1, fun k => h2 _ _⟩
    · exact .inr fun k => h2 _ _
  have two : ∀ (x y : Operand) (st : Opd → Opd → RegF), ((okX n x && okX n y) = true ∧ ∀ {R : Type} (k : RegF → R), opdB n x (k (stBad "opd")) (fun x => opdB n y (k (stBad "opd")) fun y => k (st x y)) = k (st (opT x) (opT y))) ∨ ∀ {R : Type} (k : RegF → R), opdB n x (k (stBad "opd")) (fun x => opdB n y (k (stBad "opd")) fun y => k (st x y)) = k (stBad "opd") := by
    intro x y st
    rcases opdB_eq n x with ⟨h1, h2⟩ | h2
    · rcases opdB_eq n y with ⟨h3, h4⟩ | h4
      · exact .inl ⟨by rw [h1, h3]; rfl, fun k => by rw [h2, h4]⟩
      · exact .inr fun k => by rw [h2, h4]
    · exact .inr fun k => h2 _ _
  have many : ∀ (xs : List Operand) (st : ArgF → RegF), (xs.all (okX n) = true ∧ ∀ {R : Type} (k : RegF → R), argsB n xs (k (stBad "opd")) (fun x => k (st x)) = k (st (argsT xs))) ∨ ∀ {R : Type} (k : RegF → R), argsB n xs (k (stBad "opd")) (fun x => k (st x)) = k (stBad "opd") := by
    intro xs st
    rcases argsB_eq n xs with ⟨h1, h2⟩ | h2
    · exact .inl ⟨h1, fun k => h2 _ _⟩
    · exact .inr fun k => h2 _ _
  cases C with
  | mv x => exact one x fun x => stMv x u next
  | p1 g x => exact one x fun x => stP1 g x u next
  | p2 g x y => exact two x y fun x y => stP2 g x y u next
  | pl g xs => exact many xs fun xs => stPL g xs u next
  | r1 g x => exact one x fun x => stR1 g x u next
  | r2 g x y => exact two x y fun x y => stR2 g x y u next
  | al g xs => exact many xs fun xs => stA g xs u next
  | ch g xs => exact many xs fun xs => stC g xs u next
  | bad w => exact .inl ⟨rfl, fun k => rfl⟩
/-- A read once more. -/
def chkT (C : COp) (y : Opd) (next : RegF) : RegF := match C with
  | .r1 g x => stChk1 g (opT x) y next
  | .r2 g x z => stChk2 g (opT x) (opT z) y next
  | _ => stBad "chk of what"
theorem chkB_eq (n : Nat) (C : COp) (y : Opd) (next : RegF) : ∃ f, ((okC n C = true ∧ f = chkT C y next) ∨ ∃ w, f = stBad w) ∧ ∀ {R : Type} (k : RegF → R), chkB n C y next k = k f := by
  cases C with
  | r1 g x =>
    have e : ∀ {R : Type} (k : RegF → R), chkB n (.r1 g x) y next k = opdB n x (k (stBad "opd")) fun x => k (stChk1 g x y next) := fun k => rfl
    rcases opdB_eq n x with ⟨h1, h2⟩ | h2
    · exact ⟨chkT (.r1 g x) y next, .inl ⟨h1, rfl⟩, fun k => by rw [e, h2]; rfl⟩
    · exact ⟨_, .inr ⟨ "opd", rfl⟩, fun k => by rw [e, h2]⟩
  | r2 g x z =>
    have e : ∀ {R : Type} (k : RegF → R), chkB n (.r2 g x z) y next k = opdB n x (k (stBad "opd")) fun x => opdB n z (k (stBad "opd")) fun z => k (stChk2 g x z y next) := fun k => rfl
    rcases opdB_eq n x with ⟨h1, h2⟩ | h2
    · rcases opdB_eq n z with ⟨h3, h4⟩ | h4
      · exact ⟨chkT (.r2 g x z) y next, .inl ⟨by rw [okC, h1, h3]; rfl, rfl⟩, fun k => by rw [e, h2, h4]; rfl⟩
      · exact ⟨_, .inr ⟨ "opd", rfl⟩, fun k => by rw [e, h2, h4]⟩
    · exact ⟨_, .inr ⟨ "opd", rfl⟩, fun k => by rw [e, h2]⟩
  | mv x => exact ⟨_, .inr ⟨ "chk of what", rfl⟩, fun k => rfl⟩
  | p1 g x => exact ⟨_, .inr ⟨ "chk of what", rfl⟩, fun k => rfl⟩
  | p2 g x y => exact ⟨_, .inr ⟨ "chk of what", rfl⟩, fun k => rfl⟩
  | pl g xs => exact ⟨_, .inr ⟨ "chk of what", rfl⟩, fun k => rfl⟩
  | al g xs => exact ⟨_, .inr ⟨ "chk of what", rfl⟩, fun k => rfl⟩
  | ch g xs => exact ⟨_, .inr ⟨ "chk of what", rfl⟩, fun k => rfl⟩
  | bad w => exact ⟨_, .inr ⟨ "chk of what", rfl⟩, fun k => rfl⟩
/-- An operation's part of a step; a read's. -/
def IsOp (n : Nat) (o : Oper) (next f : RegF) : Prop := (okC n (opC Tryz.prog o) = true ∧ f = copT (opC Tryz.prog o) (dstT o.dst) next) ∨ ∃ w, f = stBad w
def IsChk (n : Nat) (o : Oper) (d : Tmp) (next f : RegF) : Prop := (okC n (opC Tryz.prog o) = true ∧ f = chkT (opC Tryz.prog o) (opT (.tmp d)) next) ∨ ∃ w, f = stBad w
/-- What a step is made to. -/
inductive IsStep (n : Nat) (ops : List Oper) : Nat → RegF → RegF → Prop
  | bad {i : Nat} {next : RegF} (w : String) : IsStep n ops i next (stBad w)
  | run {i : Nat} {next f : RegF} {o : Oper} (ho : ops[i]? = some o) (hd : okD n o.dst = true) (hg : o.guard = none) (h : IsOp n o next f) : IsStep n ops (2 * i) next f
  | runG {i : Nat} {next f : RegF} {o g : Oper} {j : Nat} {want : Bool} {t : Tmp} (ho : ops[i]? = some o) (hd : okD n o.dst = true) (hg : o.guard = some (j, want)) (hj : ops[j]? = some g) (ht : g.dst = some t) (hk : okT n t = true) (h : IsOp n o next f) :
    IsStep n ops (2 * i) next (stG (opT (.tmp t)) want (dstT o.dst) f next)
  | chk {i : Nat} {next f : RegF} {o : Oper} {d : Tmp} (ho : ops[i]? = some o) (hd : o.dst = some d) (hk : okT n d = true) (hg : o.guard = none) (h : IsChk n o d next f) : IsStep n ops (2 * i + 1) next f
  | chkG {i : Nat} {next f : RegF} {o g : Oper} {d : Tmp} {j : Nat} {want : Bool} {t : Tmp} (ho : ops[i]? = some o) (hd : o.dst = some d) (hk : okT n d = true) (hg : o.guard = some (j, want)) (hj : ops[j]? = some g) (ht : g.dst = some t) (hkt : okT n t = true) (h : IsChk n o d next f) :
    IsStep n ops (2 * i + 1) next (stGChk (opT (.tmp t)) want f next)
theorem opB_is {n : Nat} {o : Oper} {next : RegF} : ∃ f, IsOp n o next f ∧ ∀ {R : Type} (k : RegF → R), copB n (opC Tryz.prog o) (dstT o.dst) next k = k f := by
  rcases copB_eq n (opC Tryz.prog o) (dstT o.dst) next with ⟨h1, h2⟩ | h2
  · exact ⟨_, .inl ⟨h1, rfl⟩, h2⟩
  · exact ⟨_, .inr ⟨_, rfl⟩, h2⟩
theorem two_mul_div (i : Nat) (h : i % 2 = 0) : 2 * (i / 2) = i := by omega
theorem two_mul_div1 (i : Nat) (h : i % 2 = 1) : 2 * (i / 2) + 1 = i := by omega
theorem step_made (n : Nat) (ops : List Oper) (i : Nat) (next : RegF) : ∃ f, IsStep n ops i next f ∧ ∀ {R : Type} (k : RegF → R), stepB Tryz.prog n ops i next k = k f := by
  rcases nthB_eq ops (i / 2) with ⟨o, ho, e⟩ | ⟨_, e⟩
  · have e' : ∀ {R : Type} (k : RegF → R), stepB Tryz.prog n ops i next k = _ := fun k => e (k (stBad "step")) _
    rcases Nat.mod_two_eq_zero_or_one i with hi | hi
    · have hi2 := two_mul_div i hi
      rw [hi] at e'
      rcases dstB_eq n o.dst with ⟨hd, e2⟩ | e2
      · have e3 : ∀ {R : Type} (k : COp → R), opK Tryz.prog o k = k (opC Tryz.prog o) := (op_sound o).2
        cases hg : o.guard with
        | none =>
          obtain ⟨f, h1, h2⟩ := opB_is (n := n) (o := o) (next := next)
          rw [← hi2]
          refine ⟨f, .run ho hd hg h1, fun k => ?_⟩
          rw [hi2, e']
          simp only [e2, e3, hg, h2]
        | some p =>
          obtain ⟨j, want⟩ := p
          rcases nthB_eq ops j with ⟨g, hj, e4⟩ | ⟨_, e4⟩
          · cases ht : g.dst with
            | none => exact ⟨_, .bad "guard", fun k => by rw [e']; simp only [e2, e3, hg, fBB_eq, e4, ht]⟩
            | some t =>
              rcases opdB_eq n (.tmp t) with ⟨hk, e5⟩ | e5
              · obtain ⟨f, h1, h2⟩ := opB_is (n := n) (o := o) (next := next)
                rw [← hi2]
                refine ⟨_, .runG ho hd hg hj ht hk h1, fun k => ?_⟩
                rw [hi2, e']
                simp only [e2, e3, hg, fBB_eq, e4, ht, e5, h2]
              · exact ⟨_, .bad "guard", fun k => by rw [e']; simp only [e2, e3, hg, fBB_eq, e4, ht, e5]⟩
          · exact ⟨_, .bad "guard", fun k => by rw [e']; simp only [e2, e3, hg, fBB_eq, e4]⟩
      · exact ⟨_, .bad "dst", fun k => by rw [e']; simp only [e2]⟩
    · have hi2 := two_mul_div1 i hi
      rw [hi] at e'
      cases hd : o.dst with
      | none => exact ⟨_, .bad "chk", fun k => by rw [e']; simp only [hd]⟩
      | some d =>
        rcases opdB_eq n (.tmp d) with ⟨hk, e2⟩ | e2
        · have e3 : ∀ {R : Type} (k : COp → R), opK Tryz.prog o k = k (opC Tryz.prog o) := (op_sound o).2
          obtain ⟨f, h1, h2⟩ := chkB_eq n (opC Tryz.prog o) (opT (.tmp d)) next
          cases hg : o.guard with
          | none =>
            rw [← hi2]
            refine ⟨f, .chk ho hd hk hg h1, fun k => ?_⟩
            rw [hi2, e']
            simp only [hd, e2, e3, hg, h2]
          | some p =>
            obtain ⟨j, want⟩ := p
            rcases nthB_eq ops j with ⟨g, hj, e4⟩ | ⟨_, e4⟩
            · cases ht : g.dst with
              | none => exact ⟨_, .bad "guard", fun k => by rw [e']; simp only [hd, e2, e3, hg, fBB_eq, e4, ht]⟩
              | some t =>
                rcases opdB_eq n (.tmp t) with ⟨hkt, e5⟩ | e5
                · rw [← hi2]
                  refine ⟨_, .chkG ho hd hk hg hj ht hkt h1, fun k => ?_⟩
                  rw [hi2, e']
                  simp only [hd, e2, e3, hg, fBB_eq, e4, ht, e5, h2]
                · exact ⟨_, .bad "guard", fun k => by rw [e']; simp only [hd, e2, e3, hg, fBB_eq, e4, ht, e5]⟩
            · exact ⟨_, .bad "guard", fun k => by rw [e']; simp only [hd, e2, e3, hg, fBB_eq, e4]⟩
        · exact ⟨_, .bad "chk", fun k => by rw [e']; simp only [hd, e2]⟩
  · exact ⟨_, .bad "step", fun k => e _ _⟩
inductive IsSteps (n : Nat) (ops : List Oper) : List Nat → RegF → Prop
  | nil : IsSteps n ops [] stE
  | cons {i : Nat} {l : List Nat} {next f : RegF} (h : IsStep n ops i next f) (t : IsSteps n ops l next) : IsSteps n ops (i :: l) f
theorem steps_made (n : Nat) (ops : List Oper) (l : List Nat) : ∃ f, IsSteps n ops l f ∧ ∀ {R : Type} (k : RegF → R), stepsB Tryz.prog n ops l k = k f := by
  induction l with
  | nil => exact ⟨_, .nil, fun k => rfl⟩
  | cons i l ih =>
    obtain ⟨next, h1, h2⟩ := ih
    obtain ⟨f, h3, h4⟩ := step_made n ops i next
    refine ⟨f, .cons h3 h1, fun k => ?_⟩
    show stepsB Tryz.prog n ops l (fun next => stepB Tryz.prog n ops i next k) = _
    rw [h2, h4]
end Go.Proofs.YtpknalhjgbgpiaaGreatDoor
namespace Go.Proofs.YtpknalhjgbgpiaaGreatDoor
open Go Go.RowKit

/-- A result: tag, model, counter-model. -/
abbrev resVal (t : Int) (A A2 : Option Addr) (l c l2 c2 : Nat) : Value := .agg #[.int .i64 t, .int .i64 0, .int .i64 0, .slice A l c, .slice A2 l2 c2]
set_option maxRecDepth 100000 in
set_option maxHeartbeats 1000000 in
theorem rsame_any {w : World} {B : Nat → Prop} {t : Int} {A1 A2 A3 A4 : Option Addr} {c1 c2 c3 c4 : Nat} {M C : List ValP} (hB : ∀ b, B b → b < w.heap.size) (h1 : ValsAt w B A1 c1 M) (h2 : ValsAt w B A2 c2 M) (h3 : ValsAt w B A3 c3 C) (h4 : ValsAt w B A4 c4 C) :
    Calls Tryz.prog 5 #[resVal t A1 A3 M.length c1 C.length c3, resVal t A2 A4 M.length c2 C.length c4] w fun e w' => e = .returned (.bool true) ∧ Below w.heap.size w w' := by
  have HM : Hid (∀ W, Below w.heap.size w W → Calls Tryz.prog 12 #[.slice A1 M.length c1, .slice A2 M.length c2] W fun e w' => e = .returned (.bool true) ∧ ∃ n, w' = W.drewN n) :=
    Lib.hid (fun W hb => (vsame_any (h1.keep fun p hp => hb.cell (hB _ hp)) (h2.keep fun p hp => hb.cell (hB _ hp))).mono fun e w' he => ⟨by rw [he.1, decide_eq_true (show M = M from rfl)], he.2⟩)
  have HC : Hid (∀ W, Below w.heap.size w W → Calls Tryz.prog 12 #[.slice A3 C.length c3, .slice A4 C.length c4] W fun e w' => e = .returned (.bool true) ∧ ∃ n, w' = W.drewN n) :=
    Lib.hid (fun W hb => (vsame_any (h3.keep fun p hp => hb.cell (hB _ hp)) (h4.keep fun p hp => hb.cell (hB _ hp))).mono fun e w' he => ⟨by rw [he.1, decide_eq_true (show C = C from rfl)], he.2⟩)
  have HD : Hid (∀ (o o2 : Obj) (n : Nat), Below w.heap.size w (((w.alloc o).alloc o2).drewN n)) := Lib.hid (fun o o2 n => let h := (((Below.refl w.heap.size w).alloc (Nat.le_refl _) o).alloc (by simp) o2); ⟨h.os, h.tape, h.output, h.size, h.block⟩)
  have HD0 : Hid (∀ (o o2 : Obj), Below w.heap.size w ((w.alloc o).alloc o2)) := Lib.hid (fun o o2 => ((Below.refl _ _).alloc (Nat.le_refl _) _).alloc (by simp) _)
  clear h1 h2 h3 h4 hB
  generalize M.length = lm at *
  generalize C.length = lc at *
  have gt : (t == t) = true := by simp
  go_enter Tryz.func5, Tryz.ntmps5
  go_wp2_with (first
    | (go_at_call 12
       with_reducible refine (HM.out _ (HD0.out _ _)).mono ?_
       rintro e w2 ⟨rfl, n, rfl⟩)
    | (go_at_call 12
       with_reducible refine (HC.out _ (HD.out _ _ _)).mono ?_
       rintro e w3 ⟨rfl, n2, rfl⟩))
  go_ret
  exact ⟨rfl, HD.out _ _ _⟩
end Go.Proofs.YtpknalhjgbgpiaaGreatDoor
