/- Parts of the proof: Ev. -/
import Derived.Test.YtpknalhjgbgpiaaGreatDoorM0
import Derived.Test.YtpknalhjgbgpiaaGreatDoorProg
noncomputable section
namespace Go.Proofs.YtpknalhjgbgpiaaGreatDoor
open Go
inductive D4 | d0 | d1 | d2 | d3
structure N4 (α : Type) where
  a0 : α
  a1 : α
  a2 : α
  a3 : α
structure Q where
  x7 : D4
  x6 : D4
  x5 : D4
  x4 : D4
  x3 : D4
  x2 : D4
  x1 : D4
  x0 : D4
/-- The values that are laid in no other way; the fuel less what was spent. -/
inductive Oth | sym (off : Nat) | val (v : Value)
inductive A where
  | i (n : Int)
  | b (x : Bool)
  | p (q : Q) (off : Nat)
  | sl (q : Q) (off len es : Nat) (cap : Option Nat)
  | g (tu : Bool) (l : List A)
  | s (l : List Nat)
  | j (k : IntKind) (n : Int)
  | z (n : Nat)
  | m (q : Q)
  | f (fn : Fn) (first captured : List A)
  | t (t : TypeId) (v : A)
  | o (x : Oth)
instance : Inhabited A := ⟨.z 0⟩
inductive O where
  | none
  | cells (l : List A)
  | map (c : Nat) (es : List (Nat × A))
  | iter (l : List Nat) (pos : Nat)
abbrev H1 := N4 O
abbrev H2 := N4 H1
abbrev H3 := N4 H2
abbrev H4 := N4 H3
abbrev H5 := N4 H4
abbrev H6 := N4 H5
abbrev H7 := N4 H6
abbrev H8 := N4 H7
structure S where
  h : H8
  next : Q
  lo : Nat
  hi : Nat
abbrev KA := A → Bool
abbrev KS := A → S → Bool
def stk (_ : String) : Bool := false
def ifB (c : Bool) (x y : Bool) : Bool := Bool.rec y x c
-- forced
def fN (n : Nat) (k : Nat → Bool) : Bool := Nat.rec (motive := fun _ => (Nat → Bool) → Bool) (fun k => k 0) (fun m _ k => k (Nat.succ m)) n k
def fI (n : Int) (k : Int → Bool) : Bool := Int.rec (motive := fun _ => (Int → Bool) → Bool) (fun m k => fN m fun m => k (Int.ofNat m)) (fun m k => fN m fun m => k (Int.negSucc m)) n k
def fB (n : Bool) (k : Bool → Bool) : Bool := Bool.rec (motive := fun _ => (Bool → Bool) → Bool) (fun k => k false) (fun k => k true) n k
def undefA : A := .g true []

-- A number.
def asI (v : A) (k : Int → Bool) : Bool := A.rec (motive_1 := fun _ => (Int → Bool) → Bool) (motive_2 := fun _ => Unit) (fun n k => k n) (fun _ _ => false) (fun _ _ _ => false) (fun _ _ _ _ _ _ => false) (fun _ _ _ _ => false) (fun _ _ => false) (fun _ _ _ => false) (fun _ _ => false) (fun _ _ => false) (fun _ _ _ _ _ _ => false) (fun _ _ _ _ => false) (fun _ _ => false) () (fun _ _ _ _ => ()) v k
def asJ (v : A) (k : IntKind → Int → Bool) : Bool := A.rec (motive_1 := fun _ => (IntKind → Int → Bool) → Bool) (motive_2 := fun _ => Unit) (fun n k => k .i64 n) (fun _ _ => false) (fun _ _ _ => false) (fun _ _ _ _ _ _ => false) (fun _ _ _ _ => false) (fun _ _ => false) (fun a n k => k a n) (fun _ _ => false) (fun _ _ => false) (fun _ _ _ _ _ _ => false) (fun _ _ _ _ => false) (fun _ _ => false) () (fun _ _ _ _ => ()) v k
def asB (v : A) (k : Bool → Bool) : Bool := A.rec (motive_1 := fun _ => (Bool → Bool) → Bool) (motive_2 := fun _ => Unit) (fun _ _ => false) (fun x k => k x) (fun _ _ _ => false) (fun _ _ _ _ _ _ => false) (fun _ _ _ _ => false) (fun _ _ => false) (fun _ _ _ => false) (fun _ _ => false) (fun _ _ => false) (fun _ _ _ _ _ _ => false) (fun _ _ _ _ => false) (fun _ _ => false) () (fun _ _ _ _ => ()) v k
def asP (v : A) (k : Q → Nat → Bool) : Bool := A.rec (motive_1 := fun _ => (Q → Nat → Bool) → Bool) (motive_2 := fun _ => Unit) (fun _ _ => false) (fun _ _ => false) (fun q o k => k q o) (fun _ _ _ _ _ _ => false) (fun _ _ _ _ => false) (fun _ _ => false) (fun _ _ _ => false) (fun _ _ => false) (fun _ _ => false) (fun _ _ _ _ _ _ => false) (fun _ _ _ _ => false) (fun _ _ => false) () (fun _ _ _ _ => ()) v k
def asS (v : A) (k : List Nat → Bool) : Bool := A.rec (motive_1 := fun _ => (List Nat → Bool) → Bool) (motive_2 := fun _ => Unit) (fun _ _ => false) (fun _ _ => false) (fun _ _ _ => false) (fun _ _ _ _ _ _ => false) (fun _ _ _ _ => false) (fun l k => k l) (fun _ _ _ => false) (fun _ _ => false) (fun _ _ => false) (fun _ _ _ _ _ _ => false) (fun _ _ _ _ => false) (fun _ _ => false) () (fun _ _ _ _ => ()) v k
def asAg (v : A) (k : List A → Bool) : Bool := A.rec (motive_1 := fun _ => (List A → Bool) → Bool) (motive_2 := fun _ => Unit) (fun _ _ => false) (fun _ _ => false) (fun _ _ _ => false) (fun _ _ _ _ _ _ => false) (fun t l _ k => ifB t false (k l)) (fun _ _ => false) (fun _ _ _ => false) (fun _ _ => false) (fun _ _ => false) (fun _ _ _ _ _ _ => false) (fun _ _ _ _ => false) (fun _ _ => false) () (fun _ _ _ _ => ()) v k
def asTu (v : A) (k : List A → Bool) : Bool := A.rec (motive_1 := fun _ => (List A → Bool) → Bool) (motive_2 := fun _ => Unit) (fun _ _ => false) (fun _ _ => false) (fun _ _ _ => false) (fun _ _ _ _ _ _ => false) (fun t l _ k => ifB t (k l) false) (fun _ _ => false) (fun _ _ _ => false) (fun _ _ => false) (fun _ _ => false) (fun _ _ _ _ _ _ => false) (fun _ _ _ _ => false) (fun _ _ => false) () (fun _ _ _ _ => ()) v k
def asM (v : A) (k : Q → Bool) : Bool := A.rec (motive_1 := fun _ => (Q → Bool) → Bool) (motive_2 := fun _ => Unit) (fun _ _ => false) (fun _ _ => false) (fun _ _ _ => false) (fun _ _ _ _ _ _ => false) (fun _ _ _ _ => false) (fun _ _ => false) (fun _ _ _ => false) (fun _ _ => false) (fun q k => k q) (fun _ _ _ _ _ _ => false) (fun _ _ _ _ => false) (fun _ _ => false) () (fun _ _ _ _ => ()) v k
def asF (v : A) (k : Fn → List A → List A → Bool) : Bool := A.rec (motive_1 := fun _ => (Fn → List A → List A → Bool) → Bool) (motive_2 := fun _ => Unit) (fun _ _ => false) (fun _ _ => false) (fun _ _ _ => false) (fun _ _ _ _ _ _ => false) (fun _ _ _ _ => false) (fun _ _ => false) (fun _ _ _ => false) (fun _ _ => false) (fun _ _ => false) (fun f a b _ _ k => k f a b) (fun _ _ _ _ => false) (fun _ _ => false) () (fun _ _ _ _ => ()) v k
def asSl (v : A) (kn : Unit → Bool) (k : Q → Nat → Nat → Nat → Option Nat → Bool) : Bool := A.rec (motive_1 := fun _ => (Unit → Bool) → (Q → Nat → Nat → Nat → Option Nat → Bool) → Bool) (motive_2 := fun _ => Unit) (fun _ _ _ => false) (fun _ _ _ => false) (fun _ _ _ _ => false) (fun q o l e c _ k => k q o l e c) (fun _ _ _ _ _ => false) (fun _ _ _ => false) (fun _ _ _ _ => false) (fun n kn _ => ifB (Nat.beq n 1) (kn ()) false) (fun _ _ _ => false) (fun _ _ _ _ _ _ _ => false) (fun _ _ _ _ _ => false) (fun _ _ _ => false) () (fun _ _ _ _ => ()) v kn k
def asT (v : A) (kn : Unit → Bool) (k : TypeId → A → Bool) : Bool := A.rec (motive_1 := fun _ => (Unit → Bool) → (TypeId → A → Bool) → Bool) (motive_2 := fun _ => Unit) (fun _ _ _ => false) (fun _ _ _ => false) (fun _ _ _ _ => false) (fun _ _ _ _ _ _ _ => false) (fun _ _ _ _ _ => false) (fun _ _ _ => false) (fun _ _ _ _ => false) (fun n kn _ => ifB (Nat.beq n 4) (kn ()) false) (fun _ _ _ => false) (fun _ _ _ _ _ _ _ => false) (fun t v _ _ k => k t v) (fun _ _ _ => false) () (fun _ _ _ _ => ()) v kn k
def asML (v : A) (kn : Unit → Bool) (k : Q → Bool) : Bool := A.rec (motive_1 := fun _ => (Unit → Bool) → (Q → Bool) → Bool) (motive_2 := fun _ => Unit) (fun _ _ _ => false) (fun _ _ _ => false) (fun _ _ _ _ => false) (fun _ _ _ _ _ _ _ => false) (fun _ _ _ _ _ => false) (fun _ _ _ => false) (fun _ _ _ _ => false) (fun n kn _ => ifB (Nat.beq n 2) (kn ()) false) (fun q _ k => k q) (fun _ _ _ _ _ _ _ => false) (fun _ _ _ _ _ => false) (fun _ _ _ => false) () (fun _ _ _ _ => ()) v kn k
def isNilP (v : A) (k : Bool → Bool) : Bool := A.rec (motive_1 := fun _ => (Bool → Bool) → Bool) (motive_2 := fun _ => Unit) (fun _ _ => false) (fun _ _ => false) (fun _ _ k => k false) (fun _ _ _ _ _ _ => false) (fun _ _ _ _ => false) (fun _ _ => false) (fun _ _ _ => false) (fun n k => ifB (Nat.beq n 0) (k true) false) (fun _ _ => false) (fun _ _ _ _ _ _ => false) (fun _ _ _ _ => false) (fun _ _ => false) () (fun _ _ _ _ => ()) v k
def isNilS (v : A) (k : Bool → Bool) : Bool := A.rec (motive_1 := fun _ => (Bool → Bool) → Bool) (motive_2 := fun _ => Unit) (fun _ _ => false) (fun _ _ => false) (fun _ _ _ => false) (fun _ _ _ _ _ k => k false) (fun _ _ _ _ => false) (fun _ _ => false) (fun _ _ _ => false) (fun n k => ifB (Nat.beq n 1) (k true) false) (fun _ _ => false) (fun _ _ _ _ _ _ => false) (fun _ _ _ _ => false) (fun _ _ => false) () (fun _ _ _ _ => ()) v k
def asAdd (v : A) (ks : List Nat → Bool) (kn : Unit → Bool) (k : Q → Nat → Nat → Nat → Option Nat → Bool) : Bool := A.rec (motive_1 := fun _ => (List Nat → Bool) → (Unit → Bool) → (Q → Nat → Nat → Nat → Option Nat → Bool) → Bool) (motive_2 := fun _ => Unit) (fun _ _ _ _ => false) (fun _ _ _ _ => false) (fun _ _ _ _ _ => false) (fun q o l e c _ _ k => k q o l e c) (fun _ _ _ _ _ _ => false) (fun l ks _ _ => ks l) (fun _ _ _ _ _ => false) (fun n _ kn _ => ifB (Nat.beq n 1) (kn ()) false) (fun _ _ _ _ => false) (fun _ _ _ _ _ _ _ _ => false) (fun _ _ _ _ _ _ => false) (fun _ _ _ _ => false) () (fun _ _ _ _ => ()) v ks kn k
def oneA (v : A) : Bool := A.rec (motive_1 := fun _ => Bool) (motive_2 := fun _ => Unit) (fun _ => true) (fun _ => true) (fun _ _ => true) (fun _ _ _ _ _ => true) (fun _ _ _ => false) (fun _ => true) (fun _ _ => true) (fun _ => true) (fun _ => true) (fun _ _ _ _ _ => true) (fun _ _ _ => true) (fun _ => true) () (fun _ _ _ _ => ()) v
-- A value's cells.
def cellsK (v : A) (k : List A → Bool) : Bool := A.rec (motive_1 := fun _ => (List A → Bool) → Bool) (motive_2 := fun _ => Unit) (fun n k => k [.i n]) (fun x k => k [.b x]) (fun q o k => k [.p q o]) (fun q o l e c k => k [.sl q o l e c]) (fun t l _ k => Bool.rec (motive := fun _ => List A → (List A → Bool) → Bool) (fun l k => k l) (fun _ _ => false) t l k) (fun l k => k [.s l]) (fun a n k => k [.j a n]) (fun n k => k [.z n]) (fun q k => k [.m q]) (fun f a b _ _ k => k [.f f a b]) (fun t v _ k => k [.t t v]) (fun x k => k [.o x]) () (fun _ _ _ _ => ()) v k
def upI0 {α : Type} (n : N4 α) (g : α → (α → Bool) → Bool) (k : N4 α → Bool) : Bool := N4.rec (motive := fun _ => (α → (α → Bool) → Bool) → (N4 α → Bool) → Bool) (fun a0 a1 a2 a3 g k => g a0 fun x => k ⟨x, a1, a2, a3⟩) n g k
def upV0 {α : Type} (n : N4 α) (v : α) (k : N4 α → Bool) : Bool := N4.rec (motive := fun _ => α → (N4 α → Bool) → Bool) (fun _ a1 a2 a3 v k => k ⟨v, a1, a2, a3⟩) n v k
def upI1 {α : Type} (n : N4 α) (g : α → (α → Bool) → Bool) (k : N4 α → Bool) : Bool := N4.rec (motive := fun _ => (α → (α → Bool) → Bool) → (N4 α → Bool) → Bool) (fun a0 a1 a2 a3 g k => g a1 fun x => k ⟨a0, x, a2, a3⟩) n g k
def upV1 {α : Type} (n : N4 α) (v : α) (k : N4 α → Bool) : Bool := N4.rec (motive := fun _ => α → (N4 α → Bool) → Bool) (fun a0 _ a2 a3 v k => k ⟨a0, v, a2, a3⟩) n v k
def upI2 {α : Type} (n : N4 α) (g : α → (α → Bool) → Bool) (k : N4 α → Bool) : Bool := N4.rec (motive := fun _ => (α → (α → Bool) → Bool) → (N4 α → Bool) → Bool) (fun a0 a1 a2 a3 g k => g a2 fun x => k ⟨a0, a1, x, a3⟩) n g k
def upV2 {α : Type} (n : N4 α) (v : α) (k : N4 α → Bool) : Bool := N4.rec (motive := fun _ => α → (N4 α → Bool) → Bool) (fun a0 a1 _ a3 v k => k ⟨a0, a1, v, a3⟩) n v k
def upI3 {α : Type} (n : N4 α) (g : α → (α → Bool) → Bool) (k : N4 α → Bool) : Bool := N4.rec (motive := fun _ => (α → (α → Bool) → Bool) → (N4 α → Bool) → Bool) (fun a0 a1 a2 a3 g k => g a3 fun x => k ⟨a0, a1, a2, x⟩) n g k
def upV3 {α : Type} (n : N4 α) (v : α) (k : N4 α → Bool) : Bool := N4.rec (motive := fun _ => α → (N4 α → Bool) → Bool) (fun a0 a1 a2 _ v k => k ⟨a0, a1, a2, v⟩) n v k
def sel1 (d : D4) (n : H1) : O := D4.rec (motive := fun _ => H1 → O) (N4.a0 (α := O)) (N4.a1 (α := O)) (N4.a2 (α := O)) (N4.a3 (α := O)) d n
def upd1 (d : D4) (n : H1) (g : O → (O → Bool) → Bool) (k : H1 → Bool) : Bool := D4.rec (motive := fun _ => H1 → (O → (O → Bool) → Bool) → (H1 → Bool) → Bool) (upI0 (α := O)) (upI1 (α := O)) (upI2 (α := O)) (upI3 (α := O)) d n g k
def sel2 (d : D4) (n : H2) : H1 := D4.rec (motive := fun _ => H2 → H1) (N4.a0 (α := H1)) (N4.a1 (α := H1)) (N4.a2 (α := H1)) (N4.a3 (α := H1)) d n
def upd2 (d : D4) (n : H2) (g : H1 → (H1 → Bool) → Bool) (k : H2 → Bool) : Bool := D4.rec (motive := fun _ => H2 → (H1 → (H1 → Bool) → Bool) → (H2 → Bool) → Bool) (upI0 (α := H1)) (upI1 (α := H1)) (upI2 (α := H1)) (upI3 (α := H1)) d n g k
def sel3 (d : D4) (n : H3) : H2 := D4.rec (motive := fun _ => H3 → H2) (N4.a0 (α := H2)) (N4.a1 (α := H2)) (N4.a2 (α := H2)) (N4.a3 (α := H2)) d n
def upd3 (d : D4) (n : H3) (g : H2 → (H2 → Bool) → Bool) (k : H3 → Bool) : Bool := D4.rec (motive := fun _ => H3 → (H2 → (H2 → Bool) → Bool) → (H3 → Bool) → Bool) (upI0 (α := H2)) (upI1 (α := H2)) (upI2 (α := H2)) (upI3 (α := H2)) d n g k
def sel4 (d : D4) (n : H4) : H3 := D4.rec (motive := fun _ => H4 → H3) (N4.a0 (α := H3)) (N4.a1 (α := H3)) (N4.a2 (α := H3)) (N4.a3 (α := H3)) d n
def upd4 (d : D4) (n : H4) (g : H3 → (H3 → Bool) → Bool) (k : H4 → Bool) : Bool := D4.rec (motive := fun _ => H4 → (H3 → (H3 → Bool) → Bool) → (H4 → Bool) → Bool) (upI0 (α := H3)) (upI1 (α := H3)) (upI2 (α := H3)) (upI3 (α := H3)) d n g k
def sel5 (d : D4) (n : H5) : H4 := D4.rec (motive := fun _ => H5 → H4) (N4.a0 (α := H4)) (N4.a1 (α := H4)) (N4.a2 (α := H4)) (N4.a3 (α := H4)) d n
def upd5 (d : D4) (n : H5) (g : H4 → (H4 → Bool) → Bool) (k : H5 → Bool) : Bool := D4.rec (motive := fun _ => H5 → (H4 → (H4 → Bool) → Bool) → (H5 → Bool) → Bool) (upI0 (α := H4)) (upI1 (α := H4)) (upI2 (α := H4)) (upI3 (α := H4)) d n g k
def sel6 (d : D4) (n : H6) : H5 := D4.rec (motive := fun _ => H6 → H5) (N4.a0 (α := H5)) (N4.a1 (α := H5)) (N4.a2 (α := H5)) (N4.a3 (α := H5)) d n
def upd6 (d : D4) (n : H6) (g : H5 → (H5 → Bool) → Bool) (k : H6 → Bool) : Bool := D4.rec (motive := fun _ => H6 → (H5 → (H5 → Bool) → Bool) → (H6 → Bool) → Bool) (upI0 (α := H5)) (upI1 (α := H5)) (upI2 (α := H5)) (upI3 (α := H5)) d n g k
def sel7 (d : D4) (n : H7) : H6 := D4.rec (motive := fun _ => H7 → H6) (N4.a0 (α := H6)) (N4.a1 (α := H6)) (N4.a2 (α := H6)) (N4.a3 (α := H6)) d n
def upd7 (d : D4) (n : H7) (g : H6 → (H6 → Bool) → Bool) (k : H7 → Bool) : Bool := D4.rec (motive := fun _ => H7 → (H6 → (H6 → Bool) → Bool) → (H7 → Bool) → Bool) (upI0 (α := H6)) (upI1 (α := H6)) (upI2 (α := H6)) (upI3 (α := H6)) d n g k
def sel8 (d : D4) (n : H8) : H7 := D4.rec (motive := fun _ => H8 → H7) (N4.a0 (α := H7)) (N4.a1 (α := H7)) (N4.a2 (α := H7)) (N4.a3 (α := H7)) d n
def upd8 (d : D4) (n : H8) (g : H7 → (H7 → Bool) → Bool) (k : H8 → Bool) : Bool := D4.rec (motive := fun _ => H8 → (H7 → (H7 → Bool) → Bool) → (H8 → Bool) → Bool) (upI0 (α := H7)) (upI1 (α := H7)) (upI2 (α := H7)) (upI3 (α := H7)) d n g k
def updO (d : D4) (n : H1) (v : O) (k : H1 → Bool) : Bool := D4.rec (motive := fun _ => H1 → O → (H1 → Bool) → Bool) (upV0 (α := O)) (upV1 (α := O)) (upV2 (α := O)) (upV3 (α := O)) d n v k
def getO (q : Q) (h : H8) : O := sel1 q.x0 (sel2 q.x1 (sel3 q.x2 (sel4 q.x3 (sel5 q.x4 (sel6 q.x5 (sel7 q.x6 (sel8 q.x7 h)))))))
def setO (q : Q) (h : H8) (v : O) (k : H8 → Bool) : Bool := upd8 q.x7 h (fun h k => upd7 q.x6 h (fun h k => upd6 q.x5 h (fun h k => upd5 q.x4 h (fun h k => upd4 q.x3 h (fun h k => upd3 q.x2 h (fun h k => upd2 q.x1 h (fun h k => updO q.x0 h v k) k) k) k) k) k) k) k
def sucD (d : D4) (kc : Unit → Bool) (k : D4 → Bool) : Bool := D4.rec (motive := fun _ => (Unit → Bool) → (D4 → Bool) → Bool) (fun _ k => k .d1) (fun _ k => k .d2) (fun _ k => k .d3) (fun kc _ => kc ()) d kc k
def sucQ (q : Q) (k : Q → Bool) : Bool := sucD q.x0 (fun _ => sucD q.x1 (fun _ => sucD q.x2 (fun _ => sucD q.x3 (fun _ => sucD q.x4 (fun _ => sucD q.x5 (fun _ => sucD q.x6 (fun _ => sucD q.x7 (fun _ => stk "memory") fun d => k ⟨d, .d0, .d0, .d0, .d0, .d0, .d0, .d0⟩) fun d => k ⟨q.x7, d, .d0, .d0, .d0, .d0, .d0, .d0⟩) fun d => k ⟨q.x7, q.x6, d, .d0, .d0, .d0, .d0, .d0⟩) fun d => k ⟨q.x7, q.x6, q.x5, d, .d0, .d0, .d0, .d0⟩) fun d => k ⟨q.x7, q.x6, q.x5, q.x4, d, .d0, .d0, .d0⟩) fun d => k ⟨q.x7, q.x6, q.x5, q.x4, q.x3, d, .d0, .d0⟩) fun d => k ⟨q.x7, q.x6, q.x5, q.x4, q.x3, q.x2, d, .d0⟩) fun d => k ⟨q.x7, q.x6, q.x5, q.x4, q.x3, q.x2, q.x1, d⟩
def dno (d : D4) : Nat := D4.rec 0 1 2 3 d
def numOf (q : Q) : Nat := Nat.add (dno q.x0) (Nat.mul 4 (Nat.add (dno q.x1) (Nat.mul 4 (Nat.add (dno q.x2) (Nat.mul 4 (Nat.add (dno q.x3) (Nat.mul 4 (Nat.add (dno q.x4) (Nat.mul 4 (Nat.add (dno q.x5) (Nat.mul 4 (Nat.add (dno q.x6) (Nat.mul 4 (dno q.x7))))))))))))))
def eqQ (a b : Q) : Bool := Nat.beq (numOf a) (numOf b)
def digs : List D4 := [.d0, .d1, .d2, .d3]
def digN (n : Nat) : D4 := digs.getD (n % 4) .d0
def numQ (n : Nat) : Q := ⟨digN (n / 16384), digN (n / 4096), digN (n / 1024), digN (n / 256), digN (n / 64), digN (n / 16), digN (n / 4), digN n⟩
def n4 {α : Type} (x : α) : N4 α := ⟨x, x, x, x⟩
def heap0 : H8 := n4 (n4 (n4 (n4 (n4 (n4 (n4 (n4 O.none)))))))

-- lists
def nthK (l : List A) (n : Nat) (k : KA) : Bool := List.rec (motive := fun _ => Nat → KA → Bool) (fun _ _ => false) (fun x _ ih n k => Nat.rec (motive := fun _ => A → (Nat → KA → Bool) → KA → Bool) (fun x _ k => k x) (fun m _ _ ih k => ih m k) n x ih k) l n k
def setK (l : List A) (n : Nat) (v : A) (k : List A → Bool) : Bool := List.rec (motive := fun _ => Nat → A → (List A → Bool) → Bool) (fun _ _ _ => false) (fun x r ih n v k => Nat.rec (motive := fun _ => A → List A → (Nat → A → (List A → Bool) → Bool) → A → (List A → Bool) → Bool) (fun _ r _ v k => k (v :: r)) (fun m _ x _ ih v k => ih m v fun r => k (x :: r)) n x r ih v k) l n v k
-- So many of a list, all there.
def takeK (n : Nat) (l : List A) (k : List A → Bool) : Bool := Nat.rec (motive := fun _ => List A → (List A → Bool) → Bool) (fun _ k => k []) (fun _ ih l k => List.rec (motive := fun _ => (List A → (List A → Bool) → Bool) → (List A → Bool) → Bool) (fun _ _ => false) (fun x r _ ih k => ih r fun r => k (x :: r)) l ih k) n l k
def dropK (n : Nat) (l : List A) (k : List A → Bool) : Bool := Nat.rec (motive := fun _ => List A → (List A → Bool) → Bool) (fun l k => k l) (fun _ ih l k => List.rec (motive := fun _ => (List A → (List A → Bool) → Bool) → (List A → Bool) → Bool) (fun _ _ => false) (fun _ r _ ih k => ih r k) l ih k) n l k
-- Some in the places of those that stand at the front.
def overK (v : List A) (l : List A) (k : List A → Bool) : Bool := List.rec (motive := fun _ => List A → (List A → Bool) → Bool) (fun l k => k l) (fun x _ ih l k => List.rec (motive := fun _ => A → (List A → (List A → Bool) → Bool) → (List A → Bool) → Bool) (fun _ _ _ => false) (fun _ r _ x ih k => ih r fun r => k (x :: r)) l x ih k) v l k
-- .. from a place on.
def putK (v : List A) (n : Nat) (l : List A) (k : List A → Bool) : Bool := Nat.rec (motive := fun _ => List A → List A → (List A → Bool) → Bool) (fun v l k => overK v l k) (fun _ ih v l k => List.rec (motive := fun _ => (List A → List A → (List A → Bool) → Bool) → List A → (List A → Bool) → Bool) (fun _ _ _ => false) (fun x r _ ih v k => ih v r fun r => k (x :: r)) l ih v k) n v l k
def appK (v : List A) (l : List A) (k : List A → Bool) : Bool := List.rec (motive := fun _ => List A → (List A → Bool) → Bool) (fun l k => k l) (fun x _ ih l k => ih l fun r => k (x :: r)) v l k
def lenK (l : List A) (k : Nat → Bool) : Bool := List.rec (motive := fun _ => (Nat → Bool) → Bool) (fun k => k 0) (fun _ _ ih k => ih fun n => fN (Nat.succ n) k) l k
def lenN (l : List Nat) (k : Nat → Bool) : Bool := List.rec (motive := fun _ => (Nat → Bool) → Bool) (fun k => k 0) (fun _ _ ih k => ih fun n => fN (Nat.succ n) k) l k
def repK (n : Nat) (z : List A) (k : List A → Bool) : Bool := Nat.rec (motive := fun _ => List A → (List A → Bool) → Bool) (fun _ k => k []) (fun _ ih z k => ih z fun r => appK z r k) n z k
def eqLN (l : List Nat) (m : List Nat) : Bool := List.rec (motive := fun _ => List Nat → Bool) (fun m => List.rec true (fun _ _ _ => false) m) (fun x _ ih m => List.rec (motive := fun _ => Nat → (List Nat → Bool) → Bool) (fun _ _ => false) (fun y r _ x ih => Bool.rec (motive := fun _ => (List Nat → Bool) → List Nat → Bool) (fun _ _ => false) (fun ih r => ih r) (Nat.beq x y) ih r) m x ih) l m
def appN (v : List Nat) (l : List Nat) (k : List Nat → Bool) : Bool := List.rec (motive := fun _ => List Nat → (List Nat → Bool) → Bool) (fun l k => k l) (fun x _ ih l k => ih l fun r => k (x :: r)) v l k
def dropN (n : Nat) (l : List Nat) (k : List Nat → Bool) : Bool := Nat.rec (motive := fun _ => List Nat → (List Nat → Bool) → Bool) (fun l k => k l) (fun _ ih l k => List.rec (motive := fun _ => (List Nat → (List Nat → Bool) → Bool) → (List Nat → Bool) → Bool) (fun _ _ => false) (fun _ r _ ih k => ih r k) l ih k) n l k
def takeN (n : Nat) (l : List Nat) (k : List Nat → Bool) : Bool := Nat.rec (motive := fun _ => List Nat → (List Nat → Bool) → Bool) (fun _ k => k []) (fun _ ih l k => List.rec (motive := fun _ => (List Nat → (List Nat → Bool) → Bool) → (List Nat → Bool) → Bool) (fun _ _ => false) (fun x r _ ih k => ih r fun r => k (x :: r)) l ih k) n l k
def headN (l : List Nat) (k : Nat → Bool) : Bool := List.rec (motive := fun _ => (Nat → Bool) → Bool) (fun _ => false) (fun x _ _ k => k x) l k
def ltLN (l : List Nat) (m : List Nat) : Bool := List.rec (motive := fun _ => List Nat → Bool) (fun m => List.rec false (fun _ _ _ => true) m) (fun x _ ih m => List.rec (motive := fun _ => Nat → (List Nat → Bool) → Bool) (fun _ _ => false) (fun y r _ x ih => ifB (Nat.blt x y) true (ifB (Nat.beq x y) (ih r) false)) m x ih) l m
def bytesA (l : List Nat) (k : List A → Bool) : Bool := List.rec (motive := fun _ => (List A → Bool) → Bool) (fun k => k []) (fun x _ ih k => ih fun r => k (.j .u8 (Int.ofNat x) :: r)) l k
-- numbers
def natI (x : Int) (k : Nat → Bool) : Bool := Int.rec (motive := fun _ => (Nat → Bool) → Bool) (fun a k => k a) (fun _ _ => false) x k
def ltI (x y : Int) : Bool := Int.rec (motive := fun _ => Int → Bool) (fun a y => Int.rec (motive := fun _ => Nat → Bool) (fun b a => Nat.blt a b) (fun _ _ => false) y a) (fun a y => Int.rec (motive := fun _ => Nat → Bool) (fun _ _ => true) (fun b a => Nat.blt b a) y a) x y
def eqI (x y : Int) : Bool := Int.rec (motive := fun _ => Int → Bool) (fun a y => Int.rec (motive := fun _ => Nat → Bool) (fun b a => Nat.beq a b) (fun _ _ => false) y a) (fun a y => Int.rec (motive := fun _ => Nat → Bool) (fun _ _ => false) (fun b a => Nat.beq a b) y a) x y
-- A number of 64 bits, or stuck.
def mk64 (x : Int) (c : KA) : Bool := Int.rec (motive := fun _ => KA → Bool) (fun a c => fN a fun a => ifB (Nat.ble a 9223372036854775807) (c (.i (Int.ofNat a))) false) (fun a c => fN a fun a => ifB (Nat.ble a 9223372036854775807) (c (.i (Int.negSucc a))) false) x c
def addI (x y : Int) : Int := Int.rec (motive := fun _ => Int → Int) (fun a y => Int.rec (motive := fun _ => Nat → Int) (fun b a => Int.ofNat (Nat.add a b)) (fun b a => Int.subNatNat a (Nat.succ b)) y a) (fun a y => Int.rec (motive := fun _ => Nat → Int) (fun b a => Int.subNatNat b (Nat.succ a)) (fun b a => Int.negSucc (Nat.succ (Nat.add a b))) y a) x y
def negI (x : Int) : Int := Int.rec (fun a => Int.negOfNat a) (fun a => Int.ofNat (Nat.succ a)) x
def subI (x y : Int) : Int := addI x (negI y)
def kno (k : IntKind) : Nat := IntKind.rec 0 1 2 3 4 5 6 7 k
def kEq (a b : IntKind) : Bool := Nat.beq (kno a) (kno b)
def eqFn (a b : Fn) : Bool := Fn.rec (motive := fun _ => Fn → Bool) (fun f b => Fn.rec (motive := fun _ => Nat → Bool) (fun g f => Nat.beq f g) (fun _ _ => false) (fun _ _ _ => false) (fun _ _ _ _ _ => false) (fun _ _ => false) b f) (fun _ _ => false) (fun _ _ _ => false) (fun _ _ _ _ _ => false) (fun _ _ => false) a b
def asZ (v : A) (k : Nat → Bool) : Bool := A.rec (motive_1 := fun _ => (Nat → Bool) → Bool) (motive_2 := fun _ => Unit) (fun _ _ => false) (fun _ _ => false) (fun _ _ _ => false) (fun _ _ _ _ _ _ => false) (fun _ _ _ _ => false) (fun _ _ => false) (fun _ _ _ => false) (fun n k => k n) (fun _ _ => false) (fun _ _ _ _ _ _ => false) (fun _ _ _ _ => false) (fun _ _ => false) () (fun _ _ _ _ => ()) v k
def eqTag (b : Bool) (v : A) (k : List A → Bool) : Bool := A.rec (motive_1 := fun _ => Bool → (List A → Bool) → Bool) (motive_2 := fun _ => Unit) (fun _ _ _ => false) (fun _ _ _ => false) (fun _ _ _ _ => false) (fun _ _ _ _ _ _ _ => false) (fun t l _ b k => Bool.rec (motive := fun _ => Bool → List A → (List A → Bool) → Bool) (fun t l k => Bool.rec (k l) false t) (fun t l k => Bool.rec false (k l) t) b t l k) (fun _ _ _ => false) (fun _ _ _ _ => false) (fun _ _ _ => false) (fun _ _ _ => false) (fun _ _ _ _ _ _ _ => false) (fun _ _ _ _ _ => false) (fun _ _ _ => false) () (fun _ _ _ _ => ()) v b k
-- values are the same
def eqA (v : A) (w : A) : Bool := A.rec (motive_1 := fun _ => A → Bool) (motive_2 := fun _ => List A → Bool) (fun n w => asI w fun m => eqI n m) (fun x w => asB w fun y => Bool.rec (Bool.rec true false y) y x) (fun q o w => asP w fun r u => ifB (Nat.beq o u) (eqQ q r) false) (fun q o l e c w => asSl w (fun _ => false) fun q' o' l' e' c' => ifB (Nat.beq o o') (ifB (Nat.beq l l') (ifB (Nat.beq e e') (ifB (eqQ q q') (Option.rec (Option.rec true (fun _ => false) c') (fun n => Option.rec false (fun m => Nat.beq n m) c') c) false) false) false) false) (fun t _ ih w => eqTag t w fun m => ih m) (fun l w => asS w fun m => eqLN l m) (fun a n w => ifB (kEq a .i64) false (asJ w fun b m => ifB (kEq a b) (eqI n m) false)) (fun n w => asZ w fun m => Nat.beq n m) (fun q w => asM w fun r => eqQ q r) (fun fn _ _ iha ihb w => asF w fun fn' a b => ifB (eqFn fn fn') (ifB (iha a) (ihb b) false) false) (fun t _ ih w => asT w (fun _ => false) fun u x => ifB (Nat.beq t u) (ih x) false) (fun _ _ => false) (fun m => List.rec true (fun _ _ _ => false) m) (fun _ _ ih ihl m => List.rec false (fun y r _ => ifB (ih y) (ihl r) false) m) v w
-- maps
-- What stands by a key.
def findK (es : List (Nat × A)) (x : Nat) (kn : Unit → Bool) (k : KA) : Bool := List.rec (motive := fun _ => Nat → (Unit → Bool) → KA → Bool) (fun _ kn _ => kn ()) (fun e _ ih x kn k => ifB (Nat.beq x e.1) (k e.2) (ih x kn k)) es x kn k
-- A map's entries and a new one; stuck, if there is one of this key.
def layK (es : List (Nat × A)) (x : Nat) (v : A) (k : List (Nat × A) → Bool) : Bool := List.rec (motive := fun _ => Nat → A → (List (Nat × A) → Bool) → Bool) (fun x v k => k [(x, v)]) (fun e _ ih x v k => ifB (Nat.beq x e.1) false (ih x v fun r => k (e :: r))) es x v k
def lenM (l : List (Nat × A)) (k : Nat → Bool) : Bool := List.rec (motive := fun _ => (Nat → Bool) → Bool) (fun k => k 0) (fun _ _ ih k => ih fun n => fN (Nat.succ n) k) l k
def codeS (l : List Nat) (c : Nat) (k : Nat → Bool) : Bool := List.rec (motive := fun _ => Nat → (Nat → Bool) → Bool) (fun c k => fN c k) (fun x _ ih c k => ih (Nat.add x (Nat.mul 256 c)) k) l c k
end Go.Proofs.YtpknalhjgbgpiaaGreatDoor
namespace Go.Proofs.YtpknalhjgbgpiaaGreatDoor
open Go
-- what operations do
abbrev G1 := A → KA → Bool
abbrev G2 := A → A → KA → Bool
abbrev GL := List A → KA → Bool
abbrev R1 := S → A → KA → Bool
abbrev R2 := S → A → A → KA → Bool
abbrev GS := List A → (O → (Q → A) → Bool) → Bool
abbrev Rec := FuncId → List A → S → KS → Bool
abbrev GC := Rec → S → List A → KS → Bool

def list1 (l : List A) (k : A → Bool) : Bool := match l with
  | [x] => k x
  | _ => stk "list1"
def list2 (l : List A) (k : A → A → Bool) : Bool := match l with
  | [x, y] => k x y
  | _ => stk "list2"
def list3 (l : List A) (k : A → A → A → Bool) : Bool := match l with
  | [x, y, z] => k x y z
  | _ => stk "list3"
-- numbers of 64 bits
def g64 (g : Int → Int → Int) : G2 := fun x y c => asI x fun a => asI y fun b => mk64 (g a b) c
def gcmp (g : Int → Int → Bool) : G2 := fun x y c => asI x fun a => asI y fun b => fB (g a b) fun z => c (.b z)
def gquo : G2 := fun x y c => asI x fun a => asI y fun b => natI a fun a => natI b fun b => ifB (Nat.ble 1 b) (mk64 (Int.ofNat (Nat.div a b)) c) (stk "quo")
def grem : G2 := fun x y c => asI x fun a => asI y fun b => natI a fun a => natI b fun b => ifB (Nat.ble 1 b) (mk64 (Int.ofNat (Nat.mod a b)) c) (stk "rem")
def max64 : Nat := 9223372036854775807
def gbit (g : Nat → Nat → Nat) : G2 := fun x y c => asI x fun a => asI y fun b => natI a fun a => natI b fun b => ifB (ifB (Nat.ble a max64) (Nat.ble b max64) false) (fN (g a b) fun z => c (.i (Int.ofNat z))) (stk "bits")
def gshl : G2 := fun x y c => asI x fun a => asJ y fun _ b => natI a fun a => natI b fun b => ifB (Nat.blt b 64) (mk64 (Int.ofNat (Nat.mul a (Nat.pow 2 b))) c) (stk "shl")
def gshr : G2 := fun x y c => asI x fun a => asJ y fun _ b => natI a fun a => natI b fun b => ifB (Nat.blt b 64) (fN (Nat.div a (Nat.pow 2 b)) fun z => c (.i (Int.ofNat z))) (stk "shr")
-- numbers of other kinds
def mkJ (k : IntKind) (z : Int) (c : KA) : Bool := fI (k.wrap z) fun z => c (.j k z)
def j2 (x y : A) (c : IntKind → Int → Int → Bool) : Bool := asJ x fun k a => asJ y fun l b => ifB (kEq k l) (c k a b) (stk "kinds")
def gjcmp (g : Int → Int → Bool) : G2 := fun x y c => j2 x y fun _ a b => fB (g a b) fun z => c (.b z)
def gjsub : G2 := fun x y c => j2 x y fun k a b => mkJ k (subI a b) c
-- texts, truths, rows, nil
def gstr (g : List Nat → List Nat → Bool) : G2 := fun x y c => asS x fun a => asS y fun b => fB (g a b) fun z => c (.b z)
def gcat : G2 := fun x y c => asS x fun a => asS y fun b => appN a b fun z => lenN z fun n => ifB (Nat.ble n 1000000) (c (.s z)) (stk "a long text")
def eqB (a b : Bool) : Bool := ifB a b (ifB b false true)
def notB (a : Bool) : Bool := ifB a false true
def gbool (n : Bool) : G2 := fun x y c => asB x fun a => asB y fun b => fB (eqB (eqB a b) (notB n)) fun z => c (.b z)
/-- Two rows of two numbers. -/
def gagg : G2 := fun x y c => asAg x fun l => asAg y fun m => list2 l fun a b => list2 m fun d e => asI a fun a => asI b fun b => asI d fun d => asI e fun e => fB (ifB (eqI a d) (eqI b e) false) fun z => c (.b z)
/-- One of both is nil. -/
def gnilP (n : Bool) : G2 := fun x y c => isNilP x fun a => isNilP y fun b => ifB (ifB a true b) (fB (eqB (ifB a b false) (notB n)) fun z => c (.b z)) (stk "eq of addresses")
def gnilS (n : Bool) : G2 := fun x y c => isNilS x fun a => isNilS y fun b => ifB (ifB a true b) (fB (eqB (ifB a b false) (notB n)) fun z => c (.b z)) (stk "eq of slices")
def gnot : G1 := fun x c => asB x fun a => fB (notB a) fun z => c (.b z)
def gpick : GL := fun l c => list3 l fun t a b => asB t fun t => ifB t (c a) (c b)
def gnilCheck : G1 := fun x c => asP x fun r o => c (.p r o)
def gfieldAddr (off : Nat) : G1 := fun x c => asP x fun r o => fN (Nat.add o off) fun o => c (.p r o)
def gindexSl (sz : Nat) : G2 := fun x i c => asSl x (fun _ => stk "index of nil") fun r o l e _ => asJ i fun _ n => natI n fun n => ifB (ifB (Nat.blt n l) (Nat.beq e sz) false) (fN (Nat.add o (Nat.mul n sz)) fun o => c (.p r o)) (stk "index")
def gindexAr (len sz : Nat) : G2 := fun x i c => asP x fun r o => asJ i fun _ n => natI n fun n => ifB (Nat.blt n len) (fN (Nat.add o (Nat.mul n sz)) fun o => c (.p r o)) (stk "index")
/-- A part of a row of cells. -/
def part1 (off : Nat) (l : List A) (c : KA) : Bool := nthK l off c
def partN (sz off : Nat) (l : List A) (c : KA) : Bool := dropK off l fun l => takeK sz l fun l => c (.g false l)
def gfield1 (off : Nat) : G1 := fun v c => asAg v fun l => part1 off l c
def gfieldN (sz off : Nat) : G1 := fun v c => asAg v fun l => partN sz off l c
def gindexS : G2 := fun x i c => asS x fun l => asJ i fun _ n => natI n fun n => dropN n l fun l => headN l fun b => c (.j .u8 (Int.ofNat b))
def gindex1 (len : Nat) : G2 := fun x i c => asAg x fun l => asJ i fun _ m => natI m fun m => ifB (Nat.blt m len) (part1 m l c) (stk "index")
def gextract (ix : Nat) : G1 := fun x c => asTu x fun l => nthK l ix c
def giface (t : TypeId) : G1 := fun x c => c (.t t x)
def gassert (t : TypeId) : G1 := fun x c => asT x (fun _ => stk "assert") fun u v => ifB (Nat.beq u t) (c v) (stk "assert")
def gassertOk (t : TypeId) (zero : A) : G1 := fun x c => asT x (fun _ => c (.g true [zero, .b false])) fun u v => ifB (Nat.beq u t) (c (.g true [v, .b true])) (c (.g true [zero, .b false]))
def gfunc (fn : Fn) (n : Nat) : GL := fun l c => takeK n l fun a => dropK n l fun b => c (.f fn a b)
/-- Parts laid into a row of cells. -/
def partsK (ps : List (Nat × Nat)) (xs z : List A) (k : List A → Bool) : Bool := List.rec (motive := fun _ => List A → List A → (List A → Bool) → Bool) (fun _ z k => k z) (fun p _ ih xs z k => List.rec (motive := fun _ => Nat × Nat → (List A → List A → (List A → Bool) → Bool) → List A → (List A → Bool) → Bool) (fun _ _ _ _ => false) (fun x xs _ p ih z k => cellsK x fun v => lenK v fun n => ifB (Nat.beq n p.2) (putK v p.1 z fun z => ih xs z k) false) xs p ih z k) ps xs z k
def gbuild (ps : List (Nat × Nat)) (zero : List A) : GL := fun l c => partsK ps l zero fun l => c (.g false l)
def glenS : G1 := fun x c => asS x fun l => lenN l fun n => c (.i (Int.ofNat n))
def glenSl : G1 := fun x c => asSl x (fun _ => c (.i 0)) fun _ _ l _ _ => c (.i (Int.ofNat l))
def glenAr (n : Nat) : G1 := fun _ c => c (.i (Int.ofNat n))
def gmax : GL := fun l c => list2 l fun x y => asI x fun a => asI y fun b => ifB (ltI a b) (c (.i b)) (c (.i a))
def gmin : GL := fun l c => list2 l fun x y => asI x fun a => asI y fun b => ifB (ltI b a) (c (.i b)) (c (.i a))
def gconvI (k : IntKind) : G1 := fun x c => asJ x fun _ n => mkJ k n c
def gconv64 : G1 := fun x c => asJ x fun _ n => mk64 n c
def gsame : G1 := fun x c => c x
def optN (o : Option Nat) (kn : Unit → Bool) (k : Nat → Bool) : Bool := Option.rec (motive := fun _ => (Unit → Bool) → (Nat → Bool) → Bool) (fun kn _ => kn ()) (fun n _ k => k n) o kn k
def optA (o : Option A) (kn : Unit → Bool) (k : A → Bool) : Bool := Option.rec (motive := fun _ => (Unit → Bool) → (A → Bool) → Bool) (fun kn _ => kn ()) (fun n _ k => k n) o kn k
/-- Maybe a number, else another one. -/
def boundK (x : Option A) (d : Nat) (k : Nat → Bool) : Bool := optA x (fun _ => k d) fun v => asI v fun n => natI n k
def gsliceS (l? h? m? : Option A) (x : A) (c : KA) : Bool := optA m? (fun _ => asS x fun s => lenN s fun n => boundK h? n fun h => boundK l? 0 fun lw => ifB (ifB (Nat.ble h n) (Nat.ble lw h) false) (dropN lw s fun s => takeN (Nat.sub h lw) s fun s => c (.s s)) (stk "slice")) fun _ => stk "slice of a text"
def mkSl (q : Q) (o n es : Nat) (cap : Option Nat) (c : KA) : Bool := fN o fun o => fN n fun n => optN cap (fun _ => c (.sl q o n es none)) fun m => fN m fun m => c (.sl q o n es (some m))
/-- 'x[l:h:m]' of a slice whose capacity is known, is not known. -/
def gsliceC (q : Q) (o len es cap : Nat) (l? h? m? : Option A) (c : KA) : Bool := boundK m? cap fun m => boundK h? len fun h => boundK l? 0 fun lw =>
  ifB (ifB (Nat.ble h m) (ifB (Nat.ble m cap) (Nat.ble lw h) false) false) (ifB (Nat.beq m lw) (mkSl q o (Nat.sub h lw) es (some 0) c) (mkSl q (Nat.add o (Nat.mul lw es)) (Nat.sub h lw) es (some (Nat.sub m lw)) c)) (stk "slice")
def gsliceO (q : Q) (o len es : Nat) (l? h? m? : Option A) (c : KA) : Bool := boundK h? len fun h => boundK l? 0 fun lw =>
  ifB (ifB (Nat.ble h len) (ifB (Nat.ble lw h) (ifB (Nat.blt lw len) true (Nat.beq lw 0)) false) false) (optA m? (fun _ => mkSl q (Nat.add o (Nat.mul lw es)) (Nat.sub h lw) es none c) fun m => asI m fun m => natI m fun m => ifB (ifB (Nat.ble h m) (ifB (Nat.ble m len) (ifB (Nat.blt lw m) true (Nat.beq lw 0)) false) false) (mkSl q (Nat.add o (Nat.mul lw es)) (Nat.sub h lw) es (some (Nat.sub m lw)) c) (stk "slice open max")) (stk "slice open")
def gsliceSl (sz : Nat) (l? h? m? : Option A) (x : A) (c : KA) : Bool := asSl x (fun _ => boundK m? 0 fun m => boundK h? 0 fun h => boundK l? 0 fun lw => ifB (ifB (Nat.beq h 0) (ifB (Nat.beq lw 0) (Nat.beq m 0) false) false) (c (.z 1)) (stk "slice of nil")) fun q o len es cap =>
  ifB (Nat.beq es sz) (optN cap (fun _ => gsliceO q o len es l? h? m? c) fun cp => gsliceC q o len es cp l? h? m? c) (stk "slice size")
/-- A slice operation's arguments: which of the three bounds there are. -/
def gslice (g : Option A → Option A → Option A → A → KA → Bool) (lo hi mx : Bool) : GL := fun l c => match lo, hi, mx, l with
  | false, false, false, [x] => g none none none x c
  | true, false, false, [x, a] => g (some a) none none x c
  | false, true, false, [x, b] => g none (some b) none x c
  | true, true, false, [x, a, b] => g (some a) (some b) none x c
  | false, true, true, [x, b, m] => g none (some b) (some m) x c
  | true, true, true, [x, a, b, m] => g (some a) (some b) (some m) x c
  | _, _, _, _ => stk "slice args"
-- reads
def asC (o : O) (k : List A → Bool) : Bool := O.rec (motive := fun _ => (List A → Bool) → Bool) (fun _ => false) (fun l k => k l) (fun _ _ _ => false) (fun _ _ _ => false) o k
def asMp (o : O) (k : Nat → List (Nat × A) → Bool) : Bool := O.rec (motive := fun _ => (Nat → List (Nat × A) → Bool) → Bool) (fun _ => false) (fun _ _ => false) (fun c l k => k c l) (fun _ _ _ => false) o k
def asItr (o : O) (k : List Nat → Nat → Bool) : Bool := O.rec (motive := fun _ => (List Nat → Nat → Bool) → Bool) (fun _ => false) (fun _ _ => false) (fun _ _ _ => false) (fun l n k => k l n) o k
def readK (s : S) (r : Q) (k : List A → Bool) : Bool := asC (getO r s.h) k
def rload1 : R1 := fun s x c => asP x fun r o => readK s r fun l => part1 o l c
def rloadN (sz : Nat) : R1 := fun s x c => asP x fun r o => readK s r fun l => partN sz o l c
/-- A key as a number: of each class of keys. -/
def encI (x : A) (k : Nat → Bool) : Bool := asI x fun n => natI n k
def encS (x : A) (k : Nat → Bool) : Bool := asS x fun l => codeS l 1 k
def mKey : Nat := 1048576
def encP (x : A) (k : Nat → Bool) : Bool := asAg x fun l => list2 l fun a b => encI a fun a => encI b fun b => ifB (Nat.blt b mKey) (fN (Nat.add (Nat.mul a mKey) b) k) (stk "pair key")
def encN (x : A) (k : Nat → Bool) : Bool := asT x (fun _ => stk "nil key") fun t v => asAg v fun l => ifB (Nat.beq t 310) (list1 l fun a => encI a fun a => fN (Nat.mul 2 a) k) (ifB (Nat.beq t 312) (list3 l fun a b c => encI a fun a => encI b fun b => encI c fun c => ifB (ifB (Nat.blt b mKey) (Nat.blt c mKey) false) (fN (Nat.succ (Nat.mul 2 (Nat.add (Nat.mul (Nat.add (Nat.mul a mKey) b) mKey) c))) k) (stk "node key")) (stk "node key"))
def encK (c : Nat) (x : A) (k : Nat → Bool) : Bool := ifB (Nat.beq c 0) (encI x k) (ifB (Nat.beq c 1) (encS x k) (ifB (Nat.beq c 2) (encP x k) (encN x k)))
def rlenM : R1 := fun s x c => asML x (fun _ => c (.i 0)) fun r => asMp (getO r s.h) fun _ es => lenM es fun n => c (.i (Int.ofNat n))
def rlookupOk (cl : Nat) (zero : A) : R2 := fun s x y c => asM x fun r => asMp (getO r s.h) fun c' es => ifB (Nat.beq cl c') (encK cl y fun y => findK es y (fun _ => c (.g true [zero, .b false])) fun v => c (.g true [v, .b true])) (stk "class of keys")
/-- Bytes out of cells. -/
def bytesK (l : List A) (k : List Nat → Bool) : Bool := List.rec (motive := fun _ => (List Nat → Bool) → Bool) (fun k => k []) (fun x _ ih k => asJ x fun a n => natI n fun n => ifB (ifB (kEq a .u8) (Nat.blt n 256) false) (ih fun r => k (n :: r)) false) l k
def rbytesStr : R1 := fun s x c => asSl x (fun _ => c (.s [])) fun r o n _ _ => readK s r fun l => dropK o l fun l => takeK n l fun l => bytesK l fun l => c (.s l)
-- new blocks
def newK (s : S) (o : O) (k : Q → S → Bool) : Bool := S.rec (motive := fun _ => O → (Q → S → Bool) → Bool) (fun h q lo hi o k => setO q h o fun h => sucQ q fun q' => k q ⟨h, q', lo, hi⟩) s o k
def salloc (zero : List A) : GS := fun _ c => c (.cells zero) fun q => .p q 0
def sbox : GS := fun l c => list1 l fun x => cellsK x fun l => c (.cells l) fun q => .p q 0
def sbuild (len sz : Nat) (ps : List (Nat × Nat)) (zeros : List A) : GS := fun l c => partsK ps l zeros fun z => c (.cells z) fun q => .sl q 0 len sz (some len)
def smakeMap (cl : Nat) : GS := fun _ c => c (.map cl []) fun q => .m q
def smake (sz : Nat) (zero : List A) : GS := fun l c => list2 l fun a b => asI a fun n => asI b fun m => natI n fun n => natI m fun m => ifB (ifB (Nat.ble n m) (Nat.ble m 100000) false) (repK m zero fun z => c (.cells z) fun q => .sl q 0 n sz (some m)) (stk "makeSlice")
def srange : GS := fun l c => list1 l fun x => asS x fun l => c (.iter l 0) fun q => .p q 0
-- writes
def writeK (s : S) (r : Q) (o : O) (k : S → Bool) : Bool := S.rec (motive := fun _ => Q → O → (S → Bool) → Bool) (fun h q lo hi r o k => setO r h o fun h => k ⟨h, q, lo, hi⟩) s r o k
def cstore1 : GC := fun _ s l c => list2 l fun x v => asP x fun r o => ifB (oneA v) (readK s r fun l => setK l o v fun l => writeK s r (.cells l) fun s => c undefA s) (stk "store1")
def cstoreN (sz : Nat) : GC := fun _ s l c => list2 l fun x v => asP x fun r o => asAg v fun v => lenK v fun n => ifB (Nat.beq n sz) (readK s r fun l => putK v o l fun l => writeK s r (.cells l) fun s => c undefA s) (stk "store size")
def cmapSet (cl : Nat) : GC := fun _ s l c => list3 l fun m x v => asM m fun r => asMp (getO r s.h) fun c' es => ifB (Nat.beq cl c') (encK cl x fun x => layK es x v fun es => writeK s r (.map cl es) fun s => c undefA s) (stk "class of keys")
def cclear (sz : Nat) (zero : List A) : GC := fun _ s l c => list1 l fun x => asSl x (fun _ => c undefA s) fun r o n es _ => ifB (Nat.beq n 0) (c undefA s) (ifB (Nat.beq es sz) (repK n zero fun z => readK s r fun l => putK z o l fun l => writeK s r (.cells l) fun s => c undefA s) (stk "clear"))
/-- What an append adds, and how many elements. -/
def addedK (s : S) (sz : Nat) (x : A) (k : Nat → List A → Bool) : Bool := asAdd x (fun l => ifB (Nat.beq sz 1) (lenN l fun n => bytesA l fun l => k n l) (stk "append")) (fun _ => k 0 []) fun r o n es _ => ifB (Nat.beq es sz) (readK s r fun l => dropK o l fun l => takeK (Nat.mul n sz) l fun l => k n l) (stk "append")
def cappend (sz : Nat) : GC := fun _ s l c => list2 l fun x y => addedK s sz y fun n l => asSl x
  (fun _ => ifB (Nat.beq n 0) (c (.z 1) s) (ifB (Nat.ble n 1000000) (newK s (.cells l) fun q s => c (.sl q 0 n sz none) s) (stk "append long")))
  fun r o len es cap => ifB (Nat.beq es sz) (ifB (Nat.beq n 0) (c x s) (fN (Nat.add len n) fun m => ifB (Nat.ble m 1000000) (readK s r fun old =>
    optN cap
      (fun _ => ifB (Nat.beq o 0) (takeK (Nat.mul len es) old fun old => appK old l fun l => writeK s r .none fun s => newK s (.cells l) fun q s => c (.sl q 0 m es none) s) (stk "append open"))
      (fun cp => ifB (Nat.ble m cp)
        (putK l (Nat.add o (Nat.mul len es)) old fun l => writeK s r (.cells l) fun s => c (.sl r o m es (some cp)) s)
        (dropK o old fun old => takeK (Nat.mul len es) old fun old => appK old l fun l => newK s (.cells l) fun q s => c (.sl q 0 m es none) s))) (stk "append long"))) (stk "append")
def cnext : GC := fun _ s l c => list1 l fun x => asP x fun r o => ifB (Nat.beq o 0) (asItr (getO r s.h) fun l pos => lenN l fun n => ifB (Nat.blt pos n) (dropN pos l fun t => headN t fun b => ifB (Nat.blt b 128) (fN (Nat.succ pos) fun p' => writeK s r (.iter l p') fun s => c (.g true [.b true, .i (Int.ofNat pos), .j .i32 (Int.ofNat b)]) s) (stk "next no ASCII")) (c (.g true [.b false]) s)) (stk "next")
-- calls
def ccall (f : FuncId) : GC := fun rec s l c => rec f l s c
def ccallV : GC := fun rec s l c => match l with
  | [] => stk "call"
  | x :: r => asF x fun fn a b => match fn with
    | .func f => appK r b fun r => appK a r fun r => rec f r s c
    | _ => stk "call of a method"
/-- The method of each type. -/
def cinvoke (tab : List (TypeId × FuncId)) : GC := fun rec s l c => match l with
  | [] => stk "invoke"
  | x :: r => asT x (fun _ => stk "invoke of nil") fun t v => match tab.lookup t with
    | some f => rec f (v :: r) s c
    | none => stk "invoke"
end Go.Proofs.YtpknalhjgbgpiaaGreatDoor
namespace Go.Proofs.YtpknalhjgbgpiaaGreatDoor
open Go
-- a program's types
def undT (P : Program) (t : TypeId) : TypeDesc := (P.underlying t).getD .invalid
def aggT (P : Program) (t : TypeId) : Bool := match undT P t with
  | .struct _ => true
  | .array _ _ => true
  | _ => false
def bytesOf (b : ByteArray) : List Nat := b.data.toList.map (·.toNat)
/-- A value with no addresses in it. -/
def abs1 : Value → A
  | .bool b => .b b
  | .int .i64 n => .i n
  | .int k n => .j k n
  | .string s => .s (bytesOf s)
  | .pointer none => .z 0
  | .slice none 0 0 => .z 1
  | .map none => .z 2
  | .nilFunc => .z 3
  | .nilIface => .z 4
  | v => .o (.val v)
def oneV : Value → Bool
  | .agg _ | .tuple _ => false
  | _ => true
/-- Values that may be taken over. -/
def okV : Value → Bool
  | .agg cs => cs.toList.all oneV
  | .tuple cs => cs.toList.isEmpty
  | _ => true
/-- .. as a zero. -/
def okZ : Value → Bool
  | .agg cs => cs.toList.all oneV
  | .tuple _ => false
  | _ => true
def absV : Value → A
  | .agg cs => .g false (cs.toList.map abs1)
  | .tuple _ => .g true []
  | v => abs1 v
/-- What an operation is. -/
inductive COp where
  | mv (x : Operand)
  | p1 (g : G1) (x : Operand)
  | p2 (g : G2) (x y : Operand)
  | pl (g : GL) (xs : List Operand)
  | r1 (g : R1) (x : Operand)
  | r2 (g : R2) (x y : Operand)
  | al (g : GS) (xs : List Operand)
  | ch (g : GC) (xs : List Operand)
  | bad (w : String)
instance : Inhabited COp := ⟨.bad ""⟩
-- forced, as code is made
abbrev KR (R α : Type) := (α → R) → R
def ifZ {R : Type} (b : Bool) (x y : R) : R := match b with
  | true => x
  | false => y
section
variable {R : Type}
def fNB (n : Nat) : KR R Nat := fun k => Nat.rec (motive := fun _ => (Nat → R) → R) (fun k => k 0) (fun m _ k => k (Nat.succ m)) n k
def fBB (n : Bool) : KR R Bool := fun k => Bool.rec (motive := fun _ => (Bool → R) → R) (fun k => k false) (fun k => k true) n k
def fIB (n : Int) : KR R Int := fun k => Int.rec (motive := fun _ => (Int → R) → R) (fun m k => fNB m fun m => k (Int.ofNat m)) (fun m k => fNB m fun m => k (Int.negSucc m)) n k
def mapB {α β : Type} (l : List α) (g : α → KR R β) : KR R (List β) := fun k => List.rec (motive := fun _ => (List β → R) → R) (fun k => k []) (fun x _ ih k => g x fun y => ih fun r => k (y :: r)) l k
def kindB (a : IntKind) : KR R IntKind := fun k => match a with
  | .i8 => k .i8
  | .i16 => k .i16
  | .i32 => k .i32
  | .i64 => k .i64
  | .u8 => k .u8
  | .u16 => k .u16
  | .u32 => k .u32
  | .u64 => k .u64
def aB (a : A) : KR R A := fun k => match a with
  | .i n => fIB n fun n => k (.i n)
  | .b x => fBB x fun x => k (.b x)
  | .s l => mapB l fNB fun l => k (.s l)
  | .j a n => kindB a fun a => fIB n fun n => k (.j a n)
  | .z n => fNB n fun n => k (.z n)
  | a => k a
def absB (v : Value) : KR R A := fun k => match absV v with
  | .g t l => fBB t fun t => mapB l aB fun l => k (.g t l)
  | a => aB a k
/-- The cells of a type's zero. -/
def cellsV : A → List A
  | .g _ l => l
  | a => [a]
/-- A type's size; its zero; the zero's cells. -/
def szB (P : Program) (t : TypeId) (bad : R) : KR R Nat := fun k => match P.info? t with
  | some i => fNB i.size k
  | none => bad
/-- .. of a type whose values are small. -/
def smB (P : Program) (t : TypeId) (bad : R) : KR R Nat := fun k => match P.info? t with
  | some i => match Nat.ble i.bytes 4096 with
    | true => fNB i.size k
    | false => bad
  | none => bad
def zrB (P : Program) (t : TypeId) (bad : R) : KR R A := fun k => match (P.info? t).bind (·.zero) with
  | some v => ifZ (okV v) (absB v k) bad
  | none => bad
def zcB (P : Program) (t : TypeId) (bad : R) : KR R (List A) := fun k => match (P.info? t).bind (·.zero) with
  | some v => ifZ (okZ v) (mapB (cellsV (absV v)) aB k) bad
  | none => bad
def repB (n : Nat) (z : List A) : KR R (List A) := fun k => Nat.rec (motive := fun _ => (List A → R) → R) (fun k => k []) (fun _ ih k => ih fun r => List.rec (motive := fun _ => (List A → R) → R) (fun k => k r) (fun x _ ih k => ih fun l => k (x :: l)) z k) n k
end
def methT (P : Program) (name : String) (t : TypeId) : Option FuncId := match (P.info? t).bind fun i => i.methods.find? (·.name == name) with
  | some m => match m.path.isEmpty, m.func, undT P t with
    | true, some (_, false), .pointer _ => none
    | true, some (f, true), .pointer _ => some f
    | true, some _, .invalid => none
    | true, some (f, false), _ => some f
    | _, _, _ => none
  | none => none
section
variable {R : Type}
/-- Where parts are laid, how large each is. -/
def placesS (P : Program) (fs : Array Field) (bad : R) (ix : List Nat) : KR R (List (Nat × Nat)) := fun k => match fs.toList.mapM fun f => (P.info? f.type).map fun i => (f.offset, i.size) with
  | some pl => mapB ix (fun i k => match pl[i]? with
    | some p => fNB p.1 fun a => fNB p.2 fun b => k (a, b)
    | none => bad) k
  | none => bad
def placesE (sz : Nat) (ix : List Nat) : KR R (List (Nat × Nat)) := mapB ix fun i k => fNB (Nat.mul i sz) fun a => k (a, sz)
def binD (d : TypeDesc) (op : BinOp) (t : TypeId) (x y : Operand) : KR R COp := fun k => match d with
  | .int .i64 => match op with
    | .add => k (.p2 (g64 addI) x y)
    | .sub => k (.p2 (g64 subI) x y)
    | .mul => k (.p2 (g64 Int.mul) x y)
    | .quo => k (.p2 gquo x y)
    | .rem => k (.p2 grem x y)
    | .and => k (.p2 (gbit Nat.land) x y)
    | .or => k (.p2 (gbit Nat.lor) x y)
    | .shl => k (.p2 gshl x y)
    | .shr => k (.p2 gshr x y)
    | .eql => k (.p2 (gcmp eqI) x y)
    | .neq => k (.p2 (gcmp fun a b => notB (eqI a b)) x y)
    | .lss => k (.p2 (gcmp ltI) x y)
    | .leq => k (.p2 (gcmp fun a b => notB (ltI b a)) x y)
    | .gtr => k (.p2 (gcmp fun a b => ltI b a) x y)
    | .geq => k (.p2 (gcmp fun a b => notB (ltI a b)) x y)
    | _ => k (.bad "bin int")
  | .int _ => match op with
    | .sub => k (.p2 gjsub x y)
    | .eql => k (.p2 (gjcmp eqI) x y)
    | .neq => k (.p2 (gjcmp fun a b => notB (eqI a b)) x y)
    | .lss => k (.p2 (gjcmp ltI) x y)
    | .leq => k (.p2 (gjcmp fun a b => notB (ltI b a)) x y)
    | .gtr => k (.p2 (gjcmp fun a b => ltI b a) x y)
    | .geq => k (.p2 (gjcmp fun a b => notB (ltI a b)) x y)
    | _ => k (.bad "bin other int")
  | .string => match op with
    | .add => k (.p2 gcat x y)
    | .eql => k (.p2 (gstr eqLN) x y)
    | .neq => k (.p2 (gstr fun a b => notB (eqLN a b)) x y)
    | .lss => k (.p2 (gstr ltLN) x y)
    | _ => k (.bad "bin string")
  | .bool => match op with
    | .eql => k (.p2 (gbool false) x y)
    | .neq => k (.p2 (gbool true) x y)
    | _ => k (.bad "bin bool")
  | .array _ _ => match op with
    | .eql => ifZ (Nat.beq t 172) (k (.p2 gagg x y)) (k (.bad "bin agg"))
    | _ => k (.bad "bin agg")
  | .pointer _ => match op with
    | .eql => k (.p2 (gnilP false) x y)
    | .neq => k (.p2 (gnilP true) x y)
    | _ => k (.bad "bin pointer")
  | .slice _ => match op with
    | .eql => k (.p2 (gnilS false) x y)
    | .neq => k (.p2 (gnilS true) x y)
    | _ => k (.bad "bin slice")
  | _ => k (.bad "bin")
def binB (P : Program) (op : BinOp) (t : TypeId) (x y : Operand) : KR R COp := binD (undT P t) op t x y
def convB (P : Program) (s t : TypeId) (x : Operand) : KR R COp := fun k => match undT P s, undT P t with
  | .int _, .int .i64 => k (.p1 gconv64 x)
  | .int _, .int d => kindB d fun d => k (.p1 (gconvI d) x)
  | .slice e, .string => match undT P e with
    | .int .u8 => k (.r1 rbytesStr x)
    | _ => k (.bad "convert")
  | _, _ => k (.bad "convert")
/-- The class of a map's keys. -/
def clB (P : Program) (t : TypeId) (bad : R) : KR R Nat := fun k => match undT P t with
  | .int .i64 => k 0
  | .string => k 1
  | .array _ _ => ifZ (Nat.beq t 172) (k 2) bad
  | _ => ifZ (Nat.beq t 281) (k 3) bad
def lenB (P : Program) (t : TypeId) (x : Operand) : KR R COp := fun k => match undT P t with
  | .map _ _ => k (.r1 rlenM x)
  | .string => k (.p1 glenS x)
  | .slice _ => k (.p1 glenSl x)
  | _ => k (.bad "len")
def appB (P : Program) (t xt : TypeId) (xs : List Operand) : KR R COp := fun k => match undT P t with
  | .slice e => match undT P xt with
    | .slice _ => smB P e (k (.bad "size")) fun sz => zcB P e (k (.bad "zero")) fun z => ifZ (Nat.beq z.length sz) (k (.ch (cappend sz) xs)) (k (.bad "append"))
    | .string => smB P e (k (.bad "size")) fun sz => zcB P e (k (.bad "zero")) fun z => ifZ (Nat.beq z.length sz) (k (.ch (cappend sz) xs)) (k (.bad "append"))
    | _ => k (.bad "append")
  | _ => k (.bad "append")
def clearB (P : Program) (t : TypeId) (xs : List Operand) : KR R COp := fun k => match undT P t with
  | .slice e => szB P e (k (.bad "size")) fun sz => zcB P e (k (.bad "zero")) fun z => k (.ch (cclear sz z) xs)
  | _ => k (.bad "clear")
def builtK (P : Program) (b : Go.Builtin) (ts : List TypeId) (xs : List Operand) : KR R COp := fun k => match b with
  | .len => match ts with
    | [t] => match xs with
      | [x] => lenB P t x k
      | _ => k (.bad "len")
    | _ => k (.bad "len")
  | .append => match ts with
    | [t, xt] => match xs with
      | [x, y] => appB P t xt [x, y] k
      | _ => k (.bad "append")
    | _ => k (.bad "append")
  | .max => k (.pl gmax xs)
  | .min => k (.pl gmin xs)
  | .clear => match ts with
    | [t] => match xs with
      | [x] => clearB P t [x] k
      | _ => k (.bad "clear")
    | _ => k (.bad "clear")
  | _ => k (.bad "builtin")
def callB (P : Program) (c : Call) : KR R COp := fun k =>
  match c.callee with
  | .value (.func f) => fNB f fun f => k (.ch (ccall f) c.args.toList)
  | .value x => k (.ch ccallV (x :: c.args.toList))
  | .invoke r n => mapB ((List.range P.types.size).filterMap fun t => (methT P n t).map fun f => (t, f)) (fun p k => fNB p.1 fun a => fNB p.2 fun b => k (a, b)) fun tab => k (.ch (cinvoke tab) (r :: c.args.toList))
  | .builtin b => builtK P b c.argTypes.toList c.args.toList k
def opK (P : Program) (o : Oper) : KR R COp := fun k =>
  match o.op with
  | .move x | .assign x => k (.mv x)
  | .pick c a b => k (.pl gpick [c, a, b])
  | .alloc t => zcB P t (k (.bad "zero")) fun z => k (.al (salloc z) [])
  | .box _ x => k (.al sbox [x])
  | .build t ps => match undT P t with
    | .struct fs => placesS P fs (k (.bad "build")) (ps.toList.map (·.1)) fun pl => zcB P t (k (.bad "build")) fun z => k (.pl (gbuild pl z) (ps.toList.map (·.2)))
    | .array _ e => szB P e (k (.bad "build")) fun sz => placesE sz (ps.toList.map (·.1)) fun pl => zcB P t (k (.bad "build")) fun z => k (.pl (gbuild pl z) (ps.toList.map (·.2)))
    | _ => k (.bad "build")
  | .buildSlice t n ps => match undT P t with
    | .slice e => szB P e (k (.bad "buildSlice")) fun sz => placesE sz (ps.toList.map (·.1)) fun pl => zcB P e (k (.bad "buildSlice")) fun z => repB n z fun zs => fNB n fun n => ifZ (Nat.beq z.length sz && Nat.ble (n * sz) 16777216) (k (.al (sbuild n sz pl zs) (ps.toList.map (·.2)))) (k (.bad "buildSlice"))
    | _ => k (.bad "buildSlice")
  | .insert t m x v | .mapUpdate t m x v => match undT P t with
    | .map kt _ => clB P kt (k (.bad "keys")) fun cl => k (.ch (cmapSet cl) [m, x, v])
    | _ => k (.bad "mapUpdate")
  | .load t x => match aggT P t with
    | true => szB P t (k (.bad "size")) fun sz => k (.r1 (rloadN sz) x)
    | false => match undT P t with
      | .invalid => k (.bad "load")
      | _ => k (.r1 rload1 x)
  | .store t x v => match aggT P t with
    | true => szB P t (k (.bad "size")) fun sz => k (.ch (cstoreN sz) [x, v])
    | false => szB P t (k (.bad "size")) fun sz => ifZ (Nat.beq sz 1) (k (.ch cstore1 [x, v])) (k (.bad "store"))
  | .nilCheck x => k (.p1 gnilCheck x)
  | .binOp op t x y _ => binB P op t x y k
  | .unOp op _ x => match op with
    | .not => k (.p1 gnot x)
    | _ => k (.bad "un")
  | .convert s t x => convB P s t x k
  | .makeInterface t x => match undT P t with
    | .interface _ => k (.bad "makeInterface")
    | .invalid => k (.bad "makeInterface")
    | _ => fNB t fun t => k (.p1 (giface t) x)
  | .makeFunc fn a b => match fn with
    | .func f => fNB a.size fun n => fNB f fun f => k (.pl (gfunc (.func f) n) (a.toList ++ b.toList))
    | _ => k (.bad "makeFunc")
  | .makeMap t none => match undT P t with
    | .map kt _ => clB P kt (k (.bad "keys")) fun cl => k (.al (smakeMap cl) [])
    | _ => k (.bad "makeMap")
  | .makeSlice t a b => match undT P t with
    | .slice e => zcB P e (k (.bad "zero")) fun z => smB P e (k (.bad "size")) fun sz => ifZ (Nat.beq z.length sz) (k (.al (smake sz z) [a, b])) (k (.bad "makeSlice"))
    | _ => k (.bad "makeSlice")
  | .slice t x l h m => fBB l.isSome fun l' => fBB h.isSome fun h' => fBB m.isSome fun m' => match undT P t with
    | .string => k (.pl (gslice gsliceS l' h' m') (x :: (l.toList ++ h.toList ++ m.toList)))
    | .slice e => szB P e (k (.bad "size")) fun sz => k (.pl (gslice (gsliceSl sz) l' h' m') (x :: (l.toList ++ h.toList ++ m.toList)))
    | _ => k (.bad "slice")
  | .fieldAddr t x f => match undT P t with
    | .struct fs => match fs[f]? with
      | some y => szB P y.type (k (.bad "fieldAddr")) fun sz => ifZ (Nat.beq sz 0) (k (.bad "fieldAddr")) (fNB y.offset fun off => k (.p1 (gfieldAddr off) x))
      | none => k (.bad "fieldAddr")
    | _ => k (.bad "fieldAddr")
  | .field t x f => match undT P t with
    | .struct fs => match fs[f]? with
      | some y => fNB y.offset fun off => match aggT P y.type with
        | true => szB P y.type (k (.bad "size")) fun sz => k (.p1 (gfieldN sz off) x)
        | false => match undT P y.type with
          | .invalid => k (.bad "field")
          | _ => k (.p1 (gfield1 off) x)
      | none => k (.bad "field")
    | _ => k (.bad "field")
  | .indexAddr t x i => match undT P t with
    | .slice e => szB P e (k (.bad "size")) fun sz => k (.p2 (gindexSl sz) x i)
    | .array n e => fNB n fun n => szB P e (k (.bad "size")) fun sz => k (.p2 (gindexAr n sz) x i)
    | _ => k (.bad "indexAddr")
  | .index t x i => match undT P t with
    | .string => k (.p2 gindexS x i)
    | .array n e => match aggT P e with
      | true => k (.bad "index agg")
      | false => match undT P e with
        | .invalid => k (.bad "index")
        | _ => szB P e (k (.bad "size")) fun sz => ifZ (Nat.beq sz 1) (fNB n fun n => k (.p2 (gindex1 n) x i)) (k (.bad "index"))
    | _ => k (.bad "index")
  | .lookup t m x true => match undT P t with
    | .map kt e => clB P kt (k (.bad "keys")) fun cl => zrB P e (k (.bad "zero")) fun z => k (.r2 (rlookupOk cl z) m x)
    | _ => k (.bad "lookup")
  | .range t x => match undT P t with
    | .string => k (.al srange [x])
    | _ => k (.bad "range")
  | .next x true => k (.ch cnext [x])
  | .typeAssert x _ t ok => match undT P t with
    | .interface _ => k (.bad "assert to an interface")
    | .invalid => k (.bad "assert")
    | _ => fNB t fun t' => match ok with
      | true => zrB P t (k (.bad "zero")) fun z => k (.p1 (gassertOk t' z) x)
      | false => k (.p1 (gassert t') x)
  | .extract x i => fNB i fun i => k (.p1 (gextract i) x)
  | .call c => callB P c k
  | _ => k (.bad "op")
end
/-- The operation, as it is. -/
def opC (P : Program) (o : Oper) : COp := opK P o id
end Go.Proofs.YtpknalhjgbgpiaaGreatDoor
