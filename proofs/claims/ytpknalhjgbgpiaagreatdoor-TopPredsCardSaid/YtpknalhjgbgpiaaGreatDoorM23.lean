/- Parts of the proof: EvX0. -/
import Derived.Test.YtpknalhjgbgpiaaGreatDoorM22
noncomputable section
namespace Go.Proofs.YtpknalhjgbgpiaaGreatDoor
open Go Go.RowKit
/-- No memory as yet. -/
def s00 : S := ⟨heap0, numQ 256, 0, 0⟩
/-- A row of numbers. -/
def isInts : List A → List Int → Bool
  | [], [] => true
  | .i n :: l, x :: r => decide (n = x) && isInts l r
  | _, _ => false
def isSet (s : S) (v : A) (r : List Int) : Bool := match v with
  | .z n => Nat.beq n 1 && r.isEmpty
  | .sl q o l _ _ => match l with
    | 0 => r.isEmpty
    | l + 1 => match getO q s.h with
      | .cells c => Nat.beq (l + 1) r.length && isInts ((c.drop o).take (l + 1)) r
      | _ => false
  | _ => false
/-- A row of values: name, order, set. -/
def isRows (s : S) : List A → List (List Nat × Int × List Int) → Bool
  | [], [] => true
  | .s n :: .i o :: v :: l, x :: r => eqLN n x.1 && (decide (o = x.2.1) && (isSet s v x.2.2 && isRows s l r))
  | _, _ => false
def isVals (s : S) (v : A) (r : List (List Nat × Int × List Int)) : Bool := match v with
  | .z n => Nat.beq n 1 && r.isEmpty
  | .sl q o l _ _ => match l with
    | 0 => r.isEmpty
    | l + 1 => match getO q s.h with
      | .cells c => Nat.beq (l + 1) r.length && isRows s ((c.drop o).take (3 * (l + 1))) r
      | _ => false
  | _ => false
/-- The result: with less fuel than T there is none; else a tag, a model, a counter-model. -/
def isRes (T : Nat) (tag : Int) (M C : List (List Nat × Int × List Int)) (v : A) (s : S) : Bool := match v with
  | .g false [.i t, .i e, .i a, m, c] => decide (e = 0) && (decide (a = 0) && match decide (t = 5) with
    | true => isVals s m [] && (isVals s c [] && (Nat.blt 0 s.hi && Nat.ble s.hi T))
    | false => decide (t = tag) && (isVals s m M && (isVals s c C && Nat.ble T s.lo)))
  | _ => false
end Go.Proofs.YtpknalhjgbgpiaaGreatDoor
