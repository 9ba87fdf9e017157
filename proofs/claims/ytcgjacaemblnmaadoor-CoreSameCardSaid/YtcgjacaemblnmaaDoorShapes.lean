/- The walk over core.shapes: a map that the call makes, of structs; a look-up in it. -/
import Derived.Test.YtcgjacaemblnmaaDoorAt
import Derived.Maps.OwnOps
import Derived.KernelRfl
namespace Go.Proofs.YtcgjacaemblnmaaDoor
open Go Go.RowKit Go.ChangeMaps Go.MapKept

/-- Entries, the first laid first. -/
def ents : List (ByteArray × Value) → Nat → List MapEntry
  | [], _ => []
  | x :: r, i => ⟨.string x.1, x.2, i⟩ :: ents r (i + 1)
theorem ents_snoc (l : List (ByteArray × Value)) (x : ByteArray × Value) (i : Nat) : ents (l ++ [x]) i = ents l i ++ [⟨.string x.1, x.2, i + l.length⟩] := by
  induction l generalizing i with
  | nil => simp [ents]
  | cons y r ih => simp [ents, ih]; omega
/-- Block b is a map of these entries. -/
def MapAt (w : World) (b : Nat) (l : List (ByteArray × Value)) : Prop := w.heap[b]? = some (.map (ents l 0).toArray l.length)

theorem findNow_ents (s : ByteArray) (l : List (ByteArray × Value)) (i : Nat) (c : Nat) :
    ∃ j, Instr.findNow .string (.string s) (ents l c) i = some ((l.find? (fun e => s == e.1)).map fun e => (j, e.2)) := by
  induction l generalizing i c with
  | nil => exact ⟨0, rfl⟩
  | cons x r ih =>
    obtain ⟨j, hj⟩ := ih (i + 1) (c + 1)
    cases h : (s == x.1) with
    | true => exact ⟨i, by simp [ents, Instr.findNow, Instr.sameNow, h]⟩
    | false => exact ⟨j, by simp [ents, Instr.findNow, Instr.sameNow, h, hj]⟩

theorem und44 : Tryd.prog.underlying 44 = some (.map 9 43) := by kernel_rfl
theorem und9 : Tryd.prog.underlying 9 = some .string := by kernel_rfl
theorem zero43 (w : World) : (zeroValue 43).run Tryd.prog w = .ok (.agg #[.int .i64 0, .bool false, .int .i64 0]) w := by kernel_rfl

theorem insert_run {w : World} {b : Nat} {l : List (ByteArray × Value)} (h : MapAt w b l) (s : ByteArray) (v : Value) (hn : l.find? (fun e => s == e.1) = none) :
    ∃ w', (Instr.mapUpdate 44 (.map (some b)) (.string s) v).run Tryd.prog w = .ok () w' ∧ MapAt w' b (l ++ [(s, v)]) ∧ w.grownBy w' (some b) := by
  obtain ⟨j, hj⟩ := findNow_ents s l 0 0
  rw [hn] at hj
  refine ⟨setBlock w b (.map (ents (l ++ [(s, v)]) 0).toArray (l ++ [(s, v)]).length), ?_, ?_, ?_⟩
  · have hkey : IsKey .string (.string s) := trivial
    unfold MapAt at h
    have e : (ents (l ++ [(s, v)]) 0).toArray = (ents l 0).toArray.push ⟨.string s, v, l.length⟩ := by
      rw [ents_snoc]
      simp
    rw [e]
    simp [Instr.mapUpdate, run_underlying und44, MapKept.run_getObj_map h, run_checkKey und9 hkey, run_findKey und9 hj, MapKept.run_setObj_map _ h, Result.andThen, setBlock]
  · exact heap_setBlock_same h _
  · exact ⟨rfl, rfl, rfl, by simp [setBlock], fun i _ hi => heap_setBlock_other h _ (fun e => hi (by rw [e]))⟩

theorem lookup_run {w : World} {b : Nat} {l : List (ByteArray × Value)} (h : MapAt w b l) (s : ByteArray) (c : Bool) :
    (Instr.lookup 44 (.map (some b)) (.string s) c).run Tryd.prog w =
      .ok (if c then .tuple #[((l.find? (fun e => s == e.1)).map (·.2)).getD (.agg #[.int .i64 0, .bool false, .int .i64 0]), .bool (l.find? (fun e => s == e.1)).isSome]
        else ((l.find? (fun e => s == e.1)).map (·.2)).getD (.agg #[.int .i64 0, .bool false, .int .i64 0])) w := by
  obtain ⟨j, hj⟩ := findNow_ents s l 0 0
  have hkey : IsKey .string (.string s) := trivial
  unfold MapAt at h
  cases hf : l.find? (fun e => s == e.1) with
  | none =>
    rw [hf] at hj
    cases c <;> simp [Instr.lookup, run_underlying und44, MapKept.run_getObj_map h, run_checkKey und9 hkey, run_findKey und9 hj, Result.andThen]
  | some x =>
    rw [hf] at hj
    cases c <;> simp [Instr.lookup, run_underlying und44, MapKept.run_getObj_map h, run_checkKey und9 hkey, run_findKey und9 hj, Result.andThen]

theorem wpList_insert_at (w : World) {ops : Array Oper} {rest : List Oper} {o : Oper} {a : Act} {Q : Exit → Act → World → Prop}
    (hg : o.guard = none) (m x v : Operand) (hop : o.op = Op.insert 44 m x v) (b : Nat) (l : List (ByteArray × Value))
    (hm : a.eval m = .map (some b)) (h : MapAt w b l) (s : ByteArray) (val : Value) (hx : a.eval x = .string s) (hv : a.eval v = val) (hn : l.find? (fun e => s == e.1) = none)
    (hK : ∀ w', MapAt w' b (l ++ [(s, val)]) → w.grownBy w' (some b) → wpList Tryd.prog ops Q rest (a.put o.dst undef) w') :
    wpList Tryd.prog ops Q (o :: rest) a w := by
  refine wpList_plain hg fun K' hK' => ?_
  obtain ⟨w', hrun, r1, r2⟩ := insert_run h s val hn
  unfold Oper.wp
  simp [execOp, hop, hm, hx, hv, hrun, Result.andThen]
  exact hK' _ _ (hK w' r1 r2)

/-- Only at an insert. -/
theorem wpList_insert_op (w : World) {ops : Array Oper} {rest : List Oper} {a : Act} {Q : Exit → Act → World → Prop} {dst : Option Tmp} {m x v : Operand} {t : TypeId} {pos : String} {after : Array Edge}
    (b : Nat) (l : List (ByteArray × Value))
    (hm : a.eval m = .map (some b)) (h : MapAt w b l) (s : ByteArray) (val : Value) (hx : a.eval x = .string s) (hv : a.eval v = val) (hn : l.find? (fun e => s == e.1) = none)
    (hK : ∀ w', MapAt w' b (l ++ [(s, val)]) → w.grownBy w' (some b) → wpList Tryd.prog ops Q rest (a.put dst undef) w') :
    wpList Tryd.prog ops Q (⟨dst, Op.insert 44 m x v, t, pos, after, none⟩ :: rest) a w :=
  wpList_insert_at w (o := ⟨dst, Op.insert 44 m x v, t, pos, after, none⟩) rfl m x v rfl b l hm h s val hx hv hn hK

/-- The map of all ops, as core.shapes lays it. -/
def shapeV (s : Nat × Bool × Nat) : Value := .agg #[.int .i64 s.1, .bool s.2.1, .int .i64 s.2.2]
def shapeL : List (ByteArray × Value) := shapes.map fun e => (⟨e.1.toArray⟩, shapeV e.2)

theorem shapeL_find (o : List UInt8) : (shapeL.find? (fun e => (⟨o.toArray⟩ : ByteArray) == e.1)).map (·.2) = (shapeOf o).map shapeV := by
  unfold shapeL shapeOf
  rw [List.find?_map, Option.map_map, Option.map_map]
  have hp : (fun e : ByteArray × Value => (⟨o.toArray⟩ : ByteArray) == e.1) ∘ (fun e : List UInt8 × (Nat × Bool × Nat) => ((⟨e.1.toArray⟩ : ByteArray), shapeV e.2)) = fun e => e.1 == o := by
    funext e
    simp only [Function.comp]
    by_cases h : e.1 = o
    · rw [h]
      have h1 : (o == o) = true := beq_self_eq_true o
      rw [h1, bytes_beq]
    · have h1 : (e.1 == o) = false := beq_false_of_ne h
      rw [h1]
      have h2 : (⟨o.toArray⟩ : ByteArray) ≠ ⟨e.1.toArray⟩ := by
        intro hh
        have := congrArg ByteArray.data hh
        simp at this
        exact h this.symm
      cases hb : ((⟨o.toArray⟩ : ByteArray) == ⟨e.1.toArray⟩) with
      | false => rfl
      | true => exact absurd ((bytes_beq _ _).1 hb) h2
  rw [hp]
  rfl

set_option maxHeartbeats 1000000 in
theorem shapes_any (w : World) : Calls Tryd.prog 34 #[] w fun e w' => e = .returned (.map (some w.heap.size)) ∧ MapAt w' w.heap.size shapeL ∧ Below w.heap.size w w' ∧ w.heap.size < w'.heap.size := by
  have hmm := @run_makeMap Tryd.prog
  go_enter Tryd.func34, Tryd.ntmps34
  have hA : MapAt (w.alloc (.map #[] 0)) w.heap.size [] := by
    unfold MapAt
    rw [(heap_alloc w _).1]
    rfl
  have hB : Below w.heap.size w (w.alloc (.map #[] 0)) := (Below.refl _ _).alloc (Nat.le_refl _) _
  have hs : w.heap.size < (w.alloc (.map #[] 0)).heap.size := by simp
  go_wp2_with (refine wpList_insert_op _ _ _ rfl hA _ _ rfl rfl (by rfl) ?_; clear hA; intro w1 hA hg; replace hB := hB.grown hg (Nat.le_of_lt hs) (by intro k hk; cases hk; exact Nat.le_refl _); replace hs := Nat.lt_of_lt_of_le hs hg.size; clear hg)
  go_ret
  exact ⟨rfl, hA, hB, hs⟩
end Go.Proofs.YtcgjacaemblnmaaDoor
