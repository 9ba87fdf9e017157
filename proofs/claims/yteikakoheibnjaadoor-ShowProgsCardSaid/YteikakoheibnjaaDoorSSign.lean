/- The walk over show.sign: a map that the call makes, of strings; a look-up in it. show.joined. -/
import Derived.Test.YteikakoheibnjaaDoorRForm
import Derived.Maps.OwnOps
import Derived.KernelRfl
namespace Go.Proofs.YteikakoheibnjaaDoor
open Go Go.RowKit Go.ChangeMaps Go.MapKept

/-- Entries, the first laid first. -/
def ents : List (ByteArray × Value) → Nat → List MapEntry
  | [], _ => []
  | x :: r, i => ⟨.string x.1, x.2, i⟩ :: ents r (i + 1)
theorem ents_snoc (l : List (ByteArray × Value)) (x : ByteArray × Value) (i : Nat) : ents (l ++ [x]) i = ents l i ++ [⟨.string x.1, x.2, i + l.length⟩] := by
  induction l generalizing i with
  | nil => simp [ents]
  | cons y r ih => simp [ents, ih]; omega
/-- Block b is a map of these entries. -/
def MapAt (w : World) (b : Nat) (l : List (ByteArray × Value)) : Prop := w.heap[b]? = some (.map (ents l 0).toArray l.length)
theorem findNow_ents (s : ByteArray) (l : List (ByteArray × Value)) (i : Nat) (c : Nat) :
    ∃ j, Instr.findNow .string (.string s) (ents l c) i = some ((l.find? (fun e => s == e.1)).map fun e => (j, e.2)) := by
  induction l generalizing i c with
  | nil => exact ⟨0, rfl⟩
  | cons x r ih =>
    obtain ⟨j, hj⟩ := ih (i + 1) (c + 1)
    cases h : (s == x.1) with
    | true => exact ⟨i, by simp [ents, Instr.findNow, Instr.sameNow, h]⟩
    | false => exact ⟨j, by simp [ents, Instr.findNow, Instr.sameNow, h, hj]⟩
theorem und_map : Tryd.prog.underlying 114 = some (.map 9 9) := by kernel_rfl
theorem und_str : Tryd.prog.underlying 9 = some .string := by kernel_rfl
theorem zero_str (w : World) : (zeroValue 9).run Tryd.prog w = .ok (.string ⟨#[]⟩) w := by kernel_rfl
theorem insert_run {w : World} {b : Nat} {l : List (ByteArray × Value)} (h : MapAt w b l) (s : ByteArray) (v : Value) (hn : l.find? (fun e => s == e.1) = none) :
    ∃ w', (Instr.mapUpdate 114 (.map (some b)) (.string s) v).run Tryd.prog w = .ok () w' ∧ MapAt w' b (l ++ [(s, v)]) ∧ w.grownBy w' (some b) := by
  obtain ⟨j, hj⟩ := findNow_ents s l 0 0
  rw [hn] at hj
  refine ⟨setBlock w b (.map (ents (l ++ [(s, v)]) 0).toArray (l ++ [(s, v)]).length), ?_, ?_, ?_⟩
  · have hkey : IsKey .string (.string s) := trivial
    unfold MapAt at h
    have e : (ents (l ++ [(s, v)]) 0).toArray = (ents l 0).toArray.push ⟨.string s, v, l.length⟩ := by
      rw [ents_snoc]
      simp
    rw [e]
    simp [Instr.mapUpdate, run_underlying und_map, MapKept.run_getObj_map h, run_checkKey und_str hkey, run_findKey und_str hj, MapKept.run_setObj_map _ h, Result.andThen, setBlock]
  · exact heap_setBlock_same h _
  · exact ⟨rfl, rfl, rfl, by simp [setBlock], fun i _ hi => heap_setBlock_other h _ (fun e => hi (by rw [e]))⟩
theorem lookup_run {w : World} {b : Nat} {l : List (ByteArray × Value)} (h : MapAt w b l) (s : ByteArray) :
    (Instr.lookup 114 (.map (some b)) (.string s) false).run Tryd.prog w = .ok (((l.find? (fun e => s == e.1)).map (·.2)).getD (.string ⟨#[]⟩)) w := by
  obtain ⟨j, hj⟩ := findNow_ents s l 0 0
  have hkey : IsKey .string (.string s) := trivial
  unfold MapAt at h
  cases hf : l.find? (fun e => s == e.1) with
  | none =>
    rw [hf] at hj
    simp [Instr.lookup, run_underlying und_map, MapKept.run_getObj_map h, run_checkKey und_str hkey, run_findKey und_str hj, Result.andThen]
  | some x =>
    rw [hf] at hj
    simp [Instr.lookup, run_underlying und_map, MapKept.run_getObj_map h, run_checkKey und_str hkey, run_findKey und_str hj, Result.andThen]
theorem wpList_insert_at (w : World) {ops : Array Oper} {rest : List Oper} {o : Oper} {a : Act} {Q : Exit → Act → World → Prop}
    (hg : o.guard = none) (m x v : Operand) (hop : o.op = Op.insert 114 m x v) (b : Nat) (l : List (ByteArray × Value))
    (hm : a.eval m = .map (some b)) (h : MapAt w b l) (s : ByteArray) (val : Value) (hx : a.eval x = .string s) (hv : a.eval v = val) (hn : l.find? (fun e => s == e.1) = none)
    (hK : ∀ w', MapAt w' b (l ++ [(s, val)]) → w.grownBy w' (some b) → wpList Tryd.prog ops Q rest (a.put o.dst undef) w') :
    wpList Tryd.prog ops Q (o :: rest) a w := by
  refine wpList_plain hg fun K' hK' => ?_
  obtain ⟨w', hrun, r1, r2⟩ := insert_run h s val hn
  unfold Oper.wp
  simp [execOp, hop, hm, hx, hv, hrun, Result.andThen]
  exact hK' _ _ (hK w' r1 r2)
theorem wpList_lookup_at (w : World) {ops : Array Oper} {rest : List Oper} {o : Oper} {a : Act} {Q : Exit → Act → World → Prop}
    (hg : o.guard = none) (m x : Operand) (hop : o.op = Op.lookup 114 m x false) (b : Nat) (l : List (ByteArray × Value))
    (hm : a.eval m = .map (some b)) (h : MapAt w b l) (s : ByteArray) (hx : a.eval x = .string s) (val : Value) (hv : ((l.find? (fun e => s == e.1)).map (·.2)).getD (.string ⟨#[]⟩) = val)
    (hK : wpList Tryd.prog ops Q rest (a.put o.dst val) w) :
    wpList Tryd.prog ops Q (o :: rest) a w := by
  refine wpList_plain hg fun K' hK' => ?_
  have hrun := lookup_run h s
  rw [hv] at hrun
  unfold Oper.wp
  simp [execOp, hop, hm, hx, hrun, Result.andThen]
  exact hK' _ _ hK
/-- Only at an insert. -/
theorem wpList_insert_op (w : World) {ops : Array Oper} {rest : List Oper} {a : Act} {Q : Exit → Act → World → Prop} {dst : Option Tmp} {m x v : Operand} {t : TypeId} {pos : String} {after : Array Edge}
    (b : Nat) (l : List (ByteArray × Value))
    (hm : a.eval m = .map (some b)) (h : MapAt w b l) (s : ByteArray) (val : Value) (hx : a.eval x = .string s) (hv : a.eval v = val) (hn : l.find? (fun e => s == e.1) = none)
    (hK : ∀ w', MapAt w' b (l ++ [(s, val)]) → w.grownBy w' (some b) → wpList Tryd.prog ops Q rest (a.put dst undef) w') :
    wpList Tryd.prog ops Q (⟨dst, Op.insert 114 m x v, t, pos, after, none⟩ :: rest) a w :=
  wpList_insert_at w (o := ⟨dst, Op.insert 114 m x v, t, pos, after, none⟩) rfl m x v rfl b l hm h s val hx hv hn hK
/-- Only at a look-up. -/
theorem wpList_lookup_op (w : World) {ops : Array Oper} {rest : List Oper} {a : Act} {Q : Exit → Act → World → Prop} {dst : Option Tmp} {m x : Operand} {t : TypeId} {pos : String} {after : Array Edge}
    (b : Nat) (l : List (ByteArray × Value))
    (hm : a.eval m = .map (some b)) (h : MapAt w b l) (s : ByteArray) (hx : a.eval x = .string s) (val : Value) (hv : ((l.find? (fun e => s == e.1)).map (·.2)).getD (.string ⟨#[]⟩) = val)
    (hK : wpList Tryd.prog ops Q rest (a.put dst val) w) :
    wpList Tryd.prog ops Q (⟨dst, Op.lookup 114 m x false, t, pos, after, none⟩ :: rest) a w :=
  wpList_lookup_at w (o := ⟨dst, Op.lookup 114 m x false, t, pos, after, none⟩) rfl m x rfl b l hm h s hx val hv hK
/-- The rows of the map. -/
def signRows : List (List UInt8 × List UInt8) := [(nUnion, nUnion), (nInter, nInter), (nMinus, [92]), (nAnd, [38]), (nOr, [124]), (nImp, [61, 62]), (nIff, [60, 61, 62]), (nEq, [61]), (nNe, [126, 61]), (nLt, [60]), (nLe, [60, 61]), (nIn, nIn), (nNotin, nNotin), (nSub, nSub)]
def signL14 : List (ByteArray × Value) := signRows.map fun e => (⟨e.1.toArray⟩, .string ⟨e.2.toArray⟩)
theorem find_bytes (o : List UInt8) : ∀ l : List (List UInt8 × List UInt8), (((l.map fun e => ((⟨e.1.toArray⟩ : ByteArray), Value.string ⟨e.2.toArray⟩)).find? (fun e => (⟨o.toArray⟩ : ByteArray) == e.1)).map (·.2)) = (l.find? (fun e => e.1 == o)).map fun e => Value.string ⟨e.2.toArray⟩
  | [] => rfl
  | x :: r => by
    have ih := find_bytes o r
    simp only [List.map_cons, List.find?_cons]
    by_cases h : x.1 = o
    · have h1 : (x.1 == o) = true := beq_iff_eq.2 h
      have h2 : ((⟨o.toArray⟩ : ByteArray) == ⟨x.1.toArray⟩) = true := by rw [h]; exact (bytes_beq _ _).2 rfl
      rw [h1, h2]
      rfl
    · have h1 : (x.1 == o) = false := beq_false_of_ne h
      have h2 : ((⟨o.toArray⟩ : ByteArray) == ⟨x.1.toArray⟩) = false := by
        cases hb : ((⟨o.toArray⟩ : ByteArray) == ⟨x.1.toArray⟩) with
        | false => rfl
        | true =>
          have := (bytes_beq _ _).1 hb
          have := congrArg (fun b : ByteArray => b.data.toList) this
          simp only at this
          exact absurd this.symm h
      rw [h1, h2]
      exact ih
theorem sign_found (o : List UInt8) (ho : setOp o = true ∨ binOp o = true ∨ relOp o = true) : ((signL14.find? (fun e => (⟨o.toArray⟩ : ByteArray) == e.1)).map (·.2)).getD (.string ⟨#[]⟩) = .string ⟨(signOf o).toArray⟩ := by
  unfold signL14
  rw [find_bytes]
  unfold setOp binOp relOp at ho
  simp only [Bool.or_eq_true, decide_eq_true_eq] at ho
  rcases ho with ((rfl | rfl) | rfl) | (((rfl | rfl) | rfl) | rfl) | ((((((rfl | rfl) | rfl) | rfl) | rfl) | rfl) | rfl) <;> rfl
set_option maxRecDepth 100000 in
set_option maxHeartbeats 2000000 in
theorem ssign_any (o : List UInt8) (ho : setOp o = true ∨ binOp o = true ∨ relOp o = true) (w : World) : Calls Tryd.prog 62 #[.string ⟨o.toArray⟩] w fun e w' => e = .returned (.string ⟨(signOf o).toArray⟩) ∧ Below w.heap.size w w' := by
  have hmm := @run_makeMap Tryd.prog
  have hL : ∀ (W : World) (b : Nat), MapAt W b ([] ++ [(⟨#[117, 110, 105, 111, 110]⟩, .string ⟨#[117, 110, 105, 111, 110]⟩)] ++ [(⟨#[105, 110, 116, 101, 114]⟩, .string ⟨#[105, 110, 116, 101, 114]⟩)] ++ [(⟨#[109, 105, 110, 117, 115]⟩, .string ⟨#[92]⟩)] ++ [(⟨#[97, 110, 100]⟩, .string ⟨#[38]⟩)] ++ [(⟨#[111, 114]⟩, .string ⟨#[124]⟩)] ++ [(⟨#[105, 109, 112]⟩, .string ⟨#[61, 62]⟩)] ++ [(⟨#[105, 102, 102]⟩, .string ⟨#[60, 61, 62]⟩)] ++ [(⟨#[101, 113]⟩, .string ⟨#[61]⟩)] ++ [(⟨#[110, 101]⟩, .string ⟨#[126, 61]⟩)] ++ [(⟨#[108, 116]⟩, .string ⟨#[60]⟩)] ++ [(⟨#[108, 101]⟩, .string ⟨#[60, 61]⟩)] ++ [(⟨#[105, 110]⟩, .string ⟨#[105, 110]⟩)] ++ [(⟨#[110, 111, 116, 105, 110]⟩, .string ⟨#[110, 111, 116, 105, 110]⟩)] ++ [(⟨#[115, 117, 98]⟩, .string ⟨#[115, 117, 98]⟩)]) → MapAt W b signL14 := fun W b h => h
  have HS := Lib.hid (sign_found o ho)
  clear ho
  generalize signOf o = V at *
  go_enter Tryd.func62, Tryd.ntmps62
  have hA : MapAt (w.alloc (.map #[] 0)) w.heap.size [] := by
    unfold MapAt
    rw [(heap_alloc w _).1]
    rfl
  have hB : Below w.heap.size w (w.alloc (.map #[] 0)) := (Below.refl _ _).alloc (Nat.le_refl _) _
  have hs : w.heap.size < (w.alloc (.map #[] 0)).heap.size := by simp
  go_upto_region 2 with (
      (refine wpList_insert_op _ _ _ rfl hA _ _ rfl rfl (by rfl) ?_; clear hA; intro w1 hA hg; replace hB := hB.grown hg (Nat.le_of_lt hs) (by intro k hk; cases hk; exact Nat.le_refl _); replace hs := Nat.lt_of_lt_of_le hs hg.size; clear hg))
  have hA2 := hL _ _ hA
  clear hA
  go_wp2_with (
    (refine wpList_lookup_op _ _ _ rfl hA2 ⟨o.toArray⟩ rfl _ HS.out ?_))
  go_ret
  exact ⟨rfl, hB⟩
end Go.Proofs.YteikakoheibnjaaDoor
