/- The walks over sibyllaw5.known and the law ShowFormulas (printed by mklawf.py). -/
import Derived.Test.YteikakoheibnjaaDoorSForm
namespace Go.Proofs.YteikakoheibnjaaDoor
open Go Go.RowKit

theorem cells_in {W : World} {b : Nat} {t : TypeId} (pre mid post : List Value) (hb : W.heap[b]? = some (.cells (pre ++ mid ++ post).toArray t (0, 0))) (j : Nat) (u : Value) (hu : mid[j]? = some u) : W.cell? ⟨b, pre.length + j, none⟩ = some u := by
  rw [cell_of_row W b _ _ t (0, 0) hb, List.getElem?_toArray, List.append_assoc, List.getElem?_append_right (by omega)]
  have hj : j < mid.length := (List.getElem?_eq_some_iff.1 hu).1
  rw [show pre.length + j - pre.length = j by omega, List.getElem?_append_left hj]
  exact hu
theorem NodeAt.leaf (w : World) (B : Nat) (o s : List UInt8) (n p : Int) (ho : o.length ≤ 140737488355328) (hs : s.length ≤ 140737488355328) (A : Option Addr) : NodeAt w B (.node o s n p []) A 0 := by
  unfold NodeAt KidsAt
  exact ⟨ho, hs, Nat.le_refl _, by omega, trivial⟩
/-- The formula that known shows. -/
def orNode : Node := .node nOr [] 0 0 [.node nTrue [] 0 0 [], .node nNot [] 0 0 [.node nFalse [] 0 0 []]]
theorem known_tree (w : World) : NodeAt ((w.alloc (.cells (cellsN (.node nFalse [] 0 0 []) none 0).toArray 24)).alloc (.cells (cellsN (.node nTrue [] 0 0 []) none 0 ++ cellsN (.node nNot [] 0 0 [.node nFalse [] 0 0 []]) (some ⟨w.heap.size, 0, none⟩) 1).toArray 24))
    ((w.alloc (.cells (cellsN (.node nFalse [] 0 0 []) none 0).toArray 24)).alloc (.cells (cellsN (.node nTrue [] 0 0 []) none 0 ++ cellsN (.node nNot [] 0 0 [.node nFalse [] 0 0 []]) (some ⟨w.heap.size, 0, none⟩) 1).toArray 24)).heap.size orNode (some ⟨w.heap.size + 1, 0, none⟩) 2 := by
  have hW1 : (w.alloc (.cells (cellsN (.node nFalse [] 0 0 []) none 0).toArray 24)).heap[w.heap.size]? = some (.cells (cellsN (.node nFalse [] 0 0 []) none 0).toArray 24 (0, 0)) := heap_alloc_new w _
  have hz : (w.alloc (.cells (cellsN (.node nFalse [] 0 0 []) none 0).toArray 24)).heap.size = w.heap.size + 1 := by simp
  generalize w.alloc (.cells (cellsN (.node nFalse [] 0 0 []) none 0).toArray 24) = W1 at *
  have hW2 : (W1.alloc (.cells (cellsN (.node nTrue [] 0 0 []) none 0 ++ cellsN (.node nNot [] 0 0 [.node nFalse [] 0 0 []]) (some ⟨w.heap.size, 0, none⟩) 1).toArray 24)).heap[w.heap.size + 1]? = some (.cells (cellsN (.node nTrue [] 0 0 []) none 0 ++ cellsN (.node nNot [] 0 0 [.node nFalse [] 0 0 []]) (some ⟨w.heap.size, 0, none⟩) 1).toArray 24 (0, 0)) := by
    rw [← hz]
    exact heap_alloc_new W1 _
  have hW3 : (W1.alloc (.cells (cellsN (.node nTrue [] 0 0 []) none 0 ++ cellsN (.node nNot [] 0 0 [.node nFalse [] 0 0 []]) (some ⟨w.heap.size, 0, none⟩) 1).toArray 24)).heap[w.heap.size]? = some (.cells (cellsN (.node nFalse [] 0 0 []) none 0).toArray 24 (0, 0)) := (Below.heap_alloc W1 _ _ (by omega)).trans hW1
  have hz2 : (W1.alloc (.cells (cellsN (.node nTrue [] 0 0 []) none 0 ++ cellsN (.node nNot [] 0 0 [.node nFalse [] 0 0 []]) (some ⟨w.heap.size, 0, none⟩) 1).toArray 24)).heap.size = w.heap.size + 2 := by simp [hz]
  generalize W1.alloc _ = W2 at *
  unfold orNode NodeAt
  refine ⟨by decide, by decide, by decide, by decide, ?_⟩
  unfold KidsAt
  refine ⟨⟨w.heap.size + 1, 0, none, 0, rfl, by omega, fun j u hu => ?_, NodeAt.leaf _ _ _ _ _ _ (by decide) (by decide) _⟩, ?_⟩
  · have := cells_in [] (cellsN (.node nTrue [] 0 0 []) none 0) (cellsN (.node nNot [] 0 0 [.node nFalse [] 0 0 []]) (some ⟨w.heap.size, 0, none⟩) 1) hW2 j u hu
    simpa using this
  · unfold KidsAt
    refine ⟨⟨w.heap.size + 1, 0, some ⟨w.heap.size, 0, none⟩, 1, rfl, by omega, fun j u hu => ?_, ?_⟩, by unfold KidsAt; trivial⟩
    · have := cells_in (cellsN (.node nTrue [] 0 0 []) none 0) (cellsN (.node nNot [] 0 0 [.node nFalse [] 0 0 []]) (some ⟨w.heap.size, 0, none⟩) 1) [] (by rw [List.append_nil]; exact hW2) j u hu
      simpa [cellsN] using this
    · unfold NodeAt
      refine ⟨by decide, by decide, by decide, by decide, ?_⟩
      unfold KidsAt
      refine ⟨⟨w.heap.size, 0, none, 0, rfl, by omega, fun j u hu => ?_, NodeAt.leaf _ _ _ _ _ _ (by decide) (by decide) _⟩, by unfold KidsAt; trivial⟩
      have := cells_in [] (cellsN (.node nFalse [] 0 0 []) none 0) [] (by rw [List.append_nil]; exact hW3) j u hu
      simpa using this
theorem known5_any (w : World) : Calls Tryd.prog 15 #[] w fun e w' => e = .returned (.bool true) ∧ Below w.heap.size w w' := by
  have H := Lib.hid (sform_any orNode _ _ _ (known_tree w) (by decide) (by decide))
  rw [show formS orNode = [40, 116, 114, 117, 101, 32, 124, 32, 126, 102, 97, 108, 115, 101, 41] by decide] at H
  simp only [nodeT, nodeW, orNode, Node.op, Node.name, Node.num, Node.pos, Node.kids] at H
  go_enter Tryd.func15, Tryd.ntmps15
  go_wp2_with (
    go_at_call 11
    refine H.out.mono ?_
    rintro e w2 ⟨rfl, hb⟩)
  go_ret
  exact ⟨rfl, (((Below.refl w.heap.size w).alloc (Nat.le_refl _) _).alloc (by simp) _).trans (hb.mono (by simp <;> omega))⟩

theorem boxes {w W : World} {o1 s1 o2 s2 : List UInt8} {n1 p1 n2 p2 : Int} {l1 l2 : Nat} {A1 A2 : Option Addr} {cap1 cap2 : Nat} (h : Below (w.heap.size + 2) ((w.alloc (boxN o1 s1 n1 p1 l1 A1 cap1)).alloc (boxN o2 s2 n2 p2 l2 A2 cap2)) W) :
    (W.cell? ⟨w.heap.size, 0, none⟩ = some (.string ⟨o1.toArray⟩) ∧ W.cell? ⟨w.heap.size, 1, none⟩ = some (.string ⟨s1.toArray⟩) ∧ W.cell? ⟨w.heap.size, 2, none⟩ = some (.int .i64 n1) ∧ W.cell? ⟨w.heap.size, 3, none⟩ = some (.int .i64 p1) ∧ W.cell? ⟨w.heap.size, 4, none⟩ = some (.slice A1 l1 cap1)) ∧
    (W.cell? ⟨w.heap.size + 1, 0, none⟩ = some (.string ⟨o2.toArray⟩) ∧ W.cell? ⟨w.heap.size + 1, 1, none⟩ = some (.string ⟨s2.toArray⟩) ∧ W.cell? ⟨w.heap.size + 1, 2, none⟩ = some (.int .i64 n2) ∧ W.cell? ⟨w.heap.size + 1, 3, none⟩ = some (.int .i64 p2) ∧ W.cell? ⟨w.heap.size + 1, 4, none⟩ = some (.slice A2 l2 cap2)) := by
  refine ⟨box5 (((Below.refl _ _).alloc (by simp) _).trans (h.mono (by omega))), ?_⟩
  have hz : (w.alloc (boxN o1 s1 n1 p1 l1 A1 cap1)).heap.size = w.heap.size + 1 := by simp
  have := box5 (w := w.alloc (boxN o1 s1 n1 p1 l1 A1 cap1)) (W := W) (o := o2) (s := s2) (n := n2) (p := p2) (l := l2) (A := A2) (cap := cap2) (by rw [hz]; exact h)
  rw [hz] at this
  exact this
set_option maxHeartbeats 8000000 in
theorem lawForms_any (x1 : Node) (A1 : Option Addr) (cap1 : Nat) (x2 : Node) (A2 : Option Addr) (cap2 : Nat) (w : World) (h1 : NodeAt w w.heap.size x1 A1 cap1) (h2 : NodeAt w w.heap.size x2 A2 cap2) (hT : Tab8 w) :
    Calls Tryd.prog 3 #[nodeT x1 A1 cap1, nodeT x2 A2 cap2] w fun e w' => e = .returned (.bool true) ∧ Below w.heap.size w w' := by
  have HC1 := Lib.hid (fun W (hW : Below w.heap.size w W) => h1.later hW hW.size)
  have HC2 := Lib.hid (fun W (hW : Below w.heap.size w W) => h2.later hW hW.size)
  have HZ1 := Lib.hid (fun W hW => rSize_any x1 A1 cap1 W hW)
  have HZ2 := Lib.hid (fun W hW => rSize_any x2 A2 cap2 W hW)
  have HI1 := Lib.hid (fun W (hW : Below w.heap.size w W) hN => isFormula_any x1 A1 cap1 W hN (Go.Proofs.Utf8Tabs_below hT hW))
  have HI2 := Lib.hid (fun W (hW : Below w.heap.size w W) hN => isTerm_any x2 A2 cap2 W hN (Go.Proofs.Utf8Tabs_below hT hW))
  have HF1 := Lib.hid (fun (hi : isFormB x1 = true) (hn : nodes x1 ≤ 2000) W hW => sform_any x1 A1 cap1 W hW (by unfold isFormB at hi; rw [Bool.and_eq_true] at hi; exact hi.2) hn)
  have HR1 := Lib.hid (fun (hi : isFormB x1 = true) (hn : nodes x1 ≤ 2000) W hW => rform_any x1 A1 cap1 W hW (by unfold isFormB at hi; rw [Bool.and_eq_true] at hi; exact hi.2) hn)
  have HF2 := Lib.hid (fun (hi : isTermB x2 = true) (hn : nodes x2 ≤ 2000) W hW => sterm_any x2 A2 cap2 W hW (by unfold isTermB at hi; rw [Bool.and_eq_true] at hi; exact hi.2) hn)
  have HR2 := Lib.hid (fun (hi : isTermB x2 = true) (hn : nodes x2 ≤ 2000) W hW => rterm_any x2 A2 cap2 W hW (by unfold isTermB at hi; rw [Bool.and_eq_true] at hi; exact hi.2) hn)
  clear h1 h2 hT
  generalize formS x1 = Y1 at *
  generalize termS x2 = Y2 at *
  generalize isFormB x1 = I1 at *
  generalize isTermB x2 = I2 at *
  generalize nodes x1 = N1 at *
  generalize nodes x2 = N2 at *
  cases x1 with
  | node o1 s1 n1 p1 ks1 =>
  cases x2 with
  | node o2 s2 n2 p2 ks2 =>
    simp only [nodeT, nodeW, Node.op, Node.name, Node.num, Node.pos, Node.kids] at HZ1 HZ2 HI1 HI2 HF1 HR1 HF2 HR2 HC1 HC2 ⊢
    have HX := Lib.hid (fun W (hW : Below (w.heap.size + 2) ((w.alloc (boxN o1 s1 n1 p1 ks1.length A1 cap1)).alloc (boxN o2 s2 n2 p2 ks2.length A2 cap2)) W) => boxes hW)
    have HW := Lib.hid (fun W (hW : Below (w.heap.size + 2) ((w.alloc (boxN o1 s1 n1 p1 ks1.length A1 cap1)).alloc (boxN o2 s2 n2 p2 ks2.length A2 cap2)) W) => ((((Below.refl w.heap.size w).alloc (Nat.le_refl _) _).alloc (by simp) _).trans (hW.mono (by omega)) : Below w.heap.size w W))
    have HG := Lib.hid (fun W W' (hW : Below (w.heap.size + 2) ((w.alloc (boxN o1 s1 n1 p1 ks1.length A1 cap1)).alloc (boxN o2 s2 n2 p2 ks2.length A2 cap2)) W) (hb : Below W.heap.size W W') => (hW.trans (hb.mono (Nat.le_trans (by simp) hW.size)) : Below (w.heap.size + 2) ((w.alloc (boxN o1 s1 n1 p1 ks1.length A1 cap1)).alloc (boxN o2 s2 n2 p2 ks2.length A2 cap2)) W'))
    have hB0 := Below.refl (w.heap.size + 2) ((w.alloc (boxN o1 s1 n1 p1 ks1.length A1 cap1)).alloc (boxN o2 s2 n2 p2 ks2.length A2 cap2))
    by_cases hN1 : 200 < N1
    · have gN1 : decide (200 < ((min N1 2001 : Nat) : Int)) = true := decide_eq_true (by omega)
      clear hN1 HF1 HR1 HF2 HR2
      generalize min N1 2001 = M1 at *
      generalize min N2 2001 = M2 at *
      go_enter Tryd.func3, Tryd.ntmps3
      go_wp2_with (first
                | (
                   go_at_call_of 8 (Value.agg #[Value.string ⟨o1.toArray⟩, Value.string ⟨s1.toArray⟩, Value.int .i64 n1, Value.int .i64 p1, Value.slice A1 ks1.length cap1])
                   refine (HZ1.out _ (HC1.out _ (HW.out _ hB0))).mono ?_
                   rintro e b2 ⟨rfl, hb⟩
                   have hB2 := HG.out _ _ hB0 hb
                   obtain ⟨⟨cB20, cB21, cB22, cB23, cB24⟩, ⟨dB20, dB21, dB22, dB23, dB24⟩⟩ := HX.out _ hB2
                   clear hb)
                | (
                   go_at_call_of 8 (Value.agg #[Value.string ⟨o2.toArray⟩, Value.string ⟨s2.toArray⟩, Value.int .i64 n2, Value.int .i64 p2, Value.slice A2 ks2.length cap2])
                   refine (HZ2.out _ (HC2.out _ (HW.out _ hB2))).mono ?_
                   rintro e b3 ⟨rfl, hb⟩
                   have hB3 := HG.out _ _ hB2 hb
                   obtain ⟨⟨cB30, cB31, cB32, cB33, cB34⟩, ⟨dB30, dB31, dB32, dB33, dB34⟩⟩ := HX.out _ hB3
                   clear hb)
                | (
                   go_at_call_of 9 (Value.agg #[Value.string ⟨o1.toArray⟩, Value.string ⟨s1.toArray⟩, Value.int .i64 n1, Value.int .i64 p1, Value.slice A1 ks1.length cap1])
                   refine (HI1.out _ (HW.out _ hB3) (HC1.out _ (HW.out _ hB3))).mono ?_
                   rintro e b4 ⟨rfl, hb⟩
                   have hB4 := HG.out _ _ hB3 hb
                   obtain ⟨⟨cB40, cB41, cB42, cB43, cB44⟩, ⟨dB40, dB41, dB42, dB43, dB44⟩⟩ := HX.out _ hB4
                   clear hb)
                | (
                   go_at_call_of 10 (Value.agg #[Value.string ⟨o2.toArray⟩, Value.string ⟨s2.toArray⟩, Value.int .i64 n2, Value.int .i64 p2, Value.slice A2 ks2.length cap2])
                   refine (HI2.out _ (HW.out _ hB4) (HC2.out _ (HW.out _ hB4))).mono ?_
                   rintro e b5 ⟨rfl, hb⟩
                   have hB5 := HG.out _ _ hB4 hb
                   obtain ⟨⟨cB50, cB51, cB52, cB53, cB54⟩, ⟨dB50, dB51, dB52, dB53, dB54⟩⟩ := HX.out _ hB5
                   clear hb))
      go_ret
      exact ⟨rfl, HW.out _ hB2⟩
    have gN1 : decide (200 < ((min N1 2001 : Nat) : Int)) = false := decide_eq_false (by omega)
    by_cases hN2 : 200 < N2
    · have gN2 : decide (200 < ((min N2 2001 : Nat) : Int)) = true := decide_eq_true (by omega)
      clear hN1 hN2 HF1 HR1 HF2 HR2
      generalize min N1 2001 = M1 at *
      generalize min N2 2001 = M2 at *
      go_enter Tryd.func3, Tryd.ntmps3
      go_wp2_with (first
                | (
                   go_at_call_of 8 (Value.agg #[Value.string ⟨o1.toArray⟩, Value.string ⟨s1.toArray⟩, Value.int .i64 n1, Value.int .i64 p1, Value.slice A1 ks1.length cap1])
                   refine (HZ1.out _ (HC1.out _ (HW.out _ hB0))).mono ?_
                   rintro e b2 ⟨rfl, hb⟩
                   have hB2 := HG.out _ _ hB0 hb
                   obtain ⟨⟨cB20, cB21, cB22, cB23, cB24⟩, ⟨dB20, dB21, dB22, dB23, dB24⟩⟩ := HX.out _ hB2
                   clear hb)
                | (
                   go_at_call_of 8 (Value.agg #[Value.string ⟨o2.toArray⟩, Value.string ⟨s2.toArray⟩, Value.int .i64 n2, Value.int .i64 p2, Value.slice A2 ks2.length cap2])
                   refine (HZ2.out _ (HC2.out _ (HW.out _ hB2))).mono ?_
                   rintro e b3 ⟨rfl, hb⟩
                   have hB3 := HG.out _ _ hB2 hb
                   obtain ⟨⟨cB30, cB31, cB32, cB33, cB34⟩, ⟨dB30, dB31, dB32, dB33, dB34⟩⟩ := HX.out _ hB3
                   clear hb)
                | (
                   go_at_call_of 9 (Value.agg #[Value.string ⟨o1.toArray⟩, Value.string ⟨s1.toArray⟩, Value.int .i64 n1, Value.int .i64 p1, Value.slice A1 ks1.length cap1])
                   refine (HI1.out _ (HW.out _ hB3) (HC1.out _ (HW.out _ hB3))).mono ?_
                   rintro e b4 ⟨rfl, hb⟩
                   have hB4 := HG.out _ _ hB3 hb
                   obtain ⟨⟨cB40, cB41, cB42, cB43, cB44⟩, ⟨dB40, dB41, dB42, dB43, dB44⟩⟩ := HX.out _ hB4
                   clear hb)
                | (
                   go_at_call_of 10 (Value.agg #[Value.string ⟨o2.toArray⟩, Value.string ⟨s2.toArray⟩, Value.int .i64 n2, Value.int .i64 p2, Value.slice A2 ks2.length cap2])
                   refine (HI2.out _ (HW.out _ hB4) (HC2.out _ (HW.out _ hB4))).mono ?_
                   rintro e b5 ⟨rfl, hb⟩
                   have hB5 := HG.out _ _ hB4 hb
                   obtain ⟨⟨cB50, cB51, cB52, cB53, cB54⟩, ⟨dB50, dB51, dB52, dB53, dB54⟩⟩ := HX.out _ hB5
                   clear hb))
      go_ret
      exact ⟨rfl, HW.out _ hB3⟩
    have gN2 : decide (200 < ((min N2 2001 : Nat) : Int)) = false := decide_eq_false (by omega)
    have HF1b := Lib.hid (fun hi => HF1.out hi (by omega))
    have HR1b := Lib.hid (fun hi => HR1.out hi (by omega))
    have HF2b := Lib.hid (fun hi => HF2.out hi (by omega))
    have HR2b := Lib.hid (fun hi => HR2.out hi (by omega))
    clear hN1 hN2 HF1 HR1 HF2 HR2
    generalize min N1 2001 = M1 at *
    generalize min N2 2001 = M2 at *
    cases I1 with
    | false =>
      clear HF1b HR1b HF2b HR2b
      go_enter Tryd.func3, Tryd.ntmps3
      go_wp2_with (first
                | (
                   go_at_call_of 8 (Value.agg #[Value.string ⟨o1.toArray⟩, Value.string ⟨s1.toArray⟩, Value.int .i64 n1, Value.int .i64 p1, Value.slice A1 ks1.length cap1])
                   refine (HZ1.out _ (HC1.out _ (HW.out _ hB0))).mono ?_
                   rintro e b2 ⟨rfl, hb⟩
                   have hB2 := HG.out _ _ hB0 hb
                   obtain ⟨⟨cB20, cB21, cB22, cB23, cB24⟩, ⟨dB20, dB21, dB22, dB23, dB24⟩⟩ := HX.out _ hB2
                   clear hb)
                | (
                   go_at_call_of 8 (Value.agg #[Value.string ⟨o2.toArray⟩, Value.string ⟨s2.toArray⟩, Value.int .i64 n2, Value.int .i64 p2, Value.slice A2 ks2.length cap2])
                   refine (HZ2.out _ (HC2.out _ (HW.out _ hB2))).mono ?_
                   rintro e b3 ⟨rfl, hb⟩
                   have hB3 := HG.out _ _ hB2 hb
                   obtain ⟨⟨cB30, cB31, cB32, cB33, cB34⟩, ⟨dB30, dB31, dB32, dB33, dB34⟩⟩ := HX.out _ hB3
                   clear hb)
                | (
                   go_at_call_of 9 (Value.agg #[Value.string ⟨o1.toArray⟩, Value.string ⟨s1.toArray⟩, Value.int .i64 n1, Value.int .i64 p1, Value.slice A1 ks1.length cap1])
                   refine (HI1.out _ (HW.out _ hB3) (HC1.out _ (HW.out _ hB3))).mono ?_
                   rintro e b4 ⟨rfl, hb⟩
                   have hB4 := HG.out _ _ hB3 hb
                   obtain ⟨⟨cB40, cB41, cB42, cB43, cB44⟩, ⟨dB40, dB41, dB42, dB43, dB44⟩⟩ := HX.out _ hB4
                   clear hb)
                | (
                   go_at_call_of 10 (Value.agg #[Value.string ⟨o2.toArray⟩, Value.string ⟨s2.toArray⟩, Value.int .i64 n2, Value.int .i64 p2, Value.slice A2 ks2.length cap2])
                   refine (HI2.out _ (HW.out _ hB4) (HC2.out _ (HW.out _ hB4))).mono ?_
                   rintro e b5 ⟨rfl, hb⟩
                   have hB5 := HG.out _ _ hB4 hb
                   obtain ⟨⟨cB50, cB51, cB52, cB53, cB54⟩, ⟨dB50, dB51, dB52, dB53, dB54⟩⟩ := HX.out _ hB5
                   clear hb))
      go_ret
      exact ⟨rfl, HW.out _ hB4⟩
    | true =>
    cases I2 with
    | false =>
      clear HF1b HR1b HF2b HR2b
      go_enter Tryd.func3, Tryd.ntmps3
      go_wp2_with (first
                | (
                   go_at_call_of 8 (Value.agg #[Value.string ⟨o1.toArray⟩, Value.string ⟨s1.toArray⟩, Value.int .i64 n1, Value.int .i64 p1, Value.slice A1 ks1.length cap1])
                   refine (HZ1.out _ (HC1.out _ (HW.out _ hB0))).mono ?_
                   rintro e b2 ⟨rfl, hb⟩
                   have hB2 := HG.out _ _ hB0 hb
                   obtain ⟨⟨cB20, cB21, cB22, cB23, cB24⟩, ⟨dB20, dB21, dB22, dB23, dB24⟩⟩ := HX.out _ hB2
                   clear hb)
                | (
                   go_at_call_of 8 (Value.agg #[Value.string ⟨o2.toArray⟩, Value.string ⟨s2.toArray⟩, Value.int .i64 n2, Value.int .i64 p2, Value.slice A2 ks2.length cap2])
                   refine (HZ2.out _ (HC2.out _ (HW.out _ hB2))).mono ?_
                   rintro e b3 ⟨rfl, hb⟩
                   have hB3 := HG.out _ _ hB2 hb
                   obtain ⟨⟨cB30, cB31, cB32, cB33, cB34⟩, ⟨dB30, dB31, dB32, dB33, dB34⟩⟩ := HX.out _ hB3
                   clear hb)
                | (
                   go_at_call_of 9 (Value.agg #[Value.string ⟨o1.toArray⟩, Value.string ⟨s1.toArray⟩, Value.int .i64 n1, Value.int .i64 p1, Value.slice A1 ks1.length cap1])
                   refine (HI1.out _ (HW.out _ hB3) (HC1.out _ (HW.out _ hB3))).mono ?_
                   rintro e b4 ⟨rfl, hb⟩
                   have hB4 := HG.out _ _ hB3 hb
                   obtain ⟨⟨cB40, cB41, cB42, cB43, cB44⟩, ⟨dB40, dB41, dB42, dB43, dB44⟩⟩ := HX.out _ hB4
                   clear hb)
                | (
                   go_at_call_of 10 (Value.agg #[Value.string ⟨o2.toArray⟩, Value.string ⟨s2.toArray⟩, Value.int .i64 n2, Value.int .i64 p2, Value.slice A2 ks2.length cap2])
                   refine (HI2.out _ (HW.out _ hB4) (HC2.out _ (HW.out _ hB4))).mono ?_
                   rintro e b5 ⟨rfl, hb⟩
                   have hB5 := HG.out _ _ hB4 hb
                   obtain ⟨⟨cB50, cB51, cB52, cB53, cB54⟩, ⟨dB50, dB51, dB52, dB53, dB54⟩⟩ := HX.out _ hB5
                   clear hb))
      go_ret
      exact ⟨rfl, HW.out _ hB5⟩
    | true =>
      have HA := Lib.hid (HF1b.out rfl)
      have HB := Lib.hid (HR1b.out rfl)
      have HC := Lib.hid (HF2b.out rfl)
      have HD := Lib.hid (HR2b.out rfl)
      have HSS := Lib.hid (fun (W : World) (hW : Below (w.heap.size + 2) ((w.alloc (boxN o1 s1 n1 p1 ks1.length A1 cap1)).alloc (boxN o2 s2 n2 p2 ks2.length A2 cap2)) W) => (⟨hW, (boxes hW).1, (boxes hW).2⟩ : (fun W : World => Below (w.heap.size + 2) ((w.alloc (boxN o1 s1 n1 p1 ks1.length A1 cap1)).alloc (boxN o2 s2 n2 p2 ks2.length A2 cap2)) W ∧ (W.cell? ⟨w.heap.size, 0, none⟩ = some (.string ⟨o1.toArray⟩) ∧ W.cell? ⟨w.heap.size, 1, none⟩ = some (.string ⟨s1.toArray⟩) ∧ W.cell? ⟨w.heap.size, 2, none⟩ = some (.int .i64 n1) ∧ W.cell? ⟨w.heap.size, 3, none⟩ = some (.int .i64 p1) ∧ W.cell? ⟨w.heap.size, 4, none⟩ = some (.slice A1 ks1.length cap1)) ∧ (W.cell? ⟨w.heap.size + 1, 0, none⟩ = some (.string ⟨o2.toArray⟩) ∧ W.cell? ⟨w.heap.size + 1, 1, none⟩ = some (.string ⟨s2.toArray⟩) ∧ W.cell? ⟨w.heap.size + 1, 2, none⟩ = some (.int .i64 n2) ∧ W.cell? ⟨w.heap.size + 1, 3, none⟩ = some (.int .i64 p2) ∧ W.cell? ⟨w.heap.size + 1, 4, none⟩ = some (.slice A2 ks2.length cap2))) W))
      clear HF1b HR1b HF2b HR2b
      go_enter Tryd.func3, Tryd.ntmps3
      go_upto_region 3 with (first
          | (
             go_at_call_of 8 (Value.agg #[Value.string ⟨o1.toArray⟩, Value.string ⟨s1.toArray⟩, Value.int .i64 n1, Value.int .i64 p1, Value.slice A1 ks1.length cap1])
             refine (HZ1.out _ (HC1.out _ (HW.out _ hB0))).mono ?_
             rintro e b2 ⟨rfl, hb⟩
             have hB2 := HG.out _ _ hB0 hb
             obtain ⟨⟨cB20, cB21, cB22, cB23, cB24⟩, ⟨dB20, dB21, dB22, dB23, dB24⟩⟩ := HX.out _ hB2
             clear hb)
          | (
             go_at_call_of 8 (Value.agg #[Value.string ⟨o2.toArray⟩, Value.string ⟨s2.toArray⟩, Value.int .i64 n2, Value.int .i64 p2, Value.slice A2 ks2.length cap2])
             refine (HZ2.out _ (HC2.out _ (HW.out _ hB2))).mono ?_
             rintro e b3 ⟨rfl, hb⟩
             have hB3 := HG.out _ _ hB2 hb
             obtain ⟨⟨cB30, cB31, cB32, cB33, cB34⟩, ⟨dB30, dB31, dB32, dB33, dB34⟩⟩ := HX.out _ hB3
             clear hb)
          | (
             go_at_call_of 9 (Value.agg #[Value.string ⟨o1.toArray⟩, Value.string ⟨s1.toArray⟩, Value.int .i64 n1, Value.int .i64 p1, Value.slice A1 ks1.length cap1])
             refine (HI1.out _ (HW.out _ hB3) (HC1.out _ (HW.out _ hB3))).mono ?_
             rintro e b4 ⟨rfl, hb⟩
             have hB4 := HG.out _ _ hB3 hb
             obtain ⟨⟨cB40, cB41, cB42, cB43, cB44⟩, ⟨dB40, dB41, dB42, dB43, dB44⟩⟩ := HX.out _ hB4
             clear hb)
          | (
             go_at_call_of 10 (Value.agg #[Value.string ⟨o2.toArray⟩, Value.string ⟨s2.toArray⟩, Value.int .i64 n2, Value.int .i64 p2, Value.slice A2 ks2.length cap2])
             refine (HI2.out _ (HW.out _ hB4) (HC2.out _ (HW.out _ hB4))).mono ?_
             rintro e b5 ⟨rfl, hb⟩
             have hB5 := HG.out _ _ hB4 hb
             obtain ⟨⟨cB50, cB51, cB52, cB53, cB54⟩, ⟨dB50, dB51, dB52, dB53, dB54⟩⟩ := HX.out _ hB5
             clear hb))
      have HB5 := Lib.hid hB5
      clear cB20 cB21 cB22 cB23 cB24 dB20 dB21 dB22 dB23 dB24 cB30 cB31 cB32 cB33 cB34 dB30 dB31 dB32 dB33 dB34 cB40 cB41 cB42 cB43 cB44 dB40 dB41 dB42 dB43 dB44 cB50 cB51 cB52 cB53 cB54 dB50 dB51 dB52 dB53 dB54 hB0 hB2 hB3 hB4 hB5 HZ1 HZ2 HI1 HI2 gN1 gN2
      generalize ((w.alloc (boxN o1 s1 n1 p1 ks1.length A1 cap1)).alloc (boxN o2 s2 n2 p2 ks2.length A2 cap2)) = Z at *
      have hyy1 : (Y1 == Y1) = true := beq_self_eq_true Y1
      have hyy2 : (Y2 == Y2) = true := beq_self_eq_true Y2
      go_region_held3 (fun W : World => Below (w.heap.size + 2) Z W ∧ (W.cell? ⟨w.heap.size, 0, none⟩ = some (.string ⟨o1.toArray⟩) ∧ W.cell? ⟨w.heap.size, 1, none⟩ = some (.string ⟨s1.toArray⟩) ∧ W.cell? ⟨w.heap.size, 2, none⟩ = some (.int .i64 n1) ∧ W.cell? ⟨w.heap.size, 3, none⟩ = some (.int .i64 p1) ∧ W.cell? ⟨w.heap.size, 4, none⟩ = some (.slice A1 ks1.length cap1)) ∧ (W.cell? ⟨w.heap.size + 1, 0, none⟩ = some (.string ⟨o2.toArray⟩) ∧ W.cell? ⟨w.heap.size + 1, 1, none⟩ = some (.string ⟨s2.toArray⟩) ∧ W.cell? ⟨w.heap.size + 1, 2, none⟩ = some (.int .i64 n2) ∧ W.cell? ⟨w.heap.size + 1, 3, none⟩ = some (.int .i64 p2) ∧ W.cell? ⟨w.heap.size + 1, 4, none⟩ = some (.slice A2 ks2.length cap2))) (first | assumption | exact HSS.out _ hB9 | exact HSS.out _ HB5.out.drew | exact HSS.out _ HB5.out) (first
        | (go_at_call 11
           have hq : Below (w.heap.size + 2) Z _ := (show (fun W : World => Below (w.heap.size + 2) Z W ∧ (W.cell? ⟨w.heap.size, 0, none⟩ = some (.string ⟨o1.toArray⟩) ∧ W.cell? ⟨w.heap.size, 1, none⟩ = some (.string ⟨s1.toArray⟩) ∧ W.cell? ⟨w.heap.size, 2, none⟩ = some (.int .i64 n1) ∧ W.cell? ⟨w.heap.size, 3, none⟩ = some (.int .i64 p1) ∧ W.cell? ⟨w.heap.size, 4, none⟩ = some (.slice A1 ks1.length cap1)) ∧ (W.cell? ⟨w.heap.size + 1, 0, none⟩ = some (.string ⟨o2.toArray⟩) ∧ W.cell? ⟨w.heap.size + 1, 1, none⟩ = some (.string ⟨s2.toArray⟩) ∧ W.cell? ⟨w.heap.size + 1, 2, none⟩ = some (.int .i64 n2) ∧ W.cell? ⟨w.heap.size + 1, 3, none⟩ = some (.int .i64 p2) ∧ W.cell? ⟨w.heap.size + 1, 4, none⟩ = some (.slice A2 ks2.length cap2))) _ by assumption).1
           refine (HA.out _ (HC1.out _ (HW.out _ hq))).mono ?_
           rintro e w9 ⟨rfl, hb⟩
           have hB9 := HG.out _ _ hq hb
           clear hb)
        | (go_at_call 12
           have hq : Below (w.heap.size + 2) Z _ := (show (fun W : World => Below (w.heap.size + 2) Z W ∧ (W.cell? ⟨w.heap.size, 0, none⟩ = some (.string ⟨o1.toArray⟩) ∧ W.cell? ⟨w.heap.size, 1, none⟩ = some (.string ⟨s1.toArray⟩) ∧ W.cell? ⟨w.heap.size, 2, none⟩ = some (.int .i64 n1) ∧ W.cell? ⟨w.heap.size, 3, none⟩ = some (.int .i64 p1) ∧ W.cell? ⟨w.heap.size, 4, none⟩ = some (.slice A1 ks1.length cap1)) ∧ (W.cell? ⟨w.heap.size + 1, 0, none⟩ = some (.string ⟨o2.toArray⟩) ∧ W.cell? ⟨w.heap.size + 1, 1, none⟩ = some (.string ⟨s2.toArray⟩) ∧ W.cell? ⟨w.heap.size + 1, 2, none⟩ = some (.int .i64 n2) ∧ W.cell? ⟨w.heap.size + 1, 3, none⟩ = some (.int .i64 p2) ∧ W.cell? ⟨w.heap.size + 1, 4, none⟩ = some (.slice A2 ks2.length cap2))) _ by assumption).1
           refine (HB.out _ (HC1.out _ (HW.out _ hq))).mono ?_
           rintro e w9 ⟨rfl, hb⟩
           have hB9 := HG.out _ _ hq hb
           clear hb)
        | (go_at_call 13
           have hq : Below (w.heap.size + 2) Z _ := (show (fun W : World => Below (w.heap.size + 2) Z W ∧ (W.cell? ⟨w.heap.size, 0, none⟩ = some (.string ⟨o1.toArray⟩) ∧ W.cell? ⟨w.heap.size, 1, none⟩ = some (.string ⟨s1.toArray⟩) ∧ W.cell? ⟨w.heap.size, 2, none⟩ = some (.int .i64 n1) ∧ W.cell? ⟨w.heap.size, 3, none⟩ = some (.int .i64 p1) ∧ W.cell? ⟨w.heap.size, 4, none⟩ = some (.slice A1 ks1.length cap1)) ∧ (W.cell? ⟨w.heap.size + 1, 0, none⟩ = some (.string ⟨o2.toArray⟩) ∧ W.cell? ⟨w.heap.size + 1, 1, none⟩ = some (.string ⟨s2.toArray⟩) ∧ W.cell? ⟨w.heap.size + 1, 2, none⟩ = some (.int .i64 n2) ∧ W.cell? ⟨w.heap.size + 1, 3, none⟩ = some (.int .i64 p2) ∧ W.cell? ⟨w.heap.size + 1, 4, none⟩ = some (.slice A2 ks2.length cap2))) _ by assumption).1
           refine (HC.out _ (HC2.out _ (HW.out _ hq))).mono ?_
           rintro e w9 ⟨rfl, hb⟩
           have hB9 := HG.out _ _ hq hb
           clear hb)
        | (go_at_call 14
           have hq : Below (w.heap.size + 2) Z _ := (show (fun W : World => Below (w.heap.size + 2) Z W ∧ (W.cell? ⟨w.heap.size, 0, none⟩ = some (.string ⟨o1.toArray⟩) ∧ W.cell? ⟨w.heap.size, 1, none⟩ = some (.string ⟨s1.toArray⟩) ∧ W.cell? ⟨w.heap.size, 2, none⟩ = some (.int .i64 n1) ∧ W.cell? ⟨w.heap.size, 3, none⟩ = some (.int .i64 p1) ∧ W.cell? ⟨w.heap.size, 4, none⟩ = some (.slice A1 ks1.length cap1)) ∧ (W.cell? ⟨w.heap.size + 1, 0, none⟩ = some (.string ⟨o2.toArray⟩) ∧ W.cell? ⟨w.heap.size + 1, 1, none⟩ = some (.string ⟨s2.toArray⟩) ∧ W.cell? ⟨w.heap.size + 1, 2, none⟩ = some (.int .i64 n2) ∧ W.cell? ⟨w.heap.size + 1, 3, none⟩ = some (.int .i64 p2) ∧ W.cell? ⟨w.heap.size + 1, 4, none⟩ = some (.slice A2 ks2.length cap2))) _ by assumption).1
           refine (HD.out _ (HC2.out _ (HW.out _ hq))).mono ?_
           rintro e w9 ⟨rfl, hb⟩
           have hB9 := HG.out _ _ hq hb
           clear hb)
        | (go_at_call 15
           have hq : Below (w.heap.size + 2) Z _ := (show (fun W : World => Below (w.heap.size + 2) Z W ∧ (W.cell? ⟨w.heap.size, 0, none⟩ = some (.string ⟨o1.toArray⟩) ∧ W.cell? ⟨w.heap.size, 1, none⟩ = some (.string ⟨s1.toArray⟩) ∧ W.cell? ⟨w.heap.size, 2, none⟩ = some (.int .i64 n1) ∧ W.cell? ⟨w.heap.size, 3, none⟩ = some (.int .i64 p1) ∧ W.cell? ⟨w.heap.size, 4, none⟩ = some (.slice A1 ks1.length cap1)) ∧ (W.cell? ⟨w.heap.size + 1, 0, none⟩ = some (.string ⟨o2.toArray⟩) ∧ W.cell? ⟨w.heap.size + 1, 1, none⟩ = some (.string ⟨s2.toArray⟩) ∧ W.cell? ⟨w.heap.size + 1, 2, none⟩ = some (.int .i64 n2) ∧ W.cell? ⟨w.heap.size + 1, 3, none⟩ = some (.int .i64 p2) ∧ W.cell? ⟨w.heap.size + 1, 4, none⟩ = some (.slice A2 ks2.length cap2))) _ by assumption).1
           refine (known5_any _).mono ?_
           rintro e w9 ⟨rfl, hb⟩
           have hB9 := HG.out _ _ hq hb
           clear hb))
      all_goals
        have hh := (show (fun W : World => Below (w.heap.size + 2) Z W ∧ (W.cell? ⟨w.heap.size, 0, none⟩ = some (.string ⟨o1.toArray⟩) ∧ W.cell? ⟨w.heap.size, 1, none⟩ = some (.string ⟨s1.toArray⟩) ∧ W.cell? ⟨w.heap.size, 2, none⟩ = some (.int .i64 n1) ∧ W.cell? ⟨w.heap.size, 3, none⟩ = some (.int .i64 p1) ∧ W.cell? ⟨w.heap.size, 4, none⟩ = some (.slice A1 ks1.length cap1)) ∧ (W.cell? ⟨w.heap.size + 1, 0, none⟩ = some (.string ⟨o2.toArray⟩) ∧ W.cell? ⟨w.heap.size + 1, 1, none⟩ = some (.string ⟨s2.toArray⟩) ∧ W.cell? ⟨w.heap.size + 1, 2, none⟩ = some (.int .i64 n2) ∧ W.cell? ⟨w.heap.size + 1, 3, none⟩ = some (.int .i64 p2) ∧ W.cell? ⟨w.heap.size + 1, 4, none⟩ = some (.slice A2 ks2.length cap2))) _ by assumption).1
        go_wp2_with fail
        go_ret
        exact ⟨rfl, HW.out _ hh⟩
end Go.Proofs.YteikakoheibnjaaDoor
