/- Parts of the proof: STerm. -/
import Derived.Test.YteikakoheibnjaaDoorQ8
import Derived.Deep.RegionHeld3
namespace Go.Proofs.YteikakoheibnjaaDoor
open Go Go.RowKit

set_option maxHeartbeats 4000000 in
theorem sterm_var (s : List UInt8) (n p : Int) (ks : List Node) (A : Option Addr) (cap : Nat) (w : World) (h : NodeAt w w.heap.size (.node [118, 97, 114] s n p ks) A cap) (hB : termB (.node [118, 97, 114] s n p ks) = true) (_hN : nodes (.node [118, 97, 114] s n p ks) ≤ 2000) (_ih : ∀ k ∈ ks, STermLaw k) :
  Calls Tryd.prog 13 #[nodeW [118, 97, 114] s n p ks.length A cap] w fun e w' => e = .returned (.string ⟨(termS (.node [118, 97, 114] s n p ks)).toArray⟩) ∧ Below w.heap.size w w' := by
 have HC := Lib.hid h
 have HR := termS_len _ hB
 rw [nodes_node] at _hN HR
 have hl := h.len
 obtain ⟨hl1, hl2, _⟩ := hl
 clear h
 have HB0 := Lib.hid (Below.refl (w.heap.size + 1) (w.alloc (boxN [118, 97, 114] s n p ks.length A cap)))
 simp only [nodeW]
 have HF := Lib.hid (show s = termS (.node [118, 97, 114] s n p ks) by show _ = termS (.node nVar s n p ks); rw [termS, if_pos (by decide)]; try rfl)
 generalize termS (.node [118, 97, 114] s n p ks) = V at *
 clear hB _ih
 go_enter Tryd.func13, Tryd.ntmps13
 go_wp2_with fail
 go_ret
 exact ⟨congrArg (fun x : List UInt8 => Ending.returned (.string ⟨x.toArray⟩)) HF.out, fresh_w HB0.out⟩
set_option maxHeartbeats 4000000 in
theorem sterm_num (s : List UInt8) (n p : Int) (ks : List Node) (A : Option Addr) (cap : Nat) (w : World) (h : NodeAt w w.heap.size (.node [110, 117, 109] s n p ks) A cap) (hB : termB (.node [110, 117, 109] s n p ks) = true) (_hN : nodes (.node [110, 117, 109] s n p ks) ≤ 2000) (_ih : ∀ k ∈ ks, STermLaw k) :
  Calls Tryd.prog 13 #[nodeW [110, 117, 109] s n p ks.length A cap] w fun e w' => e = .returned (.string ⟨(termS (.node [110, 117, 109] s n p ks)).toArray⟩) ∧ Below w.heap.size w w' := by
 have HC := Lib.hid h
 have HR := termS_len _ hB
 rw [nodes_node] at _hN HR
 have hl := h.len
 obtain ⟨hl1, hl2, _⟩ := hl
 clear h
 have HB0 := Lib.hid (Below.refl (w.heap.size + 1) (w.alloc (boxN [110, 117, 109] s n p ks.length A cap)))
 simp only [nodeW]
 have HF := Lib.hid (show dig n.toNat = termS (.node [110, 117, 109] s n p ks) by show _ = termS (.node nNum s n p ks); rw [termS, if_neg (by decide), if_pos rfl])
 replace hB : termB (.node nNum s n p ks) = true := hB
 rw [termB, if_neg (by decide), if_pos rfl] at hB
 simp only [Bool.and_eq_true, decide_eq_true_eq] at hB
 have hn : 0 ≤ n ∧ n ≤ 99 := ⟨hB.1.2, hB.2⟩
 generalize termS (.node [110, 117, 109] s n p ks) = V at *
 clear hB _ih
 have HD := Lib.hid (fun (W : World) => itoa_any n.toNat (by omega) W)
 rw [show ((n.toNat : Nat) : Int) = n by omega] at HD
 generalize dig n.toNat = D at *
 go_enter Tryd.func13, Tryd.ntmps13
 go_wp2_with (
  go_at_call 28
  refine (HD.out _).mono ?_
  rintro e w2 ⟨rfl, rfl⟩)
 all_goals
  go_ret
  exact ⟨congrArg (fun x : List UInt8 => Ending.returned (.string ⟨x.toArray⟩)) HF.out, fresh_w HB0.out⟩
set_option maxHeartbeats 4000000 in
theorem sterm_set (s : List UInt8) (n p : Int) (ks : List Node) (A : Option Addr) (cap : Nat) (w : World) (h : NodeAt w w.heap.size (.node [115, 101, 116] s n p ks) A cap) (hB : termB (.node [115, 101, 116] s n p ks) = true) (hN : nodes (.node [115, 101, 116] s n p ks) ≤ 2000) (ih : ∀ k ∈ ks, STermLaw k) :
  Calls Tryd.prog 13 #[nodeW [115, 101, 116] s n p ks.length A cap] w fun e w' => e = .returned (.string ⟨(termS (.node [115, 101, 116] s n p ks)).toArray⟩) ∧ Below w.heap.size w w' := by
 have HC := Lib.hid h
 have HR := termS_len _ hB
 rw [nodes_node] at hN HR
 have hl := h.len
 obtain ⟨hl1, hl2, _⟩ := hl
 clear h
 have HB0 := Lib.hid (Below.refl (w.heap.size + 1) (w.alloc (boxN [115, 101, 116] s n p ks.length A cap)))
 simp only [nodeW]
 replace hB : termB (.node nSet s n p ks) = true := hB
 rw [termB, if_neg (by decide), if_neg (by decide), if_neg (by decide), if_pos (by decide)] at hB
 simp only [Bool.and_eq_true, decide_eq_true_eq] at hB
 have HF := Lib.hid (show [123] ++ commas (termSL ks) ++ [125] = termS (.node [115, 101, 116] s n p ks) by show _ = termS (.node nSet s n p ks); rw [termS, if_neg (by decide), if_neg (by decide), if_neg (by decide), if_pos (by decide)])
 have HD := Lib.hid (fun (W : World) hW => slist_any [115, 101, 116] s n p ks A cap W hW (ih) hB.2 (by omega))
 rw [← HF.out] at HR
 simp only [List.length_append, List.length_cons, List.length_nil] at HR
 generalize termS (.node [115, 101, 116] s n p ks) = V at *
 clear hB ih
 generalize commas (termSL ks) = D at *
 obtain ⟨T1, hadd1, hT1⟩ := add_ex ⟨#[123]⟩ ⟨D.toArray⟩ (X := [123]) (Y := D) rfl rfl (by simp only [List.length_cons, List.length_nil]; omega)
 obtain ⟨T2, hadd2, hT2⟩ := add_ex T1 ⟨#[125]⟩ (Y := [125]) hT1 rfl (by simp only [List.length_append, List.length_cons, List.length_nil]; omega)
 have HE := Lib.hid (show T2 = ⟨V.toArray⟩ from bytes_of (hT2.trans (by rw [← HF.out]; try simp only [List.append_assoc])))
 clear hT1 hT2
 go_enter Tryd.func13, Tryd.ntmps13
 go_wp2_with (
  go_at_call 29
  refine (HD.out _ (HC.out.later (fresh_w HB0.out) (fresh_w HB0.out).size)).mono ?_
  rintro e w2 ⟨rfl, hb⟩
  have HB1 := Lib.hid (fresh_more HB0.out hb)
  clear hb)
 all_goals
  go_ret
  exact ⟨congrArg (fun x : ByteArray => Ending.returned (.string x)) HE.out, fresh_w HB1.out⟩
set_option maxHeartbeats 4000000 in
theorem sterm_plus (s : List UInt8) (n p : Int) (ks : List Node) (A : Option Addr) (cap : Nat) (w : World) (h : NodeAt w w.heap.size (.node [112, 108, 117, 115] s n p ks) A cap) (hB : termB (.node [112, 108, 117, 115] s n p ks) = true) (hN : nodes (.node [112, 108, 117, 115] s n p ks) ≤ 2000) (ih : ∀ k ∈ ks, STermLaw k) :
  Calls Tryd.prog 13 #[nodeW [112, 108, 117, 115] s n p ks.length A cap] w fun e w' => e = .returned (.string ⟨(termS (.node [112, 108, 117, 115] s n p ks)).toArray⟩) ∧ Below w.heap.size w w' := by
 have HC := Lib.hid h
 have HR := termS_len _ hB
 rw [nodes_node] at hN HR
 have hl := h.len
 obtain ⟨hl1, hl2, _⟩ := hl
 clear h
 have HB0 := Lib.hid (Below.refl (w.heap.size + 1) (w.alloc (boxN [112, 108, 117, 115] s n p ks.length A cap)))
 simp only [nodeW]
 replace hB : termB (.node nPlus s n p ks) = true := hB
 rw [termB, if_neg (by decide), if_neg (by decide), if_pos rfl] at hB
 simp only [Bool.and_eq_true, decide_eq_true_eq] at hB
 have hn : 1 ≤ n ∧ n ≤ 99 := ⟨hB.1.1.1.2, hB.1.1.2⟩
 have hk := (hasB_name hB.1.1.1.1).2.1
 have hb2 := hB.2
 clear hB
 have HF := Lib.hid (show (termSL ks).getD 0 [] ++ [32, 43, 32] ++ dig n.toNat = termS (.node [112, 108, 117, 115] s n p ks) by show _ = termS (.node nPlus s n p ks); rw [termS, if_neg (by decide), if_neg (by decide), if_pos rfl])
 rw [← HF.out] at HR
 simp only [List.length_append, List.length_cons, List.length_nil] at HR
 generalize termS (.node [112, 108, 117, 115] s n p ks) = V at *
 have HD := Lib.hid (fun (W : World) => itoa_any n.toNat (by omega) W)
 rw [show ((n.toNat : Nat) : Int) = n by omega] at HD
 generalize dig n.toNat = D at *
 obtain ⟨y, hx⟩ : ∃ y, ks = [y] := by
  match ks, hk with
  | [a], _ => exact ⟨a, rfl⟩
 have hl0 : 0 < ks.length := by omega
 obtain ⟨bb, off, A1, cap1, rfl, hlo, hcells, hkid⟩ := HC.out.kid 0 hl0
 have hIH := ih (ks[0]'hl0) (List.getElem_mem hl0) A1 cap1
 have hT0 : termB (ks[0]'hl0) = true := by rw [termsB_all, List.all_eq_true] at hb2; exact hb2 _ (List.getElem_mem hl0)
 have hN0 : nodes (ks[0]'hl0) ≤ 2000 := Nat.le_trans (nodes_kid ks _ (List.getElem_mem hl0)) (by omega)
 have hG : (termSL ks).getD 0 [] = termS (ks[0]'hl0) := by subst hx; simp [termSL]
 rw [hG] at HF HR
 simp only [Nat.zero_mul, Nat.add_zero] at hcells hkid
 clear hG hb2 ih hx hk
 generalize ks[0]'hl0 = x at *
 have HI := Lib.hid (fun (W : World) (hh : NodeAt W W.heap.size x A1 cap1) => hIH W hh hT0 hN0)
 clear hIH hT0 hN0
 generalize termS x = X at *
 obtain ⟨T1, hadd1, hT1⟩ := add_ex ⟨X.toArray⟩ ⟨#[32, 43, 32]⟩ (X := X) (Y := [32, 43, 32]) rfl rfl (by simp only [List.length_cons, List.length_nil]; omega)
 obtain ⟨T2, hadd2, hT2⟩ := add_ex T1 ⟨D.toArray⟩ (Y := D) hT1 rfl (by simp only [List.length_append, List.length_cons, List.length_nil]; omega)
 have HE := Lib.hid (show T2 = ⟨V.toArray⟩ from bytes_of (hT2.trans (by rw [← HF.out]; try simp only [List.append_assoc])))
 clear hT1 hT2
 cases x with
 | node o1 s1 n1 p1 ks1 =>
   have HKC := Lib.hid (fun (W : World) (hW : Below w.heap.size w W) => kid_cells hlo hcells hW)
   have HKD := Lib.hid hkid
   clear hcells hkid
   simp only [nodeT, nodeW, Node.op, Node.name, Node.num, Node.pos, Node.kids] at HI
   have HSS := Lib.hid (fun (W : World) (hW : Below (w.heap.size + 1) (w.alloc (boxN [112, 108, 117, 115] s n p ks.length (some ⟨bb, off, none⟩) cap)) W) => (⟨hW, box5 hW, HKC.out W (fresh_w hW)⟩ : (fun W : World => Below (w.heap.size + 1) (w.alloc (boxN [112, 108, 117, 115] s n p ks.length (some ⟨bb, off, none⟩) cap)) W ∧ (W.cell? ⟨w.heap.size, 0, none⟩ = some (.string ⟨#[112, 108, 117, 115]⟩) ∧ W.cell? ⟨w.heap.size, 1, none⟩ = some (.string ⟨s.toArray⟩) ∧ W.cell? ⟨w.heap.size, 2, none⟩ = some (.int .i64 n) ∧ W.cell? ⟨w.heap.size, 3, none⟩ = some (.int .i64 p) ∧ W.cell? ⟨w.heap.size, 4, none⟩ = some (.slice (some ⟨bb, off, none⟩) ks.length cap)) ∧ (W.cell? ⟨bb, off, none⟩ = some (.string ⟨o1.toArray⟩) ∧ W.cell? ⟨bb, off + 1, none⟩ = some (.string ⟨s1.toArray⟩) ∧ W.cell? ⟨bb, off + 2, none⟩ = some (.int .i64 n1) ∧ W.cell? ⟨bb, off + 3, none⟩ = some (.int .i64 p1) ∧ W.cell? ⟨bb, off + 4, none⟩ = some (.slice A1 ks1.length cap1))) W))
   have HG := Lib.hid (fun (W W' : World) (hW : Below (w.heap.size + 1) (w.alloc (boxN [112, 108, 117, 115] s n p ks.length (some ⟨bb, off, none⟩) cap)) W) (hb : Below W.heap.size W W') => fresh_more hW hb)
   have HW := Lib.hid (fun (W : World) (hW : Below (w.heap.size + 1) (w.alloc (boxN [112, 108, 117, 115] s n p ks.length (some ⟨bb, off, none⟩) cap)) W) => fresh_w hW)
   go_enter Tryd.func13, Tryd.ntmps13
   go_upto_region 7 with fail
   generalize w.alloc _ = Z at *
   go_region_held3 (fun W : World => Below (w.heap.size + 1) Z W ∧ (W.cell? ⟨w.heap.size, 0, none⟩ = some (.string ⟨#[112, 108, 117, 115]⟩) ∧ W.cell? ⟨w.heap.size, 1, none⟩ = some (.string ⟨s.toArray⟩) ∧ W.cell? ⟨w.heap.size, 2, none⟩ = some (.int .i64 n) ∧ W.cell? ⟨w.heap.size, 3, none⟩ = some (.int .i64 p) ∧ W.cell? ⟨w.heap.size, 4, none⟩ = some (.slice (some ⟨bb, off, none⟩) ks.length cap)) ∧ (W.cell? ⟨bb, off, none⟩ = some (.string ⟨o1.toArray⟩) ∧ W.cell? ⟨bb, off + 1, none⟩ = some (.string ⟨s1.toArray⟩) ∧ W.cell? ⟨bb, off + 2, none⟩ = some (.int .i64 n1) ∧ W.cell? ⟨bb, off + 3, none⟩ = some (.int .i64 p1) ∧ W.cell? ⟨bb, off + 4, none⟩ = some (.slice A1 ks1.length cap1))) (first | assumption | exact HSS.out _ hB4 | exact HSS.out _ HB0.out.drew | exact HSS.out _ HB0.out) (first
    | (go_at_call_of 13 (Value.agg #[Value.string ⟨o1.toArray⟩, Value.string ⟨s1.toArray⟩, Value.int .i64 n1, Value.int .i64 p1, Value.slice A1 ks1.length cap1])
       have hq : Below (w.heap.size + 1) Z _ := (show Below (w.heap.size + 1) Z _ ∧ _ by assumption).1
       refine (HI.out _ (HKD.out.later (HW.out _ hq) (HW.out _ hq).size)).mono ?_
       rintro e w4 ⟨rfl, hb⟩
       have hB4 := HG.out _ _ hq hb
       clear hb)
    | (go_at_call 28
       refine (HD.out _).mono ?_
       rintro e w4 ⟨rfl, rfl⟩))
   all_goals
    have hh := (show Below (w.heap.size + 1) Z _ ∧ _ by assumption).1
    go_wp2_with fail
    go_ret
    exact ⟨congrArg (fun x : ByteArray => Ending.returned (.string x)) HE.out, HW.out _ hh⟩
set_option maxHeartbeats 4000000 in
theorem sterm_union (s : List UInt8) (n p : Int) (ks : List Node) (A : Option Addr) (cap : Nat) (w : World) (h : NodeAt w w.heap.size (.node [117, 110, 105, 111, 110] s n p ks) A cap) (hB : termB (.node [117, 110, 105, 111, 110] s n p ks) = true) (hN : nodes (.node [117, 110, 105, 111, 110] s n p ks) ≤ 2000) (ih : ∀ k ∈ ks, STermLaw k) :
  Calls Tryd.prog 13 #[nodeW [117, 110, 105, 111, 110] s n p ks.length A cap] w fun e w' => e = .returned (.string ⟨(termS (.node [117, 110, 105, 111, 110] s n p ks)).toArray⟩) ∧ Below w.heap.size w w' := by
 have HC := Lib.hid h
 have HR := termS_len _ hB
 rw [nodes_node] at hN HR
 have hl := h.len
 obtain ⟨hl1, hl2, _⟩ := hl
 clear h
 have HB0 := Lib.hid (Below.refl (w.heap.size + 1) (w.alloc (boxN [117, 110, 105, 111, 110] s n p ks.length A cap)))
 simp only [nodeW]
 replace hB : termB (.node nUnion s n p ks) = true := hB
 rw [termB, if_neg (by decide), if_neg (by decide), if_neg (by decide), if_neg (by decide)] at hB
 simp only [Bool.and_eq_true] at hB
 have hk := (hasB_name hB.1.1.2).2.1
 have hb2 := hB.1.2
 clear hB
 have HF := Lib.hid (show joined ((termSL ks).getD 0 []) nUnion ((termSL ks).getD 1 []) = termS (.node [117, 110, 105, 111, 110] s n p ks) by show _ = termS (.node nUnion s n p ks); rw [termS, if_neg (by decide), if_neg (by decide), if_neg (by decide), if_neg (by decide)])
 rw [← HF.out] at HR
 generalize termS (.node [117, 110, 105, 111, 110] s n p ks) = V at *
 obtain ⟨y, z, hx⟩ := two_of hk
 have hl0 : 0 < ks.length := by omega
 have hl1' : 1 < ks.length := by omega
 have hi1 : (1 : Int) < (ks.length : Int) := by omega
 obtain ⟨bb, off, A1, cap1, rfl, hlo, hcells, hkid⟩ := HC.out.kid 0 hl0
 obtain ⟨bb2, off2, A2, cap2, he, hlo2, hcells2, hkid2⟩ := HC.out.kid 1 hl1'
 have e1 := congrArg Addr.block (Option.some.inj he)
 have e2 := congrArg Addr.off (Option.some.inj he)
 simp only at e1 e2
 subst e1
 subst e2
 clear he
 have hIH := ih (ks[0]'hl0) (List.getElem_mem hl0) A1 cap1
 have hIH2 := ih (ks[1]'hl1') (List.getElem_mem hl1') A2 cap2
 have hT0 : termB (ks[0]'hl0) = true := by rw [termsB_all, List.all_eq_true] at hb2; exact hb2 _ (List.getElem_mem hl0)
 have hT1 : termB (ks[1]'hl1') = true := by rw [termsB_all, List.all_eq_true] at hb2; exact hb2 _ (List.getElem_mem hl1')
 have hN0 : nodes (ks[0]'hl0) ≤ 2000 := Nat.le_trans (nodes_kid ks _ (List.getElem_mem hl0)) (by omega)
 have hN1 : nodes (ks[1]'hl1') ≤ 2000 := Nat.le_trans (nodes_kid ks _ (List.getElem_mem hl1')) (by omega)
 have hG : (termSL ks).getD 0 [] = termS (ks[0]'hl0) := by subst hx; simp [termSL]
 have hG2 : (termSL ks).getD 1 [] = termS (ks[1]'hl1') := by subst hx; simp [termSL]
 rw [hG, hG2] at HF HR
 simp only [Nat.zero_mul, Nat.add_zero, Nat.one_mul] at hcells hkid hcells2 hkid2
 clear hG hG2 hb2 ih hx hk
 generalize ks[0]'hl0 = x at *
 generalize ks[1]'hl1' = x2 at *
 have HI := Lib.hid (fun (W : World) (hh : NodeAt W W.heap.size x A1 cap1) => hIH W hh hT0 hN0)
 have HI2 := Lib.hid (fun (W : World) (hh : NodeAt W W.heap.size x2 A2 cap2) => hIH2 W hh hT1 hN1)
 clear hIH hIH2 hT0 hT1 hN0 hN1
 generalize termS x = X at *
 generalize termS x2 = Y at *
 try simp only [List.length_append, List.length_cons, List.length_nil] at HR
 have HJ := Lib.hid (fun (W : World) => joined_any X [117, 110, 105, 111, 110] Y (Or.inl (by decide)) (show (joined X nUnion Y).length ≤ 90000000 by omega) W)
 change Hid (∀ W : World, Calls Tryd.prog 27 #[.string ⟨X.toArray⟩, .string ⟨#[117, 110, 105, 111, 110]⟩, .string ⟨Y.toArray⟩] W fun e w' => e = .returned (.string ⟨(joined X nUnion Y).toArray⟩) ∧ Below W.heap.size W w') at HJ
 generalize joined X nUnion Y = J at *
 have HE := Lib.hid (show (⟨J.toArray⟩ : ByteArray) = ⟨V.toArray⟩ by rw [HF.out])
 cases x with
 | node o1 s1 n1 p1 ks1 =>
 cases x2 with
 | node o2 s2 n2 p2 ks2 =>
   have HKC := Lib.hid (fun (W : World) (hW : Below w.heap.size w W) => kid_cells hlo hcells hW)
   have HKC2 := Lib.hid (fun (W : World) (hW : Below w.heap.size w W) => kid_cells hlo2 hcells2 hW)
   have HKD := Lib.hid hkid
   have HKD2 := Lib.hid hkid2
   clear hcells hkid hcells2 hkid2
   simp only [nodeT, nodeW, Node.op, Node.name, Node.num, Node.pos, Node.kids] at HI HI2
   have HSS := Lib.hid (fun (W : World) (hW : Below (w.heap.size + 1) (w.alloc (boxN [117, 110, 105, 111, 110] s n p ks.length (some ⟨bb, off, none⟩) cap)) W) => (⟨hW, box5 hW, HKC.out W (fresh_w hW), HKC2.out W (fresh_w hW)⟩ : (fun W : World => Below (w.heap.size + 1) (w.alloc (boxN [117, 110, 105, 111, 110] s n p ks.length (some ⟨bb, off, none⟩) cap)) W ∧ (W.cell? ⟨w.heap.size, 0, none⟩ = some (.string ⟨#[117, 110, 105, 111, 110]⟩) ∧ W.cell? ⟨w.heap.size, 1, none⟩ = some (.string ⟨s.toArray⟩) ∧ W.cell? ⟨w.heap.size, 2, none⟩ = some (.int .i64 n) ∧ W.cell? ⟨w.heap.size, 3, none⟩ = some (.int .i64 p) ∧ W.cell? ⟨w.heap.size, 4, none⟩ = some (.slice (some ⟨bb, off, none⟩) ks.length cap)) ∧ (W.cell? ⟨bb, off, none⟩ = some (.string ⟨o1.toArray⟩) ∧ W.cell? ⟨bb, off + 1, none⟩ = some (.string ⟨s1.toArray⟩) ∧ W.cell? ⟨bb, off + 2, none⟩ = some (.int .i64 n1) ∧ W.cell? ⟨bb, off + 3, none⟩ = some (.int .i64 p1) ∧ W.cell? ⟨bb, off + 4, none⟩ = some (.slice A1 ks1.length cap1)) ∧ (W.cell? ⟨bb, off + 5, none⟩ = some (.string ⟨o2.toArray⟩) ∧ W.cell? ⟨bb, off + 5 + 1, none⟩ = some (.string ⟨s2.toArray⟩) ∧ W.cell? ⟨bb, off + 5 + 2, none⟩ = some (.int .i64 n2) ∧ W.cell? ⟨bb, off + 5 + 3, none⟩ = some (.int .i64 p2) ∧ W.cell? ⟨bb, off + 5 + 4, none⟩ = some (.slice A2 ks2.length cap2))) W))
   have HG := Lib.hid (fun (W W' : World) (hW : Below (w.heap.size + 1) (w.alloc (boxN [117, 110, 105, 111, 110] s n p ks.length (some ⟨bb, off, none⟩) cap)) W) (hb : Below W.heap.size W W') => fresh_more hW hb)
   have HW := Lib.hid (fun (W : World) (hW : Below (w.heap.size + 1) (w.alloc (boxN [117, 110, 105, 111, 110] s n p ks.length (some ⟨bb, off, none⟩) cap)) W) => fresh_w hW)
   go_enter Tryd.func13, Tryd.ntmps13
   go_upto_region 10 with fail
   generalize w.alloc _ = Z at *
   go_region_held3 (fun W : World => Below (w.heap.size + 1) Z W ∧ (W.cell? ⟨w.heap.size, 0, none⟩ = some (.string ⟨#[117, 110, 105, 111, 110]⟩) ∧ W.cell? ⟨w.heap.size, 1, none⟩ = some (.string ⟨s.toArray⟩) ∧ W.cell? ⟨w.heap.size, 2, none⟩ = some (.int .i64 n) ∧ W.cell? ⟨w.heap.size, 3, none⟩ = some (.int .i64 p) ∧ W.cell? ⟨w.heap.size, 4, none⟩ = some (.slice (some ⟨bb, off, none⟩) ks.length cap)) ∧ (W.cell? ⟨bb, off, none⟩ = some (.string ⟨o1.toArray⟩) ∧ W.cell? ⟨bb, off + 1, none⟩ = some (.string ⟨s1.toArray⟩) ∧ W.cell? ⟨bb, off + 2, none⟩ = some (.int .i64 n1) ∧ W.cell? ⟨bb, off + 3, none⟩ = some (.int .i64 p1) ∧ W.cell? ⟨bb, off + 4, none⟩ = some (.slice A1 ks1.length cap1)) ∧ (W.cell? ⟨bb, off + 5, none⟩ = some (.string ⟨o2.toArray⟩) ∧ W.cell? ⟨bb, off + 5 + 1, none⟩ = some (.string ⟨s2.toArray⟩) ∧ W.cell? ⟨bb, off + 5 + 2, none⟩ = some (.int .i64 n2) ∧ W.cell? ⟨bb, off + 5 + 3, none⟩ = some (.int .i64 p2) ∧ W.cell? ⟨bb, off + 5 + 4, none⟩ = some (.slice A2 ks2.length cap2))) (first | assumption | exact HSS.out _ hB4 | exact HSS.out _ HB0.out.drew | exact HSS.out _ HB0.out) (first
    | (go_at_call 27
       have hq : Below (w.heap.size + 1) Z _ := (show Below (w.heap.size + 1) Z _ ∧ _ by assumption).1
       refine (HJ.out _).mono ?_
       rintro e w4 ⟨rfl, hb⟩
       have hB4 := HG.out _ _ hq hb
       clear hb)
    | (go_at_call_of 13 (Value.agg #[Value.string ⟨o1.toArray⟩, Value.string ⟨s1.toArray⟩, Value.int .i64 n1, Value.int .i64 p1, Value.slice A1 ks1.length cap1])
       have hq : Below (w.heap.size + 1) Z _ := (show Below (w.heap.size + 1) Z _ ∧ _ by assumption).1
       refine (HI.out _ (HKD.out.later (HW.out _ hq) (HW.out _ hq).size)).mono ?_
       rintro e w4 ⟨rfl, hb⟩
       have hB4 := HG.out _ _ hq hb
       clear hb)
    | (go_at_call_of 13 (Value.agg #[Value.string ⟨o2.toArray⟩, Value.string ⟨s2.toArray⟩, Value.int .i64 n2, Value.int .i64 p2, Value.slice A2 ks2.length cap2])
       have hq : Below (w.heap.size + 1) Z _ := (show Below (w.heap.size + 1) Z _ ∧ _ by assumption).1
       refine (HI2.out _ (HKD2.out.later (HW.out _ hq) (HW.out _ hq).size)).mono ?_
       rintro e w4 ⟨rfl, hb⟩
       have hB4 := HG.out _ _ hq hb
       clear hb))
   all_goals
    have hh := (show Below (w.heap.size + 1) Z _ ∧ _ by assumption).1
    go_wp2_with fail
    go_ret
    exact ⟨congrArg (fun x : ByteArray => Ending.returned (.string x)) HE.out, HW.out _ hh⟩
set_option maxHeartbeats 4000000 in
theorem sterm_inter (s : List UInt8) (n p : Int) (ks : List Node) (A : Option Addr) (cap : Nat) (w : World) (h : NodeAt w w.heap.size (.node [105, 110, 116, 101, 114] s n p ks) A cap) (hB : termB (.node [105, 110, 116, 101, 114] s n p ks) = true) (hN : nodes (.node [105, 110, 116, 101, 114] s n p ks) ≤ 2000) (ih : ∀ k ∈ ks, STermLaw k) :
  Calls Tryd.prog 13 #[nodeW [105, 110, 116, 101, 114] s n p ks.length A cap] w fun e w' => e = .returned (.string ⟨(termS (.node [105, 110, 116, 101, 114] s n p ks)).toArray⟩) ∧ Below w.heap.size w w' := by
 have HC := Lib.hid h
 have HR := termS_len _ hB
 rw [nodes_node] at hN HR
 have hl := h.len
 obtain ⟨hl1, hl2, _⟩ := hl
 clear h
 have HB0 := Lib.hid (Below.refl (w.heap.size + 1) (w.alloc (boxN [105, 110, 116, 101, 114] s n p ks.length A cap)))
 simp only [nodeW]
 replace hB : termB (.node nInter s n p ks) = true := hB
 rw [termB, if_neg (by decide), if_neg (by decide), if_neg (by decide), if_neg (by decide)] at hB
 simp only [Bool.and_eq_true] at hB
 have hk := (hasB_name hB.1.1.2).2.1
 have hb2 := hB.1.2
 clear hB
 have HF := Lib.hid (show joined ((termSL ks).getD 0 []) nInter ((termSL ks).getD 1 []) = termS (.node [105, 110, 116, 101, 114] s n p ks) by show _ = termS (.node nInter s n p ks); rw [termS, if_neg (by decide), if_neg (by decide), if_neg (by decide), if_neg (by decide)])
 rw [← HF.out] at HR
 generalize termS (.node [105, 110, 116, 101, 114] s n p ks) = V at *
 obtain ⟨y, z, hx⟩ := two_of hk
 have hl0 : 0 < ks.length := by omega
 have hl1' : 1 < ks.length := by omega
 have hi1 : (1 : Int) < (ks.length : Int) := by omega
 obtain ⟨bb, off, A1, cap1, rfl, hlo, hcells, hkid⟩ := HC.out.kid 0 hl0
 obtain ⟨bb2, off2, A2, cap2, he, hlo2, hcells2, hkid2⟩ := HC.out.kid 1 hl1'
 have e1 := congrArg Addr.block (Option.some.inj he)
 have e2 := congrArg Addr.off (Option.some.inj he)
 simp only at e1 e2
 subst e1
 subst e2
 clear he
 have hIH := ih (ks[0]'hl0) (List.getElem_mem hl0) A1 cap1
 have hIH2 := ih (ks[1]'hl1') (List.getElem_mem hl1') A2 cap2
 have hT0 : termB (ks[0]'hl0) = true := by rw [termsB_all, List.all_eq_true] at hb2; exact hb2 _ (List.getElem_mem hl0)
 have hT1 : termB (ks[1]'hl1') = true := by rw [termsB_all, List.all_eq_true] at hb2; exact hb2 _ (List.getElem_mem hl1')
 have hN0 : nodes (ks[0]'hl0) ≤ 2000 := Nat.le_trans (nodes_kid ks _ (List.getElem_mem hl0)) (by omega)
 have hN1 : nodes (ks[1]'hl1') ≤ 2000 := Nat.le_trans (nodes_kid ks _ (List.getElem_mem hl1')) (by omega)
 have hG : (termSL ks).getD 0 [] = termS (ks[0]'hl0) := by subst hx; simp [termSL]
 have hG2 : (termSL ks).getD 1 [] = termS (ks[1]'hl1') := by subst hx; simp [termSL]
 rw [hG, hG2] at HF HR
 simp only [Nat.zero_mul, Nat.add_zero, Nat.one_mul] at hcells hkid hcells2 hkid2
 clear hG hG2 hb2 ih hx hk
 generalize ks[0]'hl0 = x at *
 generalize ks[1]'hl1' = x2 at *
 have HI := Lib.hid (fun (W : World) (hh : NodeAt W W.heap.size x A1 cap1) => hIH W hh hT0 hN0)
 have HI2 := Lib.hid (fun (W : World) (hh : NodeAt W W.heap.size x2 A2 cap2) => hIH2 W hh hT1 hN1)
 clear hIH hIH2 hT0 hT1 hN0 hN1
 generalize termS x = X at *
 generalize termS x2 = Y at *
 try simp only [List.length_append, List.length_cons, List.length_nil] at HR
 have HJ := Lib.hid (fun (W : World) => joined_any X [105, 110, 116, 101, 114] Y (Or.inl (by decide)) (show (joined X nInter Y).length ≤ 90000000 by omega) W)
 change Hid (∀ W : World, Calls Tryd.prog 27 #[.string ⟨X.toArray⟩, .string ⟨#[105, 110, 116, 101, 114]⟩, .string ⟨Y.toArray⟩] W fun e w' => e = .returned (.string ⟨(joined X nInter Y).toArray⟩) ∧ Below W.heap.size W w') at HJ
 generalize joined X nInter Y = J at *
 have HE := Lib.hid (show (⟨J.toArray⟩ : ByteArray) = ⟨V.toArray⟩ by rw [HF.out])
 cases x with
 | node o1 s1 n1 p1 ks1 =>
 cases x2 with
 | node o2 s2 n2 p2 ks2 =>
   have HKC := Lib.hid (fun (W : World) (hW : Below w.heap.size w W) => kid_cells hlo hcells hW)
   have HKC2 := Lib.hid (fun (W : World) (hW : Below w.heap.size w W) => kid_cells hlo2 hcells2 hW)
   have HKD := Lib.hid hkid
   have HKD2 := Lib.hid hkid2
   clear hcells hkid hcells2 hkid2
   simp only [nodeT, nodeW, Node.op, Node.name, Node.num, Node.pos, Node.kids] at HI HI2
   have HSS := Lib.hid (fun (W : World) (hW : Below (w.heap.size + 1) (w.alloc (boxN [105, 110, 116, 101, 114] s n p ks.length (some ⟨bb, off, none⟩) cap)) W) => (⟨hW, box5 hW, HKC.out W (fresh_w hW), HKC2.out W (fresh_w hW)⟩ : (fun W : World => Below (w.heap.size + 1) (w.alloc (boxN [105, 110, 116, 101, 114] s n p ks.length (some ⟨bb, off, none⟩) cap)) W ∧ (W.cell? ⟨w.heap.size, 0, none⟩ = some (.string ⟨#[105, 110, 116, 101, 114]⟩) ∧ W.cell? ⟨w.heap.size, 1, none⟩ = some (.string ⟨s.toArray⟩) ∧ W.cell? ⟨w.heap.size, 2, none⟩ = some (.int .i64 n) ∧ W.cell? ⟨w.heap.size, 3, none⟩ = some (.int .i64 p) ∧ W.cell? ⟨w.heap.size, 4, none⟩ = some (.slice (some ⟨bb, off, none⟩) ks.length cap)) ∧ (W.cell? ⟨bb, off, none⟩ = some (.string ⟨o1.toArray⟩) ∧ W.cell? ⟨bb, off + 1, none⟩ = some (.string ⟨s1.toArray⟩) ∧ W.cell? ⟨bb, off + 2, none⟩ = some (.int .i64 n1) ∧ W.cell? ⟨bb, off + 3, none⟩ = some (.int .i64 p1) ∧ W.cell? ⟨bb, off + 4, none⟩ = some (.slice A1 ks1.length cap1)) ∧ (W.cell? ⟨bb, off + 5, none⟩ = some (.string ⟨o2.toArray⟩) ∧ W.cell? ⟨bb, off + 5 + 1, none⟩ = some (.string ⟨s2.toArray⟩) ∧ W.cell? ⟨bb, off + 5 + 2, none⟩ = some (.int .i64 n2) ∧ W.cell? ⟨bb, off + 5 + 3, none⟩ = some (.int .i64 p2) ∧ W.cell? ⟨bb, off + 5 + 4, none⟩ = some (.slice A2 ks2.length cap2))) W))
   have HG := Lib.hid (fun (W W' : World) (hW : Below (w.heap.size + 1) (w.alloc (boxN [105, 110, 116, 101, 114] s n p ks.length (some ⟨bb, off, none⟩) cap)) W) (hb : Below W.heap.size W W') => fresh_more hW hb)
   have HW := Lib.hid (fun (W : World) (hW : Below (w.heap.size + 1) (w.alloc (boxN [105, 110, 116, 101, 114] s n p ks.length (some ⟨bb, off, none⟩) cap)) W) => fresh_w hW)
   go_enter Tryd.func13, Tryd.ntmps13
   go_upto_region 10 with fail
   generalize w.alloc _ = Z at *
   go_region_held3 (fun W : World => Below (w.heap.size + 1) Z W ∧ (W.cell? ⟨w.heap.size, 0, none⟩ = some (.string ⟨#[105, 110, 116, 101, 114]⟩) ∧ W.cell? ⟨w.heap.size, 1, none⟩ = some (.string ⟨s.toArray⟩) ∧ W.cell? ⟨w.heap.size, 2, none⟩ = some (.int .i64 n) ∧ W.cell? ⟨w.heap.size, 3, none⟩ = some (.int .i64 p) ∧ W.cell? ⟨w.heap.size, 4, none⟩ = some (.slice (some ⟨bb, off, none⟩) ks.length cap)) ∧ (W.cell? ⟨bb, off, none⟩ = some (.string ⟨o1.toArray⟩) ∧ W.cell? ⟨bb, off + 1, none⟩ = some (.string ⟨s1.toArray⟩) ∧ W.cell? ⟨bb, off + 2, none⟩ = some (.int .i64 n1) ∧ W.cell? ⟨bb, off + 3, none⟩ = some (.int .i64 p1) ∧ W.cell? ⟨bb, off + 4, none⟩ = some (.slice A1 ks1.length cap1)) ∧ (W.cell? ⟨bb, off + 5, none⟩ = some (.string ⟨o2.toArray⟩) ∧ W.cell? ⟨bb, off + 5 + 1, none⟩ = some (.string ⟨s2.toArray⟩) ∧ W.cell? ⟨bb, off + 5 + 2, none⟩ = some (.int .i64 n2) ∧ W.cell? ⟨bb, off + 5 + 3, none⟩ = some (.int .i64 p2) ∧ W.cell? ⟨bb, off + 5 + 4, none⟩ = some (.slice A2 ks2.length cap2))) (first | assumption | exact HSS.out _ hB4 | exact HSS.out _ HB0.out.drew | exact HSS.out _ HB0.out) (first
    | (go_at_call 27
       have hq : Below (w.heap.size + 1) Z _ := (show Below (w.heap.size + 1) Z _ ∧ _ by assumption).1
       refine (HJ.out _).mono ?_
       rintro e w4 ⟨rfl, hb⟩
       have hB4 := HG.out _ _ hq hb
       clear hb)
    | (go_at_call_of 13 (Value.agg #[Value.string ⟨o1.toArray⟩, Value.string ⟨s1.toArray⟩, Value.int .i64 n1, Value.int .i64 p1, Value.slice A1 ks1.length cap1])
       have hq : Below (w.heap.size + 1) Z _ := (show Below (w.heap.size + 1) Z _ ∧ _ by assumption).1
       refine (HI.out _ (HKD.out.later (HW.out _ hq) (HW.out _ hq).size)).mono ?_
       rintro e w4 ⟨rfl, hb⟩
       have hB4 := HG.out _ _ hq hb
       clear hb)
    | (go_at_call_of 13 (Value.agg #[Value.string ⟨o2.toArray⟩, Value.string ⟨s2.toArray⟩, Value.int .i64 n2, Value.int .i64 p2, Value.slice A2 ks2.length cap2])
       have hq : Below (w.heap.size + 1) Z _ := (show Below (w.heap.size + 1) Z _ ∧ _ by assumption).1
       refine (HI2.out _ (HKD2.out.later (HW.out _ hq) (HW.out _ hq).size)).mono ?_
       rintro e w4 ⟨rfl, hb⟩
       have hB4 := HG.out _ _ hq hb
       clear hb))
   all_goals
    have hh := (show Below (w.heap.size + 1) Z _ ∧ _ by assumption).1
    go_wp2_with fail
    go_ret
    exact ⟨congrArg (fun x : ByteArray => Ending.returned (.string x)) HE.out, HW.out _ hh⟩
set_option maxHeartbeats 4000000 in
theorem sterm_minus (s : List UInt8) (n p : Int) (ks : List Node) (A : Option Addr) (cap : Nat) (w : World) (h : NodeAt w w.heap.size (.node [109, 105, 110, 117, 115] s n p ks) A cap) (hB : termB (.node [109, 105, 110, 117, 115] s n p ks) = true) (hN : nodes (.node [109, 105, 110, 117, 115] s n p ks) ≤ 2000) (ih : ∀ k ∈ ks, STermLaw k) :
  Calls Tryd.prog 13 #[nodeW [109, 105, 110, 117, 115] s n p ks.length A cap] w fun e w' => e = .returned (.string ⟨(termS (.node [109, 105, 110, 117, 115] s n p ks)).toArray⟩) ∧ Below w.heap.size w w' := by
 have HC := Lib.hid h
 have HR := termS_len _ hB
 rw [nodes_node] at hN HR
 have hl := h.len
 obtain ⟨hl1, hl2, _⟩ := hl
 clear h
 have HB0 := Lib.hid (Below.refl (w.heap.size + 1) (w.alloc (boxN [109, 105, 110, 117, 115] s n p ks.length A cap)))
 simp only [nodeW]
 replace hB : termB (.node nMinus s n p ks) = true := hB
 rw [termB, if_neg (by decide), if_neg (by decide), if_neg (by decide), if_neg (by decide)] at hB
 simp only [Bool.and_eq_true] at hB
 have hk := (hasB_name hB.1.1.2).2.1
 have hb2 := hB.1.2
 clear hB
 have HF := Lib.hid (show joined ((termSL ks).getD 0 []) nMinus ((termSL ks).getD 1 []) = termS (.node [109, 105, 110, 117, 115] s n p ks) by show _ = termS (.node nMinus s n p ks); rw [termS, if_neg (by decide), if_neg (by decide), if_neg (by decide), if_neg (by decide)])
 rw [← HF.out] at HR
 generalize termS (.node [109, 105, 110, 117, 115] s n p ks) = V at *
 obtain ⟨y, z, hx⟩ := two_of hk
 have hl0 : 0 < ks.length := by omega
 have hl1' : 1 < ks.length := by omega
 have hi1 : (1 : Int) < (ks.length : Int) := by omega
 obtain ⟨bb, off, A1, cap1, rfl, hlo, hcells, hkid⟩ := HC.out.kid 0 hl0
 obtain ⟨bb2, off2, A2, cap2, he, hlo2, hcells2, hkid2⟩ := HC.out.kid 1 hl1'
 have e1 := congrArg Addr.block (Option.some.inj he)
 have e2 := congrArg Addr.off (Option.some.inj he)
 simp only at e1 e2
 subst e1
 subst e2
 clear he
 have hIH := ih (ks[0]'hl0) (List.getElem_mem hl0) A1 cap1
 have hIH2 := ih (ks[1]'hl1') (List.getElem_mem hl1') A2 cap2
 have hT0 : termB (ks[0]'hl0) = true := by rw [termsB_all, List.all_eq_true] at hb2; exact hb2 _ (List.getElem_mem hl0)
 have hT1 : termB (ks[1]'hl1') = true := by rw [termsB_all, List.all_eq_true] at hb2; exact hb2 _ (List.getElem_mem hl1')
 have hN0 : nodes (ks[0]'hl0) ≤ 2000 := Nat.le_trans (nodes_kid ks _ (List.getElem_mem hl0)) (by omega)
 have hN1 : nodes (ks[1]'hl1') ≤ 2000 := Nat.le_trans (nodes_kid ks _ (List.getElem_mem hl1')) (by omega)
 have hG : (termSL ks).getD 0 [] = termS (ks[0]'hl0) := by subst hx; simp [termSL]
 have hG2 : (termSL ks).getD 1 [] = termS (ks[1]'hl1') := by subst hx; simp [termSL]
 rw [hG, hG2] at HF HR
 simp only [Nat.zero_mul, Nat.add_zero, Nat.one_mul] at hcells hkid hcells2 hkid2
 clear hG hG2 hb2 ih hx hk
 generalize ks[0]'hl0 = x at *
 generalize ks[1]'hl1' = x2 at *
 have HI := Lib.hid (fun (W : World) (hh : NodeAt W W.heap.size x A1 cap1) => hIH W hh hT0 hN0)
 have HI2 := Lib.hid (fun (W : World) (hh : NodeAt W W.heap.size x2 A2 cap2) => hIH2 W hh hT1 hN1)
 clear hIH hIH2 hT0 hT1 hN0 hN1
 generalize termS x = X at *
 generalize termS x2 = Y at *
 try simp only [List.length_append, List.length_cons, List.length_nil] at HR
 have HJ := Lib.hid (fun (W : World) => joined_any X [109, 105, 110, 117, 115] Y (Or.inl (by decide)) (show (joined X nMinus Y).length ≤ 90000000 by omega) W)
 change Hid (∀ W : World, Calls Tryd.prog 27 #[.string ⟨X.toArray⟩, .string ⟨#[109, 105, 110, 117, 115]⟩, .string ⟨Y.toArray⟩] W fun e w' => e = .returned (.string ⟨(joined X nMinus Y).toArray⟩) ∧ Below W.heap.size W w') at HJ
 generalize joined X nMinus Y = J at *
 have HE := Lib.hid (show (⟨J.toArray⟩ : ByteArray) = ⟨V.toArray⟩ by rw [HF.out])
 cases x with
 | node o1 s1 n1 p1 ks1 =>
 cases x2 with
 | node o2 s2 n2 p2 ks2 =>
   have HKC := Lib.hid (fun (W : World) (hW : Below w.heap.size w W) => kid_cells hlo hcells hW)
   have HKC2 := Lib.hid (fun (W : World) (hW : Below w.heap.size w W) => kid_cells hlo2 hcells2 hW)
   have HKD := Lib.hid hkid
   have HKD2 := Lib.hid hkid2
   clear hcells hkid hcells2 hkid2
   simp only [nodeT, nodeW, Node.op, Node.name, Node.num, Node.pos, Node.kids] at HI HI2
   have HSS := Lib.hid (fun (W : World) (hW : Below (w.heap.size + 1) (w.alloc (boxN [109, 105, 110, 117, 115] s n p ks.length (some ⟨bb, off, none⟩) cap)) W) => (⟨hW, box5 hW, HKC.out W (fresh_w hW), HKC2.out W (fresh_w hW)⟩ : (fun W : World => Below (w.heap.size + 1) (w.alloc (boxN [109, 105, 110, 117, 115] s n p ks.length (some ⟨bb, off, none⟩) cap)) W ∧ (W.cell? ⟨w.heap.size, 0, none⟩ = some (.string ⟨#[109, 105, 110, 117, 115]⟩) ∧ W.cell? ⟨w.heap.size, 1, none⟩ = some (.string ⟨s.toArray⟩) ∧ W.cell? ⟨w.heap.size, 2, none⟩ = some (.int .i64 n) ∧ W.cell? ⟨w.heap.size, 3, none⟩ = some (.int .i64 p) ∧ W.cell? ⟨w.heap.size, 4, none⟩ = some (.slice (some ⟨bb, off, none⟩) ks.length cap)) ∧ (W.cell? ⟨bb, off, none⟩ = some (.string ⟨o1.toArray⟩) ∧ W.cell? ⟨bb, off + 1, none⟩ = some (.string ⟨s1.toArray⟩) ∧ W.cell? ⟨bb, off + 2, none⟩ = some (.int .i64 n1) ∧ W.cell? ⟨bb, off + 3, none⟩ = some (.int .i64 p1) ∧ W.cell? ⟨bb, off + 4, none⟩ = some (.slice A1 ks1.length cap1)) ∧ (W.cell? ⟨bb, off + 5, none⟩ = some (.string ⟨o2.toArray⟩) ∧ W.cell? ⟨bb, off + 5 + 1, none⟩ = some (.string ⟨s2.toArray⟩) ∧ W.cell? ⟨bb, off + 5 + 2, none⟩ = some (.int .i64 n2) ∧ W.cell? ⟨bb, off + 5 + 3, none⟩ = some (.int .i64 p2) ∧ W.cell? ⟨bb, off + 5 + 4, none⟩ = some (.slice A2 ks2.length cap2))) W))
   have HG := Lib.hid (fun (W W' : World) (hW : Below (w.heap.size + 1) (w.alloc (boxN [109, 105, 110, 117, 115] s n p ks.length (some ⟨bb, off, none⟩) cap)) W) (hb : Below W.heap.size W W') => fresh_more hW hb)
   have HW := Lib.hid (fun (W : World) (hW : Below (w.heap.size + 1) (w.alloc (boxN [109, 105, 110, 117, 115] s n p ks.length (some ⟨bb, off, none⟩) cap)) W) => fresh_w hW)
   go_enter Tryd.func13, Tryd.ntmps13
   go_upto_region 10 with fail
   generalize w.alloc _ = Z at *
   go_region_held3 (fun W : World => Below (w.heap.size + 1) Z W ∧ (W.cell? ⟨w.heap.size, 0, none⟩ = some (.string ⟨#[109, 105, 110, 117, 115]⟩) ∧ W.cell? ⟨w.heap.size, 1, none⟩ = some (.string ⟨s.toArray⟩) ∧ W.cell? ⟨w.heap.size, 2, none⟩ = some (.int .i64 n) ∧ W.cell? ⟨w.heap.size, 3, none⟩ = some (.int .i64 p) ∧ W.cell? ⟨w.heap.size, 4, none⟩ = some (.slice (some ⟨bb, off, none⟩) ks.length cap)) ∧ (W.cell? ⟨bb, off, none⟩ = some (.string ⟨o1.toArray⟩) ∧ W.cell? ⟨bb, off + 1, none⟩ = some (.string ⟨s1.toArray⟩) ∧ W.cell? ⟨bb, off + 2, none⟩ = some (.int .i64 n1) ∧ W.cell? ⟨bb, off + 3, none⟩ = some (.int .i64 p1) ∧ W.cell? ⟨bb, off + 4, none⟩ = some (.slice A1 ks1.length cap1)) ∧ (W.cell? ⟨bb, off + 5, none⟩ = some (.string ⟨o2.toArray⟩) ∧ W.cell? ⟨bb, off + 5 + 1, none⟩ = some (.string ⟨s2.toArray⟩) ∧ W.cell? ⟨bb, off + 5 + 2, none⟩ = some (.int .i64 n2) ∧ W.cell? ⟨bb, off + 5 + 3, none⟩ = some (.int .i64 p2) ∧ W.cell? ⟨bb, off + 5 + 4, none⟩ = some (.slice A2 ks2.length cap2))) (first | assumption | exact HSS.out _ hB4 | exact HSS.out _ HB0.out.drew | exact HSS.out _ HB0.out) (first
    | (go_at_call 27
       have hq : Below (w.heap.size + 1) Z _ := (show Below (w.heap.size + 1) Z _ ∧ _ by assumption).1
       refine (HJ.out _).mono ?_
       rintro e w4 ⟨rfl, hb⟩
       have hB4 := HG.out _ _ hq hb
       clear hb)
    | (go_at_call_of 13 (Value.agg #[Value.string ⟨o1.toArray⟩, Value.string ⟨s1.toArray⟩, Value.int .i64 n1, Value.int .i64 p1, Value.slice A1 ks1.length cap1])
       have hq : Below (w.heap.size + 1) Z _ := (show Below (w.heap.size + 1) Z _ ∧ _ by assumption).1
       refine (HI.out _ (HKD.out.later (HW.out _ hq) (HW.out _ hq).size)).mono ?_
       rintro e w4 ⟨rfl, hb⟩
       have hB4 := HG.out _ _ hq hb
       clear hb)
    | (go_at_call_of 13 (Value.agg #[Value.string ⟨o2.toArray⟩, Value.string ⟨s2.toArray⟩, Value.int .i64 n2, Value.int .i64 p2, Value.slice A2 ks2.length cap2])
       have hq : Below (w.heap.size + 1) Z _ := (show Below (w.heap.size + 1) Z _ ∧ _ by assumption).1
       refine (HI2.out _ (HKD2.out.later (HW.out _ hq) (HW.out _ hq).size)).mono ?_
       rintro e w4 ⟨rfl, hb⟩
       have hB4 := HG.out _ _ hq hb
       clear hb))
   all_goals
    have hh := (show Below (w.heap.size + 1) Z _ ∧ _ by assumption).1
    go_wp2_with fail
    go_ret
    exact ⟨congrArg (fun x : ByteArray => Ending.returned (.string x)) HE.out, HW.out _ hh⟩
theorem sterm_any : ∀ t : Node, STermLaw t := by
 intro t
 induction t using Node.ind with
 | h o s n p ks ih =>
   intro A cap w h hB hN
   show Calls Tryd.prog 13 #[nodeW o s n p ks.length A cap] w _
   by_cases hvar : o = nVar
   · subst hvar
     exact sterm_var s n p ks A cap w h hB hN ih
   by_cases hnum : o = nNum
   · subst hnum
     exact sterm_num s n p ks A cap w h hB hN ih
   by_cases hplus : o = nPlus
   · subst hplus
     exact sterm_plus s n p ks A cap w h hB hN ih
   by_cases hset : o = nSet
   · subst hset
     exact sterm_set s n p ks A cap w h hB hN ih
   by_cases hunion : o = nUnion
   · subst hunion
     exact sterm_union s n p ks A cap w h hB hN ih
   by_cases hinter : o = nInter
   · subst hinter
     exact sterm_inter s n p ks A cap w h hB hN ih
   by_cases hminus : o = nMinus
   · subst hminus
     exact sterm_minus s n p ks A cap w h hB hN ih
   exact absurd hB (by
    rw [termB]
    simp [setOp, hvar, hnum, hplus, hset, hunion, hinter, hminus])
end Go.Proofs.YteikakoheibnjaaDoor
