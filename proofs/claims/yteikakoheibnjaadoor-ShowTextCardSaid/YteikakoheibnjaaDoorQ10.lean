/- Parts of the proof: SForm. -/
import Derived.Test.YteikakoheibnjaaDoorQ9
namespace Go.Proofs.YteikakoheibnjaaDoor
open Go Go.RowKit

def SFormLaw (x : Node) : Prop := ∀ (A : Option Addr) (cap : Nat) (w : World), NodeAt w w.heap.size x A cap → formB x = true → nodes x ≤ 2000 →
 Calls Tryd.prog 11 #[nodeT x A cap] w fun e w' => e = .returned (.string ⟨(formS x).toArray⟩) ∧ Below w.heap.size w w'

set_option maxHeartbeats 4000000 in
theorem sform_true (s : List UInt8) (n p : Int) (ks : List Node) (A : Option Addr) (cap : Nat) (w : World) (h : NodeAt w w.heap.size (.node [116, 114, 117, 101] s n p ks) A cap) (hB : formB (.node [116, 114, 117, 101] s n p ks) = true) (_hN : nodes (.node [116, 114, 117, 101] s n p ks) ≤ 2000) (_ih : ∀ k ∈ ks, SFormLaw k) :
  Calls Tryd.prog 11 #[nodeW [116, 114, 117, 101] s n p ks.length A cap] w fun e w' => e = .returned (.string ⟨(formS (.node [116, 114, 117, 101] s n p ks)).toArray⟩) ∧ Below w.heap.size w w' := by
 have HC := Lib.hid h
 have HR := formS_len _ hB
 rw [nodes_node] at _hN HR
 have hl := h.len
 obtain ⟨hl1, hl2, _⟩ := hl
 clear h
 have HB0 := Lib.hid (Below.refl (w.heap.size + 1) (w.alloc (boxN [116, 114, 117, 101] s n p ks.length A cap)))
 simp only [nodeW]
 have HF := Lib.hid (show [116, 114, 117, 101] = formS (.node [116, 114, 117, 101] s n p ks) by show _ = formS (.node nTrue s n p ks); rw [formS, if_pos (by decide)]; try rfl)
 generalize formS (.node [116, 114, 117, 101] s n p ks) = V at *
 clear hB _ih
 go_enter Tryd.func11, Tryd.ntmps11
 go_wp2_with fail
 go_ret
 exact ⟨congrArg (fun x : List UInt8 => Ending.returned (.string ⟨x.toArray⟩)) HF.out, fresh_w HB0.out⟩
set_option maxHeartbeats 4000000 in
theorem sform_false (s : List UInt8) (n p : Int) (ks : List Node) (A : Option Addr) (cap : Nat) (w : World) (h : NodeAt w w.heap.size (.node [102, 97, 108, 115, 101] s n p ks) A cap) (hB : formB (.node [102, 97, 108, 115, 101] s n p ks) = true) (_hN : nodes (.node [102, 97, 108, 115, 101] s n p ks) ≤ 2000) (_ih : ∀ k ∈ ks, SFormLaw k) :
  Calls Tryd.prog 11 #[nodeW [102, 97, 108, 115, 101] s n p ks.length A cap] w fun e w' => e = .returned (.string ⟨(formS (.node [102, 97, 108, 115, 101] s n p ks)).toArray⟩) ∧ Below w.heap.size w w' := by
 have HC := Lib.hid h
 have HR := formS_len _ hB
 rw [nodes_node] at _hN HR
 have hl := h.len
 obtain ⟨hl1, hl2, _⟩ := hl
 clear h
 have HB0 := Lib.hid (Below.refl (w.heap.size + 1) (w.alloc (boxN [102, 97, 108, 115, 101] s n p ks.length A cap)))
 simp only [nodeW]
 have HF := Lib.hid (show [102, 97, 108, 115, 101] = formS (.node [102, 97, 108, 115, 101] s n p ks) by show _ = formS (.node nFalse s n p ks); rw [formS, if_pos (by decide)]; try rfl)
 generalize formS (.node [102, 97, 108, 115, 101] s n p ks) = V at *
 clear hB _ih
 go_enter Tryd.func11, Tryd.ntmps11
 go_wp2_with fail
 go_ret
 exact ⟨congrArg (fun x : List UInt8 => Ending.returned (.string ⟨x.toArray⟩)) HF.out, fresh_w HB0.out⟩
set_option maxHeartbeats 4000000 in
theorem sform_is (s : List UInt8) (n p : Int) (ks : List Node) (A : Option Addr) (cap : Nat) (w : World) (h : NodeAt w w.heap.size (.node [105, 115] s n p ks) A cap) (hB : formB (.node [105, 115] s n p ks) = true) (_hN : nodes (.node [105, 115] s n p ks) ≤ 2000) (_ih : ∀ k ∈ ks, SFormLaw k) :
  Calls Tryd.prog 11 #[nodeW [105, 115] s n p ks.length A cap] w fun e w' => e = .returned (.string ⟨(formS (.node [105, 115] s n p ks)).toArray⟩) ∧ Below w.heap.size w w' := by
 have HC := Lib.hid h
 have HR := formS_len _ hB
 rw [nodes_node] at _hN HR
 have hl := h.len
 obtain ⟨hl1, hl2, _⟩ := hl
 clear h
 have HB0 := Lib.hid (Below.refl (w.heap.size + 1) (w.alloc (boxN [105, 115] s n p ks.length A cap)))
 simp only [nodeW]
 have HF := Lib.hid (show s = formS (.node [105, 115] s n p ks) by show _ = formS (.node nIs s n p ks); rw [formS, if_neg (by decide), if_neg (by decide), if_neg (by decide), if_neg (by decide), if_pos (by decide)]; try rfl)
 generalize formS (.node [105, 115] s n p ks) = V at *
 clear hB _ih
 go_enter Tryd.func11, Tryd.ntmps11
 go_wp2_with fail
 go_ret
 exact ⟨congrArg (fun x : List UInt8 => Ending.returned (.string ⟨x.toArray⟩)) HF.out, fresh_w HB0.out⟩
set_option maxHeartbeats 4000000 in
theorem sform_not (s : List UInt8) (n p : Int) (ks : List Node) (A : Option Addr) (cap : Nat) (w : World) (h : NodeAt w w.heap.size (.node [110, 111, 116] s n p ks) A cap) (hB : formB (.node [110, 111, 116] s n p ks) = true) (hN : nodes (.node [110, 111, 116] s n p ks) ≤ 2000) (ih : ∀ k ∈ ks, SFormLaw k) :
  Calls Tryd.prog 11 #[nodeW [110, 111, 116] s n p ks.length A cap] w fun e w' => e = .returned (.string ⟨(formS (.node [110, 111, 116] s n p ks)).toArray⟩) ∧ Below w.heap.size w w' := by
 have HC := Lib.hid h
 have HR := formS_len _ hB
 rw [nodes_node] at hN HR
 have hl := h.len
 obtain ⟨hl1, hl2, _⟩ := hl
 clear h
 have HB0 := Lib.hid (Below.refl (w.heap.size + 1) (w.alloc (boxN [110, 111, 116] s n p ks.length A cap)))
 simp only [nodeW]
 replace hB : formB (.node nNot s n p ks) = true := hB
 rw [formB, if_neg (by decide), if_pos rfl] at hB
 simp only [Bool.and_eq_true] at hB
 have hk := (hasB_name hB.1).2.1
 have hb2 := hB.2
 clear hB
 have HF := Lib.hid (show [126] ++ (formSL ks).getD 0 [] = formS (.node [110, 111, 116] s n p ks) by show _ = formS (.node nNot s n p ks); rw [formS, if_neg (by decide), if_pos rfl])
 rw [← HF.out] at HR
 simp only [List.length_append, List.length_cons, List.length_nil] at HR
 generalize formS (.node [110, 111, 116] s n p ks) = V at *
 obtain ⟨y, hx⟩ : ∃ y, ks = [y] := by
  match ks, hk with
  | [a], _ => exact ⟨a, rfl⟩
 have hl0 : 0 < ks.length := by omega
 obtain ⟨bb, off, A1, cap1, rfl, hlo, hcells, hkid⟩ := HC.out.kid 0 hl0
 have hIH := ih (ks[0]'hl0) (List.getElem_mem hl0) A1 cap1
 have hT0 : formB (ks[0]'hl0) = true := by rw [formsB_all, List.all_eq_true] at hb2; exact hb2 _ (List.getElem_mem hl0)
 have hN0 : nodes (ks[0]'hl0) ≤ 2000 := Nat.le_trans (nodes_kid ks _ (List.getElem_mem hl0)) (by omega)
 have hG : (formSL ks).getD 0 [] = formS (ks[0]'hl0) := by subst hx; simp [formSL]
 rw [hG] at HF HR
 simp only [Nat.zero_mul, Nat.add_zero] at hcells hkid
 clear hG hb2 ih hx hk
 generalize ks[0]'hl0 = x at *
 have HI := Lib.hid (fun (W : World) (hh : NodeAt W W.heap.size x A1 cap1) => hIH W hh hT0 hN0)
 clear hIH hT0 hN0
 generalize formS x = X at *
 obtain ⟨T1, hadd1, hT1⟩ := add_ex ⟨#[126]⟩ ⟨X.toArray⟩ (X := [126]) (Y := X) rfl rfl (by simp only [List.length_cons, List.length_nil]; omega)
 have HE := Lib.hid (show T1 = ⟨V.toArray⟩ from bytes_of (hT1.trans (by rw [← HF.out]; try simp only [List.append_assoc])))
 clear hT1
 cases x with
 | node o1 s1 n1 p1 ks1 =>
   have HKC := Lib.hid (fun (W : World) (hW : Below w.heap.size w W) => kid_cells hlo hcells hW)
   have HKD := Lib.hid hkid
   clear hcells hkid
   simp only [nodeT, nodeW, Node.op, Node.name, Node.num, Node.pos, Node.kids] at HI
   obtain ⟨d0, d1, d2, d3, d4⟩ := HKC.out _ (fresh_w HB0.out)
   go_enter Tryd.func11, Tryd.ntmps11
   go_wp2_with (
    go_at_call 11
    refine (HI.out _ (HKD.out.later (fresh_w HB0.out) (fresh_w HB0.out).size)).mono ?_
    rintro e w2 ⟨rfl, hb⟩
    have HB1 := Lib.hid (fresh_more HB0.out hb)
    clear hb)
   all_goals
    go_ret
    exact ⟨congrArg (fun x : ByteArray => Ending.returned (.string x)) HE.out, fresh_w HB1.out⟩
set_option maxHeartbeats 4000000 in
theorem sform_and (s : List UInt8) (n p : Int) (ks : List Node) (A : Option Addr) (cap : Nat) (w : World) (h : NodeAt w w.heap.size (.node [97, 110, 100] s n p ks) A cap) (hB : formB (.node [97, 110, 100] s n p ks) = true) (hN : nodes (.node [97, 110, 100] s n p ks) ≤ 2000) (ih : ∀ k ∈ ks, SFormLaw k) :
  Calls Tryd.prog 11 #[nodeW [97, 110, 100] s n p ks.length A cap] w fun e w' => e = .returned (.string ⟨(formS (.node [97, 110, 100] s n p ks)).toArray⟩) ∧ Below w.heap.size w w' := by
 have HC := Lib.hid h
 have HR := formS_len _ hB
 rw [nodes_node] at hN HR
 have hl := h.len
 obtain ⟨hl1, hl2, _⟩ := hl
 clear h
 have HB0 := Lib.hid (Below.refl (w.heap.size + 1) (w.alloc (boxN [97, 110, 100] s n p ks.length A cap)))
 simp only [nodeW]
 replace hB : formB (.node nAnd s n p ks) = true := hB
 rw [formB, if_neg (by decide), if_neg (by decide), if_pos (by decide)] at hB
 simp only [Bool.and_eq_true] at hB
 have hk := (hasB_name hB.1).2.1
 have hb2 := hB.2
 clear hB
 have HF := Lib.hid (show [40] ++ joined ((formSL ks).getD 0 []) nAnd ((formSL ks).getD 1 []) ++ [41] = formS (.node [97, 110, 100] s n p ks) by show _ = formS (.node nAnd s n p ks); rw [formS, if_neg (by decide), if_neg (by decide), if_pos (by decide)])
 rw [← HF.out] at HR
 generalize formS (.node [97, 110, 100] s n p ks) = V at *
 obtain ⟨y, z, hx⟩ := two_of hk
 have hl0 : 0 < ks.length := by omega
 have hl1' : 1 < ks.length := by omega
 have hi1 : (1 : Int) < (ks.length : Int) := by omega
 obtain ⟨bb, off, A1, cap1, rfl, hlo, hcells, hkid⟩ := HC.out.kid 0 hl0
 obtain ⟨bb2, off2, A2, cap2, he, hlo2, hcells2, hkid2⟩ := HC.out.kid 1 hl1'
 have e1 := congrArg Addr.block (Option.some.inj he)
 have e2 := congrArg Addr.off (Option.some.inj he)
 simp only at e1 e2
 subst e1
 subst e2
 clear he
 have hIH := ih (ks[0]'hl0) (List.getElem_mem hl0) A1 cap1
 have hIH2 := ih (ks[1]'hl1') (List.getElem_mem hl1') A2 cap2
 have hT0 : formB (ks[0]'hl0) = true := by rw [formsB_all, List.all_eq_true] at hb2; exact hb2 _ (List.getElem_mem hl0)
 have hT1 : formB (ks[1]'hl1') = true := by rw [formsB_all, List.all_eq_true] at hb2; exact hb2 _ (List.getElem_mem hl1')
 have hN0 : nodes (ks[0]'hl0) ≤ 2000 := Nat.le_trans (nodes_kid ks _ (List.getElem_mem hl0)) (by omega)
 have hN1 : nodes (ks[1]'hl1') ≤ 2000 := Nat.le_trans (nodes_kid ks _ (List.getElem_mem hl1')) (by omega)
 have hG : (formSL ks).getD 0 [] = formS (ks[0]'hl0) := by subst hx; simp [formSL]
 have hG2 : (formSL ks).getD 1 [] = formS (ks[1]'hl1') := by subst hx; simp [formSL]
 rw [hG, hG2] at HF HR
 simp only [Nat.zero_mul, Nat.add_zero, Nat.one_mul] at hcells hkid hcells2 hkid2
 clear hG hG2 hb2 ih hx hk
 generalize ks[0]'hl0 = x at *
 generalize ks[1]'hl1' = x2 at *
 have HI := Lib.hid (fun (W : World) (hh : NodeAt W W.heap.size x A1 cap1) => hIH W hh hT0 hN0)
 have HI2 := Lib.hid (fun (W : World) (hh : NodeAt W W.heap.size x2 A2 cap2) => hIH2 W hh hT1 hN1)
 clear hIH hIH2 hT0 hT1 hN0 hN1
 generalize formS x = X at *
 generalize formS x2 = Y at *
 try simp only [List.length_append, List.length_cons, List.length_nil] at HR
 have HJ := Lib.hid (fun (W : World) => joined_any X [97, 110, 100] Y (Or.inr (Or.inl (by decide))) (show (joined X nAnd Y).length ≤ 90000000 by omega) W)
 change Hid (∀ W : World, Calls Tryd.prog 27 #[.string ⟨X.toArray⟩, .string ⟨#[97, 110, 100]⟩, .string ⟨Y.toArray⟩] W fun e w' => e = .returned (.string ⟨(joined X nAnd Y).toArray⟩) ∧ Below W.heap.size W w') at HJ
 generalize joined X nAnd Y = J at *
 obtain ⟨T1, hadd1, hT1⟩ := add_ex ⟨#[40]⟩ ⟨J.toArray⟩ (X := [40]) (Y := J) rfl rfl (by simp only [List.length_cons, List.length_nil]; omega)
 obtain ⟨T2, hadd2, hT2⟩ := add_ex T1 ⟨#[41]⟩ (Y := [41]) hT1 rfl (by simp only [List.length_append, List.length_cons, List.length_nil]; omega)
 have HE := Lib.hid (show T2 = ⟨V.toArray⟩ from bytes_of (hT2.trans (by rw [← HF.out]; try simp only [List.append_assoc])))
 clear hT1 hT2
 cases x with
 | node o1 s1 n1 p1 ks1 =>
 cases x2 with
 | node o2 s2 n2 p2 ks2 =>
   have HKC := Lib.hid (fun (W : World) (hW : Below w.heap.size w W) => kid_cells hlo hcells hW)
   have HKC2 := Lib.hid (fun (W : World) (hW : Below w.heap.size w W) => kid_cells hlo2 hcells2 hW)
   have HKD := Lib.hid hkid
   have HKD2 := Lib.hid hkid2
   clear hcells hkid hcells2 hkid2
   simp only [nodeT, nodeW, Node.op, Node.name, Node.num, Node.pos, Node.kids] at HI HI2
   have HSS := Lib.hid (fun (W : World) (hW : Below (w.heap.size + 1) (w.alloc (boxN [97, 110, 100] s n p ks.length (some ⟨bb, off, none⟩) cap)) W) => (⟨hW, box5 hW, HKC.out W (fresh_w hW), HKC2.out W (fresh_w hW)⟩ : (fun W : World => Below (w.heap.size + 1) (w.alloc (boxN [97, 110, 100] s n p ks.length (some ⟨bb, off, none⟩) cap)) W ∧ (W.cell? ⟨w.heap.size, 0, none⟩ = some (.string ⟨#[97, 110, 100]⟩) ∧ W.cell? ⟨w.heap.size, 1, none⟩ = some (.string ⟨s.toArray⟩) ∧ W.cell? ⟨w.heap.size, 2, none⟩ = some (.int .i64 n) ∧ W.cell? ⟨w.heap.size, 3, none⟩ = some (.int .i64 p) ∧ W.cell? ⟨w.heap.size, 4, none⟩ = some (.slice (some ⟨bb, off, none⟩) ks.length cap)) ∧ (W.cell? ⟨bb, off, none⟩ = some (.string ⟨o1.toArray⟩) ∧ W.cell? ⟨bb, off + 1, none⟩ = some (.string ⟨s1.toArray⟩) ∧ W.cell? ⟨bb, off + 2, none⟩ = some (.int .i64 n1) ∧ W.cell? ⟨bb, off + 3, none⟩ = some (.int .i64 p1) ∧ W.cell? ⟨bb, off + 4, none⟩ = some (.slice A1 ks1.length cap1)) ∧ (W.cell? ⟨bb, off + 5, none⟩ = some (.string ⟨o2.toArray⟩) ∧ W.cell? ⟨bb, off + 5 + 1, none⟩ = some (.string ⟨s2.toArray⟩) ∧ W.cell? ⟨bb, off + 5 + 2, none⟩ = some (.int .i64 n2) ∧ W.cell? ⟨bb, off + 5 + 3, none⟩ = some (.int .i64 p2) ∧ W.cell? ⟨bb, off + 5 + 4, none⟩ = some (.slice A2 ks2.length cap2))) W))
   have HG := Lib.hid (fun (W W' : World) (hW : Below (w.heap.size + 1) (w.alloc (boxN [97, 110, 100] s n p ks.length (some ⟨bb, off, none⟩) cap)) W) (hb : Below W.heap.size W W') => fresh_more hW hb)
   have HW := Lib.hid (fun (W : World) (hW : Below (w.heap.size + 1) (w.alloc (boxN [97, 110, 100] s n p ks.length (some ⟨bb, off, none⟩) cap)) W) => fresh_w hW)
   go_enter Tryd.func11, Tryd.ntmps11
   go_upto_region 11 with fail
   generalize w.alloc _ = Z at *
   go_region_held3 (fun W : World => Below (w.heap.size + 1) Z W ∧ (W.cell? ⟨w.heap.size, 0, none⟩ = some (.string ⟨#[97, 110, 100]⟩) ∧ W.cell? ⟨w.heap.size, 1, none⟩ = some (.string ⟨s.toArray⟩) ∧ W.cell? ⟨w.heap.size, 2, none⟩ = some (.int .i64 n) ∧ W.cell? ⟨w.heap.size, 3, none⟩ = some (.int .i64 p) ∧ W.cell? ⟨w.heap.size, 4, none⟩ = some (.slice (some ⟨bb, off, none⟩) ks.length cap)) ∧ (W.cell? ⟨bb, off, none⟩ = some (.string ⟨o1.toArray⟩) ∧ W.cell? ⟨bb, off + 1, none⟩ = some (.string ⟨s1.toArray⟩) ∧ W.cell? ⟨bb, off + 2, none⟩ = some (.int .i64 n1) ∧ W.cell? ⟨bb, off + 3, none⟩ = some (.int .i64 p1) ∧ W.cell? ⟨bb, off + 4, none⟩ = some (.slice A1 ks1.length cap1)) ∧ (W.cell? ⟨bb, off + 5, none⟩ = some (.string ⟨o2.toArray⟩) ∧ W.cell? ⟨bb, off + 5 + 1, none⟩ = some (.string ⟨s2.toArray⟩) ∧ W.cell? ⟨bb, off + 5 + 2, none⟩ = some (.int .i64 n2) ∧ W.cell? ⟨bb, off + 5 + 3, none⟩ = some (.int .i64 p2) ∧ W.cell? ⟨bb, off + 5 + 4, none⟩ = some (.slice A2 ks2.length cap2))) (first | assumption | exact HSS.out _ hB4 | exact HSS.out _ HB0.out.drew | exact HSS.out _ HB0.out) (first
    | (go_at_call 27
       have hq : Below (w.heap.size + 1) Z _ := (show Below (w.heap.size + 1) Z _ ∧ _ by assumption).1
       refine (HJ.out _).mono ?_
       rintro e w4 ⟨rfl, hb⟩
       have hB4 := HG.out _ _ hq hb
       clear hb)
    | (go_at_call_of 11 (Value.agg #[Value.string ⟨o1.toArray⟩, Value.string ⟨s1.toArray⟩, Value.int .i64 n1, Value.int .i64 p1, Value.slice A1 ks1.length cap1])
       have hq : Below (w.heap.size + 1) Z _ := (show Below (w.heap.size + 1) Z _ ∧ _ by assumption).1
       refine (HI.out _ (HKD.out.later (HW.out _ hq) (HW.out _ hq).size)).mono ?_
       rintro e w4 ⟨rfl, hb⟩
       have hB4 := HG.out _ _ hq hb
       clear hb)
    | (go_at_call_of 11 (Value.agg #[Value.string ⟨o2.toArray⟩, Value.string ⟨s2.toArray⟩, Value.int .i64 n2, Value.int .i64 p2, Value.slice A2 ks2.length cap2])
       have hq : Below (w.heap.size + 1) Z _ := (show Below (w.heap.size + 1) Z _ ∧ _ by assumption).1
       refine (HI2.out _ (HKD2.out.later (HW.out _ hq) (HW.out _ hq).size)).mono ?_
       rintro e w4 ⟨rfl, hb⟩
       have hB4 := HG.out _ _ hq hb
       clear hb))
   all_goals
    have hh := (show Below (w.heap.size + 1) Z _ ∧ _ by assumption).1
    go_wp2_with fail
    go_ret
    exact ⟨congrArg (fun x : ByteArray => Ending.returned (.string x)) HE.out, HW.out _ hh⟩
set_option maxHeartbeats 4000000 in
theorem sform_or (s : List UInt8) (n p : Int) (ks : List Node) (A : Option Addr) (cap : Nat) (w : World) (h : NodeAt w w.heap.size (.node [111, 114] s n p ks) A cap) (hB : formB (.node [111, 114] s n p ks) = true) (hN : nodes (.node [111, 114] s n p ks) ≤ 2000) (ih : ∀ k ∈ ks, SFormLaw k) :
  Calls Tryd.prog 11 #[nodeW [111, 114] s n p ks.length A cap] w fun e w' => e = .returned (.string ⟨(formS (.node [111, 114] s n p ks)).toArray⟩) ∧ Below w.heap.size w w' := by
 have HC := Lib.hid h
 have HR := formS_len _ hB
 rw [nodes_node] at hN HR
 have hl := h.len
 obtain ⟨hl1, hl2, _⟩ := hl
 clear h
 have HB0 := Lib.hid (Below.refl (w.heap.size + 1) (w.alloc (boxN [111, 114] s n p ks.length A cap)))
 simp only [nodeW]
 replace hB : formB (.node nOr s n p ks) = true := hB
 rw [formB, if_neg (by decide), if_neg (by decide), if_pos (by decide)] at hB
 simp only [Bool.and_eq_true] at hB
 have hk := (hasB_name hB.1).2.1
 have hb2 := hB.2
 clear hB
 have HF := Lib.hid (show [40] ++ joined ((formSL ks).getD 0 []) nOr ((formSL ks).getD 1 []) ++ [41] = formS (.node [111, 114] s n p ks) by show _ = formS (.node nOr s n p ks); rw [formS, if_neg (by decide), if_neg (by decide), if_pos (by decide)])
 rw [← HF.out] at HR
 generalize formS (.node [111, 114] s n p ks) = V at *
 obtain ⟨y, z, hx⟩ := two_of hk
 have hl0 : 0 < ks.length := by omega
 have hl1' : 1 < ks.length := by omega
 have hi1 : (1 : Int) < (ks.length : Int) := by omega
 obtain ⟨bb, off, A1, cap1, rfl, hlo, hcells, hkid⟩ := HC.out.kid 0 hl0
 obtain ⟨bb2, off2, A2, cap2, he, hlo2, hcells2, hkid2⟩ := HC.out.kid 1 hl1'
 have e1 := congrArg Addr.block (Option.some.inj he)
 have e2 := congrArg Addr.off (Option.some.inj he)
 simp only at e1 e2
 subst e1
 subst e2
 clear he
 have hIH := ih (ks[0]'hl0) (List.getElem_mem hl0) A1 cap1
 have hIH2 := ih (ks[1]'hl1') (List.getElem_mem hl1') A2 cap2
 have hT0 : formB (ks[0]'hl0) = true := by rw [formsB_all, List.all_eq_true] at hb2; exact hb2 _ (List.getElem_mem hl0)
 have hT1 : formB (ks[1]'hl1') = true := by rw [formsB_all, List.all_eq_true] at hb2; exact hb2 _ (List.getElem_mem hl1')
 have hN0 : nodes (ks[0]'hl0) ≤ 2000 := Nat.le_trans (nodes_kid ks _ (List.getElem_mem hl0)) (by omega)
 have hN1 : nodes (ks[1]'hl1') ≤ 2000 := Nat.le_trans (nodes_kid ks _ (List.getElem_mem hl1')) (by omega)
 have hG : (formSL ks).getD 0 [] = formS (ks[0]'hl0) := by subst hx; simp [formSL]
 have hG2 : (formSL ks).getD 1 [] = formS (ks[1]'hl1') := by subst hx; simp [formSL]
 rw [hG, hG2] at HF HR
 simp only [Nat.zero_mul, Nat.add_zero, Nat.one_mul] at hcells hkid hcells2 hkid2
 clear hG hG2 hb2 ih hx hk
 generalize ks[0]'hl0 = x at *
 generalize ks[1]'hl1' = x2 at *
 have HI := Lib.hid (fun (W : World) (hh : NodeAt W W.heap.size x A1 cap1) => hIH W hh hT0 hN0)
 have HI2 := Lib.hid (fun (W : World) (hh : NodeAt W W.heap.size x2 A2 cap2) => hIH2 W hh hT1 hN1)
 clear hIH hIH2 hT0 hT1 hN0 hN1
 generalize formS x = X at *
 generalize formS x2 = Y at *
 try simp only [List.length_append, List.length_cons, List.length_nil] at HR
 have HJ := Lib.hid (fun (W : World) => joined_any X [111, 114] Y (Or.inr (Or.inl (by decide))) (show (joined X nOr Y).length ≤ 90000000 by omega) W)
 change Hid (∀ W : World, Calls Tryd.prog 27 #[.string ⟨X.toArray⟩, .string ⟨#[111, 114]⟩, .string ⟨Y.toArray⟩] W fun e w' => e = .returned (.string ⟨(joined X nOr Y).toArray⟩) ∧ Below W.heap.size W w') at HJ
 generalize joined X nOr Y = J at *
 obtain ⟨T1, hadd1, hT1⟩ := add_ex ⟨#[40]⟩ ⟨J.toArray⟩ (X := [40]) (Y := J) rfl rfl (by simp only [List.length_cons, List.length_nil]; omega)
 obtain ⟨T2, hadd2, hT2⟩ := add_ex T1 ⟨#[41]⟩ (Y := [41]) hT1 rfl (by simp only [List.length_append, List.length_cons, List.length_nil]; omega)
 have HE := Lib.hid (show T2 = ⟨V.toArray⟩ from bytes_of (hT2.trans (by rw [← HF.out]; try simp only [List.append_assoc])))
 clear hT1 hT2
 cases x with
 | node o1 s1 n1 p1 ks1 =>
 cases x2 with
 | node o2 s2 n2 p2 ks2 =>
   have HKC := Lib.hid (fun (W : World) (hW : Below w.heap.size w W) => kid_cells hlo hcells hW)
   have HKC2 := Lib.hid (fun (W : World) (hW : Below w.heap.size w W) => kid_cells hlo2 hcells2 hW)
   have HKD := Lib.hid hkid
   have HKD2 := Lib.hid hkid2
   clear hcells hkid hcells2 hkid2
   simp only [nodeT, nodeW, Node.op, Node.name, Node.num, Node.pos, Node.kids] at HI HI2
   have HSS := Lib.hid (fun (W : World) (hW : Below (w.heap.size + 1) (w.alloc (boxN [111, 114] s n p ks.length (some ⟨bb, off, none⟩) cap)) W) => (⟨hW, box5 hW, HKC.out W (fresh_w hW), HKC2.out W (fresh_w hW)⟩ : (fun W : World => Below (w.heap.size + 1) (w.alloc (boxN [111, 114] s n p ks.length (some ⟨bb, off, none⟩) cap)) W ∧ (W.cell? ⟨w.heap.size, 0, none⟩ = some (.string ⟨#[111, 114]⟩) ∧ W.cell? ⟨w.heap.size, 1, none⟩ = some (.string ⟨s.toArray⟩) ∧ W.cell? ⟨w.heap.size, 2, none⟩ = some (.int .i64 n) ∧ W.cell? ⟨w.heap.size, 3, none⟩ = some (.int .i64 p) ∧ W.cell? ⟨w.heap.size, 4, none⟩ = some (.slice (some ⟨bb, off, none⟩) ks.length cap)) ∧ (W.cell? ⟨bb, off, none⟩ = some (.string ⟨o1.toArray⟩) ∧ W.cell? ⟨bb, off + 1, none⟩ = some (.string ⟨s1.toArray⟩) ∧ W.cell? ⟨bb, off + 2, none⟩ = some (.int .i64 n1) ∧ W.cell? ⟨bb, off + 3, none⟩ = some (.int .i64 p1) ∧ W.cell? ⟨bb, off + 4, none⟩ = some (.slice A1 ks1.length cap1)) ∧ (W.cell? ⟨bb, off + 5, none⟩ = some (.string ⟨o2.toArray⟩) ∧ W.cell? ⟨bb, off + 5 + 1, none⟩ = some (.string ⟨s2.toArray⟩) ∧ W.cell? ⟨bb, off + 5 + 2, none⟩ = some (.int .i64 n2) ∧ W.cell? ⟨bb, off + 5 + 3, none⟩ = some (.int .i64 p2) ∧ W.cell? ⟨bb, off + 5 + 4, none⟩ = some (.slice A2 ks2.length cap2))) W))
   have HG := Lib.hid (fun (W W' : World) (hW : Below (w.heap.size + 1) (w.alloc (boxN [111, 114] s n p ks.length (some ⟨bb, off, none⟩) cap)) W) (hb : Below W.heap.size W W') => fresh_more hW hb)
   have HW := Lib.hid (fun (W : World) (hW : Below (w.heap.size + 1) (w.alloc (boxN [111, 114] s n p ks.length (some ⟨bb, off, none⟩) cap)) W) => fresh_w hW)
   go_enter Tryd.func11, Tryd.ntmps11
   go_upto_region 11 with fail
   generalize w.alloc _ = Z at *
   go_region_held3 (fun W : World => Below (w.heap.size + 1) Z W ∧ (W.cell? ⟨w.heap.size, 0, none⟩ = some (.string ⟨#[111, 114]⟩) ∧ W.cell? ⟨w.heap.size, 1, none⟩ = some (.string ⟨s.toArray⟩) ∧ W.cell? ⟨w.heap.size, 2, none⟩ = some (.int .i64 n) ∧ W.cell? ⟨w.heap.size, 3, none⟩ = some (.int .i64 p) ∧ W.cell? ⟨w.heap.size, 4, none⟩ = some (.slice (some ⟨bb, off, none⟩) ks.length cap)) ∧ (W.cell? ⟨bb, off, none⟩ = some (.string ⟨o1.toArray⟩) ∧ W.cell? ⟨bb, off + 1, none⟩ = some (.string ⟨s1.toArray⟩) ∧ W.cell? ⟨bb, off + 2, none⟩ = some (.int .i64 n1) ∧ W.cell? ⟨bb, off + 3, none⟩ = some (.int .i64 p1) ∧ W.cell? ⟨bb, off + 4, none⟩ = some (.slice A1 ks1.length cap1)) ∧ (W.cell? ⟨bb, off + 5, none⟩ = some (.string ⟨o2.toArray⟩) ∧ W.cell? ⟨bb, off + 5 + 1, none⟩ = some (.string ⟨s2.toArray⟩) ∧ W.cell? ⟨bb, off + 5 + 2, none⟩ = some (.int .i64 n2) ∧ W.cell? ⟨bb, off + 5 + 3, none⟩ = some (.int .i64 p2) ∧ W.cell? ⟨bb, off + 5 + 4, none⟩ = some (.slice A2 ks2.length cap2))) (first | assumption | exact HSS.out _ hB4 | exact HSS.out _ HB0.out.drew | exact HSS.out _ HB0.out) (first
    | (go_at_call 27
       have hq : Below (w.heap.size + 1) Z _ := (show Below (w.heap.size + 1) Z _ ∧ _ by assumption).1
       refine (HJ.out _).mono ?_
       rintro e w4 ⟨rfl, hb⟩
       have hB4 := HG.out _ _ hq hb
       clear hb)
    | (go_at_call_of 11 (Value.agg #[Value.string ⟨o1.toArray⟩, Value.string ⟨s1.toArray⟩, Value.int .i64 n1, Value.int .i64 p1, Value.slice A1 ks1.length cap1])
       have hq : Below (w.heap.size + 1) Z _ := (show Below (w.heap.size + 1) Z _ ∧ _ by assumption).1
       refine (HI.out _ (HKD.out.later (HW.out _ hq) (HW.out _ hq).size)).mono ?_
       rintro e w4 ⟨rfl, hb⟩
       have hB4 := HG.out _ _ hq hb
       clear hb)
    | (go_at_call_of 11 (Value.agg #[Value.string ⟨o2.toArray⟩, Value.string ⟨s2.toArray⟩, Value.int .i64 n2, Value.int .i64 p2, Value.slice A2 ks2.length cap2])
       have hq : Below (w.heap.size + 1) Z _ := (show Below (w.heap.size + 1) Z _ ∧ _ by assumption).1
       refine (HI2.out _ (HKD2.out.later (HW.out _ hq) (HW.out _ hq).size)).mono ?_
       rintro e w4 ⟨rfl, hb⟩
       have hB4 := HG.out _ _ hq hb
       clear hb))
   all_goals
    have hh := (show Below (w.heap.size + 1) Z _ ∧ _ by assumption).1
    go_wp2_with fail
    go_ret
    exact ⟨congrArg (fun x : ByteArray => Ending.returned (.string x)) HE.out, HW.out _ hh⟩
set_option maxHeartbeats 4000000 in
theorem sform_imp (s : List UInt8) (n p : Int) (ks : List Node) (A : Option Addr) (cap : Nat) (w : World) (h : NodeAt w w.heap.size (.node [105, 109, 112] s n p ks) A cap) (hB : formB (.node [105, 109, 112] s n p ks) = true) (hN : nodes (.node [105, 109, 112] s n p ks) ≤ 2000) (ih : ∀ k ∈ ks, SFormLaw k) :
  Calls Tryd.prog 11 #[nodeW [105, 109, 112] s n p ks.length A cap] w fun e w' => e = .returned (.string ⟨(formS (.node [105, 109, 112] s n p ks)).toArray⟩) ∧ Below w.heap.size w w' := by
 have HC := Lib.hid h
 have HR := formS_len _ hB
 rw [nodes_node] at hN HR
 have hl := h.len
 obtain ⟨hl1, hl2, _⟩ := hl
 clear h
 have HB0 := Lib.hid (Below.refl (w.heap.size + 1) (w.alloc (boxN [105, 109, 112] s n p ks.length A cap)))
 simp only [nodeW]
 replace hB : formB (.node nImp s n p ks) = true := hB
 rw [formB, if_neg (by decide), if_neg (by decide), if_pos (by decide)] at hB
 simp only [Bool.and_eq_true] at hB
 have hk := (hasB_name hB.1).2.1
 have hb2 := hB.2
 clear hB
 have HF := Lib.hid (show [40] ++ joined ((formSL ks).getD 0 []) nImp ((formSL ks).getD 1 []) ++ [41] = formS (.node [105, 109, 112] s n p ks) by show _ = formS (.node nImp s n p ks); rw [formS, if_neg (by decide), if_neg (by decide), if_pos (by decide)])
 rw [← HF.out] at HR
 generalize formS (.node [105, 109, 112] s n p ks) = V at *
 obtain ⟨y, z, hx⟩ := two_of hk
 have hl0 : 0 < ks.length := by omega
 have hl1' : 1 < ks.length := by omega
 have hi1 : (1 : Int) < (ks.length : Int) := by omega
 obtain ⟨bb, off, A1, cap1, rfl, hlo, hcells, hkid⟩ := HC.out.kid 0 hl0
 obtain ⟨bb2, off2, A2, cap2, he, hlo2, hcells2, hkid2⟩ := HC.out.kid 1 hl1'
 have e1 := congrArg Addr.block (Option.some.inj he)
 have e2 := congrArg Addr.off (Option.some.inj he)
 simp only at e1 e2
 subst e1
 subst e2
 clear he
 have hIH := ih (ks[0]'hl0) (List.getElem_mem hl0) A1 cap1
 have hIH2 := ih (ks[1]'hl1') (List.getElem_mem hl1') A2 cap2
 have hT0 : formB (ks[0]'hl0) = true := by rw [formsB_all, List.all_eq_true] at hb2; exact hb2 _ (List.getElem_mem hl0)
 have hT1 : formB (ks[1]'hl1') = true := by rw [formsB_all, List.all_eq_true] at hb2; exact hb2 _ (List.getElem_mem hl1')
 have hN0 : nodes (ks[0]'hl0) ≤ 2000 := Nat.le_trans (nodes_kid ks _ (List.getElem_mem hl0)) (by omega)
 have hN1 : nodes (ks[1]'hl1') ≤ 2000 := Nat.le_trans (nodes_kid ks _ (List.getElem_mem hl1')) (by omega)
 have hG : (formSL ks).getD 0 [] = formS (ks[0]'hl0) := by subst hx; simp [formSL]
 have hG2 : (formSL ks).getD 1 [] = formS (ks[1]'hl1') := by subst hx; simp [formSL]
 rw [hG, hG2] at HF HR
 simp only [Nat.zero_mul, Nat.add_zero, Nat.one_mul] at hcells hkid hcells2 hkid2
 clear hG hG2 hb2 ih hx hk
 generalize ks[0]'hl0 = x at *
 generalize ks[1]'hl1' = x2 at *
 have HI := Lib.hid (fun (W : World) (hh : NodeAt W W.heap.size x A1 cap1) => hIH W hh hT0 hN0)
 have HI2 := Lib.hid (fun (W : World) (hh : NodeAt W W.heap.size x2 A2 cap2) => hIH2 W hh hT1 hN1)
 clear hIH hIH2 hT0 hT1 hN0 hN1
 generalize formS x = X at *
 generalize formS x2 = Y at *
 try simp only [List.length_append, List.length_cons, List.length_nil] at HR
 have HJ := Lib.hid (fun (W : World) => joined_any X [105, 109, 112] Y (Or.inr (Or.inl (by decide))) (show (joined X nImp Y).length ≤ 90000000 by omega) W)
 change Hid (∀ W : World, Calls Tryd.prog 27 #[.string ⟨X.toArray⟩, .string ⟨#[105, 109, 112]⟩, .string ⟨Y.toArray⟩] W fun e w' => e = .returned (.string ⟨(joined X nImp Y).toArray⟩) ∧ Below W.heap.size W w') at HJ
 generalize joined X nImp Y = J at *
 obtain ⟨T1, hadd1, hT1⟩ := add_ex ⟨#[40]⟩ ⟨J.toArray⟩ (X := [40]) (Y := J) rfl rfl (by simp only [List.length_cons, List.length_nil]; omega)
 obtain ⟨T2, hadd2, hT2⟩ := add_ex T1 ⟨#[41]⟩ (Y := [41]) hT1 rfl (by simp only [List.length_append, List.length_cons, List.length_nil]; omega)
 have HE := Lib.hid (show T2 = ⟨V.toArray⟩ from bytes_of (hT2.trans (by rw [← HF.out]; try simp only [List.append_assoc])))
 clear hT1 hT2
 cases x with
 | node o1 s1 n1 p1 ks1 =>
 cases x2 with
 | node o2 s2 n2 p2 ks2 =>
   have HKC := Lib.hid (fun (W : World) (hW : Below w.heap.size w W) => kid_cells hlo hcells hW)
   have HKC2 := Lib.hid (fun (W : World) (hW : Below w.heap.size w W) => kid_cells hlo2 hcells2 hW)
   have HKD := Lib.hid hkid
   have HKD2 := Lib.hid hkid2
   clear hcells hkid hcells2 hkid2
   simp only [nodeT, nodeW, Node.op, Node.name, Node.num, Node.pos, Node.kids] at HI HI2
   have HSS := Lib.hid (fun (W : World) (hW : Below (w.heap.size + 1) (w.alloc (boxN [105, 109, 112] s n p ks.length (some ⟨bb, off, none⟩) cap)) W) => (⟨hW, box5 hW, HKC.out W (fresh_w hW), HKC2.out W (fresh_w hW)⟩ : (fun W : World => Below (w.heap.size + 1) (w.alloc (boxN [105, 109, 112] s n p ks.length (some ⟨bb, off, none⟩) cap)) W ∧ (W.cell? ⟨w.heap.size, 0, none⟩ = some (.string ⟨#[105, 109, 112]⟩) ∧ W.cell? ⟨w.heap.size, 1, none⟩ = some (.string ⟨s.toArray⟩) ∧ W.cell? ⟨w.heap.size, 2, none⟩ = some (.int .i64 n) ∧ W.cell? ⟨w.heap.size, 3, none⟩ = some (.int .i64 p) ∧ W.cell? ⟨w.heap.size, 4, none⟩ = some (.slice (some ⟨bb, off, none⟩) ks.length cap)) ∧ (W.cell? ⟨bb, off, none⟩ = some (.string ⟨o1.toArray⟩) ∧ W.cell? ⟨bb, off + 1, none⟩ = some (.string ⟨s1.toArray⟩) ∧ W.cell? ⟨bb, off + 2, none⟩ = some (.int .i64 n1) ∧ W.cell? ⟨bb, off + 3, none⟩ = some (.int .i64 p1) ∧ W.cell? ⟨bb, off + 4, none⟩ = some (.slice A1 ks1.length cap1)) ∧ (W.cell? ⟨bb, off + 5, none⟩ = some (.string ⟨o2.toArray⟩) ∧ W.cell? ⟨bb, off + 5 + 1, none⟩ = some (.string ⟨s2.toArray⟩) ∧ W.cell? ⟨bb, off + 5 + 2, none⟩ = some (.int .i64 n2) ∧ W.cell? ⟨bb, off + 5 + 3, none⟩ = some (.int .i64 p2) ∧ W.cell? ⟨bb, off + 5 + 4, none⟩ = some (.slice A2 ks2.length cap2))) W))
   have HG := Lib.hid (fun (W W' : World) (hW : Below (w.heap.size + 1) (w.alloc (boxN [105, 109, 112] s n p ks.length (some ⟨bb, off, none⟩) cap)) W) (hb : Below W.heap.size W W') => fresh_more hW hb)
   have HW := Lib.hid (fun (W : World) (hW : Below (w.heap.size + 1) (w.alloc (boxN [105, 109, 112] s n p ks.length (some ⟨bb, off, none⟩) cap)) W) => fresh_w hW)
   go_enter Tryd.func11, Tryd.ntmps11
   go_upto_region 11 with fail
   generalize w.alloc _ = Z at *
   go_region_held3 (fun W : World => Below (w.heap.size + 1) Z W ∧ (W.cell? ⟨w.heap.size, 0, none⟩ = some (.string ⟨#[105, 109, 112]⟩) ∧ W.cell? ⟨w.heap.size, 1, none⟩ = some (.string ⟨s.toArray⟩) ∧ W.cell? ⟨w.heap.size, 2, none⟩ = some (.int .i64 n) ∧ W.cell? ⟨w.heap.size, 3, none⟩ = some (.int .i64 p) ∧ W.cell? ⟨w.heap.size, 4, none⟩ = some (.slice (some ⟨bb, off, none⟩) ks.length cap)) ∧ (W.cell? ⟨bb, off, none⟩ = some (.string ⟨o1.toArray⟩) ∧ W.cell? ⟨bb, off + 1, none⟩ = some (.string ⟨s1.toArray⟩) ∧ W.cell? ⟨bb, off + 2, none⟩ = some (.int .i64 n1) ∧ W.cell? ⟨bb, off + 3, none⟩ = some (.int .i64 p1) ∧ W.cell? ⟨bb, off + 4, none⟩ = some (.slice A1 ks1.length cap1)) ∧ (W.cell? ⟨bb, off + 5, none⟩ = some (.string ⟨o2.toArray⟩) ∧ W.cell? ⟨bb, off + 5 + 1, none⟩ = some (.string ⟨s2.toArray⟩) ∧ W.cell? ⟨bb, off + 5 + 2, none⟩ = some (.int .i64 n2) ∧ W.cell? ⟨bb, off + 5 + 3, none⟩ = some (.int .i64 p2) ∧ W.cell? ⟨bb, off + 5 + 4, none⟩ = some (.slice A2 ks2.length cap2))) (first | assumption | exact HSS.out _ hB4 | exact HSS.out _ HB0.out.drew | exact HSS.out _ HB0.out) (first
    | (go_at_call 27
       have hq : Below (w.heap.size + 1) Z _ := (show Below (w.heap.size + 1) Z _ ∧ _ by assumption).1
       refine (HJ.out _).mono ?_
       rintro e w4 ⟨rfl, hb⟩
       have hB4 := HG.out _ _ hq hb
       clear hb)
    | (go_at_call_of 11 (Value.agg #[Value.string ⟨o1.toArray⟩, Value.string ⟨s1.toArray⟩, Value.int .i64 n1, Value.int .i64 p1, Value.slice A1 ks1.length cap1])
       have hq : Below (w.heap.size + 1) Z _ := (show Below (w.heap.size + 1) Z _ ∧ _ by assumption).1
       refine (HI.out _ (HKD.out.later (HW.out _ hq) (HW.out _ hq).size)).mono ?_
       rintro e w4 ⟨rfl, hb⟩
       have hB4 := HG.out _ _ hq hb
       clear hb)
    | (go_at_call_of 11 (Value.agg #[Value.string ⟨o2.toArray⟩, Value.string ⟨s2.toArray⟩, Value.int .i64 n2, Value.int .i64 p2, Value.slice A2 ks2.length cap2])
       have hq : Below (w.heap.size + 1) Z _ := (show Below (w.heap.size + 1) Z _ ∧ _ by assumption).1
       refine (HI2.out _ (HKD2.out.later (HW.out _ hq) (HW.out _ hq).size)).mono ?_
       rintro e w4 ⟨rfl, hb⟩
       have hB4 := HG.out _ _ hq hb
       clear hb))
   all_goals
    have hh := (show Below (w.heap.size + 1) Z _ ∧ _ by assumption).1
    go_wp2_with fail
    go_ret
    exact ⟨congrArg (fun x : ByteArray => Ending.returned (.string x)) HE.out, HW.out _ hh⟩
set_option maxHeartbeats 4000000 in
theorem sform_iff (s : List UInt8) (n p : Int) (ks : List Node) (A : Option Addr) (cap : Nat) (w : World) (h : NodeAt w w.heap.size (.node [105, 102, 102] s n p ks) A cap) (hB : formB (.node [105, 102, 102] s n p ks) = true) (hN : nodes (.node [105, 102, 102] s n p ks) ≤ 2000) (ih : ∀ k ∈ ks, SFormLaw k) :
  Calls Tryd.prog 11 #[nodeW [105, 102, 102] s n p ks.length A cap] w fun e w' => e = .returned (.string ⟨(formS (.node [105, 102, 102] s n p ks)).toArray⟩) ∧ Below w.heap.size w w' := by
 have HC := Lib.hid h
 have HR := formS_len _ hB
 rw [nodes_node] at hN HR
 have hl := h.len
 obtain ⟨hl1, hl2, _⟩ := hl
 clear h
 have HB0 := Lib.hid (Below.refl (w.heap.size + 1) (w.alloc (boxN [105, 102, 102] s n p ks.length A cap)))
 simp only [nodeW]
 replace hB : formB (.node nIff s n p ks) = true := hB
 rw [formB, if_neg (by decide), if_neg (by decide), if_pos (by decide)] at hB
 simp only [Bool.and_eq_true] at hB
 have hk := (hasB_name hB.1).2.1
 have hb2 := hB.2
 clear hB
 have HF := Lib.hid (show [40] ++ joined ((formSL ks).getD 0 []) nIff ((formSL ks).getD 1 []) ++ [41] = formS (.node [105, 102, 102] s n p ks) by show _ = formS (.node nIff s n p ks); rw [formS, if_neg (by decide), if_neg (by decide), if_pos (by decide)])
 rw [← HF.out] at HR
 generalize formS (.node [105, 102, 102] s n p ks) = V at *
 obtain ⟨y, z, hx⟩ := two_of hk
 have hl0 : 0 < ks.length := by omega
 have hl1' : 1 < ks.length := by omega
 have hi1 : (1 : Int) < (ks.length : Int) := by omega
 obtain ⟨bb, off, A1, cap1, rfl, hlo, hcells, hkid⟩ := HC.out.kid 0 hl0
 obtain ⟨bb2, off2, A2, cap2, he, hlo2, hcells2, hkid2⟩ := HC.out.kid 1 hl1'
 have e1 := congrArg Addr.block (Option.some.inj he)
 have e2 := congrArg Addr.off (Option.some.inj he)
 simp only at e1 e2
 subst e1
 subst e2
 clear he
 have hIH := ih (ks[0]'hl0) (List.getElem_mem hl0) A1 cap1
 have hIH2 := ih (ks[1]'hl1') (List.getElem_mem hl1') A2 cap2
 have hT0 : formB (ks[0]'hl0) = true := by rw [formsB_all, List.all_eq_true] at hb2; exact hb2 _ (List.getElem_mem hl0)
 have hT1 : formB (ks[1]'hl1') = true := by rw [formsB_all, List.all_eq_true] at hb2; exact hb2 _ (List.getElem_mem hl1')
 have hN0 : nodes (ks[0]'hl0) ≤ 2000 := Nat.le_trans (nodes_kid ks _ (List.getElem_mem hl0)) (by omega)
 have hN1 : nodes (ks[1]'hl1') ≤ 2000 := Nat.le_trans (nodes_kid ks _ (List.getElem_mem hl1')) (by omega)
 have hG : (formSL ks).getD 0 [] = formS (ks[0]'hl0) := by subst hx; simp [formSL]
 have hG2 : (formSL ks).getD 1 [] = formS (ks[1]'hl1') := by subst hx; simp [formSL]
 rw [hG, hG2] at HF HR
 simp only [Nat.zero_mul, Nat.add_zero, Nat.one_mul] at hcells hkid hcells2 hkid2
 clear hG hG2 hb2 ih hx hk
 generalize ks[0]'hl0 = x at *
 generalize ks[1]'hl1' = x2 at *
 have HI := Lib.hid (fun (W : World) (hh : NodeAt W W.heap.size x A1 cap1) => hIH W hh hT0 hN0)
 have HI2 := Lib.hid (fun (W : World) (hh : NodeAt W W.heap.size x2 A2 cap2) => hIH2 W hh hT1 hN1)
 clear hIH hIH2 hT0 hT1 hN0 hN1
 generalize formS x = X at *
 generalize formS x2 = Y at *
 try simp only [List.length_append, List.length_cons, List.length_nil] at HR
 have HJ := Lib.hid (fun (W : World) => joined_any X [105, 102, 102] Y (Or.inr (Or.inl (by decide))) (show (joined X nIff Y).length ≤ 90000000 by omega) W)
 change Hid (∀ W : World, Calls Tryd.prog 27 #[.string ⟨X.toArray⟩, .string ⟨#[105, 102, 102]⟩, .string ⟨Y.toArray⟩] W fun e w' => e = .returned (.string ⟨(joined X nIff Y).toArray⟩) ∧ Below W.heap.size W w') at HJ
 generalize joined X nIff Y = J at *
 obtain ⟨T1, hadd1, hT1⟩ := add_ex ⟨#[40]⟩ ⟨J.toArray⟩ (X := [40]) (Y := J) rfl rfl (by simp only [List.length_cons, List.length_nil]; omega)
 obtain ⟨T2, hadd2, hT2⟩ := add_ex T1 ⟨#[41]⟩ (Y := [41]) hT1 rfl (by simp only [List.length_append, List.length_cons, List.length_nil]; omega)
 have HE := Lib.hid (show T2 = ⟨V.toArray⟩ from bytes_of (hT2.trans (by rw [← HF.out]; try simp only [List.append_assoc])))
 clear hT1 hT2
 cases x with
 | node o1 s1 n1 p1 ks1 =>
 cases x2 with
 | node o2 s2 n2 p2 ks2 =>
   have HKC := Lib.hid (fun (W : World) (hW : Below w.heap.size w W) => kid_cells hlo hcells hW)
   have HKC2 := Lib.hid (fun (W : World) (hW : Below w.heap.size w W) => kid_cells hlo2 hcells2 hW)
   have HKD := Lib.hid hkid
   have HKD2 := Lib.hid hkid2
   clear hcells hkid hcells2 hkid2
   simp only [nodeT, nodeW, Node.op, Node.name, Node.num, Node.pos, Node.kids] at HI HI2
   have HSS := Lib.hid (fun (W : World) (hW : Below (w.heap.size + 1) (w.alloc (boxN [105, 102, 102] s n p ks.length (some ⟨bb, off, none⟩) cap)) W) => (⟨hW, box5 hW, HKC.out W (fresh_w hW), HKC2.out W (fresh_w hW)⟩ : (fun W : World => Below (w.heap.size + 1) (w.alloc (boxN [105, 102, 102] s n p ks.length (some ⟨bb, off, none⟩) cap)) W ∧ (W.cell? ⟨w.heap.size, 0, none⟩ = some (.string ⟨#[105, 102, 102]⟩) ∧ W.cell? ⟨w.heap.size, 1, none⟩ = some (.string ⟨s.toArray⟩) ∧ W.cell? ⟨w.heap.size, 2, none⟩ = some (.int .i64 n) ∧ W.cell? ⟨w.heap.size, 3, none⟩ = some (.int .i64 p) ∧ W.cell? ⟨w.heap.size, 4, none⟩ = some (.slice (some ⟨bb, off, none⟩) ks.length cap)) ∧ (W.cell? ⟨bb, off, none⟩ = some (.string ⟨o1.toArray⟩) ∧ W.cell? ⟨bb, off + 1, none⟩ = some (.string ⟨s1.toArray⟩) ∧ W.cell? ⟨bb, off + 2, none⟩ = some (.int .i64 n1) ∧ W.cell? ⟨bb, off + 3, none⟩ = some (.int .i64 p1) ∧ W.cell? ⟨bb, off + 4, none⟩ = some (.slice A1 ks1.length cap1)) ∧ (W.cell? ⟨bb, off + 5, none⟩ = some (.string ⟨o2.toArray⟩) ∧ W.cell? ⟨bb, off + 5 + 1, none⟩ = some (.string ⟨s2.toArray⟩) ∧ W.cell? ⟨bb, off + 5 + 2, none⟩ = some (.int .i64 n2) ∧ W.cell? ⟨bb, off + 5 + 3, none⟩ = some (.int .i64 p2) ∧ W.cell? ⟨bb, off + 5 + 4, none⟩ = some (.slice A2 ks2.length cap2))) W))
   have HG := Lib.hid (fun (W W' : World) (hW : Below (w.heap.size + 1) (w.alloc (boxN [105, 102, 102] s n p ks.length (some ⟨bb, off, none⟩) cap)) W) (hb : Below W.heap.size W W') => fresh_more hW hb)
   have HW := Lib.hid (fun (W : World) (hW : Below (w.heap.size + 1) (w.alloc (boxN [105, 102, 102] s n p ks.length (some ⟨bb, off, none⟩) cap)) W) => fresh_w hW)
   go_enter Tryd.func11, Tryd.ntmps11
   go_upto_region 11 with fail
   generalize w.alloc _ = Z at *
   go_region_held3 (fun W : World => Below (w.heap.size + 1) Z W ∧ (W.cell? ⟨w.heap.size, 0, none⟩ = some (.string ⟨#[105, 102, 102]⟩) ∧ W.cell? ⟨w.heap.size, 1, none⟩ = some (.string ⟨s.toArray⟩) ∧ W.cell? ⟨w.heap.size, 2, none⟩ = some (.int .i64 n) ∧ W.cell? ⟨w.heap.size, 3, none⟩ = some (.int .i64 p) ∧ W.cell? ⟨w.heap.size, 4, none⟩ = some (.slice (some ⟨bb, off, none⟩) ks.length cap)) ∧ (W.cell? ⟨bb, off, none⟩ = some (.string ⟨o1.toArray⟩) ∧ W.cell? ⟨bb, off + 1, none⟩ = some (.string ⟨s1.toArray⟩) ∧ W.cell? ⟨bb, off + 2, none⟩ = some (.int .i64 n1) ∧ W.cell? ⟨bb, off + 3, none⟩ = some (.int .i64 p1) ∧ W.cell? ⟨bb, off + 4, none⟩ = some (.slice A1 ks1.length cap1)) ∧ (W.cell? ⟨bb, off + 5, none⟩ = some (.string ⟨o2.toArray⟩) ∧ W.cell? ⟨bb, off + 5 + 1, none⟩ = some (.string ⟨s2.toArray⟩) ∧ W.cell? ⟨bb, off + 5 + 2, none⟩ = some (.int .i64 n2) ∧ W.cell? ⟨bb, off + 5 + 3, none⟩ = some (.int .i64 p2) ∧ W.cell? ⟨bb, off + 5 + 4, none⟩ = some (.slice A2 ks2.length cap2))) (first | assumption | exact HSS.out _ hB4 | exact HSS.out _ HB0.out.drew | exact HSS.out _ HB0.out) (first
    | (go_at_call 27
       have hq : Below (w.heap.size + 1) Z _ := (show Below (w.heap.size + 1) Z _ ∧ _ by assumption).1
       refine (HJ.out _).mono ?_
       rintro e w4 ⟨rfl, hb⟩
       have hB4 := HG.out _ _ hq hb
       clear hb)
    | (go_at_call_of 11 (Value.agg #[Value.string ⟨o1.toArray⟩, Value.string ⟨s1.toArray⟩, Value.int .i64 n1, Value.int .i64 p1, Value.slice A1 ks1.length cap1])
       have hq : Below (w.heap.size + 1) Z _ := (show Below (w.heap.size + 1) Z _ ∧ _ by assumption).1
       refine (HI.out _ (HKD.out.later (HW.out _ hq) (HW.out _ hq).size)).mono ?_
       rintro e w4 ⟨rfl, hb⟩
       have hB4 := HG.out _ _ hq hb
       clear hb)
    | (go_at_call_of 11 (Value.agg #[Value.string ⟨o2.toArray⟩, Value.string ⟨s2.toArray⟩, Value.int .i64 n2, Value.int .i64 p2, Value.slice A2 ks2.length cap2])
       have hq : Below (w.heap.size + 1) Z _ := (show Below (w.heap.size + 1) Z _ ∧ _ by assumption).1
       refine (HI2.out _ (HKD2.out.later (HW.out _ hq) (HW.out _ hq).size)).mono ?_
       rintro e w4 ⟨rfl, hb⟩
       have hB4 := HG.out _ _ hq hb
       clear hb))
   all_goals
    have hh := (show Below (w.heap.size + 1) Z _ ∧ _ by assumption).1
    go_wp2_with fail
    go_ret
    exact ⟨congrArg (fun x : ByteArray => Ending.returned (.string x)) HE.out, HW.out _ hh⟩
set_option maxHeartbeats 4000000 in
theorem sform_eq (s : List UInt8) (n p : Int) (ks : List Node) (A : Option Addr) (cap : Nat) (w : World) (h : NodeAt w w.heap.size (.node [101, 113] s n p ks) A cap) (hB : formB (.node [101, 113] s n p ks) = true) (hN : nodes (.node [101, 113] s n p ks) ≤ 2000) (ih : ∀ k ∈ ks, SFormLaw k) :
  Calls Tryd.prog 11 #[nodeW [101, 113] s n p ks.length A cap] w fun e w' => e = .returned (.string ⟨(formS (.node [101, 113] s n p ks)).toArray⟩) ∧ Below w.heap.size w w' := by
 have HC := Lib.hid h
 have HR := formS_len _ hB
 rw [nodes_node] at hN HR
 have hl := h.len
 obtain ⟨hl1, hl2, _⟩ := hl
 clear h
 have HB0 := Lib.hid (Below.refl (w.heap.size + 1) (w.alloc (boxN [101, 113] s n p ks.length A cap)))
 simp only [nodeW]
 replace hB : formB (.node nEq s n p ks) = true := hB
 rw [formB, if_neg (by decide), if_neg (by decide), if_neg (by decide), if_neg (by decide), if_neg (by decide), if_pos (by decide)] at hB
 simp only [Bool.and_eq_true] at hB
 have hk := (hasB_name hB.1).2.1
 have hb2 := hB.2
 clear hB
 have HF := Lib.hid (show joined ((termSL ks).getD 0 []) nEq ((termSL ks).getD 1 []) = formS (.node [101, 113] s n p ks) by show _ = formS (.node nEq s n p ks); rw [formS, if_neg (by decide), if_neg (by decide), if_neg (by decide), if_neg (by decide), if_neg (by decide), if_neg (by decide)])
 rw [← HF.out] at HR
 generalize formS (.node [101, 113] s n p ks) = V at *
 obtain ⟨y, z, hx⟩ := two_of hk
 have hl0 : 0 < ks.length := by omega
 have hl1' : 1 < ks.length := by omega
 have hi1 : (1 : Int) < (ks.length : Int) := by omega
 obtain ⟨bb, off, A1, cap1, rfl, hlo, hcells, hkid⟩ := HC.out.kid 0 hl0
 obtain ⟨bb2, off2, A2, cap2, he, hlo2, hcells2, hkid2⟩ := HC.out.kid 1 hl1'
 have e1 := congrArg Addr.block (Option.some.inj he)
 have e2 := congrArg Addr.off (Option.some.inj he)
 simp only at e1 e2
 subst e1
 subst e2
 clear he
 have hIH := sterm_any (ks[0]'hl0) A1 cap1
 have hIH2 := sterm_any (ks[1]'hl1') A2 cap2
 have hT0 : termB (ks[0]'hl0) = true := by rw [termsB_all, List.all_eq_true] at hb2; exact hb2 _ (List.getElem_mem hl0)
 have hT1 : termB (ks[1]'hl1') = true := by rw [termsB_all, List.all_eq_true] at hb2; exact hb2 _ (List.getElem_mem hl1')
 have hN0 : nodes (ks[0]'hl0) ≤ 2000 := Nat.le_trans (nodes_kid ks _ (List.getElem_mem hl0)) (by omega)
 have hN1 : nodes (ks[1]'hl1') ≤ 2000 := Nat.le_trans (nodes_kid ks _ (List.getElem_mem hl1')) (by omega)
 have hG : (termSL ks).getD 0 [] = termS (ks[0]'hl0) := by subst hx; simp [termSL]
 have hG2 : (termSL ks).getD 1 [] = termS (ks[1]'hl1') := by subst hx; simp [termSL]
 rw [hG, hG2] at HF HR
 simp only [Nat.zero_mul, Nat.add_zero, Nat.one_mul] at hcells hkid hcells2 hkid2
 clear hG hG2 hb2 ih hx hk
 generalize ks[0]'hl0 = x at *
 generalize ks[1]'hl1' = x2 at *
 have HI := Lib.hid (fun (W : World) (hh : NodeAt W W.heap.size x A1 cap1) => hIH W hh hT0 hN0)
 have HI2 := Lib.hid (fun (W : World) (hh : NodeAt W W.heap.size x2 A2 cap2) => hIH2 W hh hT1 hN1)
 clear hIH hIH2 hT0 hT1 hN0 hN1
 generalize termS x = X at *
 generalize termS x2 = Y at *
 try simp only [List.length_append, List.length_cons, List.length_nil] at HR
 have HJ := Lib.hid (fun (W : World) => joined_any X [101, 113] Y (Or.inr (Or.inr (by decide))) (show (joined X nEq Y).length ≤ 90000000 by omega) W)
 change Hid (∀ W : World, Calls Tryd.prog 27 #[.string ⟨X.toArray⟩, .string ⟨#[101, 113]⟩, .string ⟨Y.toArray⟩] W fun e w' => e = .returned (.string ⟨(joined X nEq Y).toArray⟩) ∧ Below W.heap.size W w') at HJ
 generalize joined X nEq Y = J at *
 have HE := Lib.hid (show (⟨J.toArray⟩ : ByteArray) = ⟨V.toArray⟩ by rw [HF.out])
 cases x with
 | node o1 s1 n1 p1 ks1 =>
 cases x2 with
 | node o2 s2 n2 p2 ks2 =>
   have HKC := Lib.hid (fun (W : World) (hW : Below w.heap.size w W) => kid_cells hlo hcells hW)
   have HKC2 := Lib.hid (fun (W : World) (hW : Below w.heap.size w W) => kid_cells hlo2 hcells2 hW)
   have HKD := Lib.hid hkid
   have HKD2 := Lib.hid hkid2
   clear hcells hkid hcells2 hkid2
   simp only [nodeT, nodeW, Node.op, Node.name, Node.num, Node.pos, Node.kids] at HI HI2
   have HSS := Lib.hid (fun (W : World) (hW : Below (w.heap.size + 1) (w.alloc (boxN [101, 113] s n p ks.length (some ⟨bb, off, none⟩) cap)) W) => (⟨hW, box5 hW, HKC.out W (fresh_w hW), HKC2.out W (fresh_w hW)⟩ : (fun W : World => Below (w.heap.size + 1) (w.alloc (boxN [101, 113] s n p ks.length (some ⟨bb, off, none⟩) cap)) W ∧ (W.cell? ⟨w.heap.size, 0, none⟩ = some (.string ⟨#[101, 113]⟩) ∧ W.cell? ⟨w.heap.size, 1, none⟩ = some (.string ⟨s.toArray⟩) ∧ W.cell? ⟨w.heap.size, 2, none⟩ = some (.int .i64 n) ∧ W.cell? ⟨w.heap.size, 3, none⟩ = some (.int .i64 p) ∧ W.cell? ⟨w.heap.size, 4, none⟩ = some (.slice (some ⟨bb, off, none⟩) ks.length cap)) ∧ (W.cell? ⟨bb, off, none⟩ = some (.string ⟨o1.toArray⟩) ∧ W.cell? ⟨bb, off + 1, none⟩ = some (.string ⟨s1.toArray⟩) ∧ W.cell? ⟨bb, off + 2, none⟩ = some (.int .i64 n1) ∧ W.cell? ⟨bb, off + 3, none⟩ = some (.int .i64 p1) ∧ W.cell? ⟨bb, off + 4, none⟩ = some (.slice A1 ks1.length cap1)) ∧ (W.cell? ⟨bb, off + 5, none⟩ = some (.string ⟨o2.toArray⟩) ∧ W.cell? ⟨bb, off + 5 + 1, none⟩ = some (.string ⟨s2.toArray⟩) ∧ W.cell? ⟨bb, off + 5 + 2, none⟩ = some (.int .i64 n2) ∧ W.cell? ⟨bb, off + 5 + 3, none⟩ = some (.int .i64 p2) ∧ W.cell? ⟨bb, off + 5 + 4, none⟩ = some (.slice A2 ks2.length cap2))) W))
   have HG := Lib.hid (fun (W W' : World) (hW : Below (w.heap.size + 1) (w.alloc (boxN [101, 113] s n p ks.length (some ⟨bb, off, none⟩) cap)) W) (hb : Below W.heap.size W W') => fresh_more hW hb)
   have HW := Lib.hid (fun (W : World) (hW : Below (w.heap.size + 1) (w.alloc (boxN [101, 113] s n p ks.length (some ⟨bb, off, none⟩) cap)) W) => fresh_w hW)
   go_enter Tryd.func11, Tryd.ntmps11
   go_upto_region 19 with fail
   generalize w.alloc _ = Z at *
   go_region_held3 (fun W : World => Below (w.heap.size + 1) Z W ∧ (W.cell? ⟨w.heap.size, 0, none⟩ = some (.string ⟨#[101, 113]⟩) ∧ W.cell? ⟨w.heap.size, 1, none⟩ = some (.string ⟨s.toArray⟩) ∧ W.cell? ⟨w.heap.size, 2, none⟩ = some (.int .i64 n) ∧ W.cell? ⟨w.heap.size, 3, none⟩ = some (.int .i64 p) ∧ W.cell? ⟨w.heap.size, 4, none⟩ = some (.slice (some ⟨bb, off, none⟩) ks.length cap)) ∧ (W.cell? ⟨bb, off, none⟩ = some (.string ⟨o1.toArray⟩) ∧ W.cell? ⟨bb, off + 1, none⟩ = some (.string ⟨s1.toArray⟩) ∧ W.cell? ⟨bb, off + 2, none⟩ = some (.int .i64 n1) ∧ W.cell? ⟨bb, off + 3, none⟩ = some (.int .i64 p1) ∧ W.cell? ⟨bb, off + 4, none⟩ = some (.slice A1 ks1.length cap1)) ∧ (W.cell? ⟨bb, off + 5, none⟩ = some (.string ⟨o2.toArray⟩) ∧ W.cell? ⟨bb, off + 5 + 1, none⟩ = some (.string ⟨s2.toArray⟩) ∧ W.cell? ⟨bb, off + 5 + 2, none⟩ = some (.int .i64 n2) ∧ W.cell? ⟨bb, off + 5 + 3, none⟩ = some (.int .i64 p2) ∧ W.cell? ⟨bb, off + 5 + 4, none⟩ = some (.slice A2 ks2.length cap2))) (first | assumption | exact HSS.out _ hB4 | exact HSS.out _ HB0.out.drew | exact HSS.out _ HB0.out) (first
    | (go_at_call 27
       have hq : Below (w.heap.size + 1) Z _ := (show Below (w.heap.size + 1) Z _ ∧ _ by assumption).1
       refine (HJ.out _).mono ?_
       rintro e w4 ⟨rfl, hb⟩
       have hB4 := HG.out _ _ hq hb
       clear hb)
    | (go_at_call_of 13 (Value.agg #[Value.string ⟨o1.toArray⟩, Value.string ⟨s1.toArray⟩, Value.int .i64 n1, Value.int .i64 p1, Value.slice A1 ks1.length cap1])
       have hq : Below (w.heap.size + 1) Z _ := (show Below (w.heap.size + 1) Z _ ∧ _ by assumption).1
       refine (HI.out _ (HKD.out.later (HW.out _ hq) (HW.out _ hq).size)).mono ?_
       rintro e w4 ⟨rfl, hb⟩
       have hB4 := HG.out _ _ hq hb
       clear hb)
    | (go_at_call_of 13 (Value.agg #[Value.string ⟨o2.toArray⟩, Value.string ⟨s2.toArray⟩, Value.int .i64 n2, Value.int .i64 p2, Value.slice A2 ks2.length cap2])
       have hq : Below (w.heap.size + 1) Z _ := (show Below (w.heap.size + 1) Z _ ∧ _ by assumption).1
       refine (HI2.out _ (HKD2.out.later (HW.out _ hq) (HW.out _ hq).size)).mono ?_
       rintro e w4 ⟨rfl, hb⟩
       have hB4 := HG.out _ _ hq hb
       clear hb))
   all_goals
    have hh := (show Below (w.heap.size + 1) Z _ ∧ _ by assumption).1
    go_wp2_with fail
    go_ret
    exact ⟨congrArg (fun x : ByteArray => Ending.returned (.string x)) HE.out, HW.out _ hh⟩
set_option maxHeartbeats 4000000 in
theorem sform_ne (s : List UInt8) (n p : Int) (ks : List Node) (A : Option Addr) (cap : Nat) (w : World) (h : NodeAt w w.heap.size (.node [110, 101] s n p ks) A cap) (hB : formB (.node [110, 101] s n p ks) = true) (hN : nodes (.node [110, 101] s n p ks) ≤ 2000) (ih : ∀ k ∈ ks, SFormLaw k) :
  Calls Tryd.prog 11 #[nodeW [110, 101] s n p ks.length A cap] w fun e w' => e = .returned (.string ⟨(formS (.node [110, 101] s n p ks)).toArray⟩) ∧ Below w.heap.size w w' := by
 have HC := Lib.hid h
 have HR := formS_len _ hB
 rw [nodes_node] at hN HR
 have hl := h.len
 obtain ⟨hl1, hl2, _⟩ := hl
 clear h
 have HB0 := Lib.hid (Below.refl (w.heap.size + 1) (w.alloc (boxN [110, 101] s n p ks.length A cap)))
 simp only [nodeW]
 replace hB : formB (.node nNe s n p ks) = true := hB
 rw [formB, if_neg (by decide), if_neg (by decide), if_neg (by decide), if_neg (by decide), if_neg (by decide), if_pos (by decide)] at hB
 simp only [Bool.and_eq_true] at hB
 have hk := (hasB_name hB.1).2.1
 have hb2 := hB.2
 clear hB
 have HF := Lib.hid (show joined ((termSL ks).getD 0 []) nNe ((termSL ks).getD 1 []) = formS (.node [110, 101] s n p ks) by show _ = formS (.node nNe s n p ks); rw [formS, if_neg (by decide), if_neg (by decide), if_neg (by decide), if_neg (by decide), if_neg (by decide), if_neg (by decide)])
 rw [← HF.out] at HR
 generalize formS (.node [110, 101] s n p ks) = V at *
 obtain ⟨y, z, hx⟩ := two_of hk
 have hl0 : 0 < ks.length := by omega
 have hl1' : 1 < ks.length := by omega
 have hi1 : (1 : Int) < (ks.length : Int) := by omega
 obtain ⟨bb, off, A1, cap1, rfl, hlo, hcells, hkid⟩ := HC.out.kid 0 hl0
 obtain ⟨bb2, off2, A2, cap2, he, hlo2, hcells2, hkid2⟩ := HC.out.kid 1 hl1'
 have e1 := congrArg Addr.block (Option.some.inj he)
 have e2 := congrArg Addr.off (Option.some.inj he)
 simp only at e1 e2
 subst e1
 subst e2
 clear he
 have hIH := sterm_any (ks[0]'hl0) A1 cap1
 have hIH2 := sterm_any (ks[1]'hl1') A2 cap2
 have hT0 : termB (ks[0]'hl0) = true := by rw [termsB_all, List.all_eq_true] at hb2; exact hb2 _ (List.getElem_mem hl0)
 have hT1 : termB (ks[1]'hl1') = true := by rw [termsB_all, List.all_eq_true] at hb2; exact hb2 _ (List.getElem_mem hl1')
 have hN0 : nodes (ks[0]'hl0) ≤ 2000 := Nat.le_trans (nodes_kid ks _ (List.getElem_mem hl0)) (by omega)
 have hN1 : nodes (ks[1]'hl1') ≤ 2000 := Nat.le_trans (nodes_kid ks _ (List.getElem_mem hl1')) (by omega)
 have hG : (termSL ks).getD 0 [] = termS (ks[0]'hl0) := by subst hx; simp [termSL]
 have hG2 : (termSL ks).getD 1 [] = termS (ks[1]'hl1') := by subst hx; simp [termSL]
 rw [hG, hG2] at HF HR
 simp only [Nat.zero_mul, Nat.add_zero, Nat.one_mul] at hcells hkid hcells2 hkid2
 clear hG hG2 hb2 ih hx hk
 generalize ks[0]'hl0 = x at *
 generalize ks[1]'hl1' = x2 at *
 have HI := Lib.hid (fun (W : World) (hh : NodeAt W W.heap.size x A1 cap1) => hIH W hh hT0 hN0)
 have HI2 := Lib.hid (fun (W : World) (hh : NodeAt W W.heap.size x2 A2 cap2) => hIH2 W hh hT1 hN1)
 clear hIH hIH2 hT0 hT1 hN0 hN1
 generalize termS x = X at *
 generalize termS x2 = Y at *
 try simp only [List.length_append, List.length_cons, List.length_nil] at HR
 have HJ := Lib.hid (fun (W : World) => joined_any X [110, 101] Y (Or.inr (Or.inr (by decide))) (show (joined X nNe Y).length ≤ 90000000 by omega) W)
 change Hid (∀ W : World, Calls Tryd.prog 27 #[.string ⟨X.toArray⟩, .string ⟨#[110, 101]⟩, .string ⟨Y.toArray⟩] W fun e w' => e = .returned (.string ⟨(joined X nNe Y).toArray⟩) ∧ Below W.heap.size W w') at HJ
 generalize joined X nNe Y = J at *
 have HE := Lib.hid (show (⟨J.toArray⟩ : ByteArray) = ⟨V.toArray⟩ by rw [HF.out])
 cases x with
 | node o1 s1 n1 p1 ks1 =>
 cases x2 with
 | node o2 s2 n2 p2 ks2 =>
   have HKC := Lib.hid (fun (W : World) (hW : Below w.heap.size w W) => kid_cells hlo hcells hW)
   have HKC2 := Lib.hid (fun (W : World) (hW : Below w.heap.size w W) => kid_cells hlo2 hcells2 hW)
   have HKD := Lib.hid hkid
   have HKD2 := Lib.hid hkid2
   clear hcells hkid hcells2 hkid2
   simp only [nodeT, nodeW, Node.op, Node.name, Node.num, Node.pos, Node.kids] at HI HI2
   have HSS := Lib.hid (fun (W : World) (hW : Below (w.heap.size + 1) (w.alloc (boxN [110, 101] s n p ks.length (some ⟨bb, off, none⟩) cap)) W) => (⟨hW, box5 hW, HKC.out W (fresh_w hW), HKC2.out W (fresh_w hW)⟩ : (fun W : World => Below (w.heap.size + 1) (w.alloc (boxN [110, 101] s n p ks.length (some ⟨bb, off, none⟩) cap)) W ∧ (W.cell? ⟨w.heap.size, 0, none⟩ = some (.string ⟨#[110, 101]⟩) ∧ W.cell? ⟨w.heap.size, 1, none⟩ = some (.string ⟨s.toArray⟩) ∧ W.cell? ⟨w.heap.size, 2, none⟩ = some (.int .i64 n) ∧ W.cell? ⟨w.heap.size, 3, none⟩ = some (.int .i64 p) ∧ W.cell? ⟨w.heap.size, 4, none⟩ = some (.slice (some ⟨bb, off, none⟩) ks.length cap)) ∧ (W.cell? ⟨bb, off, none⟩ = some (.string ⟨o1.toArray⟩) ∧ W.cell? ⟨bb, off + 1, none⟩ = some (.string ⟨s1.toArray⟩) ∧ W.cell? ⟨bb, off + 2, none⟩ = some (.int .i64 n1) ∧ W.cell? ⟨bb, off + 3, none⟩ = some (.int .i64 p1) ∧ W.cell? ⟨bb, off + 4, none⟩ = some (.slice A1 ks1.length cap1)) ∧ (W.cell? ⟨bb, off + 5, none⟩ = some (.string ⟨o2.toArray⟩) ∧ W.cell? ⟨bb, off + 5 + 1, none⟩ = some (.string ⟨s2.toArray⟩) ∧ W.cell? ⟨bb, off + 5 + 2, none⟩ = some (.int .i64 n2) ∧ W.cell? ⟨bb, off + 5 + 3, none⟩ = some (.int .i64 p2) ∧ W.cell? ⟨bb, off + 5 + 4, none⟩ = some (.slice A2 ks2.length cap2))) W))
   have HG := Lib.hid (fun (W W' : World) (hW : Below (w.heap.size + 1) (w.alloc (boxN [110, 101] s n p ks.length (some ⟨bb, off, none⟩) cap)) W) (hb : Below W.heap.size W W') => fresh_more hW hb)
   have HW := Lib.hid (fun (W : World) (hW : Below (w.heap.size + 1) (w.alloc (boxN [110, 101] s n p ks.length (some ⟨bb, off, none⟩) cap)) W) => fresh_w hW)
   go_enter Tryd.func11, Tryd.ntmps11
   go_upto_region 19 with fail
   generalize w.alloc _ = Z at *
   go_region_held3 (fun W : World => Below (w.heap.size + 1) Z W ∧ (W.cell? ⟨w.heap.size, 0, none⟩ = some (.string ⟨#[110, 101]⟩) ∧ W.cell? ⟨w.heap.size, 1, none⟩ = some (.string ⟨s.toArray⟩) ∧ W.cell? ⟨w.heap.size, 2, none⟩ = some (.int .i64 n) ∧ W.cell? ⟨w.heap.size, 3, none⟩ = some (.int .i64 p) ∧ W.cell? ⟨w.heap.size, 4, none⟩ = some (.slice (some ⟨bb, off, none⟩) ks.length cap)) ∧ (W.cell? ⟨bb, off, none⟩ = some (.string ⟨o1.toArray⟩) ∧ W.cell? ⟨bb, off + 1, none⟩ = some (.string ⟨s1.toArray⟩) ∧ W.cell? ⟨bb, off + 2, none⟩ = some (.int .i64 n1) ∧ W.cell? ⟨bb, off + 3, none⟩ = some (.int .i64 p1) ∧ W.cell? ⟨bb, off + 4, none⟩ = some (.slice A1 ks1.length cap1)) ∧ (W.cell? ⟨bb, off + 5, none⟩ = some (.string ⟨o2.toArray⟩) ∧ W.cell? ⟨bb, off + 5 + 1, none⟩ = some (.string ⟨s2.toArray⟩) ∧ W.cell? ⟨bb, off + 5 + 2, none⟩ = some (.int .i64 n2) ∧ W.cell? ⟨bb, off + 5 + 3, none⟩ = some (.int .i64 p2) ∧ W.cell? ⟨bb, off + 5 + 4, none⟩ = some (.slice A2 ks2.length cap2))) (first | assumption | exact HSS.out _ hB4 | exact HSS.out _ HB0.out.drew | exact HSS.out _ HB0.out) (first
    | (go_at_call 27
       have hq : Below (w.heap.size + 1) Z _ := (show Below (w.heap.size + 1) Z _ ∧ _ by assumption).1
       refine (HJ.out _).mono ?_
       rintro e w4 ⟨rfl, hb⟩
       have hB4 := HG.out _ _ hq hb
       clear hb)
    | (go_at_call_of 13 (Value.agg #[Value.string ⟨o1.toArray⟩, Value.string ⟨s1.toArray⟩, Value.int .i64 n1, Value.int .i64 p1, Value.slice A1 ks1.length cap1])
       have hq : Below (w.heap.size + 1) Z _ := (show Below (w.heap.size + 1) Z _ ∧ _ by assumption).1
       refine (HI.out _ (HKD.out.later (HW.out _ hq) (HW.out _ hq).size)).mono ?_
       rintro e w4 ⟨rfl, hb⟩
       have hB4 := HG.out _ _ hq hb
       clear hb)
    | (go_at_call_of 13 (Value.agg #[Value.string ⟨o2.toArray⟩, Value.string ⟨s2.toArray⟩, Value.int .i64 n2, Value.int .i64 p2, Value.slice A2 ks2.length cap2])
       have hq : Below (w.heap.size + 1) Z _ := (show Below (w.heap.size + 1) Z _ ∧ _ by assumption).1
       refine (HI2.out _ (HKD2.out.later (HW.out _ hq) (HW.out _ hq).size)).mono ?_
       rintro e w4 ⟨rfl, hb⟩
       have hB4 := HG.out _ _ hq hb
       clear hb))
   all_goals
    have hh := (show Below (w.heap.size + 1) Z _ ∧ _ by assumption).1
    go_wp2_with fail
    go_ret
    exact ⟨congrArg (fun x : ByteArray => Ending.returned (.string x)) HE.out, HW.out _ hh⟩
set_option maxHeartbeats 4000000 in
theorem sform_lt (s : List UInt8) (n p : Int) (ks : List Node) (A : Option Addr) (cap : Nat) (w : World) (h : NodeAt w w.heap.size (.node [108, 116] s n p ks) A cap) (hB : formB (.node [108, 116] s n p ks) = true) (hN : nodes (.node [108, 116] s n p ks) ≤ 2000) (ih : ∀ k ∈ ks, SFormLaw k) :
  Calls Tryd.prog 11 #[nodeW [108, 116] s n p ks.length A cap] w fun e w' => e = .returned (.string ⟨(formS (.node [108, 116] s n p ks)).toArray⟩) ∧ Below w.heap.size w w' := by
 have HC := Lib.hid h
 have HR := formS_len _ hB
 rw [nodes_node] at hN HR
 have hl := h.len
 obtain ⟨hl1, hl2, _⟩ := hl
 clear h
 have HB0 := Lib.hid (Below.refl (w.heap.size + 1) (w.alloc (boxN [108, 116] s n p ks.length A cap)))
 simp only [nodeW]
 replace hB : formB (.node nLt s n p ks) = true := hB
 rw [formB, if_neg (by decide), if_neg (by decide), if_neg (by decide), if_neg (by decide), if_neg (by decide), if_pos (by decide)] at hB
 simp only [Bool.and_eq_true] at hB
 have hk := (hasB_name hB.1).2.1
 have hb2 := hB.2
 clear hB
 have HF := Lib.hid (show joined ((termSL ks).getD 0 []) nLt ((termSL ks).getD 1 []) = formS (.node [108, 116] s n p ks) by show _ = formS (.node nLt s n p ks); rw [formS, if_neg (by decide), if_neg (by decide), if_neg (by decide), if_neg (by decide), if_neg (by decide), if_neg (by decide)])
 rw [← HF.out] at HR
 generalize formS (.node [108, 116] s n p ks) = V at *
 obtain ⟨y, z, hx⟩ := two_of hk
 have hl0 : 0 < ks.length := by omega
 have hl1' : 1 < ks.length := by omega
 have hi1 : (1 : Int) < (ks.length : Int) := by omega
 obtain ⟨bb, off, A1, cap1, rfl, hlo, hcells, hkid⟩ := HC.out.kid 0 hl0
 obtain ⟨bb2, off2, A2, cap2, he, hlo2, hcells2, hkid2⟩ := HC.out.kid 1 hl1'
 have e1 := congrArg Addr.block (Option.some.inj he)
 have e2 := congrArg Addr.off (Option.some.inj he)
 simp only at e1 e2
 subst e1
 subst e2
 clear he
 have hIH := sterm_any (ks[0]'hl0) A1 cap1
 have hIH2 := sterm_any (ks[1]'hl1') A2 cap2
 have hT0 : termB (ks[0]'hl0) = true := by rw [termsB_all, List.all_eq_true] at hb2; exact hb2 _ (List.getElem_mem hl0)
 have hT1 : termB (ks[1]'hl1') = true := by rw [termsB_all, List.all_eq_true] at hb2; exact hb2 _ (List.getElem_mem hl1')
 have hN0 : nodes (ks[0]'hl0) ≤ 2000 := Nat.le_trans (nodes_kid ks _ (List.getElem_mem hl0)) (by omega)
 have hN1 : nodes (ks[1]'hl1') ≤ 2000 := Nat.le_trans (nodes_kid ks _ (List.getElem_mem hl1')) (by omega)
 have hG : (termSL ks).getD 0 [] = termS (ks[0]'hl0) := by subst hx; simp [termSL]
 have hG2 : (termSL ks).getD 1 [] = termS (ks[1]'hl1') := by subst hx; simp [termSL]
 rw [hG, hG2] at HF HR
 simp only [Nat.zero_mul, Nat.add_zero, Nat.one_mul] at hcells hkid hcells2 hkid2
 clear hG hG2 hb2 ih hx hk
 generalize ks[0]'hl0 = x at *
 generalize ks[1]'hl1' = x2 at *
 have HI := Lib.hid (fun (W : World) (hh : NodeAt W W.heap.size x A1 cap1) => hIH W hh hT0 hN0)
 have HI2 := Lib.hid (fun (W : World) (hh : NodeAt W W.heap.size x2 A2 cap2) => hIH2 W hh hT1 hN1)
 clear hIH hIH2 hT0 hT1 hN0 hN1
 generalize termS x = X at *
 generalize termS x2 = Y at *
 try simp only [List.length_append, List.length_cons, List.length_nil] at HR
 have HJ := Lib.hid (fun (W : World) => joined_any X [108, 116] Y (Or.inr (Or.inr (by decide))) (show (joined X nLt Y).length ≤ 90000000 by omega) W)
 change Hid (∀ W : World, Calls Tryd.prog 27 #[.string ⟨X.toArray⟩, .string ⟨#[108, 116]⟩, .string ⟨Y.toArray⟩] W fun e w' => e = .returned (.string ⟨(joined X nLt Y).toArray⟩) ∧ Below W.heap.size W w') at HJ
 generalize joined X nLt Y = J at *
 have HE := Lib.hid (show (⟨J.toArray⟩ : ByteArray) = ⟨V.toArray⟩ by rw [HF.out])
 cases x with
 | node o1 s1 n1 p1 ks1 =>
 cases x2 with
 | node o2 s2 n2 p2 ks2 =>
   have HKC := Lib.hid (fun (W : World) (hW : Below w.heap.size w W) => kid_cells hlo hcells hW)
   have HKC2 := Lib.hid (fun (W : World) (hW : Below w.heap.size w W) => kid_cells hlo2 hcells2 hW)
   have HKD := Lib.hid hkid
   have HKD2 := Lib.hid hkid2
   clear hcells hkid hcells2 hkid2
   simp only [nodeT, nodeW, Node.op, Node.name, Node.num, Node.pos, Node.kids] at HI HI2
   have HSS := Lib.hid (fun (W : World) (hW : Below (w.heap.size + 1) (w.alloc (boxN [108, 116] s n p ks.length (some ⟨bb, off, none⟩) cap)) W) => (⟨hW, box5 hW, HKC.out W (fresh_w hW), HKC2.out W (fresh_w hW)⟩ : (fun W : World => Below (w.heap.size + 1) (w.alloc (boxN [108, 116] s n p ks.length (some ⟨bb, off, none⟩) cap)) W ∧ (W.cell? ⟨w.heap.size, 0, none⟩ = some (.string ⟨#[108, 116]⟩) ∧ W.cell? ⟨w.heap.size, 1, none⟩ = some (.string ⟨s.toArray⟩) ∧ W.cell? ⟨w.heap.size, 2, none⟩ = some (.int .i64 n) ∧ W.cell? ⟨w.heap.size, 3, none⟩ = some (.int .i64 p) ∧ W.cell? ⟨w.heap.size, 4, none⟩ = some (.slice (some ⟨bb, off, none⟩) ks.length cap)) ∧ (W.cell? ⟨bb, off, none⟩ = some (.string ⟨o1.toArray⟩) ∧ W.cell? ⟨bb, off + 1, none⟩ = some (.string ⟨s1.toArray⟩) ∧ W.cell? ⟨bb, off + 2, none⟩ = some (.int .i64 n1) ∧ W.cell? ⟨bb, off + 3, none⟩ = some (.int .i64 p1) ∧ W.cell? ⟨bb, off + 4, none⟩ = some (.slice A1 ks1.length cap1)) ∧ (W.cell? ⟨bb, off + 5, none⟩ = some (.string ⟨o2.toArray⟩) ∧ W.cell? ⟨bb, off + 5 + 1, none⟩ = some (.string ⟨s2.toArray⟩) ∧ W.cell? ⟨bb, off + 5 + 2, none⟩ = some (.int .i64 n2) ∧ W.cell? ⟨bb, off + 5 + 3, none⟩ = some (.int .i64 p2) ∧ W.cell? ⟨bb, off + 5 + 4, none⟩ = some (.slice A2 ks2.length cap2))) W))
   have HG := Lib.hid (fun (W W' : World) (hW : Below (w.heap.size + 1) (w.alloc (boxN [108, 116] s n p ks.length (some ⟨bb, off, none⟩) cap)) W) (hb : Below W.heap.size W W') => fresh_more hW hb)
   have HW := Lib.hid (fun (W : World) (hW : Below (w.heap.size + 1) (w.alloc (boxN [108, 116] s n p ks.length (some ⟨bb, off, none⟩) cap)) W) => fresh_w hW)
   go_enter Tryd.func11, Tryd.ntmps11
   go_upto_region 19 with fail
   generalize w.alloc _ = Z at *
   go_region_held3 (fun W : World => Below (w.heap.size + 1) Z W ∧ (W.cell? ⟨w.heap.size, 0, none⟩ = some (.string ⟨#[108, 116]⟩) ∧ W.cell? ⟨w.heap.size, 1, none⟩ = some (.string ⟨s.toArray⟩) ∧ W.cell? ⟨w.heap.size, 2, none⟩ = some (.int .i64 n) ∧ W.cell? ⟨w.heap.size, 3, none⟩ = some (.int .i64 p) ∧ W.cell? ⟨w.heap.size, 4, none⟩ = some (.slice (some ⟨bb, off, none⟩) ks.length cap)) ∧ (W.cell? ⟨bb, off, none⟩ = some (.string ⟨o1.toArray⟩) ∧ W.cell? ⟨bb, off + 1, none⟩ = some (.string ⟨s1.toArray⟩) ∧ W.cell? ⟨bb, off + 2, none⟩ = some (.int .i64 n1) ∧ W.cell? ⟨bb, off + 3, none⟩ = some (.int .i64 p1) ∧ W.cell? ⟨bb, off + 4, none⟩ = some (.slice A1 ks1.length cap1)) ∧ (W.cell? ⟨bb, off + 5, none⟩ = some (.string ⟨o2.toArray⟩) ∧ W.cell? ⟨bb, off + 5 + 1, none⟩ = some (.string ⟨s2.toArray⟩) ∧ W.cell? ⟨bb, off + 5 + 2, none⟩ = some (.int .i64 n2) ∧ W.cell? ⟨bb, off + 5 + 3, none⟩ = some (.int .i64 p2) ∧ W.cell? ⟨bb, off + 5 + 4, none⟩ = some (.slice A2 ks2.length cap2))) (first | assumption | exact HSS.out _ hB4 | exact HSS.out _ HB0.out.drew | exact HSS.out _ HB0.out) (first
    | (go_at_call 27
       have hq : Below (w.heap.size + 1) Z _ := (show Below (w.heap.size + 1) Z _ ∧ _ by assumption).1
       refine (HJ.out _).mono ?_
       rintro e w4 ⟨rfl, hb⟩
       have hB4 := HG.out _ _ hq hb
       clear hb)
    | (go_at_call_of 13 (Value.agg #[Value.string ⟨o1.toArray⟩, Value.string ⟨s1.toArray⟩, Value.int .i64 n1, Value.int .i64 p1, Value.slice A1 ks1.length cap1])
       have hq : Below (w.heap.size + 1) Z _ := (show Below (w.heap.size + 1) Z _ ∧ _ by assumption).1
       refine (HI.out _ (HKD.out.later (HW.out _ hq) (HW.out _ hq).size)).mono ?_
       rintro e w4 ⟨rfl, hb⟩
       have hB4 := HG.out _ _ hq hb
       clear hb)
    | (go_at_call_of 13 (Value.agg #[Value.string ⟨o2.toArray⟩, Value.string ⟨s2.toArray⟩, Value.int .i64 n2, Value.int .i64 p2, Value.slice A2 ks2.length cap2])
       have hq : Below (w.heap.size + 1) Z _ := (show Below (w.heap.size + 1) Z _ ∧ _ by assumption).1
       refine (HI2.out _ (HKD2.out.later (HW.out _ hq) (HW.out _ hq).size)).mono ?_
       rintro e w4 ⟨rfl, hb⟩
       have hB4 := HG.out _ _ hq hb
       clear hb))
   all_goals
    have hh := (show Below (w.heap.size + 1) Z _ ∧ _ by assumption).1
    go_wp2_with fail
    go_ret
    exact ⟨congrArg (fun x : ByteArray => Ending.returned (.string x)) HE.out, HW.out _ hh⟩
set_option maxHeartbeats 4000000 in
theorem sform_le (s : List UInt8) (n p : Int) (ks : List Node) (A : Option Addr) (cap : Nat) (w : World) (h : NodeAt w w.heap.size (.node [108, 101] s n p ks) A cap) (hB : formB (.node [108, 101] s n p ks) = true) (hN : nodes (.node [108, 101] s n p ks) ≤ 2000) (ih : ∀ k ∈ ks, SFormLaw k) :
  Calls Tryd.prog 11 #[nodeW [108, 101] s n p ks.length A cap] w fun e w' => e = .returned (.string ⟨(formS (.node [108, 101] s n p ks)).toArray⟩) ∧ Below w.heap.size w w' := by
 have HC := Lib.hid h
 have HR := formS_len _ hB
 rw [nodes_node] at hN HR
 have hl := h.len
 obtain ⟨hl1, hl2, _⟩ := hl
 clear h
 have HB0 := Lib.hid (Below.refl (w.heap.size + 1) (w.alloc (boxN [108, 101] s n p ks.length A cap)))
 simp only [nodeW]
 replace hB : formB (.node nLe s n p ks) = true := hB
 rw [formB, if_neg (by decide), if_neg (by decide), if_neg (by decide), if_neg (by decide), if_neg (by decide), if_pos (by decide)] at hB
 simp only [Bool.and_eq_true] at hB
 have hk := (hasB_name hB.1).2.1
 have hb2 := hB.2
 clear hB
 have HF := Lib.hid (show joined ((termSL ks).getD 0 []) nLe ((termSL ks).getD 1 []) = formS (.node [108, 101] s n p ks) by show _ = formS (.node nLe s n p ks); rw [formS, if_neg (by decide), if_neg (by decide), if_neg (by decide), if_neg (by decide), if_neg (by decide), if_neg (by decide)])
 rw [← HF.out] at HR
 generalize formS (.node [108, 101] s n p ks) = V at *
 obtain ⟨y, z, hx⟩ := two_of hk
 have hl0 : 0 < ks.length := by omega
 have hl1' : 1 < ks.length := by omega
 have hi1 : (1 : Int) < (ks.length : Int) := by omega
 obtain ⟨bb, off, A1, cap1, rfl, hlo, hcells, hkid⟩ := HC.out.kid 0 hl0
 obtain ⟨bb2, off2, A2, cap2, he, hlo2, hcells2, hkid2⟩ := HC.out.kid 1 hl1'
 have e1 := congrArg Addr.block (Option.some.inj he)
 have e2 := congrArg Addr.off (Option.some.inj he)
 simp only at e1 e2
 subst e1
 subst e2
 clear he
 have hIH := sterm_any (ks[0]'hl0) A1 cap1
 have hIH2 := sterm_any (ks[1]'hl1') A2 cap2
 have hT0 : termB (ks[0]'hl0) = true := by rw [termsB_all, List.all_eq_true] at hb2; exact hb2 _ (List.getElem_mem hl0)
 have hT1 : termB (ks[1]'hl1') = true := by rw [termsB_all, List.all_eq_true] at hb2; exact hb2 _ (List.getElem_mem hl1')
 have hN0 : nodes (ks[0]'hl0) ≤ 2000 := Nat.le_trans (nodes_kid ks _ (List.getElem_mem hl0)) (by omega)
 have hN1 : nodes (ks[1]'hl1') ≤ 2000 := Nat.le_trans (nodes_kid ks _ (List.getElem_mem hl1')) (by omega)
 have hG : (termSL ks).getD 0 [] = termS (ks[0]'hl0) := by subst hx; simp [termSL]
 have hG2 : (termSL ks).getD 1 [] = termS (ks[1]'hl1') := by subst hx; simp [termSL]
 rw [hG, hG2] at HF HR
 simp only [Nat.zero_mul, Nat.add_zero, Nat.one_mul] at hcells hkid hcells2 hkid2
 clear hG hG2 hb2 ih hx hk
 generalize ks[0]'hl0 = x at *
 generalize ks[1]'hl1' = x2 at *
 have HI := Lib.hid (fun (W : World) (hh : NodeAt W W.heap.size x A1 cap1) => hIH W hh hT0 hN0)
 have HI2 := Lib.hid (fun (W : World) (hh : NodeAt W W.heap.size x2 A2 cap2) => hIH2 W hh hT1 hN1)
 clear hIH hIH2 hT0 hT1 hN0 hN1
 generalize termS x = X at *
 generalize termS x2 = Y at *
 try simp only [List.length_append, List.length_cons, List.length_nil] at HR
 have HJ := Lib.hid (fun (W : World) => joined_any X [108, 101] Y (Or.inr (Or.inr (by decide))) (show (joined X nLe Y).length ≤ 90000000 by omega) W)
 change Hid (∀ W : World, Calls Tryd.prog 27 #[.string ⟨X.toArray⟩, .string ⟨#[108, 101]⟩, .string ⟨Y.toArray⟩] W fun e w' => e = .returned (.string ⟨(joined X nLe Y).toArray⟩) ∧ Below W.heap.size W w') at HJ
 generalize joined X nLe Y = J at *
 have HE := Lib.hid (show (⟨J.toArray⟩ : ByteArray) = ⟨V.toArray⟩ by rw [HF.out])
 cases x with
 | node o1 s1 n1 p1 ks1 =>
 cases x2 with
 | node o2 s2 n2 p2 ks2 =>
   have HKC := Lib.hid (fun (W : World) (hW : Below w.heap.size w W) => kid_cells hlo hcells hW)
   have HKC2 := Lib.hid (fun (W : World) (hW : Below w.heap.size w W) => kid_cells hlo2 hcells2 hW)
   have HKD := Lib.hid hkid
   have HKD2 := Lib.hid hkid2
   clear hcells hkid hcells2 hkid2
   simp only [nodeT, nodeW, Node.op, Node.name, Node.num, Node.pos, Node.kids] at HI HI2
   have HSS := Lib.hid (fun (W : World) (hW : Below (w.heap.size + 1) (w.alloc (boxN [108, 101] s n p ks.length (some ⟨bb, off, none⟩) cap)) W) => (⟨hW, box5 hW, HKC.out W (fresh_w hW), HKC2.out W (fresh_w hW)⟩ : (fun W : World => Below (w.heap.size + 1) (w.alloc (boxN [108, 101] s n p ks.length (some ⟨bb, off, none⟩) cap)) W ∧ (W.cell? ⟨w.heap.size, 0, none⟩ = some (.string ⟨#[108, 101]⟩) ∧ W.cell? ⟨w.heap.size, 1, none⟩ = some (.string ⟨s.toArray⟩) ∧ W.cell? ⟨w.heap.size, 2, none⟩ = some (.int .i64 n) ∧ W.cell? ⟨w.heap.size, 3, none⟩ = some (.int .i64 p) ∧ W.cell? ⟨w.heap.size, 4, none⟩ = some (.slice (some ⟨bb, off, none⟩) ks.length cap)) ∧ (W.cell? ⟨bb, off, none⟩ = some (.string ⟨o1.toArray⟩) ∧ W.cell? ⟨bb, off + 1, none⟩ = some (.string ⟨s1.toArray⟩) ∧ W.cell? ⟨bb, off + 2, none⟩ = some (.int .i64 n1) ∧ W.cell? ⟨bb, off + 3, none⟩ = some (.int .i64 p1) ∧ W.cell? ⟨bb, off + 4, none⟩ = some (.slice A1 ks1.length cap1)) ∧ (W.cell? ⟨bb, off + 5, none⟩ = some (.string ⟨o2.toArray⟩) ∧ W.cell? ⟨bb, off + 5 + 1, none⟩ = some (.string ⟨s2.toArray⟩) ∧ W.cell? ⟨bb, off + 5 + 2, none⟩ = some (.int .i64 n2) ∧ W.cell? ⟨bb, off + 5 + 3, none⟩ = some (.int .i64 p2) ∧ W.cell? ⟨bb, off + 5 + 4, none⟩ = some (.slice A2 ks2.length cap2))) W))
   have HG := Lib.hid (fun (W W' : World) (hW : Below (w.heap.size + 1) (w.alloc (boxN [108, 101] s n p ks.length (some ⟨bb, off, none⟩) cap)) W) (hb : Below W.heap.size W W') => fresh_more hW hb)
   have HW := Lib.hid (fun (W : World) (hW : Below (w.heap.size + 1) (w.alloc (boxN [108, 101] s n p ks.length (some ⟨bb, off, none⟩) cap)) W) => fresh_w hW)
   go_enter Tryd.func11, Tryd.ntmps11
   go_upto_region 19 with fail
   generalize w.alloc _ = Z at *
   go_region_held3 (fun W : World => Below (w.heap.size + 1) Z W ∧ (W.cell? ⟨w.heap.size, 0, none⟩ = some (.string ⟨#[108, 101]⟩) ∧ W.cell? ⟨w.heap.size, 1, none⟩ = some (.string ⟨s.toArray⟩) ∧ W.cell? ⟨w.heap.size, 2, none⟩ = some (.int .i64 n) ∧ W.cell? ⟨w.heap.size, 3, none⟩ = some (.int .i64 p) ∧ W.cell? ⟨w.heap.size, 4, none⟩ = some (.slice (some ⟨bb, off, none⟩) ks.length cap)) ∧ (W.cell? ⟨bb, off, none⟩ = some (.string ⟨o1.toArray⟩) ∧ W.cell? ⟨bb, off + 1, none⟩ = some (.string ⟨s1.toArray⟩) ∧ W.cell? ⟨bb, off + 2, none⟩ = some (.int .i64 n1) ∧ W.cell? ⟨bb, off + 3, none⟩ = some (.int .i64 p1) ∧ W.cell? ⟨bb, off + 4, none⟩ = some (.slice A1 ks1.length cap1)) ∧ (W.cell? ⟨bb, off + 5, none⟩ = some (.string ⟨o2.toArray⟩) ∧ W.cell? ⟨bb, off + 5 + 1, none⟩ = some (.string ⟨s2.toArray⟩) ∧ W.cell? ⟨bb, off + 5 + 2, none⟩ = some (.int .i64 n2) ∧ W.cell? ⟨bb, off + 5 + 3, none⟩ = some (.int .i64 p2) ∧ W.cell? ⟨bb, off + 5 + 4, none⟩ = some (.slice A2 ks2.length cap2))) (first | assumption | exact HSS.out _ hB4 | exact HSS.out _ HB0.out.drew | exact HSS.out _ HB0.out) (first
    | (go_at_call 27
       have hq : Below (w.heap.size + 1) Z _ := (show Below (w.heap.size + 1) Z _ ∧ _ by assumption).1
       refine (HJ.out _).mono ?_
       rintro e w4 ⟨rfl, hb⟩
       have hB4 := HG.out _ _ hq hb
       clear hb)
    | (go_at_call_of 13 (Value.agg #[Value.string ⟨o1.toArray⟩, Value.string ⟨s1.toArray⟩, Value.int .i64 n1, Value.int .i64 p1, Value.slice A1 ks1.length cap1])
       have hq : Below (w.heap.size + 1) Z _ := (show Below (w.heap.size + 1) Z _ ∧ _ by assumption).1
       refine (HI.out _ (HKD.out.later (HW.out _ hq) (HW.out _ hq).size)).mono ?_
       rintro e w4 ⟨rfl, hb⟩
       have hB4 := HG.out _ _ hq hb
       clear hb)
    | (go_at_call_of 13 (Value.agg #[Value.string ⟨o2.toArray⟩, Value.string ⟨s2.toArray⟩, Value.int .i64 n2, Value.int .i64 p2, Value.slice A2 ks2.length cap2])
       have hq : Below (w.heap.size + 1) Z _ := (show Below (w.heap.size + 1) Z _ ∧ _ by assumption).1
       refine (HI2.out _ (HKD2.out.later (HW.out _ hq) (HW.out _ hq).size)).mono ?_
       rintro e w4 ⟨rfl, hb⟩
       have hB4 := HG.out _ _ hq hb
       clear hb))
   all_goals
    have hh := (show Below (w.heap.size + 1) Z _ ∧ _ by assumption).1
    go_wp2_with fail
    go_ret
    exact ⟨congrArg (fun x : ByteArray => Ending.returned (.string x)) HE.out, HW.out _ hh⟩
set_option maxHeartbeats 4000000 in
theorem sform_in (s : List UInt8) (n p : Int) (ks : List Node) (A : Option Addr) (cap : Nat) (w : World) (h : NodeAt w w.heap.size (.node [105, 110] s n p ks) A cap) (hB : formB (.node [105, 110] s n p ks) = true) (hN : nodes (.node [105, 110] s n p ks) ≤ 2000) (ih : ∀ k ∈ ks, SFormLaw k) :
  Calls Tryd.prog 11 #[nodeW [105, 110] s n p ks.length A cap] w fun e w' => e = .returned (.string ⟨(formS (.node [105, 110] s n p ks)).toArray⟩) ∧ Below w.heap.size w w' := by
 have HC := Lib.hid h
 have HR := formS_len _ hB
 rw [nodes_node] at hN HR
 have hl := h.len
 obtain ⟨hl1, hl2, _⟩ := hl
 clear h
 have HB0 := Lib.hid (Below.refl (w.heap.size + 1) (w.alloc (boxN [105, 110] s n p ks.length A cap)))
 simp only [nodeW]
 replace hB : formB (.node nIn s n p ks) = true := hB
 rw [formB, if_neg (by decide), if_neg (by decide), if_neg (by decide), if_neg (by decide), if_neg (by decide), if_pos (by decide)] at hB
 simp only [Bool.and_eq_true] at hB
 have hk := (hasB_name hB.1).2.1
 have hb2 := hB.2
 clear hB
 have HF := Lib.hid (show joined ((termSL ks).getD 0 []) nIn ((termSL ks).getD 1 []) = formS (.node [105, 110] s n p ks) by show _ = formS (.node nIn s n p ks); rw [formS, if_neg (by decide), if_neg (by decide), if_neg (by decide), if_neg (by decide), if_neg (by decide), if_neg (by decide)])
 rw [← HF.out] at HR
 generalize formS (.node [105, 110] s n p ks) = V at *
 obtain ⟨y, z, hx⟩ := two_of hk
 have hl0 : 0 < ks.length := by omega
 have hl1' : 1 < ks.length := by omega
 have hi1 : (1 : Int) < (ks.length : Int) := by omega
 obtain ⟨bb, off, A1, cap1, rfl, hlo, hcells, hkid⟩ := HC.out.kid 0 hl0
 obtain ⟨bb2, off2, A2, cap2, he, hlo2, hcells2, hkid2⟩ := HC.out.kid 1 hl1'
 have e1 := congrArg Addr.block (Option.some.inj he)
 have e2 := congrArg Addr.off (Option.some.inj he)
 simp only at e1 e2
 subst e1
 subst e2
 clear he
 have hIH := sterm_any (ks[0]'hl0) A1 cap1
 have hIH2 := sterm_any (ks[1]'hl1') A2 cap2
 have hT0 : termB (ks[0]'hl0) = true := by rw [termsB_all, List.all_eq_true] at hb2; exact hb2 _ (List.getElem_mem hl0)
 have hT1 : termB (ks[1]'hl1') = true := by rw [termsB_all, List.all_eq_true] at hb2; exact hb2 _ (List.getElem_mem hl1')
 have hN0 : nodes (ks[0]'hl0) ≤ 2000 := Nat.le_trans (nodes_kid ks _ (List.getElem_mem hl0)) (by omega)
 have hN1 : nodes (ks[1]'hl1') ≤ 2000 := Nat.le_trans (nodes_kid ks _ (List.getElem_mem hl1')) (by omega)
 have hG : (termSL ks).getD 0 [] = termS (ks[0]'hl0) := by subst hx; simp [termSL]
 have hG2 : (termSL ks).getD 1 [] = termS (ks[1]'hl1') := by subst hx; simp [termSL]
 rw [hG, hG2] at HF HR
 simp only [Nat.zero_mul, Nat.add_zero, Nat.one_mul] at hcells hkid hcells2 hkid2
 clear hG hG2 hb2 ih hx hk
 generalize ks[0]'hl0 = x at *
 generalize ks[1]'hl1' = x2 at *
 have HI := Lib.hid (fun (W : World) (hh : NodeAt W W.heap.size x A1 cap1) => hIH W hh hT0 hN0)
 have HI2 := Lib.hid (fun (W : World) (hh : NodeAt W W.heap.size x2 A2 cap2) => hIH2 W hh hT1 hN1)
 clear hIH hIH2 hT0 hT1 hN0 hN1
 generalize termS x = X at *
 generalize termS x2 = Y at *
 try simp only [List.length_append, List.length_cons, List.length_nil] at HR
 have HJ := Lib.hid (fun (W : World) => joined_any X [105, 110] Y (Or.inr (Or.inr (by decide))) (show (joined X nIn Y).length ≤ 90000000 by omega) W)
 change Hid (∀ W : World, Calls Tryd.prog 27 #[.string ⟨X.toArray⟩, .string ⟨#[105, 110]⟩, .string ⟨Y.toArray⟩] W fun e w' => e = .returned (.string ⟨(joined X nIn Y).toArray⟩) ∧ Below W.heap.size W w') at HJ
 generalize joined X nIn Y = J at *
 have HE := Lib.hid (show (⟨J.toArray⟩ : ByteArray) = ⟨V.toArray⟩ by rw [HF.out])
 cases x with
 | node o1 s1 n1 p1 ks1 =>
 cases x2 with
 | node o2 s2 n2 p2 ks2 =>
   have HKC := Lib.hid (fun (W : World) (hW : Below w.heap.size w W) => kid_cells hlo hcells hW)
   have HKC2 := Lib.hid (fun (W : World) (hW : Below w.heap.size w W) => kid_cells hlo2 hcells2 hW)
   have HKD := Lib.hid hkid
   have HKD2 := Lib.hid hkid2
   clear hcells hkid hcells2 hkid2
   simp only [nodeT, nodeW, Node.op, Node.name, Node.num, Node.pos, Node.kids] at HI HI2
   have HSS := Lib.hid (fun (W : World) (hW : Below (w.heap.size + 1) (w.alloc (boxN [105, 110] s n p ks.length (some ⟨bb, off, none⟩) cap)) W) => (⟨hW, box5 hW, HKC.out W (fresh_w hW), HKC2.out W (fresh_w hW)⟩ : (fun W : World => Below (w.heap.size + 1) (w.alloc (boxN [105, 110] s n p ks.length (some ⟨bb, off, none⟩) cap)) W ∧ (W.cell? ⟨w.heap.size, 0, none⟩ = some (.string ⟨#[105, 110]⟩) ∧ W.cell? ⟨w.heap.size, 1, none⟩ = some (.string ⟨s.toArray⟩) ∧ W.cell? ⟨w.heap.size, 2, none⟩ = some (.int .i64 n) ∧ W.cell? ⟨w.heap.size, 3, none⟩ = some (.int .i64 p) ∧ W.cell? ⟨w.heap.size, 4, none⟩ = some (.slice (some ⟨bb, off, none⟩) ks.length cap)) ∧ (W.cell? ⟨bb, off, none⟩ = some (.string ⟨o1.toArray⟩) ∧ W.cell? ⟨bb, off + 1, none⟩ = some (.string ⟨s1.toArray⟩) ∧ W.cell? ⟨bb, off + 2, none⟩ = some (.int .i64 n1) ∧ W.cell? ⟨bb, off + 3, none⟩ = some (.int .i64 p1) ∧ W.cell? ⟨bb, off + 4, none⟩ = some (.slice A1 ks1.length cap1)) ∧ (W.cell? ⟨bb, off + 5, none⟩ = some (.string ⟨o2.toArray⟩) ∧ W.cell? ⟨bb, off + 5 + 1, none⟩ = some (.string ⟨s2.toArray⟩) ∧ W.cell? ⟨bb, off + 5 + 2, none⟩ = some (.int .i64 n2) ∧ W.cell? ⟨bb, off + 5 + 3, none⟩ = some (.int .i64 p2) ∧ W.cell? ⟨bb, off + 5 + 4, none⟩ = some (.slice A2 ks2.length cap2))) W))
   have HG := Lib.hid (fun (W W' : World) (hW : Below (w.heap.size + 1) (w.alloc (boxN [105, 110] s n p ks.length (some ⟨bb, off, none⟩) cap)) W) (hb : Below W.heap.size W W') => fresh_more hW hb)
   have HW := Lib.hid (fun (W : World) (hW : Below (w.heap.size + 1) (w.alloc (boxN [105, 110] s n p ks.length (some ⟨bb, off, none⟩) cap)) W) => fresh_w hW)
   go_enter Tryd.func11, Tryd.ntmps11
   go_upto_region 19 with fail
   generalize w.alloc _ = Z at *
   go_region_held3 (fun W : World => Below (w.heap.size + 1) Z W ∧ (W.cell? ⟨w.heap.size, 0, none⟩ = some (.string ⟨#[105, 110]⟩) ∧ W.cell? ⟨w.heap.size, 1, none⟩ = some (.string ⟨s.toArray⟩) ∧ W.cell? ⟨w.heap.size, 2, none⟩ = some (.int .i64 n) ∧ W.cell? ⟨w.heap.size, 3, none⟩ = some (.int .i64 p) ∧ W.cell? ⟨w.heap.size, 4, none⟩ = some (.slice (some ⟨bb, off, none⟩) ks.length cap)) ∧ (W.cell? ⟨bb, off, none⟩ = some (.string ⟨o1.toArray⟩) ∧ W.cell? ⟨bb, off + 1, none⟩ = some (.string ⟨s1.toArray⟩) ∧ W.cell? ⟨bb, off + 2, none⟩ = some (.int .i64 n1) ∧ W.cell? ⟨bb, off + 3, none⟩ = some (.int .i64 p1) ∧ W.cell? ⟨bb, off + 4, none⟩ = some (.slice A1 ks1.length cap1)) ∧ (W.cell? ⟨bb, off + 5, none⟩ = some (.string ⟨o2.toArray⟩) ∧ W.cell? ⟨bb, off + 5 + 1, none⟩ = some (.string ⟨s2.toArray⟩) ∧ W.cell? ⟨bb, off + 5 + 2, none⟩ = some (.int .i64 n2) ∧ W.cell? ⟨bb, off + 5 + 3, none⟩ = some (.int .i64 p2) ∧ W.cell? ⟨bb, off + 5 + 4, none⟩ = some (.slice A2 ks2.length cap2))) (first | assumption | exact HSS.out _ hB4 | exact HSS.out _ HB0.out.drew | exact HSS.out _ HB0.out) (first
    | (go_at_call 27
       have hq : Below (w.heap.size + 1) Z _ := (show Below (w.heap.size + 1) Z _ ∧ _ by assumption).1
       refine (HJ.out _).mono ?_
       rintro e w4 ⟨rfl, hb⟩
       have hB4 := HG.out _ _ hq hb
       clear hb)
    | (go_at_call_of 13 (Value.agg #[Value.string ⟨o1.toArray⟩, Value.string ⟨s1.toArray⟩, Value.int .i64 n1, Value.int .i64 p1, Value.slice A1 ks1.length cap1])
       have hq : Below (w.heap.size + 1) Z _ := (show Below (w.heap.size + 1) Z _ ∧ _ by assumption).1
       refine (HI.out _ (HKD.out.later (HW.out _ hq) (HW.out _ hq).size)).mono ?_
       rintro e w4 ⟨rfl, hb⟩
       have hB4 := HG.out _ _ hq hb
       clear hb)
    | (go_at_call_of 13 (Value.agg #[Value.string ⟨o2.toArray⟩, Value.string ⟨s2.toArray⟩, Value.int .i64 n2, Value.int .i64 p2, Value.slice A2 ks2.length cap2])
       have hq : Below (w.heap.size + 1) Z _ := (show Below (w.heap.size + 1) Z _ ∧ _ by assumption).1
       refine (HI2.out _ (HKD2.out.later (HW.out _ hq) (HW.out _ hq).size)).mono ?_
       rintro e w4 ⟨rfl, hb⟩
       have hB4 := HG.out _ _ hq hb
       clear hb))
   all_goals
    have hh := (show Below (w.heap.size + 1) Z _ ∧ _ by assumption).1
    go_wp2_with fail
    go_ret
    exact ⟨congrArg (fun x : ByteArray => Ending.returned (.string x)) HE.out, HW.out _ hh⟩
set_option maxHeartbeats 4000000 in
theorem sform_notin (s : List UInt8) (n p : Int) (ks : List Node) (A : Option Addr) (cap : Nat) (w : World) (h : NodeAt w w.heap.size (.node [110, 111, 116, 105, 110] s n p ks) A cap) (hB : formB (.node [110, 111, 116, 105, 110] s n p ks) = true) (hN : nodes (.node [110, 111, 116, 105, 110] s n p ks) ≤ 2000) (ih : ∀ k ∈ ks, SFormLaw k) :
  Calls Tryd.prog 11 #[nodeW [110, 111, 116, 105, 110] s n p ks.length A cap] w fun e w' => e = .returned (.string ⟨(formS (.node [110, 111, 116, 105, 110] s n p ks)).toArray⟩) ∧ Below w.heap.size w w' := by
 have HC := Lib.hid h
 have HR := formS_len _ hB
 rw [nodes_node] at hN HR
 have hl := h.len
 obtain ⟨hl1, hl2, _⟩ := hl
 clear h
 have HB0 := Lib.hid (Below.refl (w.heap.size + 1) (w.alloc (boxN [110, 111, 116, 105, 110] s n p ks.length A cap)))
 simp only [nodeW]
 replace hB : formB (.node nNotin s n p ks) = true := hB
 rw [formB, if_neg (by decide), if_neg (by decide), if_neg (by decide), if_neg (by decide), if_neg (by decide), if_pos (by decide)] at hB
 simp only [Bool.and_eq_true] at hB
 have hk := (hasB_name hB.1).2.1
 have hb2 := hB.2
 clear hB
 have HF := Lib.hid (show joined ((termSL ks).getD 0 []) nNotin ((termSL ks).getD 1 []) = formS (.node [110, 111, 116, 105, 110] s n p ks) by show _ = formS (.node nNotin s n p ks); rw [formS, if_neg (by decide), if_neg (by decide), if_neg (by decide), if_neg (by decide), if_neg (by decide), if_neg (by decide)])
 rw [← HF.out] at HR
 generalize formS (.node [110, 111, 116, 105, 110] s n p ks) = V at *
 obtain ⟨y, z, hx⟩ := two_of hk
 have hl0 : 0 < ks.length := by omega
 have hl1' : 1 < ks.length := by omega
 have hi1 : (1 : Int) < (ks.length : Int) := by omega
 obtain ⟨bb, off, A1, cap1, rfl, hlo, hcells, hkid⟩ := HC.out.kid 0 hl0
 obtain ⟨bb2, off2, A2, cap2, he, hlo2, hcells2, hkid2⟩ := HC.out.kid 1 hl1'
 have e1 := congrArg Addr.block (Option.some.inj he)
 have e2 := congrArg Addr.off (Option.some.inj he)
 simp only at e1 e2
 subst e1
 subst e2
 clear he
 have hIH := sterm_any (ks[0]'hl0) A1 cap1
 have hIH2 := sterm_any (ks[1]'hl1') A2 cap2
 have hT0 : termB (ks[0]'hl0) = true := by rw [termsB_all, List.all_eq_true] at hb2; exact hb2 _ (List.getElem_mem hl0)
 have hT1 : termB (ks[1]'hl1') = true := by rw [termsB_all, List.all_eq_true] at hb2; exact hb2 _ (List.getElem_mem hl1')
 have hN0 : nodes (ks[0]'hl0) ≤ 2000 := Nat.le_trans (nodes_kid ks _ (List.getElem_mem hl0)) (by omega)
 have hN1 : nodes (ks[1]'hl1') ≤ 2000 := Nat.le_trans (nodes_kid ks _ (List.getElem_mem hl1')) (by omega)
 have hG : (termSL ks).getD 0 [] = termS (ks[0]'hl0) := by subst hx; simp [termSL]
 have hG2 : (termSL ks).getD 1 [] = termS (ks[1]'hl1') := by subst hx; simp [termSL]
 rw [hG, hG2] at HF HR
 simp only [Nat.zero_mul, Nat.add_zero, Nat.one_mul] at hcells hkid hcells2 hkid2
 clear hG hG2 hb2 ih hx hk
 generalize ks[0]'hl0 = x at *
 generalize ks[1]'hl1' = x2 at *
 have HI := Lib.hid (fun (W : World) (hh : NodeAt W W.heap.size x A1 cap1) => hIH W hh hT0 hN0)
 have HI2 := Lib.hid (fun (W : World) (hh : NodeAt W W.heap.size x2 A2 cap2) => hIH2 W hh hT1 hN1)
 clear hIH hIH2 hT0 hT1 hN0 hN1
 generalize termS x = X at *
 generalize termS x2 = Y at *
 try simp only [List.length_append, List.length_cons, List.length_nil] at HR
 have HJ := Lib.hid (fun (W : World) => joined_any X [110, 111, 116, 105, 110] Y (Or.inr (Or.inr (by decide))) (show (joined X nNotin Y).length ≤ 90000000 by omega) W)
 change Hid (∀ W : World, Calls Tryd.prog 27 #[.string ⟨X.toArray⟩, .string ⟨#[110, 111, 116, 105, 110]⟩, .string ⟨Y.toArray⟩] W fun e w' => e = .returned (.string ⟨(joined X nNotin Y).toArray⟩) ∧ Below W.heap.size W w') at HJ
 generalize joined X nNotin Y = J at *
 have HE := Lib.hid (show (⟨J.toArray⟩ : ByteArray) = ⟨V.toArray⟩ by rw [HF.out])
 cases x with
 | node o1 s1 n1 p1 ks1 =>
 cases x2 with
 | node o2 s2 n2 p2 ks2 =>
   have HKC := Lib.hid (fun (W : World) (hW : Below w.heap.size w W) => kid_cells hlo hcells hW)
   have HKC2 := Lib.hid (fun (W : World) (hW : Below w.heap.size w W) => kid_cells hlo2 hcells2 hW)
   have HKD := Lib.hid hkid
   have HKD2 := Lib.hid hkid2
   clear hcells hkid hcells2 hkid2
   simp only [nodeT, nodeW, Node.op, Node.name, Node.num, Node.pos, Node.kids] at HI HI2
   have HSS := Lib.hid (fun (W : World) (hW : Below (w.heap.size + 1) (w.alloc (boxN [110, 111, 116, 105, 110] s n p ks.length (some ⟨bb, off, none⟩) cap)) W) => (⟨hW, box5 hW, HKC.out W (fresh_w hW), HKC2.out W (fresh_w hW)⟩ : (fun W : World => Below (w.heap.size + 1) (w.alloc (boxN [110, 111, 116, 105, 110] s n p ks.length (some ⟨bb, off, none⟩) cap)) W ∧ (W.cell? ⟨w.heap.size, 0, none⟩ = some (.string ⟨#[110, 111, 116, 105, 110]⟩) ∧ W.cell? ⟨w.heap.size, 1, none⟩ = some (.string ⟨s.toArray⟩) ∧ W.cell? ⟨w.heap.size, 2, none⟩ = some (.int .i64 n) ∧ W.cell? ⟨w.heap.size, 3, none⟩ = some (.int .i64 p) ∧ W.cell? ⟨w.heap.size, 4, none⟩ = some (.slice (some ⟨bb, off, none⟩) ks.length cap)) ∧ (W.cell? ⟨bb, off, none⟩ = some (.string ⟨o1.toArray⟩) ∧ W.cell? ⟨bb, off + 1, none⟩ = some (.string ⟨s1.toArray⟩) ∧ W.cell? ⟨bb, off + 2, none⟩ = some (.int .i64 n1) ∧ W.cell? ⟨bb, off + 3, none⟩ = some (.int .i64 p1) ∧ W.cell? ⟨bb, off + 4, none⟩ = some (.slice A1 ks1.length cap1)) ∧ (W.cell? ⟨bb, off + 5, none⟩ = some (.string ⟨o2.toArray⟩) ∧ W.cell? ⟨bb, off + 5 + 1, none⟩ = some (.string ⟨s2.toArray⟩) ∧ W.cell? ⟨bb, off + 5 + 2, none⟩ = some (.int .i64 n2) ∧ W.cell? ⟨bb, off + 5 + 3, none⟩ = some (.int .i64 p2) ∧ W.cell? ⟨bb, off + 5 + 4, none⟩ = some (.slice A2 ks2.length cap2))) W))
   have HG := Lib.hid (fun (W W' : World) (hW : Below (w.heap.size + 1) (w.alloc (boxN [110, 111, 116, 105, 110] s n p ks.length (some ⟨bb, off, none⟩) cap)) W) (hb : Below W.heap.size W W') => fresh_more hW hb)
   have HW := Lib.hid (fun (W : World) (hW : Below (w.heap.size + 1) (w.alloc (boxN [110, 111, 116, 105, 110] s n p ks.length (some ⟨bb, off, none⟩) cap)) W) => fresh_w hW)
   go_enter Tryd.func11, Tryd.ntmps11
   go_upto_region 19 with fail
   generalize w.alloc _ = Z at *
   go_region_held3 (fun W : World => Below (w.heap.size + 1) Z W ∧ (W.cell? ⟨w.heap.size, 0, none⟩ = some (.string ⟨#[110, 111, 116, 105, 110]⟩) ∧ W.cell? ⟨w.heap.size, 1, none⟩ = some (.string ⟨s.toArray⟩) ∧ W.cell? ⟨w.heap.size, 2, none⟩ = some (.int .i64 n) ∧ W.cell? ⟨w.heap.size, 3, none⟩ = some (.int .i64 p) ∧ W.cell? ⟨w.heap.size, 4, none⟩ = some (.slice (some ⟨bb, off, none⟩) ks.length cap)) ∧ (W.cell? ⟨bb, off, none⟩ = some (.string ⟨o1.toArray⟩) ∧ W.cell? ⟨bb, off + 1, none⟩ = some (.string ⟨s1.toArray⟩) ∧ W.cell? ⟨bb, off + 2, none⟩ = some (.int .i64 n1) ∧ W.cell? ⟨bb, off + 3, none⟩ = some (.int .i64 p1) ∧ W.cell? ⟨bb, off + 4, none⟩ = some (.slice A1 ks1.length cap1)) ∧ (W.cell? ⟨bb, off + 5, none⟩ = some (.string ⟨o2.toArray⟩) ∧ W.cell? ⟨bb, off + 5 + 1, none⟩ = some (.string ⟨s2.toArray⟩) ∧ W.cell? ⟨bb, off + 5 + 2, none⟩ = some (.int .i64 n2) ∧ W.cell? ⟨bb, off + 5 + 3, none⟩ = some (.int .i64 p2) ∧ W.cell? ⟨bb, off + 5 + 4, none⟩ = some (.slice A2 ks2.length cap2))) (first | assumption | exact HSS.out _ hB4 | exact HSS.out _ HB0.out.drew | exact HSS.out _ HB0.out) (first
    | (go_at_call 27
       have hq : Below (w.heap.size + 1) Z _ := (show Below (w.heap.size + 1) Z _ ∧ _ by assumption).1
       refine (HJ.out _).mono ?_
       rintro e w4 ⟨rfl, hb⟩
       have hB4 := HG.out _ _ hq hb
       clear hb)
    | (go_at_call_of 13 (Value.agg #[Value.string ⟨o1.toArray⟩, Value.string ⟨s1.toArray⟩, Value.int .i64 n1, Value.int .i64 p1, Value.slice A1 ks1.length cap1])
       have hq : Below (w.heap.size + 1) Z _ := (show Below (w.heap.size + 1) Z _ ∧ _ by assumption).1
       refine (HI.out _ (HKD.out.later (HW.out _ hq) (HW.out _ hq).size)).mono ?_
       rintro e w4 ⟨rfl, hb⟩
       have hB4 := HG.out _ _ hq hb
       clear hb)
    | (go_at_call_of 13 (Value.agg #[Value.string ⟨o2.toArray⟩, Value.string ⟨s2.toArray⟩, Value.int .i64 n2, Value.int .i64 p2, Value.slice A2 ks2.length cap2])
       have hq : Below (w.heap.size + 1) Z _ := (show Below (w.heap.size + 1) Z _ ∧ _ by assumption).1
       refine (HI2.out _ (HKD2.out.later (HW.out _ hq) (HW.out _ hq).size)).mono ?_
       rintro e w4 ⟨rfl, hb⟩
       have hB4 := HG.out _ _ hq hb
       clear hb))
   all_goals
    have hh := (show Below (w.heap.size + 1) Z _ ∧ _ by assumption).1
    go_wp2_with fail
    go_ret
    exact ⟨congrArg (fun x : ByteArray => Ending.returned (.string x)) HE.out, HW.out _ hh⟩
set_option maxHeartbeats 4000000 in
theorem sform_sub (s : List UInt8) (n p : Int) (ks : List Node) (A : Option Addr) (cap : Nat) (w : World) (h : NodeAt w w.heap.size (.node [115, 117, 98] s n p ks) A cap) (hB : formB (.node [115, 117, 98] s n p ks) = true) (hN : nodes (.node [115, 117, 98] s n p ks) ≤ 2000) (ih : ∀ k ∈ ks, SFormLaw k) :
  Calls Tryd.prog 11 #[nodeW [115, 117, 98] s n p ks.length A cap] w fun e w' => e = .returned (.string ⟨(formS (.node [115, 117, 98] s n p ks)).toArray⟩) ∧ Below w.heap.size w w' := by
 have HC := Lib.hid h
 have HR := formS_len _ hB
 rw [nodes_node] at hN HR
 have hl := h.len
 obtain ⟨hl1, hl2, _⟩ := hl
 clear h
 have HB0 := Lib.hid (Below.refl (w.heap.size + 1) (w.alloc (boxN [115, 117, 98] s n p ks.length A cap)))
 simp only [nodeW]
 replace hB : formB (.node nSub s n p ks) = true := hB
 rw [formB, if_neg (by decide), if_neg (by decide), if_neg (by decide), if_neg (by decide), if_neg (by decide), if_pos (by decide)] at hB
 simp only [Bool.and_eq_true] at hB
 have hk := (hasB_name hB.1).2.1
 have hb2 := hB.2
 clear hB
 have HF := Lib.hid (show joined ((termSL ks).getD 0 []) nSub ((termSL ks).getD 1 []) = formS (.node [115, 117, 98] s n p ks) by show _ = formS (.node nSub s n p ks); rw [formS, if_neg (by decide), if_neg (by decide), if_neg (by decide), if_neg (by decide), if_neg (by decide), if_neg (by decide)])
 rw [← HF.out] at HR
 generalize formS (.node [115, 117, 98] s n p ks) = V at *
 obtain ⟨y, z, hx⟩ := two_of hk
 have hl0 : 0 < ks.length := by omega
 have hl1' : 1 < ks.length := by omega
 have hi1 : (1 : Int) < (ks.length : Int) := by omega
 obtain ⟨bb, off, A1, cap1, rfl, hlo, hcells, hkid⟩ := HC.out.kid 0 hl0
 obtain ⟨bb2, off2, A2, cap2, he, hlo2, hcells2, hkid2⟩ := HC.out.kid 1 hl1'
 have e1 := congrArg Addr.block (Option.some.inj he)
 have e2 := congrArg Addr.off (Option.some.inj he)
 simp only at e1 e2
 subst e1
 subst e2
 clear he
 have hIH := sterm_any (ks[0]'hl0) A1 cap1
 have hIH2 := sterm_any (ks[1]'hl1') A2 cap2
 have hT0 : termB (ks[0]'hl0) = true := by rw [termsB_all, List.all_eq_true] at hb2; exact hb2 _ (List.getElem_mem hl0)
 have hT1 : termB (ks[1]'hl1') = true := by rw [termsB_all, List.all_eq_true] at hb2; exact hb2 _ (List.getElem_mem hl1')
 have hN0 : nodes (ks[0]'hl0) ≤ 2000 := Nat.le_trans (nodes_kid ks _ (List.getElem_mem hl0)) (by omega)
 have hN1 : nodes (ks[1]'hl1') ≤ 2000 := Nat.le_trans (nodes_kid ks _ (List.getElem_mem hl1')) (by omega)
 have hG : (termSL ks).getD 0 [] = termS (ks[0]'hl0) := by subst hx; simp [termSL]
 have hG2 : (termSL ks).getD 1 [] = termS (ks[1]'hl1') := by subst hx; simp [termSL]
 rw [hG, hG2] at HF HR
 simp only [Nat.zero_mul, Nat.add_zero, Nat.one_mul] at hcells hkid hcells2 hkid2
 clear hG hG2 hb2 ih hx hk
 generalize ks[0]'hl0 = x at *
 generalize ks[1]'hl1' = x2 at *
 have HI := Lib.hid (fun (W : World) (hh : NodeAt W W.heap.size x A1 cap1) => hIH W hh hT0 hN0)
 have HI2 := Lib.hid (fun (W : World) (hh : NodeAt W W.heap.size x2 A2 cap2) => hIH2 W hh hT1 hN1)
 clear hIH hIH2 hT0 hT1 hN0 hN1
 generalize termS x = X at *
 generalize termS x2 = Y at *
 try simp only [List.length_append, List.length_cons, List.length_nil] at HR
 have HJ := Lib.hid (fun (W : World) => joined_any X [115, 117, 98] Y (Or.inr (Or.inr (by decide))) (show (joined X nSub Y).length ≤ 90000000 by omega) W)
 change Hid (∀ W : World, Calls Tryd.prog 27 #[.string ⟨X.toArray⟩, .string ⟨#[115, 117, 98]⟩, .string ⟨Y.toArray⟩] W fun e w' => e = .returned (.string ⟨(joined X nSub Y).toArray⟩) ∧ Below W.heap.size W w') at HJ
 generalize joined X nSub Y = J at *
 have HE := Lib.hid (show (⟨J.toArray⟩ : ByteArray) = ⟨V.toArray⟩ by rw [HF.out])
 cases x with
 | node o1 s1 n1 p1 ks1 =>
 cases x2 with
 | node o2 s2 n2 p2 ks2 =>
   have HKC := Lib.hid (fun (W : World) (hW : Below w.heap.size w W) => kid_cells hlo hcells hW)
   have HKC2 := Lib.hid (fun (W : World) (hW : Below w.heap.size w W) => kid_cells hlo2 hcells2 hW)
   have HKD := Lib.hid hkid
   have HKD2 := Lib.hid hkid2
   clear hcells hkid hcells2 hkid2
   simp only [nodeT, nodeW, Node.op, Node.name, Node.num, Node.pos, Node.kids] at HI HI2
   have HSS := Lib.hid (fun (W : World) (hW : Below (w.heap.size + 1) (w.alloc (boxN [115, 117, 98] s n p ks.length (some ⟨bb, off, none⟩) cap)) W) => (⟨hW, box5 hW, HKC.out W (fresh_w hW), HKC2.out W (fresh_w hW)⟩ : (fun W : World => Below (w.heap.size + 1) (w.alloc (boxN [115, 117, 98] s n p ks.length (some ⟨bb, off, none⟩) cap)) W ∧ (W.cell? ⟨w.heap.size, 0, none⟩ = some (.string ⟨#[115, 117, 98]⟩) ∧ W.cell? ⟨w.heap.size, 1, none⟩ = some (.string ⟨s.toArray⟩) ∧ W.cell? ⟨w.heap.size, 2, none⟩ = some (.int .i64 n) ∧ W.cell? ⟨w.heap.size, 3, none⟩ = some (.int .i64 p) ∧ W.cell? ⟨w.heap.size, 4, none⟩ = some (.slice (some ⟨bb, off, none⟩) ks.length cap)) ∧ (W.cell? ⟨bb, off, none⟩ = some (.string ⟨o1.toArray⟩) ∧ W.cell? ⟨bb, off + 1, none⟩ = some (.string ⟨s1.toArray⟩) ∧ W.cell? ⟨bb, off + 2, none⟩ = some (.int .i64 n1) ∧ W.cell? ⟨bb, off + 3, none⟩ = some (.int .i64 p1) ∧ W.cell? ⟨bb, off + 4, none⟩ = some (.slice A1 ks1.length cap1)) ∧ (W.cell? ⟨bb, off + 5, none⟩ = some (.string ⟨o2.toArray⟩) ∧ W.cell? ⟨bb, off + 5 + 1, none⟩ = some (.string ⟨s2.toArray⟩) ∧ W.cell? ⟨bb, off + 5 + 2, none⟩ = some (.int .i64 n2) ∧ W.cell? ⟨bb, off + 5 + 3, none⟩ = some (.int .i64 p2) ∧ W.cell? ⟨bb, off + 5 + 4, none⟩ = some (.slice A2 ks2.length cap2))) W))
   have HG := Lib.hid (fun (W W' : World) (hW : Below (w.heap.size + 1) (w.alloc (boxN [115, 117, 98] s n p ks.length (some ⟨bb, off, none⟩) cap)) W) (hb : Below W.heap.size W W') => fresh_more hW hb)
   have HW := Lib.hid (fun (W : World) (hW : Below (w.heap.size + 1) (w.alloc (boxN [115, 117, 98] s n p ks.length (some ⟨bb, off, none⟩) cap)) W) => fresh_w hW)
   go_enter Tryd.func11, Tryd.ntmps11
   go_upto_region 19 with fail
   generalize w.alloc _ = Z at *
   go_region_held3 (fun W : World => Below (w.heap.size + 1) Z W ∧ (W.cell? ⟨w.heap.size, 0, none⟩ = some (.string ⟨#[115, 117, 98]⟩) ∧ W.cell? ⟨w.heap.size, 1, none⟩ = some (.string ⟨s.toArray⟩) ∧ W.cell? ⟨w.heap.size, 2, none⟩ = some (.int .i64 n) ∧ W.cell? ⟨w.heap.size, 3, none⟩ = some (.int .i64 p) ∧ W.cell? ⟨w.heap.size, 4, none⟩ = some (.slice (some ⟨bb, off, none⟩) ks.length cap)) ∧ (W.cell? ⟨bb, off, none⟩ = some (.string ⟨o1.toArray⟩) ∧ W.cell? ⟨bb, off + 1, none⟩ = some (.string ⟨s1.toArray⟩) ∧ W.cell? ⟨bb, off + 2, none⟩ = some (.int .i64 n1) ∧ W.cell? ⟨bb, off + 3, none⟩ = some (.int .i64 p1) ∧ W.cell? ⟨bb, off + 4, none⟩ = some (.slice A1 ks1.length cap1)) ∧ (W.cell? ⟨bb, off + 5, none⟩ = some (.string ⟨o2.toArray⟩) ∧ W.cell? ⟨bb, off + 5 + 1, none⟩ = some (.string ⟨s2.toArray⟩) ∧ W.cell? ⟨bb, off + 5 + 2, none⟩ = some (.int .i64 n2) ∧ W.cell? ⟨bb, off + 5 + 3, none⟩ = some (.int .i64 p2) ∧ W.cell? ⟨bb, off + 5 + 4, none⟩ = some (.slice A2 ks2.length cap2))) (first | assumption | exact HSS.out _ hB4 | exact HSS.out _ HB0.out.drew | exact HSS.out _ HB0.out) (first
    | (go_at_call 27
       have hq : Below (w.heap.size + 1) Z _ := (show Below (w.heap.size + 1) Z _ ∧ _ by assumption).1
       refine (HJ.out _).mono ?_
       rintro e w4 ⟨rfl, hb⟩
       have hB4 := HG.out _ _ hq hb
       clear hb)
    | (go_at_call_of 13 (Value.agg #[Value.string ⟨o1.toArray⟩, Value.string ⟨s1.toArray⟩, Value.int .i64 n1, Value.int .i64 p1, Value.slice A1 ks1.length cap1])
       have hq : Below (w.heap.size + 1) Z _ := (show Below (w.heap.size + 1) Z _ ∧ _ by assumption).1
       refine (HI.out _ (HKD.out.later (HW.out _ hq) (HW.out _ hq).size)).mono ?_
       rintro e w4 ⟨rfl, hb⟩
       have hB4 := HG.out _ _ hq hb
       clear hb)
    | (go_at_call_of 13 (Value.agg #[Value.string ⟨o2.toArray⟩, Value.string ⟨s2.toArray⟩, Value.int .i64 n2, Value.int .i64 p2, Value.slice A2 ks2.length cap2])
       have hq : Below (w.heap.size + 1) Z _ := (show Below (w.heap.size + 1) Z _ ∧ _ by assumption).1
       refine (HI2.out _ (HKD2.out.later (HW.out _ hq) (HW.out _ hq).size)).mono ?_
       rintro e w4 ⟨rfl, hb⟩
       have hB4 := HG.out _ _ hq hb
       clear hb))
   all_goals
    have hh := (show Below (w.heap.size + 1) Z _ ∧ _ by assumption).1
    go_wp2_with fail
    go_ret
    exact ⟨congrArg (fun x : ByteArray => Ending.returned (.string x)) HE.out, HW.out _ hh⟩
set_option maxHeartbeats 4000000 in
theorem sform_ex (s : List UInt8) (n p : Int) (ks : List Node) (A : Option Addr) (cap : Nat) (w : World) (h : NodeAt w w.heap.size (.node [101, 120] s n p ks) A cap) (hB : formB (.node [101, 120] s n p ks) = true) (hN : nodes (.node [101, 120] s n p ks) ≤ 2000) (ih : ∀ k ∈ ks, SFormLaw k) :
  Calls Tryd.prog 11 #[nodeW [101, 120] s n p ks.length A cap] w fun e w' => e = .returned (.string ⟨(formS (.node [101, 120] s n p ks)).toArray⟩) ∧ Below w.heap.size w w' := by
 have HC := Lib.hid h
 have HR := formS_len _ hB
 rw [nodes_node] at hN HR
 have hl := h.len
 obtain ⟨hl1, hl2, _⟩ := hl
 clear h
 have HB0 := Lib.hid (Below.refl (w.heap.size + 1) (w.alloc (boxN [101, 120] s n p ks.length A cap)))
 simp only [nodeW]
 replace hB : formB (.node nEx s n p ks) = true := hB
 rw [formB, if_neg (by decide), if_neg (by decide), if_neg (by decide), if_pos (by decide)] at hB
 simp only [Bool.and_eq_true, decide_eq_true_eq] at hB
 have hn : 0 ≤ n ∧ n ≤ 2 := ⟨hB.1.1.2, hB.1.2⟩
 have hk := (hasB_name hB.1.1.1).2.1
 have hb2 := hB.2
 clear hB
 have HF := Lib.hid (show [40] ++ [101, 120] ++ dig n.toNat ++ [32] ++ s ++ [58, 32] ++ (formSL ks).getD 0 [] ++ [41] = formS (.node [101, 120] s n p ks) by show _ = formS (.node nEx s n p ks); rw [formS, if_neg (by decide), if_neg (by decide), if_neg (by decide), if_pos (by decide)]; rfl)
 rw [← HF.out] at HR
 simp only [List.length_append, List.length_cons, List.length_nil] at HR
 generalize formS (.node [101, 120] s n p ks) = V at *
 have HD := Lib.hid (fun (W : World) => itoa_any n.toNat (by omega) W)
 rw [show ((n.toNat : Nat) : Int) = n by omega] at HD
 generalize dig n.toNat = D at *
 obtain ⟨y, hx⟩ : ∃ y, ks = [y] := by
  match ks, hk with
  | [a], _ => exact ⟨a, rfl⟩
 have hl0 : 0 < ks.length := by omega
 obtain ⟨bb, off, A1, cap1, rfl, hlo, hcells, hkid⟩ := HC.out.kid 0 hl0
 have hIH := ih (ks[0]'hl0) (List.getElem_mem hl0) A1 cap1
 have hT0 : formB (ks[0]'hl0) = true := by rw [formsB_all, List.all_eq_true] at hb2; exact hb2 _ (List.getElem_mem hl0)
 have hN0 : nodes (ks[0]'hl0) ≤ 2000 := Nat.le_trans (nodes_kid ks _ (List.getElem_mem hl0)) (by omega)
 have hG : (formSL ks).getD 0 [] = formS (ks[0]'hl0) := by subst hx; simp [formSL]
 rw [hG] at HF HR
 simp only [Nat.zero_mul, Nat.add_zero] at hcells hkid
 clear hG hb2 ih hx hk
 generalize ks[0]'hl0 = x at *
 have HI := Lib.hid (fun (W : World) (hh : NodeAt W W.heap.size x A1 cap1) => hIH W hh hT0 hN0)
 clear hIH hT0 hN0
 generalize formS x = X at *
 obtain ⟨T1, hadd1, hT1⟩ := add_ex ⟨#[40]⟩ ⟨#[101, 120]⟩ (X := [40]) (Y := [101, 120]) rfl rfl (by simp only [List.length_cons, List.length_nil]; omega)
 obtain ⟨T2, hadd2, hT2⟩ := add_ex T1 ⟨D.toArray⟩ (Y := D) hT1 rfl (by simp only [List.length_append, List.length_cons, List.length_nil]; omega)
 obtain ⟨T3, hadd3, hT3⟩ := add_ex T2 ⟨#[32]⟩ (Y := [32]) hT2 rfl (by simp only [List.length_append, List.length_cons, List.length_nil]; omega)
 obtain ⟨T4, hadd4, hT4⟩ := add_ex T3 ⟨s.toArray⟩ (Y := s) hT3 rfl (by simp only [List.length_append, List.length_cons, List.length_nil]; omega)
 obtain ⟨T5, hadd5, hT5⟩ := add_ex T4 ⟨#[58, 32]⟩ (Y := [58, 32]) hT4 rfl (by simp only [List.length_append, List.length_cons, List.length_nil]; omega)
 obtain ⟨T6, hadd6, hT6⟩ := add_ex T5 ⟨X.toArray⟩ (Y := X) hT5 rfl (by simp only [List.length_append, List.length_cons, List.length_nil]; omega)
 obtain ⟨T7, hadd7, hT7⟩ := add_ex T6 ⟨#[41]⟩ (Y := [41]) hT6 rfl (by simp only [List.length_append, List.length_cons, List.length_nil]; omega)
 have HE := Lib.hid (show T7 = ⟨V.toArray⟩ from bytes_of (hT7.trans (by rw [← HF.out]; try simp only [List.append_assoc])))
 clear hT1 hT2 hT3 hT4 hT5 hT6 hT7
 cases x with
 | node o1 s1 n1 p1 ks1 =>
   have HKC := Lib.hid (fun (W : World) (hW : Below w.heap.size w W) => kid_cells hlo hcells hW)
   have HKD := Lib.hid hkid
   clear hcells hkid
   simp only [nodeT, nodeW, Node.op, Node.name, Node.num, Node.pos, Node.kids] at HI
   have HSS := Lib.hid (fun (W : World) (hW : Below (w.heap.size + 1) (w.alloc (boxN [101, 120] s n p ks.length (some ⟨bb, off, none⟩) cap)) W) => (⟨hW, box5 hW, HKC.out W (fresh_w hW)⟩ : (fun W : World => Below (w.heap.size + 1) (w.alloc (boxN [101, 120] s n p ks.length (some ⟨bb, off, none⟩) cap)) W ∧ (W.cell? ⟨w.heap.size, 0, none⟩ = some (.string ⟨#[101, 120]⟩) ∧ W.cell? ⟨w.heap.size, 1, none⟩ = some (.string ⟨s.toArray⟩) ∧ W.cell? ⟨w.heap.size, 2, none⟩ = some (.int .i64 n) ∧ W.cell? ⟨w.heap.size, 3, none⟩ = some (.int .i64 p) ∧ W.cell? ⟨w.heap.size, 4, none⟩ = some (.slice (some ⟨bb, off, none⟩) ks.length cap)) ∧ (W.cell? ⟨bb, off, none⟩ = some (.string ⟨o1.toArray⟩) ∧ W.cell? ⟨bb, off + 1, none⟩ = some (.string ⟨s1.toArray⟩) ∧ W.cell? ⟨bb, off + 2, none⟩ = some (.int .i64 n1) ∧ W.cell? ⟨bb, off + 3, none⟩ = some (.int .i64 p1) ∧ W.cell? ⟨bb, off + 4, none⟩ = some (.slice A1 ks1.length cap1))) W))
   have HG := Lib.hid (fun (W W' : World) (hW : Below (w.heap.size + 1) (w.alloc (boxN [101, 120] s n p ks.length (some ⟨bb, off, none⟩) cap)) W) (hb : Below W.heap.size W W') => fresh_more hW hb)
   have HW := Lib.hid (fun (W : World) (hW : Below (w.heap.size + 1) (w.alloc (boxN [101, 120] s n p ks.length (some ⟨bb, off, none⟩) cap)) W) => fresh_w hW)
   go_enter Tryd.func11, Tryd.ntmps11
   go_upto_region 14 with fail
   generalize w.alloc _ = Z at *
   go_region_held3 (fun W : World => Below (w.heap.size + 1) Z W ∧ (W.cell? ⟨w.heap.size, 0, none⟩ = some (.string ⟨#[101, 120]⟩) ∧ W.cell? ⟨w.heap.size, 1, none⟩ = some (.string ⟨s.toArray⟩) ∧ W.cell? ⟨w.heap.size, 2, none⟩ = some (.int .i64 n) ∧ W.cell? ⟨w.heap.size, 3, none⟩ = some (.int .i64 p) ∧ W.cell? ⟨w.heap.size, 4, none⟩ = some (.slice (some ⟨bb, off, none⟩) ks.length cap)) ∧ (W.cell? ⟨bb, off, none⟩ = some (.string ⟨o1.toArray⟩) ∧ W.cell? ⟨bb, off + 1, none⟩ = some (.string ⟨s1.toArray⟩) ∧ W.cell? ⟨bb, off + 2, none⟩ = some (.int .i64 n1) ∧ W.cell? ⟨bb, off + 3, none⟩ = some (.int .i64 p1) ∧ W.cell? ⟨bb, off + 4, none⟩ = some (.slice A1 ks1.length cap1))) (first | assumption | exact HSS.out _ hB4 | exact HSS.out _ HB0.out.drew | exact HSS.out _ HB0.out) (first
    | (go_at_call_of 11 (Value.agg #[Value.string ⟨o1.toArray⟩, Value.string ⟨s1.toArray⟩, Value.int .i64 n1, Value.int .i64 p1, Value.slice A1 ks1.length cap1])
       have hq : Below (w.heap.size + 1) Z _ := (show Below (w.heap.size + 1) Z _ ∧ _ by assumption).1
       refine (HI.out _ (HKD.out.later (HW.out _ hq) (HW.out _ hq).size)).mono ?_
       rintro e w4 ⟨rfl, hb⟩
       have hB4 := HG.out _ _ hq hb
       clear hb)
    | (go_at_call 28
       refine (HD.out _).mono ?_
       rintro e w4 ⟨rfl, rfl⟩))
   all_goals
    have hh := (show Below (w.heap.size + 1) Z _ ∧ _ by assumption).1
    go_wp2_with fail
    go_ret
    exact ⟨congrArg (fun x : ByteArray => Ending.returned (.string x)) HE.out, HW.out _ hh⟩
set_option maxHeartbeats 4000000 in
theorem sform_all (s : List UInt8) (n p : Int) (ks : List Node) (A : Option Addr) (cap : Nat) (w : World) (h : NodeAt w w.heap.size (.node [97, 108, 108] s n p ks) A cap) (hB : formB (.node [97, 108, 108] s n p ks) = true) (hN : nodes (.node [97, 108, 108] s n p ks) ≤ 2000) (ih : ∀ k ∈ ks, SFormLaw k) :
  Calls Tryd.prog 11 #[nodeW [97, 108, 108] s n p ks.length A cap] w fun e w' => e = .returned (.string ⟨(formS (.node [97, 108, 108] s n p ks)).toArray⟩) ∧ Below w.heap.size w w' := by
 have HC := Lib.hid h
 have HR := formS_len _ hB
 rw [nodes_node] at hN HR
 have hl := h.len
 obtain ⟨hl1, hl2, _⟩ := hl
 clear h
 have HB0 := Lib.hid (Below.refl (w.heap.size + 1) (w.alloc (boxN [97, 108, 108] s n p ks.length A cap)))
 simp only [nodeW]
 replace hB : formB (.node nAll s n p ks) = true := hB
 rw [formB, if_neg (by decide), if_neg (by decide), if_neg (by decide), if_pos (by decide)] at hB
 simp only [Bool.and_eq_true, decide_eq_true_eq] at hB
 have hn : 0 ≤ n ∧ n ≤ 2 := ⟨hB.1.1.2, hB.1.2⟩
 have hk := (hasB_name hB.1.1.1).2.1
 have hb2 := hB.2
 clear hB
 have HF := Lib.hid (show [40] ++ [97, 108, 108] ++ dig n.toNat ++ [32] ++ s ++ [58, 32] ++ (formSL ks).getD 0 [] ++ [41] = formS (.node [97, 108, 108] s n p ks) by show _ = formS (.node nAll s n p ks); rw [formS, if_neg (by decide), if_neg (by decide), if_neg (by decide), if_pos (by decide)]; rfl)
 rw [← HF.out] at HR
 simp only [List.length_append, List.length_cons, List.length_nil] at HR
 generalize formS (.node [97, 108, 108] s n p ks) = V at *
 have HD := Lib.hid (fun (W : World) => itoa_any n.toNat (by omega) W)
 rw [show ((n.toNat : Nat) : Int) = n by omega] at HD
 generalize dig n.toNat = D at *
 obtain ⟨y, hx⟩ : ∃ y, ks = [y] := by
  match ks, hk with
  | [a], _ => exact ⟨a, rfl⟩
 have hl0 : 0 < ks.length := by omega
 obtain ⟨bb, off, A1, cap1, rfl, hlo, hcells, hkid⟩ := HC.out.kid 0 hl0
 have hIH := ih (ks[0]'hl0) (List.getElem_mem hl0) A1 cap1
 have hT0 : formB (ks[0]'hl0) = true := by rw [formsB_all, List.all_eq_true] at hb2; exact hb2 _ (List.getElem_mem hl0)
 have hN0 : nodes (ks[0]'hl0) ≤ 2000 := Nat.le_trans (nodes_kid ks _ (List.getElem_mem hl0)) (by omega)
 have hG : (formSL ks).getD 0 [] = formS (ks[0]'hl0) := by subst hx; simp [formSL]
 rw [hG] at HF HR
 simp only [Nat.zero_mul, Nat.add_zero] at hcells hkid
 clear hG hb2 ih hx hk
 generalize ks[0]'hl0 = x at *
 have HI := Lib.hid (fun (W : World) (hh : NodeAt W W.heap.size x A1 cap1) => hIH W hh hT0 hN0)
 clear hIH hT0 hN0
 generalize formS x = X at *
 obtain ⟨T1, hadd1, hT1⟩ := add_ex ⟨#[40]⟩ ⟨#[97, 108, 108]⟩ (X := [40]) (Y := [97, 108, 108]) rfl rfl (by simp only [List.length_cons, List.length_nil]; omega)
 obtain ⟨T2, hadd2, hT2⟩ := add_ex T1 ⟨D.toArray⟩ (Y := D) hT1 rfl (by simp only [List.length_append, List.length_cons, List.length_nil]; omega)
 obtain ⟨T3, hadd3, hT3⟩ := add_ex T2 ⟨#[32]⟩ (Y := [32]) hT2 rfl (by simp only [List.length_append, List.length_cons, List.length_nil]; omega)
 obtain ⟨T4, hadd4, hT4⟩ := add_ex T3 ⟨s.toArray⟩ (Y := s) hT3 rfl (by simp only [List.length_append, List.length_cons, List.length_nil]; omega)
 obtain ⟨T5, hadd5, hT5⟩ := add_ex T4 ⟨#[58, 32]⟩ (Y := [58, 32]) hT4 rfl (by simp only [List.length_append, List.length_cons, List.length_nil]; omega)
 obtain ⟨T6, hadd6, hT6⟩ := add_ex T5 ⟨X.toArray⟩ (Y := X) hT5 rfl (by simp only [List.length_append, List.length_cons, List.length_nil]; omega)
 obtain ⟨T7, hadd7, hT7⟩ := add_ex T6 ⟨#[41]⟩ (Y := [41]) hT6 rfl (by simp only [List.length_append, List.length_cons, List.length_nil]; omega)
 have HE := Lib.hid (show T7 = ⟨V.toArray⟩ from bytes_of (hT7.trans (by rw [← HF.out]; try simp only [List.append_assoc])))
 clear hT1 hT2 hT3 hT4 hT5 hT6 hT7
 cases x with
 | node o1 s1 n1 p1 ks1 =>
   have HKC := Lib.hid (fun (W : World) (hW : Below w.heap.size w W) => kid_cells hlo hcells hW)
   have HKD := Lib.hid hkid
   clear hcells hkid
   simp only [nodeT, nodeW, Node.op, Node.name, Node.num, Node.pos, Node.kids] at HI
   have HSS := Lib.hid (fun (W : World) (hW : Below (w.heap.size + 1) (w.alloc (boxN [97, 108, 108] s n p ks.length (some ⟨bb, off, none⟩) cap)) W) => (⟨hW, box5 hW, HKC.out W (fresh_w hW)⟩ : (fun W : World => Below (w.heap.size + 1) (w.alloc (boxN [97, 108, 108] s n p ks.length (some ⟨bb, off, none⟩) cap)) W ∧ (W.cell? ⟨w.heap.size, 0, none⟩ = some (.string ⟨#[97, 108, 108]⟩) ∧ W.cell? ⟨w.heap.size, 1, none⟩ = some (.string ⟨s.toArray⟩) ∧ W.cell? ⟨w.heap.size, 2, none⟩ = some (.int .i64 n) ∧ W.cell? ⟨w.heap.size, 3, none⟩ = some (.int .i64 p) ∧ W.cell? ⟨w.heap.size, 4, none⟩ = some (.slice (some ⟨bb, off, none⟩) ks.length cap)) ∧ (W.cell? ⟨bb, off, none⟩ = some (.string ⟨o1.toArray⟩) ∧ W.cell? ⟨bb, off + 1, none⟩ = some (.string ⟨s1.toArray⟩) ∧ W.cell? ⟨bb, off + 2, none⟩ = some (.int .i64 n1) ∧ W.cell? ⟨bb, off + 3, none⟩ = some (.int .i64 p1) ∧ W.cell? ⟨bb, off + 4, none⟩ = some (.slice A1 ks1.length cap1))) W))
   have HG := Lib.hid (fun (W W' : World) (hW : Below (w.heap.size + 1) (w.alloc (boxN [97, 108, 108] s n p ks.length (some ⟨bb, off, none⟩) cap)) W) (hb : Below W.heap.size W W') => fresh_more hW hb)
   have HW := Lib.hid (fun (W : World) (hW : Below (w.heap.size + 1) (w.alloc (boxN [97, 108, 108] s n p ks.length (some ⟨bb, off, none⟩) cap)) W) => fresh_w hW)
   go_enter Tryd.func11, Tryd.ntmps11
   go_upto_region 14 with fail
   generalize w.alloc _ = Z at *
   go_region_held3 (fun W : World => Below (w.heap.size + 1) Z W ∧ (W.cell? ⟨w.heap.size, 0, none⟩ = some (.string ⟨#[97, 108, 108]⟩) ∧ W.cell? ⟨w.heap.size, 1, none⟩ = some (.string ⟨s.toArray⟩) ∧ W.cell? ⟨w.heap.size, 2, none⟩ = some (.int .i64 n) ∧ W.cell? ⟨w.heap.size, 3, none⟩ = some (.int .i64 p) ∧ W.cell? ⟨w.heap.size, 4, none⟩ = some (.slice (some ⟨bb, off, none⟩) ks.length cap)) ∧ (W.cell? ⟨bb, off, none⟩ = some (.string ⟨o1.toArray⟩) ∧ W.cell? ⟨bb, off + 1, none⟩ = some (.string ⟨s1.toArray⟩) ∧ W.cell? ⟨bb, off + 2, none⟩ = some (.int .i64 n1) ∧ W.cell? ⟨bb, off + 3, none⟩ = some (.int .i64 p1) ∧ W.cell? ⟨bb, off + 4, none⟩ = some (.slice A1 ks1.length cap1))) (first | assumption | exact HSS.out _ hB4 | exact HSS.out _ HB0.out.drew | exact HSS.out _ HB0.out) (first
    | (go_at_call_of 11 (Value.agg #[Value.string ⟨o1.toArray⟩, Value.string ⟨s1.toArray⟩, Value.int .i64 n1, Value.int .i64 p1, Value.slice A1 ks1.length cap1])
       have hq : Below (w.heap.size + 1) Z _ := (show Below (w.heap.size + 1) Z _ ∧ _ by assumption).1
       refine (HI.out _ (HKD.out.later (HW.out _ hq) (HW.out _ hq).size)).mono ?_
       rintro e w4 ⟨rfl, hb⟩
       have hB4 := HG.out _ _ hq hb
       clear hb)
    | (go_at_call 28
       refine (HD.out _).mono ?_
       rintro e w4 ⟨rfl, rfl⟩))
   all_goals
    have hh := (show Below (w.heap.size + 1) Z _ ∧ _ by assumption).1
    go_wp2_with fail
    go_ret
    exact ⟨congrArg (fun x : ByteArray => Ending.returned (.string x)) HE.out, HW.out _ hh⟩
set_option maxHeartbeats 4000000 in
theorem sform_call (s : List UInt8) (n p : Int) (ks : List Node) (A : Option Addr) (cap : Nat) (w : World) (h : NodeAt w w.heap.size (.node [99, 97, 108, 108] s n p ks) A cap) (hB : formB (.node [99, 97, 108, 108] s n p ks) = true) (hN : nodes (.node [99, 97, 108, 108] s n p ks) ≤ 2000) (_ih : ∀ k ∈ ks, SFormLaw k) :
  Calls Tryd.prog 11 #[nodeW [99, 97, 108, 108] s n p ks.length A cap] w fun e w' => e = .returned (.string ⟨(formS (.node [99, 97, 108, 108] s n p ks)).toArray⟩) ∧ Below w.heap.size w w' := by
 have HC := Lib.hid h
 have HR := formS_len _ hB
 rw [nodes_node] at hN HR
 have hl := h.len
 obtain ⟨hl1, hl2, _⟩ := hl
 clear h
 have HB0 := Lib.hid (Below.refl (w.heap.size + 1) (w.alloc (boxN [99, 97, 108, 108] s n p ks.length A cap)))
 simp only [nodeW]
 replace hB : formB (.node nCall s n p ks) = true := hB
 rw [formB, if_neg (by decide), if_neg (by decide), if_neg (by decide), if_neg (by decide), if_neg (by decide), if_neg (by decide), if_pos rfl] at hB
 simp only [Bool.and_eq_true, decide_eq_true_eq] at hB
 have HF := Lib.hid (show s ++ [40] ++ commas (termSL ks) ++ [41] = formS (.node [99, 97, 108, 108] s n p ks) by show _ = formS (.node nCall s n p ks); rw [formS, if_neg (by decide), if_neg (by decide), if_neg (by decide), if_neg (by decide), if_neg (by decide), if_pos rfl])
 have HD := Lib.hid (fun (W : World) hW => slist_any [99, 97, 108, 108] s n p ks A cap W hW (fun k _ => sterm_any k) hB.2 (by omega))
 rw [← HF.out] at HR
 simp only [List.length_append, List.length_cons, List.length_nil] at HR
 generalize formS (.node [99, 97, 108, 108] s n p ks) = V at *
 clear hB _ih
 generalize commas (termSL ks) = D at *
 obtain ⟨T1, hadd1, hT1⟩ := add_ex ⟨s.toArray⟩ ⟨#[40]⟩ (X := s) (Y := [40]) rfl rfl (by simp only [List.length_cons, List.length_nil]; omega)
 obtain ⟨T2, hadd2, hT2⟩ := add_ex T1 ⟨D.toArray⟩ (Y := D) hT1 rfl (by simp only [List.length_append, List.length_cons, List.length_nil]; omega)
 obtain ⟨T3, hadd3, hT3⟩ := add_ex T2 ⟨#[41]⟩ (Y := [41]) hT2 rfl (by simp only [List.length_append, List.length_cons, List.length_nil]; omega)
 have HE := Lib.hid (show T3 = ⟨V.toArray⟩ from bytes_of (hT3.trans (by rw [← HF.out]; try simp only [List.append_assoc])))
 clear hT1 hT2 hT3
 have hTR : True := trivial
 cases hTR with
 | intro =>
   have HSS := Lib.hid (fun (W : World) (hW : Below (w.heap.size + 1) (w.alloc (boxN [99, 97, 108, 108] s n p ks.length A cap)) W) => (⟨hW, box5 hW⟩ : (fun W : World => Below (w.heap.size + 1) (w.alloc (boxN [99, 97, 108, 108] s n p ks.length A cap)) W ∧ (W.cell? ⟨w.heap.size, 0, none⟩ = some (.string ⟨#[99, 97, 108, 108]⟩) ∧ W.cell? ⟨w.heap.size, 1, none⟩ = some (.string ⟨s.toArray⟩) ∧ W.cell? ⟨w.heap.size, 2, none⟩ = some (.int .i64 n) ∧ W.cell? ⟨w.heap.size, 3, none⟩ = some (.int .i64 p) ∧ W.cell? ⟨w.heap.size, 4, none⟩ = some (.slice A ks.length cap))) W))
   have HG := Lib.hid (fun (W W' : World) (hW : Below (w.heap.size + 1) (w.alloc (boxN [99, 97, 108, 108] s n p ks.length A cap)) W) (hb : Below W.heap.size W W') => fresh_more hW hb)
   have HW := Lib.hid (fun (W : World) (hW : Below (w.heap.size + 1) (w.alloc (boxN [99, 97, 108, 108] s n p ks.length A cap)) W) => fresh_w hW)
   go_enter Tryd.func11, Tryd.ntmps11
   go_upto_region 18 with fail
   generalize w.alloc _ = Z at *
   go_region_held3 (fun W : World => Below (w.heap.size + 1) Z W ∧ (W.cell? ⟨w.heap.size, 0, none⟩ = some (.string ⟨#[99, 97, 108, 108]⟩) ∧ W.cell? ⟨w.heap.size, 1, none⟩ = some (.string ⟨s.toArray⟩) ∧ W.cell? ⟨w.heap.size, 2, none⟩ = some (.int .i64 n) ∧ W.cell? ⟨w.heap.size, 3, none⟩ = some (.int .i64 p) ∧ W.cell? ⟨w.heap.size, 4, none⟩ = some (.slice A ks.length cap))) (first | assumption | exact HSS.out _ hB4 | exact HSS.out _ HB0.out.drew | exact HSS.out _ HB0.out) (first
    | (go_at_call 29
       have hq : Below (w.heap.size + 1) Z _ := (show Below (w.heap.size + 1) Z _ ∧ _ by assumption).1
       refine (HD.out _ (HC.out.later (HW.out _ hq) (HW.out _ hq).size)).mono ?_
       rintro e w4 ⟨rfl, hb⟩
       have hB4 := HG.out _ _ hq hb
       clear hb))
   all_goals
    have hh := (show Below (w.heap.size + 1) Z _ ∧ _ by assumption).1
    go_wp2_with fail
    go_ret
    exact ⟨congrArg (fun x : ByteArray => Ending.returned (.string x)) HE.out, HW.out _ hh⟩
theorem sform_any : ∀ t : Node, SFormLaw t := by
 intro t
 induction t using Node.ind with
 | h o s n p ks ih =>
   intro A cap w h hB hN
   show Calls Tryd.prog 11 #[nodeW o s n p ks.length A cap] w _
   by_cases htrue : o = nTrue
   · subst htrue
     exact sform_true s n p ks A cap w h hB hN ih
   by_cases hfalse : o = nFalse
   · subst hfalse
     exact sform_false s n p ks A cap w h hB hN ih
   by_cases hnot : o = nNot
   · subst hnot
     exact sform_not s n p ks A cap w h hB hN ih
   by_cases hand : o = nAnd
   · subst hand
     exact sform_and s n p ks A cap w h hB hN ih
   by_cases hor : o = nOr
   · subst hor
     exact sform_or s n p ks A cap w h hB hN ih
   by_cases himp : o = nImp
   · subst himp
     exact sform_imp s n p ks A cap w h hB hN ih
   by_cases hiff : o = nIff
   · subst hiff
     exact sform_iff s n p ks A cap w h hB hN ih
   by_cases hex : o = nEx
   · subst hex
     exact sform_ex s n p ks A cap w h hB hN ih
   by_cases hall : o = nAll
   · subst hall
     exact sform_all s n p ks A cap w h hB hN ih
   by_cases his : o = nIs
   · subst his
     exact sform_is s n p ks A cap w h hB hN ih
   by_cases hcall : o = nCall
   · subst hcall
     exact sform_call s n p ks A cap w h hB hN ih
   by_cases heq : o = nEq
   · subst heq
     exact sform_eq s n p ks A cap w h hB hN ih
   by_cases hne : o = nNe
   · subst hne
     exact sform_ne s n p ks A cap w h hB hN ih
   by_cases hlt : o = nLt
   · subst hlt
     exact sform_lt s n p ks A cap w h hB hN ih
   by_cases hle : o = nLe
   · subst hle
     exact sform_le s n p ks A cap w h hB hN ih
   by_cases hin : o = nIn
   · subst hin
     exact sform_in s n p ks A cap w h hB hN ih
   by_cases hnotin : o = nNotin
   · subst hnotin
     exact sform_notin s n p ks A cap w h hB hN ih
   by_cases hsub : o = nSub
   · subst hsub
     exact sform_sub s n p ks A cap w h hB hN ih
   exact absurd hB (by
    rw [formB]
    simp [binOp, relOp, htrue, hfalse, hnot, hand, hor, himp, hiff, hex, hall, his, hcall, heq, hne, hlt, hle, hin, hnotin, hsub])
end Go.Proofs.YteikakoheibnjaaDoor
