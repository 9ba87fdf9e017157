/- Parts of the proof: Form. -/
import Derived.Test.YteikakoheibnjaaDoorQ4
namespace Go.Proofs.YteikakoheibnjaaDoor
open Go Go.RowKit

set_option maxHeartbeats 2000000 in
theorem form_true (s : List UInt8) (n p : Int) (ks : List Node) (A : Option Addr) (cap : Nat) (w : World) (h : NodeAt w w.heap.size (.node [116, 114, 117, 101] s n p ks) A cap) (hT : Tab8 w) (ih : ∀ k ∈ ks, FormLaw k) :
  Calls Tryd.prog 25 #[nodeW [116, 114, 117, 101] s n p ks.length A cap] w fun e w' => e = .returned (.bool (formB (.node [116, 114, 117, 101] s n p ks))) ∧ Below w.heap.size w w' := by
 have HC := Lib.hid h
 have IH := Lib.hid ih
 have HT := Lib.hid (fun (W : World) (hW : Below w.heap.size w W) => Go.Proofs.Utf8Tabs_below hT hW)
 have hl := h.len
 obtain ⟨hl1, hl2, _⟩ := hl
 clear h ih hT
 have HH := Lib.hid (fun k nm nu W hW ht => has_any (.node [116, 114, 117, 101] s n p ks) A cap k nm nu W hW ht)
 simp only [nodeT, Node.op, Node.name, Node.num, Node.pos, Node.kids] at HH
 have HB0 := Lib.hid (Below.refl (w.heap.size + 1) (w.alloc (boxN [116, 114, 117, 101] s n p ks.length A cap)))
 simp only [nodeW] at HH ⊢
 have HV := Lib.hid (show formB (.node [116, 114, 117, 101] s n p ks) = (hasB ks.length s n 0 false false) by show formB (.node nTrue s n p ks) = _; rw [formB, if_pos (by decide)])
 have HX := Lib.hid (HH.out 0 false false)
 have HF := Lib.hid HV.out.symm
 clear HH IH HV
 generalize formB (.node [116, 114, 117, 101] s n p ks) = V at *
 generalize hasB ks.length s n 0 false false = H at *
 go_enter Tryd.func25, Tryd.ntmps25
 go_wp2_with (first
  | (go_at_call 58
     refine (HX.out _ (HC.out.later (fresh_w HB0.out) (fresh_w HB0.out).size) (HT.out _ (fresh_w HB0.out))).mono ?_
     rintro e w2 ⟨rfl, hb⟩
     have HB1 := Lib.hid (fresh_more HB0.out hb)
     obtain ⟨c0, c1, c2, c3, c4⟩ := box5 HB1.out
     clear hb))
 all_goals
  go_ret
  exact ⟨congrArg (fun x : Bool => Ending.returned (.bool x)) HF.out, fresh_w HB1.out⟩
set_option maxHeartbeats 2000000 in
theorem form_false (s : List UInt8) (n p : Int) (ks : List Node) (A : Option Addr) (cap : Nat) (w : World) (h : NodeAt w w.heap.size (.node [102, 97, 108, 115, 101] s n p ks) A cap) (hT : Tab8 w) (ih : ∀ k ∈ ks, FormLaw k) :
  Calls Tryd.prog 25 #[nodeW [102, 97, 108, 115, 101] s n p ks.length A cap] w fun e w' => e = .returned (.bool (formB (.node [102, 97, 108, 115, 101] s n p ks))) ∧ Below w.heap.size w w' := by
 have HC := Lib.hid h
 have IH := Lib.hid ih
 have HT := Lib.hid (fun (W : World) (hW : Below w.heap.size w W) => Go.Proofs.Utf8Tabs_below hT hW)
 have hl := h.len
 obtain ⟨hl1, hl2, _⟩ := hl
 clear h ih hT
 have HH := Lib.hid (fun k nm nu W hW ht => has_any (.node [102, 97, 108, 115, 101] s n p ks) A cap k nm nu W hW ht)
 simp only [nodeT, Node.op, Node.name, Node.num, Node.pos, Node.kids] at HH
 have HB0 := Lib.hid (Below.refl (w.heap.size + 1) (w.alloc (boxN [102, 97, 108, 115, 101] s n p ks.length A cap)))
 simp only [nodeW] at HH ⊢
 have HV := Lib.hid (show formB (.node [102, 97, 108, 115, 101] s n p ks) = (hasB ks.length s n 0 false false) by show formB (.node nFalse s n p ks) = _; rw [formB, if_pos (by decide)])
 have HX := Lib.hid (HH.out 0 false false)
 have HF := Lib.hid HV.out.symm
 clear HH IH HV
 generalize formB (.node [102, 97, 108, 115, 101] s n p ks) = V at *
 generalize hasB ks.length s n 0 false false = H at *
 go_enter Tryd.func25, Tryd.ntmps25
 go_wp2_with (first
  | (go_at_call 58
     refine (HX.out _ (HC.out.later (fresh_w HB0.out) (fresh_w HB0.out).size) (HT.out _ (fresh_w HB0.out))).mono ?_
     rintro e w2 ⟨rfl, hb⟩
     have HB1 := Lib.hid (fresh_more HB0.out hb)
     obtain ⟨c0, c1, c2, c3, c4⟩ := box5 HB1.out
     clear hb))
 all_goals
  go_ret
  exact ⟨congrArg (fun x : Bool => Ending.returned (.bool x)) HF.out, fresh_w HB1.out⟩
set_option maxHeartbeats 2000000 in
theorem form_not (s : List UInt8) (n p : Int) (ks : List Node) (A : Option Addr) (cap : Nat) (w : World) (h : NodeAt w w.heap.size (.node [110, 111, 116] s n p ks) A cap) (hT : Tab8 w) (ih : ∀ k ∈ ks, FormLaw k) :
  Calls Tryd.prog 25 #[nodeW [110, 111, 116] s n p ks.length A cap] w fun e w' => e = .returned (.bool (formB (.node [110, 111, 116] s n p ks))) ∧ Below w.heap.size w w' := by
 have HC := Lib.hid h
 have IH := Lib.hid ih
 have HT := Lib.hid (fun (W : World) (hW : Below w.heap.size w W) => Go.Proofs.Utf8Tabs_below hT hW)
 have hl := h.len
 obtain ⟨hl1, hl2, _⟩ := hl
 clear h ih hT
 have HH := Lib.hid (fun k nm nu W hW ht => has_any (.node [110, 111, 116] s n p ks) A cap k nm nu W hW ht)
 simp only [nodeT, Node.op, Node.name, Node.num, Node.pos, Node.kids] at HH
 have HB0 := Lib.hid (Below.refl (w.heap.size + 1) (w.alloc (boxN [110, 111, 116] s n p ks.length A cap)))
 simp only [nodeW] at HH ⊢
 have HV := Lib.hid (show formB (.node [110, 111, 116] s n p ks) = (hasB ks.length s n 1 false false && formsB ks) by show formB (.node nNot s n p ks) = _; rw [formB, if_neg (by decide), if_pos (by decide)])
 have HL := Lib.hid (fun W hW ht => formulas_any (.node [110, 111, 116] s n p ks) A cap W hW ht (by first | exact IH.out))
 simp only [nodeT, nodeW, Node.op, Node.name, Node.num, Node.pos, Node.kids] at HL
 have HX := Lib.hid (HH.out 1 false false)
 clear HH IH
 generalize formB (.node [110, 111, 116] s n p ks) = V at *
 generalize hasB ks.length s n 1 false false = H at *
 generalize formsB ks = Y at *
 cases H with
 | false =>
   have HF := Lib.hid (show false = V by rw [HV.out]; rfl)
   clear HV
   go_enter Tryd.func25, Tryd.ntmps25
   go_wp2_with (first
    | (go_at_call 58
       refine (HX.out _ (HC.out.later (fresh_w HB0.out) (fresh_w HB0.out).size) (HT.out _ (fresh_w HB0.out))).mono ?_
       rintro e w2 ⟨rfl, hb⟩
       have HB1 := Lib.hid (fresh_more HB0.out hb)
       obtain ⟨c0, c1, c2, c3, c4⟩ := box5 HB1.out
       clear hb))
   all_goals
    go_ret
    exact ⟨congrArg (fun x : Bool => Ending.returned (.bool x)) HF.out, fresh_w HB1.out⟩
 | true =>
   have HF := Lib.hid (show Y = V by rw [HV.out]; rfl)
   clear HV
   go_enter Tryd.func25, Tryd.ntmps25
   go_wp2_with (first
    | (go_at_call 58
       refine (HX.out _ (HC.out.later (fresh_w HB0.out) (fresh_w HB0.out).size) (HT.out _ (fresh_w HB0.out))).mono ?_
       rintro e w2 ⟨rfl, hb⟩
       have HB1 := Lib.hid (fresh_more HB0.out hb)
       obtain ⟨c0, c1, c2, c3, c4⟩ := box5 HB1.out
       clear hb)
    | (go_at_call 59
       refine (HL.out _ (HC.out.later (fresh_w HB1.out) (fresh_w HB1.out).size) (HT.out _ (fresh_w HB1.out))).mono ?_
       rintro e w3 ⟨rfl, hb⟩
       have HB2 := Lib.hid (fresh_more HB1.out hb)
       obtain ⟨c0, c1, c2, c3, c4⟩ := box5 HB2.out
       clear hb))
   all_goals
    go_ret
    exact ⟨congrArg (fun x : Bool => Ending.returned (.bool x)) HF.out, fresh_w HB2.out⟩
set_option maxHeartbeats 2000000 in
theorem form_and (s : List UInt8) (n p : Int) (ks : List Node) (A : Option Addr) (cap : Nat) (w : World) (h : NodeAt w w.heap.size (.node [97, 110, 100] s n p ks) A cap) (hT : Tab8 w) (ih : ∀ k ∈ ks, FormLaw k) :
  Calls Tryd.prog 25 #[nodeW [97, 110, 100] s n p ks.length A cap] w fun e w' => e = .returned (.bool (formB (.node [97, 110, 100] s n p ks))) ∧ Below w.heap.size w w' := by
 have HC := Lib.hid h
 have IH := Lib.hid ih
 have HT := Lib.hid (fun (W : World) (hW : Below w.heap.size w W) => Go.Proofs.Utf8Tabs_below hT hW)
 have hl := h.len
 obtain ⟨hl1, hl2, _⟩ := hl
 clear h ih hT
 have HH := Lib.hid (fun k nm nu W hW ht => has_any (.node [97, 110, 100] s n p ks) A cap k nm nu W hW ht)
 simp only [nodeT, Node.op, Node.name, Node.num, Node.pos, Node.kids] at HH
 have HB0 := Lib.hid (Below.refl (w.heap.size + 1) (w.alloc (boxN [97, 110, 100] s n p ks.length A cap)))
 simp only [nodeW] at HH ⊢
 have HV := Lib.hid (show formB (.node [97, 110, 100] s n p ks) = (hasB ks.length s n 2 false false && formsB ks) by show formB (.node nAnd s n p ks) = _; rw [formB, if_neg (by decide), if_neg (by decide), if_pos (by decide)])
 have HL := Lib.hid (fun W hW ht => formulas_any (.node [97, 110, 100] s n p ks) A cap W hW ht (by first | exact IH.out))
 simp only [nodeT, nodeW, Node.op, Node.name, Node.num, Node.pos, Node.kids] at HL
 have HX := Lib.hid (HH.out 2 false false)
 clear HH IH
 generalize formB (.node [97, 110, 100] s n p ks) = V at *
 generalize hasB ks.length s n 2 false false = H at *
 generalize formsB ks = Y at *
 cases H with
 | false =>
   have HF := Lib.hid (show false = V by rw [HV.out]; rfl)
   clear HV
   go_enter Tryd.func25, Tryd.ntmps25
   go_wp2_with (first
    | (go_at_call 58
       refine (HX.out _ (HC.out.later (fresh_w HB0.out) (fresh_w HB0.out).size) (HT.out _ (fresh_w HB0.out))).mono ?_
       rintro e w2 ⟨rfl, hb⟩
       have HB1 := Lib.hid (fresh_more HB0.out hb)
       obtain ⟨c0, c1, c2, c3, c4⟩ := box5 HB1.out
       clear hb))
   all_goals
    go_ret
    exact ⟨congrArg (fun x : Bool => Ending.returned (.bool x)) HF.out, fresh_w HB1.out⟩
 | true =>
   have HF := Lib.hid (show Y = V by rw [HV.out]; rfl)
   clear HV
   go_enter Tryd.func25, Tryd.ntmps25
   go_wp2_with (first
    | (go_at_call 58
       refine (HX.out _ (HC.out.later (fresh_w HB0.out) (fresh_w HB0.out).size) (HT.out _ (fresh_w HB0.out))).mono ?_
       rintro e w2 ⟨rfl, hb⟩
       have HB1 := Lib.hid (fresh_more HB0.out hb)
       obtain ⟨c0, c1, c2, c3, c4⟩ := box5 HB1.out
       clear hb)
    | (go_at_call 59
       refine (HL.out _ (HC.out.later (fresh_w HB1.out) (fresh_w HB1.out).size) (HT.out _ (fresh_w HB1.out))).mono ?_
       rintro e w3 ⟨rfl, hb⟩
       have HB2 := Lib.hid (fresh_more HB1.out hb)
       obtain ⟨c0, c1, c2, c3, c4⟩ := box5 HB2.out
       clear hb))
   all_goals
    go_ret
    exact ⟨congrArg (fun x : Bool => Ending.returned (.bool x)) HF.out, fresh_w HB2.out⟩
set_option maxHeartbeats 2000000 in
theorem form_or (s : List UInt8) (n p : Int) (ks : List Node) (A : Option Addr) (cap : Nat) (w : World) (h : NodeAt w w.heap.size (.node [111, 114] s n p ks) A cap) (hT : Tab8 w) (ih : ∀ k ∈ ks, FormLaw k) :
  Calls Tryd.prog 25 #[nodeW [111, 114] s n p ks.length A cap] w fun e w' => e = .returned (.bool (formB (.node [111, 114] s n p ks))) ∧ Below w.heap.size w w' := by
 have HC := Lib.hid h
 have IH := Lib.hid ih
 have HT := Lib.hid (fun (W : World) (hW : Below w.heap.size w W) => Go.Proofs.Utf8Tabs_below hT hW)
 have hl := h.len
 obtain ⟨hl1, hl2, _⟩ := hl
 clear h ih hT
 have HH := Lib.hid (fun k nm nu W hW ht => has_any (.node [111, 114] s n p ks) A cap k nm nu W hW ht)
 simp only [nodeT, Node.op, Node.name, Node.num, Node.pos, Node.kids] at HH
 have HB0 := Lib.hid (Below.refl (w.heap.size + 1) (w.alloc (boxN [111, 114] s n p ks.length A cap)))
 simp only [nodeW] at HH ⊢
 have HV := Lib.hid (show formB (.node [111, 114] s n p ks) = (hasB ks.length s n 2 false false && formsB ks) by show formB (.node nOr s n p ks) = _; rw [formB, if_neg (by decide), if_neg (by decide), if_pos (by decide)])
 have HL := Lib.hid (fun W hW ht => formulas_any (.node [111, 114] s n p ks) A cap W hW ht (by first | exact IH.out))
 simp only [nodeT, nodeW, Node.op, Node.name, Node.num, Node.pos, Node.kids] at HL
 have HX := Lib.hid (HH.out 2 false false)
 clear HH IH
 generalize formB (.node [111, 114] s n p ks) = V at *
 generalize hasB ks.length s n 2 false false = H at *
 generalize formsB ks = Y at *
 cases H with
 | false =>
   have HF := Lib.hid (show false = V by rw [HV.out]; rfl)
   clear HV
   go_enter Tryd.func25, Tryd.ntmps25
   go_wp2_with (first
    | (go_at_call 58
       refine (HX.out _ (HC.out.later (fresh_w HB0.out) (fresh_w HB0.out).size) (HT.out _ (fresh_w HB0.out))).mono ?_
       rintro e w2 ⟨rfl, hb⟩
       have HB1 := Lib.hid (fresh_more HB0.out hb)
       obtain ⟨c0, c1, c2, c3, c4⟩ := box5 HB1.out
       clear hb))
   all_goals
    go_ret
    exact ⟨congrArg (fun x : Bool => Ending.returned (.bool x)) HF.out, fresh_w HB1.out⟩
 | true =>
   have HF := Lib.hid (show Y = V by rw [HV.out]; rfl)
   clear HV
   go_enter Tryd.func25, Tryd.ntmps25
   go_wp2_with (first
    | (go_at_call 58
       refine (HX.out _ (HC.out.later (fresh_w HB0.out) (fresh_w HB0.out).size) (HT.out _ (fresh_w HB0.out))).mono ?_
       rintro e w2 ⟨rfl, hb⟩
       have HB1 := Lib.hid (fresh_more HB0.out hb)
       obtain ⟨c0, c1, c2, c3, c4⟩ := box5 HB1.out
       clear hb)
    | (go_at_call 59
       refine (HL.out _ (HC.out.later (fresh_w HB1.out) (fresh_w HB1.out).size) (HT.out _ (fresh_w HB1.out))).mono ?_
       rintro e w3 ⟨rfl, hb⟩
       have HB2 := Lib.hid (fresh_more HB1.out hb)
       obtain ⟨c0, c1, c2, c3, c4⟩ := box5 HB2.out
       clear hb))
   all_goals
    go_ret
    exact ⟨congrArg (fun x : Bool => Ending.returned (.bool x)) HF.out, fresh_w HB2.out⟩
set_option maxHeartbeats 2000000 in
theorem form_imp (s : List UInt8) (n p : Int) (ks : List Node) (A : Option Addr) (cap : Nat) (w : World) (h : NodeAt w w.heap.size (.node [105, 109, 112] s n p ks) A cap) (hT : Tab8 w) (ih : ∀ k ∈ ks, FormLaw k) :
  Calls Tryd.prog 25 #[nodeW [105, 109, 112] s n p ks.length A cap] w fun e w' => e = .returned (.bool (formB (.node [105, 109, 112] s n p ks))) ∧ Below w.heap.size w w' := by
 have HC := Lib.hid h
 have IH := Lib.hid ih
 have HT := Lib.hid (fun (W : World) (hW : Below w.heap.size w W) => Go.Proofs.Utf8Tabs_below hT hW)
 have hl := h.len
 obtain ⟨hl1, hl2, _⟩ := hl
 clear h ih hT
 have HH := Lib.hid (fun k nm nu W hW ht => has_any (.node [105, 109, 112] s n p ks) A cap k nm nu W hW ht)
 simp only [nodeT, Node.op, Node.name, Node.num, Node.pos, Node.kids] at HH
 have HB0 := Lib.hid (Below.refl (w.heap.size + 1) (w.alloc (boxN [105, 109, 112] s n p ks.length A cap)))
 simp only [nodeW] at HH ⊢
 have HV := Lib.hid (show formB (.node [105, 109, 112] s n p ks) = (hasB ks.length s n 2 false false && formsB ks) by show formB (.node nImp s n p ks) = _; rw [formB, if_neg (by decide), if_neg (by decide), if_pos (by decide)])
 have HL := Lib.hid (fun W hW ht => formulas_any (.node [105, 109, 112] s n p ks) A cap W hW ht (by first | exact IH.out))
 simp only [nodeT, nodeW, Node.op, Node.name, Node.num, Node.pos, Node.kids] at HL
 have HX := Lib.hid (HH.out 2 false false)
 clear HH IH
 generalize formB (.node [105, 109, 112] s n p ks) = V at *
 generalize hasB ks.length s n 2 false false = H at *
 generalize formsB ks = Y at *
 cases H with
 | false =>
   have HF := Lib.hid (show false = V by rw [HV.out]; rfl)
   clear HV
   go_enter Tryd.func25, Tryd.ntmps25
   go_wp2_with (first
    | (go_at_call 58
       refine (HX.out _ (HC.out.later (fresh_w HB0.out) (fresh_w HB0.out).size) (HT.out _ (fresh_w HB0.out))).mono ?_
       rintro e w2 ⟨rfl, hb⟩
       have HB1 := Lib.hid (fresh_more HB0.out hb)
       obtain ⟨c0, c1, c2, c3, c4⟩ := box5 HB1.out
       clear hb))
   all_goals
    go_ret
    exact ⟨congrArg (fun x : Bool => Ending.returned (.bool x)) HF.out, fresh_w HB1.out⟩
 | true =>
   have HF := Lib.hid (show Y = V by rw [HV.out]; rfl)
   clear HV
   go_enter Tryd.func25, Tryd.ntmps25
   go_wp2_with (first
    | (go_at_call 58
       refine (HX.out _ (HC.out.later (fresh_w HB0.out) (fresh_w HB0.out).size) (HT.out _ (fresh_w HB0.out))).mono ?_
       rintro e w2 ⟨rfl, hb⟩
       have HB1 := Lib.hid (fresh_more HB0.out hb)
       obtain ⟨c0, c1, c2, c3, c4⟩ := box5 HB1.out
       clear hb)
    | (go_at_call 59
       refine (HL.out _ (HC.out.later (fresh_w HB1.out) (fresh_w HB1.out).size) (HT.out _ (fresh_w HB1.out))).mono ?_
       rintro e w3 ⟨rfl, hb⟩
       have HB2 := Lib.hid (fresh_more HB1.out hb)
       obtain ⟨c0, c1, c2, c3, c4⟩ := box5 HB2.out
       clear hb))
   all_goals
    go_ret
    exact ⟨congrArg (fun x : Bool => Ending.returned (.bool x)) HF.out, fresh_w HB2.out⟩
set_option maxHeartbeats 2000000 in
theorem form_iff (s : List UInt8) (n p : Int) (ks : List Node) (A : Option Addr) (cap : Nat) (w : World) (h : NodeAt w w.heap.size (.node [105, 102, 102] s n p ks) A cap) (hT : Tab8 w) (ih : ∀ k ∈ ks, FormLaw k) :
  Calls Tryd.prog 25 #[nodeW [105, 102, 102] s n p ks.length A cap] w fun e w' => e = .returned (.bool (formB (.node [105, 102, 102] s n p ks))) ∧ Below w.heap.size w w' := by
 have HC := Lib.hid h
 have IH := Lib.hid ih
 have HT := Lib.hid (fun (W : World) (hW : Below w.heap.size w W) => Go.Proofs.Utf8Tabs_below hT hW)
 have hl := h.len
 obtain ⟨hl1, hl2, _⟩ := hl
 clear h ih hT
 have HH := Lib.hid (fun k nm nu W hW ht => has_any (.node [105, 102, 102] s n p ks) A cap k nm nu W hW ht)
 simp only [nodeT, Node.op, Node.name, Node.num, Node.pos, Node.kids] at HH
 have HB0 := Lib.hid (Below.refl (w.heap.size + 1) (w.alloc (boxN [105, 102, 102] s n p ks.length A cap)))
 simp only [nodeW] at HH ⊢
 have HV := Lib.hid (show formB (.node [105, 102, 102] s n p ks) = (hasB ks.length s n 2 false false && formsB ks) by show formB (.node nIff s n p ks) = _; rw [formB, if_neg (by decide), if_neg (by decide), if_pos (by decide)])
 have HL := Lib.hid (fun W hW ht => formulas_any (.node [105, 102, 102] s n p ks) A cap W hW ht (by first | exact IH.out))
 simp only [nodeT, nodeW, Node.op, Node.name, Node.num, Node.pos, Node.kids] at HL
 have HX := Lib.hid (HH.out 2 false false)
 clear HH IH
 generalize formB (.node [105, 102, 102] s n p ks) = V at *
 generalize hasB ks.length s n 2 false false = H at *
 generalize formsB ks = Y at *
 cases H with
 | false =>
   have HF := Lib.hid (show false = V by rw [HV.out]; rfl)
   clear HV
   go_enter Tryd.func25, Tryd.ntmps25
   go_wp2_with (first
    | (go_at_call 58
       refine (HX.out _ (HC.out.later (fresh_w HB0.out) (fresh_w HB0.out).size) (HT.out _ (fresh_w HB0.out))).mono ?_
       rintro e w2 ⟨rfl, hb⟩
       have HB1 := Lib.hid (fresh_more HB0.out hb)
       obtain ⟨c0, c1, c2, c3, c4⟩ := box5 HB1.out
       clear hb))
   all_goals
    go_ret
    exact ⟨congrArg (fun x : Bool => Ending.returned (.bool x)) HF.out, fresh_w HB1.out⟩
 | true =>
   have HF := Lib.hid (show Y = V by rw [HV.out]; rfl)
   clear HV
   go_enter Tryd.func25, Tryd.ntmps25
   go_wp2_with (first
    | (go_at_call 58
       refine (HX.out _ (HC.out.later (fresh_w HB0.out) (fresh_w HB0.out).size) (HT.out _ (fresh_w HB0.out))).mono ?_
       rintro e w2 ⟨rfl, hb⟩
       have HB1 := Lib.hid (fresh_more HB0.out hb)
       obtain ⟨c0, c1, c2, c3, c4⟩ := box5 HB1.out
       clear hb)
    | (go_at_call 59
       refine (HL.out _ (HC.out.later (fresh_w HB1.out) (fresh_w HB1.out).size) (HT.out _ (fresh_w HB1.out))).mono ?_
       rintro e w3 ⟨rfl, hb⟩
       have HB2 := Lib.hid (fresh_more HB1.out hb)
       obtain ⟨c0, c1, c2, c3, c4⟩ := box5 HB2.out
       clear hb))
   all_goals
    go_ret
    exact ⟨congrArg (fun x : Bool => Ending.returned (.bool x)) HF.out, fresh_w HB2.out⟩
set_option maxHeartbeats 2000000 in
theorem form_ex (s : List UInt8) (n p : Int) (ks : List Node) (A : Option Addr) (cap : Nat) (w : World) (h : NodeAt w w.heap.size (.node [101, 120] s n p ks) A cap) (hT : Tab8 w) (ih : ∀ k ∈ ks, FormLaw k) :
  Calls Tryd.prog 25 #[nodeW [101, 120] s n p ks.length A cap] w fun e w' => e = .returned (.bool (formB (.node [101, 120] s n p ks))) ∧ Below w.heap.size w w' := by
 have HC := Lib.hid h
 have IH := Lib.hid ih
 have HT := Lib.hid (fun (W : World) (hW : Below w.heap.size w W) => Go.Proofs.Utf8Tabs_below hT hW)
 have hl := h.len
 obtain ⟨hl1, hl2, _⟩ := hl
 clear h ih hT
 have HH := Lib.hid (fun k nm nu W hW ht => has_any (.node [101, 120] s n p ks) A cap k nm nu W hW ht)
 simp only [nodeT, Node.op, Node.name, Node.num, Node.pos, Node.kids] at HH
 have HB0 := Lib.hid (Below.refl (w.heap.size + 1) (w.alloc (boxN [101, 120] s n p ks.length A cap)))
 simp only [nodeW] at HH ⊢
 have HV := Lib.hid (show formB (.node [101, 120] s n p ks) = (hasB ks.length s n 1 true true && decide (0 ≤ n) && decide (n ≤ 2) && formsB ks) by show formB (.node nEx s n p ks) = _; rw [formB, if_neg (by decide), if_neg (by decide), if_neg (by decide), if_pos (by decide), Bool.and_assoc, Bool.and_assoc])
 have HL := Lib.hid (fun W hW ht => formulas_any (.node [101, 120] s n p ks) A cap W hW ht (by first | exact IH.out))
 simp only [nodeT, nodeW, Node.op, Node.name, Node.num, Node.pos, Node.kids] at HL
 have HX := Lib.hid (HH.out 1 true true)
 clear HH IH
 generalize formB (.node [101, 120] s n p ks) = V at *
 generalize hasB ks.length s n 1 true true = H at *
 generalize formsB ks = Y at *
 cases H with
 | false =>
   have HF := Lib.hid (show false = V by rw [HV.out]; rfl)
   clear HV
   go_enter Tryd.func25, Tryd.ntmps25
   go_wp2_with (first
    | (go_at_call 58
       refine (HX.out _ (HC.out.later (fresh_w HB0.out) (fresh_w HB0.out).size) (HT.out _ (fresh_w HB0.out))).mono ?_
       rintro e w2 ⟨rfl, hb⟩
       have HB1 := Lib.hid (fresh_more HB0.out hb)
       obtain ⟨c0, c1, c2, c3, c4⟩ := box5 HB1.out
       clear hb))
   all_goals
    go_ret
    exact ⟨congrArg (fun x : Bool => Ending.returned (.bool x)) HF.out, fresh_w HB1.out⟩
 | true =>
   by_cases h1 : 0 ≤ n
   · have g1 : decide (n ≥ 0) = true := decide_eq_true h1
     by_cases h2 : n ≤ 2
     · have g2 : decide (n ≤ 2) = true := decide_eq_true h2
       have HF := Lib.hid (show Y = V by rw [HV.out, decide_eq_true h1, decide_eq_true h2]; rfl)
       clear HV
       go_enter Tryd.func25, Tryd.ntmps25
       go_wp2_with (first
        | (go_at_call 58
           refine (HX.out _ (HC.out.later (fresh_w HB0.out) (fresh_w HB0.out).size) (HT.out _ (fresh_w HB0.out))).mono ?_
           rintro e w2 ⟨rfl, hb⟩
           have HB1 := Lib.hid (fresh_more HB0.out hb)
           obtain ⟨c0, c1, c2, c3, c4⟩ := box5 HB1.out
           clear hb)
        | (go_at_call 59
           refine (HL.out _ (HC.out.later (fresh_w HB1.out) (fresh_w HB1.out).size) (HT.out _ (fresh_w HB1.out))).mono ?_
           rintro e w3 ⟨rfl, hb⟩
           have HB2 := Lib.hid (fresh_more HB1.out hb)
           obtain ⟨c0, c1, c2, c3, c4⟩ := box5 HB2.out
           clear hb))
       all_goals
        go_ret
        exact ⟨congrArg (fun x : Bool => Ending.returned (.bool x)) HF.out, fresh_w HB2.out⟩
     · have g2 : decide (n ≤ 2) = false := decide_eq_false h2
       have HF := Lib.hid (show false = V by rw [HV.out, decide_eq_true h1, decide_eq_false h2]; rfl)
       clear HV
       go_enter Tryd.func25, Tryd.ntmps25
       go_wp2_with (first
        | (go_at_call 58
           refine (HX.out _ (HC.out.later (fresh_w HB0.out) (fresh_w HB0.out).size) (HT.out _ (fresh_w HB0.out))).mono ?_
           rintro e w2 ⟨rfl, hb⟩
           have HB1 := Lib.hid (fresh_more HB0.out hb)
           obtain ⟨c0, c1, c2, c3, c4⟩ := box5 HB1.out
           clear hb))
       all_goals
        go_ret
        exact ⟨congrArg (fun x : Bool => Ending.returned (.bool x)) HF.out, fresh_w HB1.out⟩
   · have g1 : decide (n ≥ 0) = false := decide_eq_false h1
     have HF := Lib.hid (show false = V by rw [HV.out, decide_eq_false h1]; rfl)
     clear HV
     go_enter Tryd.func25, Tryd.ntmps25
     go_wp2_with (first
      | (go_at_call 58
         refine (HX.out _ (HC.out.later (fresh_w HB0.out) (fresh_w HB0.out).size) (HT.out _ (fresh_w HB0.out))).mono ?_
         rintro e w2 ⟨rfl, hb⟩
         have HB1 := Lib.hid (fresh_more HB0.out hb)
         obtain ⟨c0, c1, c2, c3, c4⟩ := box5 HB1.out
         clear hb))
     all_goals
      go_ret
      exact ⟨congrArg (fun x : Bool => Ending.returned (.bool x)) HF.out, fresh_w HB1.out⟩
set_option maxHeartbeats 2000000 in
theorem form_all (s : List UInt8) (n p : Int) (ks : List Node) (A : Option Addr) (cap : Nat) (w : World) (h : NodeAt w w.heap.size (.node [97, 108, 108] s n p ks) A cap) (hT : Tab8 w) (ih : ∀ k ∈ ks, FormLaw k) :
  Calls Tryd.prog 25 #[nodeW [97, 108, 108] s n p ks.length A cap] w fun e w' => e = .returned (.bool (formB (.node [97, 108, 108] s n p ks))) ∧ Below w.heap.size w w' := by
 have HC := Lib.hid h
 have IH := Lib.hid ih
 have HT := Lib.hid (fun (W : World) (hW : Below w.heap.size w W) => Go.Proofs.Utf8Tabs_below hT hW)
 have hl := h.len
 obtain ⟨hl1, hl2, _⟩ := hl
 clear h ih hT
 have HH := Lib.hid (fun k nm nu W hW ht => has_any (.node [97, 108, 108] s n p ks) A cap k nm nu W hW ht)
 simp only [nodeT, Node.op, Node.name, Node.num, Node.pos, Node.kids] at HH
 have HB0 := Lib.hid (Below.refl (w.heap.size + 1) (w.alloc (boxN [97, 108, 108] s n p ks.length A cap)))
 simp only [nodeW] at HH ⊢
 have HV := Lib.hid (show formB (.node [97, 108, 108] s n p ks) = (hasB ks.length s n 1 true true && decide (0 ≤ n) && decide (n ≤ 2) && formsB ks) by show formB (.node nAll s n p ks) = _; rw [formB, if_neg (by decide), if_neg (by decide), if_neg (by decide), if_pos (by decide), Bool.and_assoc, Bool.and_assoc])
 have HL := Lib.hid (fun W hW ht => formulas_any (.node [97, 108, 108] s n p ks) A cap W hW ht (by first | exact IH.out))
 simp only [nodeT, nodeW, Node.op, Node.name, Node.num, Node.pos, Node.kids] at HL
 have HX := Lib.hid (HH.out 1 true true)
 clear HH IH
 generalize formB (.node [97, 108, 108] s n p ks) = V at *
 generalize hasB ks.length s n 1 true true = H at *
 generalize formsB ks = Y at *
 cases H with
 | false =>
   have HF := Lib.hid (show false = V by rw [HV.out]; rfl)
   clear HV
   go_enter Tryd.func25, Tryd.ntmps25
   go_wp2_with (first
    | (go_at_call 58
       refine (HX.out _ (HC.out.later (fresh_w HB0.out) (fresh_w HB0.out).size) (HT.out _ (fresh_w HB0.out))).mono ?_
       rintro e w2 ⟨rfl, hb⟩
       have HB1 := Lib.hid (fresh_more HB0.out hb)
       obtain ⟨c0, c1, c2, c3, c4⟩ := box5 HB1.out
       clear hb))
   all_goals
    go_ret
    exact ⟨congrArg (fun x : Bool => Ending.returned (.bool x)) HF.out, fresh_w HB1.out⟩
 | true =>
   by_cases h1 : 0 ≤ n
   · have g1 : decide (n ≥ 0) = true := decide_eq_true h1
     by_cases h2 : n ≤ 2
     · have g2 : decide (n ≤ 2) = true := decide_eq_true h2
       have HF := Lib.hid (show Y = V by rw [HV.out, decide_eq_true h1, decide_eq_true h2]; rfl)
       clear HV
       go_enter Tryd.func25, Tryd.ntmps25
       go_wp2_with (first
        | (go_at_call 58
           refine (HX.out _ (HC.out.later (fresh_w HB0.out) (fresh_w HB0.out).size) (HT.out _ (fresh_w HB0.out))).mono ?_
           rintro e w2 ⟨rfl, hb⟩
           have HB1 := Lib.hid (fresh_more HB0.out hb)
           obtain ⟨c0, c1, c2, c3, c4⟩ := box5 HB1.out
           clear hb)
        | (go_at_call 59
           refine (HL.out _ (HC.out.later (fresh_w HB1.out) (fresh_w HB1.out).size) (HT.out _ (fresh_w HB1.out))).mono ?_
           rintro e w3 ⟨rfl, hb⟩
           have HB2 := Lib.hid (fresh_more HB1.out hb)
           obtain ⟨c0, c1, c2, c3, c4⟩ := box5 HB2.out
           clear hb))
       all_goals
        go_ret
        exact ⟨congrArg (fun x : Bool => Ending.returned (.bool x)) HF.out, fresh_w HB2.out⟩
     · have g2 : decide (n ≤ 2) = false := decide_eq_false h2
       have HF := Lib.hid (show false = V by rw [HV.out, decide_eq_true h1, decide_eq_false h2]; rfl)
       clear HV
       go_enter Tryd.func25, Tryd.ntmps25
       go_wp2_with (first
        | (go_at_call 58
           refine (HX.out _ (HC.out.later (fresh_w HB0.out) (fresh_w HB0.out).size) (HT.out _ (fresh_w HB0.out))).mono ?_
           rintro e w2 ⟨rfl, hb⟩
           have HB1 := Lib.hid (fresh_more HB0.out hb)
           obtain ⟨c0, c1, c2, c3, c4⟩ := box5 HB1.out
           clear hb))
       all_goals
        go_ret
        exact ⟨congrArg (fun x : Bool => Ending.returned (.bool x)) HF.out, fresh_w HB1.out⟩
   · have g1 : decide (n ≥ 0) = false := decide_eq_false h1
     have HF := Lib.hid (show false = V by rw [HV.out, decide_eq_false h1]; rfl)
     clear HV
     go_enter Tryd.func25, Tryd.ntmps25
     go_wp2_with (first
      | (go_at_call 58
         refine (HX.out _ (HC.out.later (fresh_w HB0.out) (fresh_w HB0.out).size) (HT.out _ (fresh_w HB0.out))).mono ?_
         rintro e w2 ⟨rfl, hb⟩
         have HB1 := Lib.hid (fresh_more HB0.out hb)
         obtain ⟨c0, c1, c2, c3, c4⟩ := box5 HB1.out
         clear hb))
     all_goals
      go_ret
      exact ⟨congrArg (fun x : Bool => Ending.returned (.bool x)) HF.out, fresh_w HB1.out⟩
set_option maxHeartbeats 2000000 in
theorem form_is (s : List UInt8) (n p : Int) (ks : List Node) (A : Option Addr) (cap : Nat) (w : World) (h : NodeAt w w.heap.size (.node [105, 115] s n p ks) A cap) (hT : Tab8 w) (ih : ∀ k ∈ ks, FormLaw k) :
  Calls Tryd.prog 25 #[nodeW [105, 115] s n p ks.length A cap] w fun e w' => e = .returned (.bool (formB (.node [105, 115] s n p ks))) ∧ Below w.heap.size w w' := by
 have HC := Lib.hid h
 have IH := Lib.hid ih
 have HT := Lib.hid (fun (W : World) (hW : Below w.heap.size w W) => Go.Proofs.Utf8Tabs_below hT hW)
 have hl := h.len
 obtain ⟨hl1, hl2, _⟩ := hl
 clear h ih hT
 have HH := Lib.hid (fun k nm nu W hW ht => has_any (.node [105, 115] s n p ks) A cap k nm nu W hW ht)
 simp only [nodeT, Node.op, Node.name, Node.num, Node.pos, Node.kids] at HH
 have HB0 := Lib.hid (Below.refl (w.heap.size + 1) (w.alloc (boxN [105, 115] s n p ks.length A cap)))
 simp only [nodeW] at HH ⊢
 have HV := Lib.hid (show formB (.node [105, 115] s n p ks) = (hasB ks.length s n 0 true false) by show formB (.node nIs s n p ks) = _; rw [formB, if_neg (by decide), if_neg (by decide), if_neg (by decide), if_neg (by decide), if_pos (by decide)])
 have HX := Lib.hid (HH.out 0 true false)
 have HF := Lib.hid HV.out.symm
 clear HH IH HV
 generalize formB (.node [105, 115] s n p ks) = V at *
 generalize hasB ks.length s n 0 true false = H at *
 go_enter Tryd.func25, Tryd.ntmps25
 go_wp2_with (first
  | (go_at_call 58
     refine (HX.out _ (HC.out.later (fresh_w HB0.out) (fresh_w HB0.out).size) (HT.out _ (fresh_w HB0.out))).mono ?_
     rintro e w2 ⟨rfl, hb⟩
     have HB1 := Lib.hid (fresh_more HB0.out hb)
     obtain ⟨c0, c1, c2, c3, c4⟩ := box5 HB1.out
     clear hb))
 all_goals
  go_ret
  exact ⟨congrArg (fun x : Bool => Ending.returned (.bool x)) HF.out, fresh_w HB1.out⟩
set_option maxHeartbeats 2000000 in
theorem form_eq (s : List UInt8) (n p : Int) (ks : List Node) (A : Option Addr) (cap : Nat) (w : World) (h : NodeAt w w.heap.size (.node [101, 113] s n p ks) A cap) (hT : Tab8 w) (ih : ∀ k ∈ ks, FormLaw k) :
  Calls Tryd.prog 25 #[nodeW [101, 113] s n p ks.length A cap] w fun e w' => e = .returned (.bool (formB (.node [101, 113] s n p ks))) ∧ Below w.heap.size w w' := by
 have HC := Lib.hid h
 have IH := Lib.hid ih
 have HT := Lib.hid (fun (W : World) (hW : Below w.heap.size w W) => Go.Proofs.Utf8Tabs_below hT hW)
 have hl := h.len
 obtain ⟨hl1, hl2, _⟩ := hl
 clear h ih hT
 have HH := Lib.hid (fun k nm nu W hW ht => has_any (.node [101, 113] s n p ks) A cap k nm nu W hW ht)
 simp only [nodeT, Node.op, Node.name, Node.num, Node.pos, Node.kids] at HH
 have HB0 := Lib.hid (Below.refl (w.heap.size + 1) (w.alloc (boxN [101, 113] s n p ks.length A cap)))
 simp only [nodeW] at HH ⊢
 have HV := Lib.hid (show formB (.node [101, 113] s n p ks) = (hasB ks.length s n 2 false false && termsB ks) by show formB (.node nEq s n p ks) = _; rw [formB, if_neg (by decide), if_neg (by decide), if_neg (by decide), if_neg (by decide), if_neg (by decide), if_pos (by decide)])
 have HL := Lib.hid (fun W hW ht => terms_any (.node [101, 113] s n p ks) A cap W hW ht (fun k _ => term_any k))
 simp only [nodeT, nodeW, Node.op, Node.name, Node.num, Node.pos, Node.kids] at HL
 have HX := Lib.hid (HH.out 2 false false)
 clear HH IH
 generalize formB (.node [101, 113] s n p ks) = V at *
 generalize hasB ks.length s n 2 false false = H at *
 generalize termsB ks = Y at *
 cases H with
 | false =>
   have HF := Lib.hid (show false = V by rw [HV.out]; rfl)
   clear HV
   go_enter Tryd.func25, Tryd.ntmps25
   go_wp2_with (first
    | (go_at_call 58
       refine (HX.out _ (HC.out.later (fresh_w HB0.out) (fresh_w HB0.out).size) (HT.out _ (fresh_w HB0.out))).mono ?_
       rintro e w2 ⟨rfl, hb⟩
       have HB1 := Lib.hid (fresh_more HB0.out hb)
       obtain ⟨c0, c1, c2, c3, c4⟩ := box5 HB1.out
       clear hb))
   all_goals
    go_ret
    exact ⟨congrArg (fun x : Bool => Ending.returned (.bool x)) HF.out, fresh_w HB1.out⟩
 | true =>
   have HF := Lib.hid (show Y = V by rw [HV.out]; rfl)
   clear HV
   go_enter Tryd.func25, Tryd.ntmps25
   go_wp2_with (first
    | (go_at_call 58
       refine (HX.out _ (HC.out.later (fresh_w HB0.out) (fresh_w HB0.out).size) (HT.out _ (fresh_w HB0.out))).mono ?_
       rintro e w2 ⟨rfl, hb⟩
       have HB1 := Lib.hid (fresh_more HB0.out hb)
       obtain ⟨c0, c1, c2, c3, c4⟩ := box5 HB1.out
       clear hb)
    | (go_at_call 60
       refine (HL.out _ (HC.out.later (fresh_w HB1.out) (fresh_w HB1.out).size) (HT.out _ (fresh_w HB1.out))).mono ?_
       rintro e w3 ⟨rfl, hb⟩
       have HB2 := Lib.hid (fresh_more HB1.out hb)
       obtain ⟨c0, c1, c2, c3, c4⟩ := box5 HB2.out
       clear hb))
   all_goals
    go_ret
    exact ⟨congrArg (fun x : Bool => Ending.returned (.bool x)) HF.out, fresh_w HB2.out⟩
set_option maxHeartbeats 2000000 in
theorem form_ne (s : List UInt8) (n p : Int) (ks : List Node) (A : Option Addr) (cap : Nat) (w : World) (h : NodeAt w w.heap.size (.node [110, 101] s n p ks) A cap) (hT : Tab8 w) (ih : ∀ k ∈ ks, FormLaw k) :
  Calls Tryd.prog 25 #[nodeW [110, 101] s n p ks.length A cap] w fun e w' => e = .returned (.bool (formB (.node [110, 101] s n p ks))) ∧ Below w.heap.size w w' := by
 have HC := Lib.hid h
 have IH := Lib.hid ih
 have HT := Lib.hid (fun (W : World) (hW : Below w.heap.size w W) => Go.Proofs.Utf8Tabs_below hT hW)
 have hl := h.len
 obtain ⟨hl1, hl2, _⟩ := hl
 clear h ih hT
 have HH := Lib.hid (fun k nm nu W hW ht => has_any (.node [110, 101] s n p ks) A cap k nm nu W hW ht)
 simp only [nodeT, Node.op, Node.name, Node.num, Node.pos, Node.kids] at HH
 have HB0 := Lib.hid (Below.refl (w.heap.size + 1) (w.alloc (boxN [110, 101] s n p ks.length A cap)))
 simp only [nodeW] at HH ⊢
 have HV := Lib.hid (show formB (.node [110, 101] s n p ks) = (hasB ks.length s n 2 false false && termsB ks) by show formB (.node nNe s n p ks) = _; rw [formB, if_neg (by decide), if_neg (by decide), if_neg (by decide), if_neg (by decide), if_neg (by decide), if_pos (by decide)])
 have HL := Lib.hid (fun W hW ht => terms_any (.node [110, 101] s n p ks) A cap W hW ht (fun k _ => term_any k))
 simp only [nodeT, nodeW, Node.op, Node.name, Node.num, Node.pos, Node.kids] at HL
 have HX := Lib.hid (HH.out 2 false false)
 clear HH IH
 generalize formB (.node [110, 101] s n p ks) = V at *
 generalize hasB ks.length s n 2 false false = H at *
 generalize termsB ks = Y at *
 cases H with
 | false =>
   have HF := Lib.hid (show false = V by rw [HV.out]; rfl)
   clear HV
   go_enter Tryd.func25, Tryd.ntmps25
   go_wp2_with (first
    | (go_at_call 58
       refine (HX.out _ (HC.out.later (fresh_w HB0.out) (fresh_w HB0.out).size) (HT.out _ (fresh_w HB0.out))).mono ?_
       rintro e w2 ⟨rfl, hb⟩
       have HB1 := Lib.hid (fresh_more HB0.out hb)
       obtain ⟨c0, c1, c2, c3, c4⟩ := box5 HB1.out
       clear hb))
   all_goals
    go_ret
    exact ⟨congrArg (fun x : Bool => Ending.returned (.bool x)) HF.out, fresh_w HB1.out⟩
 | true =>
   have HF := Lib.hid (show Y = V by rw [HV.out]; rfl)
   clear HV
   go_enter Tryd.func25, Tryd.ntmps25
   go_wp2_with (first
    | (go_at_call 58
       refine (HX.out _ (HC.out.later (fresh_w HB0.out) (fresh_w HB0.out).size) (HT.out _ (fresh_w HB0.out))).mono ?_
       rintro e w2 ⟨rfl, hb⟩
       have HB1 := Lib.hid (fresh_more HB0.out hb)
       obtain ⟨c0, c1, c2, c3, c4⟩ := box5 HB1.out
       clear hb)
    | (go_at_call 60
       refine (HL.out _ (HC.out.later (fresh_w HB1.out) (fresh_w HB1.out).size) (HT.out _ (fresh_w HB1.out))).mono ?_
       rintro e w3 ⟨rfl, hb⟩
       have HB2 := Lib.hid (fresh_more HB1.out hb)
       obtain ⟨c0, c1, c2, c3, c4⟩ := box5 HB2.out
       clear hb))
   all_goals
    go_ret
    exact ⟨congrArg (fun x : Bool => Ending.returned (.bool x)) HF.out, fresh_w HB2.out⟩
set_option maxHeartbeats 2000000 in
theorem form_lt (s : List UInt8) (n p : Int) (ks : List Node) (A : Option Addr) (cap : Nat) (w : World) (h : NodeAt w w.heap.size (.node [108, 116] s n p ks) A cap) (hT : Tab8 w) (ih : ∀ k ∈ ks, FormLaw k) :
  Calls Tryd.prog 25 #[nodeW [108, 116] s n p ks.length A cap] w fun e w' => e = .returned (.bool (formB (.node [108, 116] s n p ks))) ∧ Below w.heap.size w w' := by
 have HC := Lib.hid h
 have IH := Lib.hid ih
 have HT := Lib.hid (fun (W : World) (hW : Below w.heap.size w W) => Go.Proofs.Utf8Tabs_below hT hW)
 have hl := h.len
 obtain ⟨hl1, hl2, _⟩ := hl
 clear h ih hT
 have HH := Lib.hid (fun k nm nu W hW ht => has_any (.node [108, 116] s n p ks) A cap k nm nu W hW ht)
 simp only [nodeT, Node.op, Node.name, Node.num, Node.pos, Node.kids] at HH
 have HB0 := Lib.hid (Below.refl (w.heap.size + 1) (w.alloc (boxN [108, 116] s n p ks.length A cap)))
 simp only [nodeW] at HH ⊢
 have HV := Lib.hid (show formB (.node [108, 116] s n p ks) = (hasB ks.length s n 2 false false && termsB ks) by show formB (.node nLt s n p ks) = _; rw [formB, if_neg (by decide), if_neg (by decide), if_neg (by decide), if_neg (by decide), if_neg (by decide), if_pos (by decide)])
 have HL := Lib.hid (fun W hW ht => terms_any (.node [108, 116] s n p ks) A cap W hW ht (fun k _ => term_any k))
 simp only [nodeT, nodeW, Node.op, Node.name, Node.num, Node.pos, Node.kids] at HL
 have HX := Lib.hid (HH.out 2 false false)
 clear HH IH
 generalize formB (.node [108, 116] s n p ks) = V at *
 generalize hasB ks.length s n 2 false false = H at *
 generalize termsB ks = Y at *
 cases H with
 | false =>
   have HF := Lib.hid (show false = V by rw [HV.out]; rfl)
   clear HV
   go_enter Tryd.func25, Tryd.ntmps25
   go_wp2_with (first
    | (go_at_call 58
       refine (HX.out _ (HC.out.later (fresh_w HB0.out) (fresh_w HB0.out).size) (HT.out _ (fresh_w HB0.out))).mono ?_
       rintro e w2 ⟨rfl, hb⟩
       have HB1 := Lib.hid (fresh_more HB0.out hb)
       obtain ⟨c0, c1, c2, c3, c4⟩ := box5 HB1.out
       clear hb))
   all_goals
    go_ret
    exact ⟨congrArg (fun x : Bool => Ending.returned (.bool x)) HF.out, fresh_w HB1.out⟩
 | true =>
   have HF := Lib.hid (show Y = V by rw [HV.out]; rfl)
   clear HV
   go_enter Tryd.func25, Tryd.ntmps25
   go_wp2_with (first
    | (go_at_call 58
       refine (HX.out _ (HC.out.later (fresh_w HB0.out) (fresh_w HB0.out).size) (HT.out _ (fresh_w HB0.out))).mono ?_
       rintro e w2 ⟨rfl, hb⟩
       have HB1 := Lib.hid (fresh_more HB0.out hb)
       obtain ⟨c0, c1, c2, c3, c4⟩ := box5 HB1.out
       clear hb)
    | (go_at_call 60
       refine (HL.out _ (HC.out.later (fresh_w HB1.out) (fresh_w HB1.out).size) (HT.out _ (fresh_w HB1.out))).mono ?_
       rintro e w3 ⟨rfl, hb⟩
       have HB2 := Lib.hid (fresh_more HB1.out hb)
       obtain ⟨c0, c1, c2, c3, c4⟩ := box5 HB2.out
       clear hb))
   all_goals
    go_ret
    exact ⟨congrArg (fun x : Bool => Ending.returned (.bool x)) HF.out, fresh_w HB2.out⟩
set_option maxHeartbeats 2000000 in
theorem form_le (s : List UInt8) (n p : Int) (ks : List Node) (A : Option Addr) (cap : Nat) (w : World) (h : NodeAt w w.heap.size (.node [108, 101] s n p ks) A cap) (hT : Tab8 w) (ih : ∀ k ∈ ks, FormLaw k) :
  Calls Tryd.prog 25 #[nodeW [108, 101] s n p ks.length A cap] w fun e w' => e = .returned (.bool (formB (.node [108, 101] s n p ks))) ∧ Below w.heap.size w w' := by
 have HC := Lib.hid h
 have IH := Lib.hid ih
 have HT := Lib.hid (fun (W : World) (hW : Below w.heap.size w W) => Go.Proofs.Utf8Tabs_below hT hW)
 have hl := h.len
 obtain ⟨hl1, hl2, _⟩ := hl
 clear h ih hT
 have HH := Lib.hid (fun k nm nu W hW ht => has_any (.node [108, 101] s n p ks) A cap k nm nu W hW ht)
 simp only [nodeT, Node.op, Node.name, Node.num, Node.pos, Node.kids] at HH
 have HB0 := Lib.hid (Below.refl (w.heap.size + 1) (w.alloc (boxN [108, 101] s n p ks.length A cap)))
 simp only [nodeW] at HH ⊢
 have HV := Lib.hid (show formB (.node [108, 101] s n p ks) = (hasB ks.length s n 2 false false && termsB ks) by show formB (.node nLe s n p ks) = _; rw [formB, if_neg (by decide), if_neg (by decide), if_neg (by decide), if_neg (by decide), if_neg (by decide), if_pos (by decide)])
 have HL := Lib.hid (fun W hW ht => terms_any (.node [108, 101] s n p ks) A cap W hW ht (fun k _ => term_any k))
 simp only [nodeT, nodeW, Node.op, Node.name, Node.num, Node.pos, Node.kids] at HL
 have HX := Lib.hid (HH.out 2 false false)
 clear HH IH
 generalize formB (.node [108, 101] s n p ks) = V at *
 generalize hasB ks.length s n 2 false false = H at *
 generalize termsB ks = Y at *
 cases H with
 | false =>
   have HF := Lib.hid (show false = V by rw [HV.out]; rfl)
   clear HV
   go_enter Tryd.func25, Tryd.ntmps25
   go_wp2_with (first
    | (go_at_call 58
       refine (HX.out _ (HC.out.later (fresh_w HB0.out) (fresh_w HB0.out).size) (HT.out _ (fresh_w HB0.out))).mono ?_
       rintro e w2 ⟨rfl, hb⟩
       have HB1 := Lib.hid (fresh_more HB0.out hb)
       obtain ⟨c0, c1, c2, c3, c4⟩ := box5 HB1.out
       clear hb))
   all_goals
    go_ret
    exact ⟨congrArg (fun x : Bool => Ending.returned (.bool x)) HF.out, fresh_w HB1.out⟩
 | true =>
   have HF := Lib.hid (show Y = V by rw [HV.out]; rfl)
   clear HV
   go_enter Tryd.func25, Tryd.ntmps25
   go_wp2_with (first
    | (go_at_call 58
       refine (HX.out _ (HC.out.later (fresh_w HB0.out) (fresh_w HB0.out).size) (HT.out _ (fresh_w HB0.out))).mono ?_
       rintro e w2 ⟨rfl, hb⟩
       have HB1 := Lib.hid (fresh_more HB0.out hb)
       obtain ⟨c0, c1, c2, c3, c4⟩ := box5 HB1.out
       clear hb)
    | (go_at_call 60
       refine (HL.out _ (HC.out.later (fresh_w HB1.out) (fresh_w HB1.out).size) (HT.out _ (fresh_w HB1.out))).mono ?_
       rintro e w3 ⟨rfl, hb⟩
       have HB2 := Lib.hid (fresh_more HB1.out hb)
       obtain ⟨c0, c1, c2, c3, c4⟩ := box5 HB2.out
       clear hb))
   all_goals
    go_ret
    exact ⟨congrArg (fun x : Bool => Ending.returned (.bool x)) HF.out, fresh_w HB2.out⟩
set_option maxHeartbeats 2000000 in
theorem form_in (s : List UInt8) (n p : Int) (ks : List Node) (A : Option Addr) (cap : Nat) (w : World) (h : NodeAt w w.heap.size (.node [105, 110] s n p ks) A cap) (hT : Tab8 w) (ih : ∀ k ∈ ks, FormLaw k) :
  Calls Tryd.prog 25 #[nodeW [105, 110] s n p ks.length A cap] w fun e w' => e = .returned (.bool (formB (.node [105, 110] s n p ks))) ∧ Below w.heap.size w w' := by
 have HC := Lib.hid h
 have IH := Lib.hid ih
 have HT := Lib.hid (fun (W : World) (hW : Below w.heap.size w W) => Go.Proofs.Utf8Tabs_below hT hW)
 have hl := h.len
 obtain ⟨hl1, hl2, _⟩ := hl
 clear h ih hT
 have HH := Lib.hid (fun k nm nu W hW ht => has_any (.node [105, 110] s n p ks) A cap k nm nu W hW ht)
 simp only [nodeT, Node.op, Node.name, Node.num, Node.pos, Node.kids] at HH
 have HB0 := Lib.hid (Below.refl (w.heap.size + 1) (w.alloc (boxN [105, 110] s n p ks.length A cap)))
 simp only [nodeW] at HH ⊢
 have HV := Lib.hid (show formB (.node [105, 110] s n p ks) = (hasB ks.length s n 2 false false && termsB ks) by show formB (.node nIn s n p ks) = _; rw [formB, if_neg (by decide), if_neg (by decide), if_neg (by decide), if_neg (by decide), if_neg (by decide), if_pos (by decide)])
 have HL := Lib.hid (fun W hW ht => terms_any (.node [105, 110] s n p ks) A cap W hW ht (fun k _ => term_any k))
 simp only [nodeT, nodeW, Node.op, Node.name, Node.num, Node.pos, Node.kids] at HL
 have HX := Lib.hid (HH.out 2 false false)
 clear HH IH
 generalize formB (.node [105, 110] s n p ks) = V at *
 generalize hasB ks.length s n 2 false false = H at *
 generalize termsB ks = Y at *
 cases H with
 | false =>
   have HF := Lib.hid (show false = V by rw [HV.out]; rfl)
   clear HV
   go_enter Tryd.func25, Tryd.ntmps25
   go_wp2_with (first
    | (go_at_call 58
       refine (HX.out _ (HC.out.later (fresh_w HB0.out) (fresh_w HB0.out).size) (HT.out _ (fresh_w HB0.out))).mono ?_
       rintro e w2 ⟨rfl, hb⟩
       have HB1 := Lib.hid (fresh_more HB0.out hb)
       obtain ⟨c0, c1, c2, c3, c4⟩ := box5 HB1.out
       clear hb))
   all_goals
    go_ret
    exact ⟨congrArg (fun x : Bool => Ending.returned (.bool x)) HF.out, fresh_w HB1.out⟩
 | true =>
   have HF := Lib.hid (show Y = V by rw [HV.out]; rfl)
   clear HV
   go_enter Tryd.func25, Tryd.ntmps25
   go_wp2_with (first
    | (go_at_call 58
       refine (HX.out _ (HC.out.later (fresh_w HB0.out) (fresh_w HB0.out).size) (HT.out _ (fresh_w HB0.out))).mono ?_
       rintro e w2 ⟨rfl, hb⟩
       have HB1 := Lib.hid (fresh_more HB0.out hb)
       obtain ⟨c0, c1, c2, c3, c4⟩ := box5 HB1.out
       clear hb)
    | (go_at_call 60
       refine (HL.out _ (HC.out.later (fresh_w HB1.out) (fresh_w HB1.out).size) (HT.out _ (fresh_w HB1.out))).mono ?_
       rintro e w3 ⟨rfl, hb⟩
       have HB2 := Lib.hid (fresh_more HB1.out hb)
       obtain ⟨c0, c1, c2, c3, c4⟩ := box5 HB2.out
       clear hb))
   all_goals
    go_ret
    exact ⟨congrArg (fun x : Bool => Ending.returned (.bool x)) HF.out, fresh_w HB2.out⟩
set_option maxHeartbeats 2000000 in
theorem form_notin (s : List UInt8) (n p : Int) (ks : List Node) (A : Option Addr) (cap : Nat) (w : World) (h : NodeAt w w.heap.size (.node [110, 111, 116, 105, 110] s n p ks) A cap) (hT : Tab8 w) (ih : ∀ k ∈ ks, FormLaw k) :
  Calls Tryd.prog 25 #[nodeW [110, 111, 116, 105, 110] s n p ks.length A cap] w fun e w' => e = .returned (.bool (formB (.node [110, 111, 116, 105, 110] s n p ks))) ∧ Below w.heap.size w w' := by
 have HC := Lib.hid h
 have IH := Lib.hid ih
 have HT := Lib.hid (fun (W : World) (hW : Below w.heap.size w W) => Go.Proofs.Utf8Tabs_below hT hW)
 have hl := h.len
 obtain ⟨hl1, hl2, _⟩ := hl
 clear h ih hT
 have HH := Lib.hid (fun k nm nu W hW ht => has_any (.node [110, 111, 116, 105, 110] s n p ks) A cap k nm nu W hW ht)
 simp only [nodeT, Node.op, Node.name, Node.num, Node.pos, Node.kids] at HH
 have HB0 := Lib.hid (Below.refl (w.heap.size + 1) (w.alloc (boxN [110, 111, 116, 105, 110] s n p ks.length A cap)))
 simp only [nodeW] at HH ⊢
 have HV := Lib.hid (show formB (.node [110, 111, 116, 105, 110] s n p ks) = (hasB ks.length s n 2 false false && termsB ks) by show formB (.node nNotin s n p ks) = _; rw [formB, if_neg (by decide), if_neg (by decide), if_neg (by decide), if_neg (by decide), if_neg (by decide), if_pos (by decide)])
 have HL := Lib.hid (fun W hW ht => terms_any (.node [110, 111, 116, 105, 110] s n p ks) A cap W hW ht (fun k _ => term_any k))
 simp only [nodeT, nodeW, Node.op, Node.name, Node.num, Node.pos, Node.kids] at HL
 have HX := Lib.hid (HH.out 2 false false)
 clear HH IH
 generalize formB (.node [110, 111, 116, 105, 110] s n p ks) = V at *
 generalize hasB ks.length s n 2 false false = H at *
 generalize termsB ks = Y at *
 cases H with
 | false =>
   have HF := Lib.hid (show false = V by rw [HV.out]; rfl)
   clear HV
   go_enter Tryd.func25, Tryd.ntmps25
   go_wp2_with (first
    | (go_at_call 58
       refine (HX.out _ (HC.out.later (fresh_w HB0.out) (fresh_w HB0.out).size) (HT.out _ (fresh_w HB0.out))).mono ?_
       rintro e w2 ⟨rfl, hb⟩
       have HB1 := Lib.hid (fresh_more HB0.out hb)
       obtain ⟨c0, c1, c2, c3, c4⟩ := box5 HB1.out
       clear hb))
   all_goals
    go_ret
    exact ⟨congrArg (fun x : Bool => Ending.returned (.bool x)) HF.out, fresh_w HB1.out⟩
 | true =>
   have HF := Lib.hid (show Y = V by rw [HV.out]; rfl)
   clear HV
   go_enter Tryd.func25, Tryd.ntmps25
   go_wp2_with (first
    | (go_at_call 58
       refine (HX.out _ (HC.out.later (fresh_w HB0.out) (fresh_w HB0.out).size) (HT.out _ (fresh_w HB0.out))).mono ?_
       rintro e w2 ⟨rfl, hb⟩
       have HB1 := Lib.hid (fresh_more HB0.out hb)
       obtain ⟨c0, c1, c2, c3, c4⟩ := box5 HB1.out
       clear hb)
    | (go_at_call 60
       refine (HL.out _ (HC.out.later (fresh_w HB1.out) (fresh_w HB1.out).size) (HT.out _ (fresh_w HB1.out))).mono ?_
       rintro e w3 ⟨rfl, hb⟩
       have HB2 := Lib.hid (fresh_more HB1.out hb)
       obtain ⟨c0, c1, c2, c3, c4⟩ := box5 HB2.out
       clear hb))
   all_goals
    go_ret
    exact ⟨congrArg (fun x : Bool => Ending.returned (.bool x)) HF.out, fresh_w HB2.out⟩
set_option maxHeartbeats 2000000 in
theorem form_sub (s : List UInt8) (n p : Int) (ks : List Node) (A : Option Addr) (cap : Nat) (w : World) (h : NodeAt w w.heap.size (.node [115, 117, 98] s n p ks) A cap) (hT : Tab8 w) (ih : ∀ k ∈ ks, FormLaw k) :
  Calls Tryd.prog 25 #[nodeW [115, 117, 98] s n p ks.length A cap] w fun e w' => e = .returned (.bool (formB (.node [115, 117, 98] s n p ks))) ∧ Below w.heap.size w w' := by
 have HC := Lib.hid h
 have IH := Lib.hid ih
 have HT := Lib.hid (fun (W : World) (hW : Below w.heap.size w W) => Go.Proofs.Utf8Tabs_below hT hW)
 have hl := h.len
 obtain ⟨hl1, hl2, _⟩ := hl
 clear h ih hT
 have HH := Lib.hid (fun k nm nu W hW ht => has_any (.node [115, 117, 98] s n p ks) A cap k nm nu W hW ht)
 simp only [nodeT, Node.op, Node.name, Node.num, Node.pos, Node.kids] at HH
 have HB0 := Lib.hid (Below.refl (w.heap.size + 1) (w.alloc (boxN [115, 117, 98] s n p ks.length A cap)))
 simp only [nodeW] at HH ⊢
 have HV := Lib.hid (show formB (.node [115, 117, 98] s n p ks) = (hasB ks.length s n 2 false false && termsB ks) by show formB (.node nSub s n p ks) = _; rw [formB, if_neg (by decide), if_neg (by decide), if_neg (by decide), if_neg (by decide), if_neg (by decide), if_pos (by decide)])
 have HL := Lib.hid (fun W hW ht => terms_any (.node [115, 117, 98] s n p ks) A cap W hW ht (fun k _ => term_any k))
 simp only [nodeT, nodeW, Node.op, Node.name, Node.num, Node.pos, Node.kids] at HL
 have HX := Lib.hid (HH.out 2 false false)
 clear HH IH
 generalize formB (.node [115, 117, 98] s n p ks) = V at *
 generalize hasB ks.length s n 2 false false = H at *
 generalize termsB ks = Y at *
 cases H with
 | false =>
   have HF := Lib.hid (show false = V by rw [HV.out]; rfl)
   clear HV
   go_enter Tryd.func25, Tryd.ntmps25
   go_wp2_with (first
    | (go_at_call 58
       refine (HX.out _ (HC.out.later (fresh_w HB0.out) (fresh_w HB0.out).size) (HT.out _ (fresh_w HB0.out))).mono ?_
       rintro e w2 ⟨rfl, hb⟩
       have HB1 := Lib.hid (fresh_more HB0.out hb)
       obtain ⟨c0, c1, c2, c3, c4⟩ := box5 HB1.out
       clear hb))
   all_goals
    go_ret
    exact ⟨congrArg (fun x : Bool => Ending.returned (.bool x)) HF.out, fresh_w HB1.out⟩
 | true =>
   have HF := Lib.hid (show Y = V by rw [HV.out]; rfl)
   clear HV
   go_enter Tryd.func25, Tryd.ntmps25
   go_wp2_with (first
    | (go_at_call 58
       refine (HX.out _ (HC.out.later (fresh_w HB0.out) (fresh_w HB0.out).size) (HT.out _ (fresh_w HB0.out))).mono ?_
       rintro e w2 ⟨rfl, hb⟩
       have HB1 := Lib.hid (fresh_more HB0.out hb)
       obtain ⟨c0, c1, c2, c3, c4⟩ := box5 HB1.out
       clear hb)
    | (go_at_call 60
       refine (HL.out _ (HC.out.later (fresh_w HB1.out) (fresh_w HB1.out).size) (HT.out _ (fresh_w HB1.out))).mono ?_
       rintro e w3 ⟨rfl, hb⟩
       have HB2 := Lib.hid (fresh_more HB1.out hb)
       obtain ⟨c0, c1, c2, c3, c4⟩ := box5 HB2.out
       clear hb))
   all_goals
    go_ret
    exact ⟨congrArg (fun x : Bool => Ending.returned (.bool x)) HF.out, fresh_w HB2.out⟩
set_option maxHeartbeats 2000000 in
theorem form_call (s : List UInt8) (n p : Int) (ks : List Node) (A : Option Addr) (cap : Nat) (w : World) (h : NodeAt w w.heap.size (.node [99, 97, 108, 108] s n p ks) A cap) (hT : Tab8 w) (ih : ∀ k ∈ ks, FormLaw k) :
  Calls Tryd.prog 25 #[nodeW [99, 97, 108, 108] s n p ks.length A cap] w fun e w' => e = .returned (.bool (formB (.node [99, 97, 108, 108] s n p ks))) ∧ Below w.heap.size w w' := by
 have HC := Lib.hid h
 have IH := Lib.hid ih
 have HT := Lib.hid (fun (W : World) (hW : Below w.heap.size w W) => Go.Proofs.Utf8Tabs_below hT hW)
 have hl := h.len
 obtain ⟨hl1, hl2, _⟩ := hl
 clear h ih hT
 have HH := Lib.hid (fun k nm nu W hW ht => has_any (.node [99, 97, 108, 108] s n p ks) A cap k nm nu W hW ht)
 simp only [nodeT, Node.op, Node.name, Node.num, Node.pos, Node.kids] at HH
 have HB0 := Lib.hid (Below.refl (w.heap.size + 1) (w.alloc (boxN [99, 97, 108, 108] s n p ks.length A cap)))
 simp only [nodeW] at HH ⊢
 have HV := Lib.hid (show formB (.node [99, 97, 108, 108] s n p ks) = (hasB ks.length s n ks.length true false && decide (ks.length ≤ 6) && termsB ks) by show formB (.node nCall s n p ks) = _; rw [formB, if_neg (by decide), if_neg (by decide), if_neg (by decide), if_neg (by decide), if_neg (by decide), if_neg (by decide), if_pos (by decide), Bool.and_assoc])
 have HL := Lib.hid (fun W hW ht => terms_any (.node [99, 97, 108, 108] s n p ks) A cap W hW ht (fun k _ => term_any k))
 simp only [nodeT, nodeW, Node.op, Node.name, Node.num, Node.pos, Node.kids] at HL
 have HX := Lib.hid (HH.out ks.length true false)
 clear HH IH
 generalize formB (.node [99, 97, 108, 108] s n p ks) = V at *
 generalize hasB ks.length s n ks.length true false = H at *
 generalize termsB ks = Y at *
 cases H with
 | false =>
   have HF := Lib.hid (show false = V by rw [HV.out]; rfl)
   clear HV
   go_enter Tryd.func25, Tryd.ntmps25
   go_wp2_with (first
    | (go_at_call 58
       refine (HX.out _ (HC.out.later (fresh_w HB0.out) (fresh_w HB0.out).size) (HT.out _ (fresh_w HB0.out))).mono ?_
       rintro e w2 ⟨rfl, hb⟩
       have HB1 := Lib.hid (fresh_more HB0.out hb)
       obtain ⟨c0, c1, c2, c3, c4⟩ := box5 HB1.out
       clear hb))
   all_goals
    go_ret
    exact ⟨congrArg (fun x : Bool => Ending.returned (.bool x)) HF.out, fresh_w HB1.out⟩
 | true =>
   by_cases h6 : ks.length ≤ 6
   · have g6 : decide ((ks.length : Int) ≤ 6) = true := decide_eq_true (by omega)
     have HF := Lib.hid (show Y = V by rw [HV.out, decide_eq_true h6]; rfl)
     clear HV
     go_enter Tryd.func25, Tryd.ntmps25
     go_wp2_with (first
      | (go_at_call 58
         refine (HX.out _ (HC.out.later (fresh_w HB0.out) (fresh_w HB0.out).size) (HT.out _ (fresh_w HB0.out))).mono ?_
         rintro e w2 ⟨rfl, hb⟩
         have HB1 := Lib.hid (fresh_more HB0.out hb)
         obtain ⟨c0, c1, c2, c3, c4⟩ := box5 HB1.out
         clear hb)
      | (go_at_call 60
         refine (HL.out _ (HC.out.later (fresh_w HB1.out) (fresh_w HB1.out).size) (HT.out _ (fresh_w HB1.out))).mono ?_
         rintro e w3 ⟨rfl, hb⟩
         have HB2 := Lib.hid (fresh_more HB1.out hb)
         obtain ⟨c0, c1, c2, c3, c4⟩ := box5 HB2.out
         clear hb))
     all_goals
      go_ret
      exact ⟨congrArg (fun x : Bool => Ending.returned (.bool x)) HF.out, fresh_w HB2.out⟩
   · have g6 : decide ((ks.length : Int) ≤ 6) = false := decide_eq_false (by omega)
     have HF := Lib.hid (show false = V by rw [HV.out, decide_eq_false h6]; rfl)
     clear HV
     go_enter Tryd.func25, Tryd.ntmps25
     go_wp2_with (first
      | (go_at_call 58
         refine (HX.out _ (HC.out.later (fresh_w HB0.out) (fresh_w HB0.out).size) (HT.out _ (fresh_w HB0.out))).mono ?_
         rintro e w2 ⟨rfl, hb⟩
         have HB1 := Lib.hid (fresh_more HB0.out hb)
         obtain ⟨c0, c1, c2, c3, c4⟩ := box5 HB1.out
         clear hb))
     all_goals
      go_ret
      exact ⟨congrArg (fun x : Bool => Ending.returned (.bool x)) HF.out, fresh_w HB1.out⟩
set_option maxHeartbeats 2000000 in
theorem form_rest (o s : List UInt8) (n p : Int) (ks : List Node) (A : Option Addr) (cap : Nat) (w : World) (h : NodeAt w w.heap.size (.node o s n p ks) A cap) (hT : Tab8 w) (ih : ∀ k ∈ ks, FormLaw k) (h0 : ¬ o = nTrue) (h1 : ¬ o = nFalse) (h2 : ¬ o = nNot) (h3 : ¬ o = nAnd) (h4 : ¬ o = nOr) (h5 : ¬ o = nImp) (h6 : ¬ o = nIff) (h7 : ¬ o = nEx) (h8 : ¬ o = nAll) (h9 : ¬ o = nIs) (h10 : ¬ o = nEq) (h11 : ¬ o = nNe) (h12 : ¬ o = nLt) (h13 : ¬ o = nLe) (h14 : ¬ o = nIn) (h15 : ¬ o = nNotin) (h16 : ¬ o = nSub) (h17 : ¬ o = nCall) :
  Calls Tryd.prog 25 #[nodeW o s n p ks.length A cap] w fun e w' => e = .returned (.bool (formB (.node o s n p ks))) ∧ Below w.heap.size w w' := by
 have HC := Lib.hid h
 have IH := Lib.hid ih
 have HT := Lib.hid (fun (W : World) (hW : Below w.heap.size w W) => Go.Proofs.Utf8Tabs_below hT hW)
 have hl := h.len
 obtain ⟨hl1, hl2, _⟩ := hl
 clear h ih hT
 have HH := Lib.hid (fun k nm nu W hW ht => has_any (.node o s n p ks) A cap k nm nu W hW ht)
 simp only [nodeT, Node.op, Node.name, Node.num, Node.pos, Node.kids] at HH
 have HB0 := Lib.hid (Below.refl (w.heap.size + 1) (w.alloc (boxN o s n p ks.length A cap)))
 simp only [nodeW] at HH ⊢
 have HF := Lib.hid (show false = formB (.node o s n p ks) by
  rw [formB, if_neg (by simp only [h0, h1, or_self, not_false_eq_true]), if_neg h2, if_neg (by unfold binOp; simp only [h3, h4, h5, h6, decide_false, Bool.or_self, Bool.false_eq_true, not_false_eq_true]), if_neg (by simp only [h7, h8, or_self, not_false_eq_true]), if_neg h9, if_neg (by unfold relOp; simp only [h10, h11, h12, h13, h14, h15, h16, decide_false, Bool.or_self, Bool.false_eq_true, not_false_eq_true]), if_neg h17])
 have g0 : (o == [116, 114, 117, 101]) = false := beq_false_of_ne h0
 have g1 : (o == [102, 97, 108, 115, 101]) = false := beq_false_of_ne h1
 have g2 : (o == [110, 111, 116]) = false := beq_false_of_ne h2
 have g3 : (o == [97, 110, 100]) = false := beq_false_of_ne h3
 have g4 : (o == [111, 114]) = false := beq_false_of_ne h4
 have g5 : (o == [105, 109, 112]) = false := beq_false_of_ne h5
 have g6 : (o == [105, 102, 102]) = false := beq_false_of_ne h6
 have g7 : (o == [101, 120]) = false := beq_false_of_ne h7
 have g8 : (o == [97, 108, 108]) = false := beq_false_of_ne h8
 have g9 : (o == [105, 115]) = false := beq_false_of_ne h9
 have g10 : (o == [101, 113]) = false := beq_false_of_ne h10
 have g11 : (o == [110, 101]) = false := beq_false_of_ne h11
 have g12 : (o == [108, 116]) = false := beq_false_of_ne h12
 have g13 : (o == [108, 101]) = false := beq_false_of_ne h13
 have g14 : (o == [105, 110]) = false := beq_false_of_ne h14
 have g15 : (o == [110, 111, 116, 105, 110]) = false := beq_false_of_ne h15
 have g16 : (o == [115, 117, 98]) = false := beq_false_of_ne h16
 have g17 : (o == [99, 97, 108, 108]) = false := beq_false_of_ne h17
 clear HH IH h0 h1 h2 h3 h4 h5 h6 h7 h8 h9 h10 h11 h12 h13 h14 h15 h16 h17
 generalize formB (.node o s n p ks) = V at *
 go_enter Tryd.func25, Tryd.ntmps25
 go_wp2_with fail
 all_goals
  go_ret
  exact ⟨congrArg (fun x : Bool => Ending.returned (.bool x)) HF.out, fresh_w HB0.out⟩
theorem form_any : ∀ t : Node, FormLaw t := by
 intro t
 induction t using Node.ind with
 | h o s n p ks ih =>
   intro A cap w h hT
   show Calls Tryd.prog 25 #[nodeW o s n p ks.length A cap] w _
   by_cases h0 : o = nTrue
   · subst h0
     exact form_true s n p ks A cap w h hT ih
   by_cases h1 : o = nFalse
   · subst h1
     exact form_false s n p ks A cap w h hT ih
   by_cases h2 : o = nNot
   · subst h2
     exact form_not s n p ks A cap w h hT ih
   by_cases h3 : o = nAnd
   · subst h3
     exact form_and s n p ks A cap w h hT ih
   by_cases h4 : o = nOr
   · subst h4
     exact form_or s n p ks A cap w h hT ih
   by_cases h5 : o = nImp
   · subst h5
     exact form_imp s n p ks A cap w h hT ih
   by_cases h6 : o = nIff
   · subst h6
     exact form_iff s n p ks A cap w h hT ih
   by_cases h7 : o = nEx
   · subst h7
     exact form_ex s n p ks A cap w h hT ih
   by_cases h8 : o = nAll
   · subst h8
     exact form_all s n p ks A cap w h hT ih
   by_cases h9 : o = nIs
   · subst h9
     exact form_is s n p ks A cap w h hT ih
   by_cases h10 : o = nEq
   · subst h10
     exact form_eq s n p ks A cap w h hT ih
   by_cases h11 : o = nNe
   · subst h11
     exact form_ne s n p ks A cap w h hT ih
   by_cases h12 : o = nLt
   · subst h12
     exact form_lt s n p ks A cap w h hT ih
   by_cases h13 : o = nLe
   · subst h13
     exact form_le s n p ks A cap w h hT ih
   by_cases h14 : o = nIn
   · subst h14
     exact form_in s n p ks A cap w h hT ih
   by_cases h15 : o = nNotin
   · subst h15
     exact form_notin s n p ks A cap w h hT ih
   by_cases h16 : o = nSub
   · subst h16
     exact form_sub s n p ks A cap w h hT ih
   by_cases h17 : o = nCall
   · subst h17
     exact form_call s n p ks A cap w h hT ih
   exact form_rest o s n p ks A cap w h hT ih h0 h1 h2 h3 h4 h5 h6 h7 h8 h9 h10 h11 h12 h13 h14 h15 h16 h17
def isFormB (t : Node) : Bool := smallB t && formB t
def isTermB (t : Node) : Bool := smallB t && termB t
theorem isFormula_any (t : Node) (A : Option Addr) (cap : Nat) (w : World) (h : NodeAt w w.heap.size t A cap) (hT : Tab8 w) :
  Calls Tryd.prog 9 #[nodeT t A cap] w fun e w' => e = .returned (.bool (isFormB t)) ∧ Below w.heap.size w w' := by
 have HS := Lib.hid (fun W hW => small_any t A cap W hW)
 have HL := Lib.hid (fun W hW ht => form_any t A cap W hW ht)
 have HC := Lib.hid h
 have HT := Lib.hid (fun (W : World) (hW : Below w.heap.size w W) => Go.Proofs.Utf8Tabs_below hT hW)
 clear h hT
 have HV := Lib.hid (show isFormB t = (smallB t && formB t) from rfl)
 generalize isFormB t = V at *
 generalize smallB t = H at *
 generalize formB t = Y at *
 cases t with
 | node o s n p ks =>
   simp only [nodeT, nodeW, Node.op, Node.name, Node.num, Node.pos, Node.kids] at HL HS ⊢
   have HB0 := Lib.hid (Below.refl (w.heap.size + 1) (w.alloc (boxN o s n p ks.length A cap)))
   cases H with
   | false =>
     have HF := Lib.hid (show false = V by rw [HV.out]; rfl)
     clear HV
     go_enter Tryd.func9, Tryd.ntmps9
     go_wp2_with (first
      | (go_at_call 24
         refine (HS.out _ (HC.out.later (fresh_w HB0.out) (fresh_w HB0.out).size)).mono ?_
         rintro e w2 ⟨rfl, hb⟩
         have HB1 := Lib.hid (fresh_more HB0.out hb)
         obtain ⟨c0, c1, c2, c3, c4⟩ := box5 HB1.out
         clear hb))
     all_goals
      go_ret
      exact ⟨congrArg (fun x : Bool => Ending.returned (.bool x)) HF.out, fresh_w HB1.out⟩
   | true =>
     have HF := Lib.hid (show Y = V by rw [HV.out]; rfl)
     clear HV
     go_enter Tryd.func9, Tryd.ntmps9
     go_wp2_with (first
      | (go_at_call 24
         refine (HS.out _ (HC.out.later (fresh_w HB0.out) (fresh_w HB0.out).size)).mono ?_
         rintro e w2 ⟨rfl, hb⟩
         have HB1 := Lib.hid (fresh_more HB0.out hb)
         obtain ⟨c0, c1, c2, c3, c4⟩ := box5 HB1.out
         clear hb)
      | (go_at_call 25
         refine (HL.out _ (HC.out.later (fresh_w HB1.out) (fresh_w HB1.out).size) (HT.out _ (fresh_w HB1.out))).mono ?_
         rintro e w3 ⟨rfl, hb⟩
         have HB2 := Lib.hid (fresh_more HB1.out hb)
         obtain ⟨c0, c1, c2, c3, c4⟩ := box5 HB2.out
         clear hb))
     all_goals
      go_ret
      exact ⟨congrArg (fun x : Bool => Ending.returned (.bool x)) HF.out, fresh_w HB2.out⟩
end Go.Proofs.YteikakoheibnjaaDoor
