/- The walk over sibylref3.term, an op at a time (printed by mkterm.py). -/
import Derived.Test.YteikakoheibnjaaDoorTerms
namespace Go.Proofs.YteikakoheibnjaaDoor
open Go Go.RowKit

theorem fresh_w {w W : World} {x : Obj} (h : Below (w.heap.size + 1) (w.alloc x) W) : Below w.heap.size w W := ((Below.refl w.heap.size w).alloc (Nat.le_refl _) _).trans (h.mono (Nat.le_succ _))
theorem fresh_size {w W : World} {x : Obj} (h : Below (w.heap.size + 1) (w.alloc x) W) : w.heap.size + 1 ≤ W.heap.size := by
  have := h.size
  simpa using this
theorem fresh_more {w W W' : World} {x : Obj} (h : Below (w.heap.size + 1) (w.alloc x) W) (hb : Below W.heap.size W W') : Below (w.heap.size + 1) (w.alloc x) W' := h.trans (hb.mono (fresh_size h))
theorem two_of : ∀ {l : List Node}, l.length = 2 → ∃ x y, l = [x, y]
  | [a, b], _ => ⟨a, b, rfl⟩
set_option maxHeartbeats 2000000 in
theorem term_var (s : List UInt8) (n p : Int) (ks : List Node) (A : Option Addr) (cap : Nat) (w : World) (h : NodeAt w w.heap.size (.node [118, 97, 114] s n p ks) A cap) (hT : Tab8 w) (ih : ∀ k ∈ ks, TermLaw k) :
    Calls Tryd.prog 26 #[nodeW [118, 97, 114] s n p ks.length A cap] w fun e w' => e = .returned (.bool (termB (.node [118, 97, 114] s n p ks))) ∧ Below w.heap.size w w' := by
  have HC := Lib.hid h
  have IH := Lib.hid ih
  have HT := Lib.hid (fun (W : World) (hW : Below w.heap.size w W) => Go.Proofs.Utf8Tabs_below hT hW)
  have hl := h.len
  obtain ⟨hl1, hl2, _⟩ := hl
  clear h ih hT
  have HH := Lib.hid (fun k nm nu W hW ht => has_any (.node [118, 97, 114] s n p ks) A cap k nm nu W hW ht)
  simp only [nodeT, Node.op, Node.name, Node.num, Node.pos, Node.kids] at HH
  have HB0 := Lib.hid (Below.refl (w.heap.size + 1) (w.alloc (boxN [118, 97, 114] s n p ks.length A cap)))
  simp only [nodeW] at HH ⊢
  have HF := Lib.hid (show hasB ks.length s n 0 true false = termB (.node [118, 97, 114] s n p ks) by show _ = termB (.node nVar s n p ks); rw [termB, if_pos rfl])
  generalize termB (.node [118, 97, 114] s n p ks) = V at *
  go_enter Tryd.func26, Tryd.ntmps26
  go_wp2_with (first
    | (go_at_call 58
       refine (HH.out 0 true false _ (HC.out.later (fresh_w HB0.out) (fresh_w HB0.out).size) (HT.out _ (fresh_w HB0.out))).mono ?_
       rintro e w2 ⟨rfl, hb⟩
       have HB1 := Lib.hid (fresh_more HB0.out hb)
       obtain ⟨c0, c1, c2, c3, c4⟩ := box5 HB1.out
       clear hb))
  all_goals
    go_ret
    exact ⟨congrArg (fun x : Bool => Ending.returned (.bool x)) HF.out, fresh_w HB1.out⟩
set_option maxHeartbeats 2000000 in
theorem term_num (s : List UInt8) (n p : Int) (ks : List Node) (A : Option Addr) (cap : Nat) (w : World) (h : NodeAt w w.heap.size (.node [110, 117, 109] s n p ks) A cap) (hT : Tab8 w) (ih : ∀ k ∈ ks, TermLaw k) :
    Calls Tryd.prog 26 #[nodeW [110, 117, 109] s n p ks.length A cap] w fun e w' => e = .returned (.bool (termB (.node [110, 117, 109] s n p ks))) ∧ Below w.heap.size w w' := by
  have HC := Lib.hid h
  have IH := Lib.hid ih
  have HT := Lib.hid (fun (W : World) (hW : Below w.heap.size w W) => Go.Proofs.Utf8Tabs_below hT hW)
  have hl := h.len
  obtain ⟨hl1, hl2, _⟩ := hl
  clear h ih hT
  have HH := Lib.hid (fun k nm nu W hW ht => has_any (.node [110, 117, 109] s n p ks) A cap k nm nu W hW ht)
  simp only [nodeT, Node.op, Node.name, Node.num, Node.pos, Node.kids] at HH
  have HB0 := Lib.hid (Below.refl (w.heap.size + 1) (w.alloc (boxN [110, 117, 109] s n p ks.length A cap)))
  simp only [nodeW] at HH ⊢
  have HV := Lib.hid (show termB (.node [110, 117, 109] s n p ks) = (hasB ks.length s n 0 false true && decide (0 ≤ n) && decide (n ≤ 99)) by show termB (.node nNum s n p ks) = _; rw [termB, if_neg (by decide), if_pos rfl])
  have HX := Lib.hid (HH.out 0 false true)
  clear HH
  generalize termB (.node [110, 117, 109] s n p ks) = V at *
  generalize hasB ks.length s n 0 false true = H at *
  cases H with
  | false =>
    have HF := Lib.hid (show false = V by rw [HV.out]; rfl)
    clear HV
    go_enter Tryd.func26, Tryd.ntmps26
    go_wp2_with (first
      | (go_at_call 58
         refine (HX.out _ (HC.out.later (fresh_w HB0.out) (fresh_w HB0.out).size) (HT.out _ (fresh_w HB0.out))).mono ?_
         rintro e w2 ⟨rfl, hb⟩
         have HB1 := Lib.hid (fresh_more HB0.out hb)
         obtain ⟨c0, c1, c2, c3, c4⟩ := box5 HB1.out
         clear hb))
    all_goals
      go_ret
      exact ⟨congrArg (fun x : Bool => Ending.returned (.bool x)) HF.out, fresh_w HB1.out⟩
  | true =>
    by_cases h1 : 0 ≤ n
    · have g1 : decide (n ≥ 0) = true := decide_eq_true h1
      by_cases h2 : n ≤ 99
      · have g2 : decide (n ≤ 99) = true := decide_eq_true h2
        have HF := Lib.hid (show true = V by rw [HV.out, decide_eq_true h1, decide_eq_true h2]; rfl)
        clear HV
        go_enter Tryd.func26, Tryd.ntmps26
        go_wp2_with (first
          | (go_at_call 58
             refine (HX.out _ (HC.out.later (fresh_w HB0.out) (fresh_w HB0.out).size) (HT.out _ (fresh_w HB0.out))).mono ?_
             rintro e w2 ⟨rfl, hb⟩
             have HB1 := Lib.hid (fresh_more HB0.out hb)
             obtain ⟨c0, c1, c2, c3, c4⟩ := box5 HB1.out
             clear hb))
        all_goals
          go_ret
          exact ⟨congrArg (fun x : Bool => Ending.returned (.bool x)) HF.out, fresh_w HB1.out⟩
      · have g2 : decide (n ≤ 99) = false := decide_eq_false h2
        have HF := Lib.hid (show false = V by rw [HV.out, decide_eq_false h2, Bool.and_false])
        clear HV
        go_enter Tryd.func26, Tryd.ntmps26
        go_wp2_with (first
          | (go_at_call 58
             refine (HX.out _ (HC.out.later (fresh_w HB0.out) (fresh_w HB0.out).size) (HT.out _ (fresh_w HB0.out))).mono ?_
             rintro e w2 ⟨rfl, hb⟩
             have HB1 := Lib.hid (fresh_more HB0.out hb)
             obtain ⟨c0, c1, c2, c3, c4⟩ := box5 HB1.out
             clear hb))
        all_goals
          go_ret
          exact ⟨congrArg (fun x : Bool => Ending.returned (.bool x)) HF.out, fresh_w HB1.out⟩
    · have g1 : decide (n ≥ 0) = false := decide_eq_false h1
      have HF := Lib.hid (show false = V by rw [HV.out, decide_eq_false h1]; rfl)
      clear HV
      go_enter Tryd.func26, Tryd.ntmps26
      go_wp2_with (first
        | (go_at_call 58
           refine (HX.out _ (HC.out.later (fresh_w HB0.out) (fresh_w HB0.out).size) (HT.out _ (fresh_w HB0.out))).mono ?_
           rintro e w2 ⟨rfl, hb⟩
           have HB1 := Lib.hid (fresh_more HB0.out hb)
           obtain ⟨c0, c1, c2, c3, c4⟩ := box5 HB1.out
           clear hb))
      all_goals
        go_ret
        exact ⟨congrArg (fun x : Bool => Ending.returned (.bool x)) HF.out, fresh_w HB1.out⟩
set_option maxHeartbeats 2000000 in
theorem term_plus (s : List UInt8) (n p : Int) (ks : List Node) (A : Option Addr) (cap : Nat) (w : World) (h : NodeAt w w.heap.size (.node [112, 108, 117, 115] s n p ks) A cap) (hT : Tab8 w) (ih : ∀ k ∈ ks, TermLaw k) :
    Calls Tryd.prog 26 #[nodeW [112, 108, 117, 115] s n p ks.length A cap] w fun e w' => e = .returned (.bool (termB (.node [112, 108, 117, 115] s n p ks))) ∧ Below w.heap.size w w' := by
  have HC := Lib.hid h
  have IH := Lib.hid ih
  have HT := Lib.hid (fun (W : World) (hW : Below w.heap.size w W) => Go.Proofs.Utf8Tabs_below hT hW)
  have hl := h.len
  obtain ⟨hl1, hl2, _⟩ := hl
  clear h ih hT
  have HH := Lib.hid (fun k nm nu W hW ht => has_any (.node [112, 108, 117, 115] s n p ks) A cap k nm nu W hW ht)
  simp only [nodeT, Node.op, Node.name, Node.num, Node.pos, Node.kids] at HH
  have HB0 := Lib.hid (Below.refl (w.heap.size + 1) (w.alloc (boxN [112, 108, 117, 115] s n p ks.length A cap)))
  simp only [nodeW] at HH ⊢
  have HV := Lib.hid (show termB (.node [112, 108, 117, 115] s n p ks) = (hasB ks.length s n 1 false true && decide (1 ≤ n) && decide (n ≤ 99) && ks.all (fun k => decide (k.op = nVar)) && termsB ks) by show termB (.node nPlus s n p ks) = _; rw [termB, if_neg (by decide), if_neg (by decide), if_pos rfl])
  have HX := Lib.hid (HH.out 1 false true)
  clear HH
  generalize termB (.node [112, 108, 117, 115] s n p ks) = V at *
  have hH : hasB ks.length s n 1 false true = true → ks.length = 1 := fun h => (hasB_name h).2.1
  generalize hasB ks.length s n 1 false true = H at *
  cases H with
  | false =>
    clear hH
    have HF := Lib.hid (show false = V by rw [HV.out]; rfl)
    clear HV
    go_enter Tryd.func26, Tryd.ntmps26
    go_wp2_with (first
      | (go_at_call 58
         refine (HX.out _ (HC.out.later (fresh_w HB0.out) (fresh_w HB0.out).size) (HT.out _ (fresh_w HB0.out))).mono ?_
         rintro e w2 ⟨rfl, hb⟩
         have HB1 := Lib.hid (fresh_more HB0.out hb)
         obtain ⟨c0, c1, c2, c3, c4⟩ := box5 HB1.out
         clear hb))
    all_goals
      go_ret
      exact ⟨congrArg (fun x : Bool => Ending.returned (.bool x)) HF.out, fresh_w HB1.out⟩
  | true =>
    have hk := hH rfl
    clear hH
    by_cases h1 : 1 ≤ n
    · have g1 : decide (n ≥ 1) = true := decide_eq_true h1
      by_cases h2 : n ≤ 99
      · have g2 : decide (n ≤ 99) = true := decide_eq_true h2
        obtain ⟨x, rfl⟩ : ∃ x, ks = [x] := by
          match ks, hk with
          | [a], _ => exact ⟨a, rfl⟩
        obtain ⟨bb, off, A', cap', rfl, hlo, hcells, hkid⟩ := HC.out.kid 0 (by simp)
        have HI := Lib.hid (fun (W : World) (hh : NodeAt W W.heap.size x A' cap') (ht : Tab8 W) => (IH.out x (by simp)) A' cap' W (by first | exact hh) (by first | exact ht))
        have HV2 := Lib.hid (show V = (decide (x.op = nVar) && termB x) by rw [HV.out, decide_eq_true h1, decide_eq_true h2]; simp [termsB])
        clear HV IH hk
        simp only [List.getElem_cons_zero, Nat.zero_mul, Nat.add_zero] at hcells hkid
        cases x with
        | node o' s' n' p' ks' =>
          have HKC := Lib.hid (fun (W : World) (hW : Below w.heap.size w W) => kid_cells hlo hcells hW)
          have HKD := Lib.hid hkid
          clear hcells hkid
          simp only [nodeT, nodeW, Node.op, Node.name, Node.num, Node.pos, Node.kids] at HI HV2
          by_cases h3 : o' = [118, 97, 114]
          · have g3 : (o' == [118, 97, 114]) = true := by rw [h3]; rfl
            have HF := Lib.hid (show termB (.node o' s' n' p' ks') = V by rw [HV2.out]; have h : o' = nVar := h3; simp [h])
            clear HV2 h3
            generalize termB (.node o' s' n' p' ks') = y at *
            go_enter Tryd.func26, Tryd.ntmps26
            go_wp2_with (first
              | (go_at_call 58
                 refine (HX.out _ (HC.out.later (fresh_w HB0.out) (fresh_w HB0.out).size) (HT.out _ (fresh_w HB0.out))).mono ?_
                 rintro e w2 ⟨rfl, hb⟩
                 have HB1 := Lib.hid (fresh_more HB0.out hb)
                 obtain ⟨c0, c1, c2, c3, c4⟩ := box5 HB1.out
                 obtain ⟨d0, d1, d2, d3, d4⟩ := HKC.out _ (fresh_w HB1.out)
                 clear hb)
              | (go_at_call 26
                 refine (HI.out _ (HKD.out.later (fresh_w HB1.out) (fresh_w HB1.out).size) (HT.out _ (fresh_w HB1.out))).mono ?_
                 rintro e w3 ⟨rfl, hb⟩
                 have HB2 := Lib.hid (fresh_more HB1.out hb)
                 obtain ⟨c0, c1, c2, c3, c4⟩ := box5 HB2.out
                 clear hb))
            all_goals
              go_ret
              exact ⟨congrArg (fun x : Bool => Ending.returned (.bool x)) HF.out, fresh_w HB2.out⟩
          · have g3 : (o' == [118, 97, 114]) = false := beq_false_of_ne h3
            have HF := Lib.hid (show false = V by rw [HV2.out]; have h : ¬ o' = nVar := h3; simp [h])
            clear HV2 h3
            go_enter Tryd.func26, Tryd.ntmps26
            go_wp2_with (first
              | (go_at_call 58
                 refine (HX.out _ (HC.out.later (fresh_w HB0.out) (fresh_w HB0.out).size) (HT.out _ (fresh_w HB0.out))).mono ?_
                 rintro e w2 ⟨rfl, hb⟩
                 have HB1 := Lib.hid (fresh_more HB0.out hb)
                 obtain ⟨c0, c1, c2, c3, c4⟩ := box5 HB1.out
                 obtain ⟨d0, d1, d2, d3, d4⟩ := HKC.out _ (fresh_w HB1.out)
                 clear hb))
            all_goals
              go_ret
              exact ⟨congrArg (fun x : Bool => Ending.returned (.bool x)) HF.out, fresh_w HB1.out⟩
      · have g2 : decide (n ≤ 99) = false := decide_eq_false h2
        have HF := Lib.hid (show false = V by rw [HV.out, decide_eq_false h2, Bool.and_false]; rfl)
        clear HV hk
        go_enter Tryd.func26, Tryd.ntmps26
        go_wp2_with (first
          | (go_at_call 58
             refine (HX.out _ (HC.out.later (fresh_w HB0.out) (fresh_w HB0.out).size) (HT.out _ (fresh_w HB0.out))).mono ?_
             rintro e w2 ⟨rfl, hb⟩
             have HB1 := Lib.hid (fresh_more HB0.out hb)
             obtain ⟨c0, c1, c2, c3, c4⟩ := box5 HB1.out
             clear hb))
        all_goals
          go_ret
          exact ⟨congrArg (fun x : Bool => Ending.returned (.bool x)) HF.out, fresh_w HB1.out⟩
    · have g1 : decide (n ≥ 1) = false := decide_eq_false h1
      have HF := Lib.hid (show false = V by rw [HV.out, decide_eq_false h1]; rfl)
      clear HV hk
      go_enter Tryd.func26, Tryd.ntmps26
      go_wp2_with (first
        | (go_at_call 58
           refine (HX.out _ (HC.out.later (fresh_w HB0.out) (fresh_w HB0.out).size) (HT.out _ (fresh_w HB0.out))).mono ?_
           rintro e w2 ⟨rfl, hb⟩
           have HB1 := Lib.hid (fresh_more HB0.out hb)
           obtain ⟨c0, c1, c2, c3, c4⟩ := box5 HB1.out
           clear hb))
      all_goals
        go_ret
        exact ⟨congrArg (fun x : Bool => Ending.returned (.bool x)) HF.out, fresh_w HB1.out⟩
set_option maxHeartbeats 2000000 in
theorem term_rest (o s : List UInt8) (n p : Int) (ks : List Node) (A : Option Addr) (cap : Nat) (w : World) (h : NodeAt w w.heap.size (.node o s n p ks) A cap) (hT : Tab8 w) (ih : ∀ k ∈ ks, TermLaw k) (h1 : ¬ o = nVar) (h2 : ¬ o = nNum) (h3 : ¬ o = nPlus) (h4 : ¬ o = nSet) :
    Calls Tryd.prog 26 #[nodeW o s n p ks.length A cap] w fun e w' => e = .returned (.bool (termB (.node o s n p ks))) ∧ Below w.heap.size w w' := by
  have HC := Lib.hid h
  have IH := Lib.hid ih
  have HT := Lib.hid (fun (W : World) (hW : Below w.heap.size w W) => Go.Proofs.Utf8Tabs_below hT hW)
  have hl := h.len
  obtain ⟨hl1, hl2, _⟩ := hl
  clear h ih hT
  have HH := Lib.hid (fun k nm nu W hW ht => has_any (.node o s n p ks) A cap k nm nu W hW ht)
  simp only [nodeT, Node.op, Node.name, Node.num, Node.pos, Node.kids] at HH
  have HB0 := Lib.hid (Below.refl (w.heap.size + 1) (w.alloc (boxN o s n p ks.length A cap)))
  simp only [nodeW] at HH ⊢
  have HV := Lib.hid (show termB (.node o s n p ks) = (setOp o && hasB ks.length s n 2 false false && termsB ks && !(ks.drop 1).any fun k => setOp k.op) by rw [termB, if_neg h1, if_neg h2, if_neg h3, if_neg h4])
  have g1 : (o == [118, 97, 114]) = false := beq_false_of_ne h1
  have g2 : (o == [110, 117, 109]) = false := beq_false_of_ne h2
  have g3 : (o == [112, 108, 117, 115]) = false := beq_false_of_ne h3
  have g4 : (o == [115, 101, 116]) = false := beq_false_of_ne h4
  clear h1 h2 h3 h4
  have HS := Lib.hid (fun W => Set_any (.node o s n p ks) A cap W)
  have HL := Lib.hid (fun W hW ht => terms_any (.node o s n p ks) A cap W hW ht (by first | exact IH.out))
  simp only [nodeT, nodeW, Node.op, Node.name, Node.num, Node.pos, Node.kids] at HS HL
  have HX := Lib.hid (HH.out 2 false false)
  clear HH IH
  generalize termB (.node o s n p ks) = V at *
  have hH : hasB ks.length s n 2 false false = true → ks.length = 2 := fun h => (hasB_name h).2.1
  generalize hasB ks.length s n 2 false false = H at *
  generalize setOp o = G at *
  cases G with
  | false =>
    clear hH
    have HF := Lib.hid (show false = V by rw [HV.out]; rfl)
    clear HV
    go_enter Tryd.func26, Tryd.ntmps26
    go_wp2_with (first
      | (go_at_call 61
         refine (HS.out _).mono ?_
         rintro e w2 ⟨rfl, hb⟩
         have HB1 := Lib.hid (fresh_more HB0.out hb)
         obtain ⟨c0, c1, c2, c3, c4⟩ := box5 HB1.out
         clear hb))
    all_goals
      go_ret
      exact ⟨congrArg (fun x : Bool => Ending.returned (.bool x)) HF.out, fresh_w HB1.out⟩
  | true =>
    cases H with
    | false =>
      clear hH
      have HF := Lib.hid (show false = V by rw [HV.out]; rfl)
      clear HV
      go_enter Tryd.func26, Tryd.ntmps26
      go_wp2_with (first
        | (go_at_call 61
           refine (HS.out _).mono ?_
           rintro e w2 ⟨rfl, hb⟩
           have HB1 := Lib.hid (fresh_more HB0.out hb)
           obtain ⟨c0, c1, c2, c3, c4⟩ := box5 HB1.out
           clear hb)
        | (go_at_call 58
           refine (HX.out _ (HC.out.later (fresh_w HB1.out) (fresh_w HB1.out).size) (HT.out _ (fresh_w HB1.out))).mono ?_
           rintro e w3 ⟨rfl, hb⟩
           have HB2 := Lib.hid (fresh_more HB1.out hb)
           obtain ⟨c0, c1, c2, c3, c4⟩ := box5 HB2.out
           clear hb))
      all_goals
        go_ret
        exact ⟨congrArg (fun x : Bool => Ending.returned (.bool x)) HF.out, fresh_w HB2.out⟩
    | true =>
      have hk := hH rfl
      clear hH
      have HK1 := Lib.hid (two_of hk)
      clear hk
      generalize hy : termsB ks = Y at *
      cases Y with
      | false =>
        have HF := Lib.hid (show false = V by rw [HV.out]; rfl)
        clear HV HK1 hy
        go_enter Tryd.func26, Tryd.ntmps26
        go_wp2_with (first
          | (go_at_call 61
             refine (HS.out _).mono ?_
             rintro e w2 ⟨rfl, hb⟩
             have HB1 := Lib.hid (fresh_more HB0.out hb)
             obtain ⟨c0, c1, c2, c3, c4⟩ := box5 HB1.out
             clear hb)
          | (go_at_call 58
             refine (HX.out _ (HC.out.later (fresh_w HB1.out) (fresh_w HB1.out).size) (HT.out _ (fresh_w HB1.out))).mono ?_
             rintro e w3 ⟨rfl, hb⟩
             have HB2 := Lib.hid (fresh_more HB1.out hb)
             obtain ⟨c0, c1, c2, c3, c4⟩ := box5 HB2.out
             clear hb)
          | (go_at_call 60
             refine (HL.out _ (HC.out.later (fresh_w HB2.out) (fresh_w HB2.out).size) (HT.out _ (fresh_w HB2.out))).mono ?_
             rintro e w4 ⟨rfl, hb⟩
             have HB3 := Lib.hid (fresh_more HB2.out hb)
             obtain ⟨c0, c1, c2, c3, c4⟩ := box5 HB3.out
             clear hb))
        all_goals
          go_ret
          exact ⟨congrArg (fun x : Bool => Ending.returned (.bool x)) HF.out, fresh_w HB3.out⟩
      | true =>
        clear hy
        obtain ⟨x, y, rfl⟩ := HK1.out
        clear HK1
        have HF := Lib.hid (show (!setOp y.op) = V by rw [HV.out]; simp)
        clear HV
        obtain ⟨bb, off, A', cap', rfl, hlo, hcells, hkid⟩ := HC.out.kid 1 (by simp)
        have HQ := Lib.hid (fun (W : World) => Set_any y A' cap' W)
        simp only [List.getElem_cons_succ, List.getElem_cons_zero, Nat.one_mul] at hcells hkid
        cases y with
        | node o' s' n' p' ks' =>
          have HKC := Lib.hid (fun (W : World) (hW : Below w.heap.size w W) => kid_cells hlo hcells hW)
          clear hcells hkid
          simp only [nodeT, nodeW, Node.op, Node.name, Node.num, Node.pos, Node.kids] at HQ HF
          generalize setOp o' = z at *
          go_enter Tryd.func26, Tryd.ntmps26
          go_wp2_with (first
            | (go_at_call 61
               have hhb := HB3
               refine (HQ.out _).mono ?_
               rintro e w5 ⟨rfl, hb⟩
               have HB4 := Lib.hid (fresh_more HB3.out hb)
               obtain ⟨c0, c1, c2, c3, c4⟩ := box5 HB4.out
               clear hb)
            | (go_at_call 61
               refine (HS.out _).mono ?_
               rintro e w2 ⟨rfl, hb⟩
               have HB1 := Lib.hid (fresh_more HB0.out hb)
               obtain ⟨c0, c1, c2, c3, c4⟩ := box5 HB1.out
               clear hb)
            | (go_at_call 58
               refine (HX.out _ (HC.out.later (fresh_w HB1.out) (fresh_w HB1.out).size) (HT.out _ (fresh_w HB1.out))).mono ?_
               rintro e w3 ⟨rfl, hb⟩
               have HB2 := Lib.hid (fresh_more HB1.out hb)
               obtain ⟨c0, c1, c2, c3, c4⟩ := box5 HB2.out
               clear hb)
            | (go_at_call 60
               refine (HL.out _ (HC.out.later (fresh_w HB2.out) (fresh_w HB2.out).size) (HT.out _ (fresh_w HB2.out))).mono ?_
               rintro e w4 ⟨rfl, hb⟩
               have HB3 := Lib.hid (fresh_more HB2.out hb)
               obtain ⟨c0, c1, c2, c3, c4⟩ := box5 HB3.out
               obtain ⟨d0, d1, d2, d3, d4⟩ := HKC.out _ (fresh_w HB3.out)
               clear hb))
          all_goals
            go_ret
            exact ⟨congrArg (fun x : Bool => Ending.returned (.bool x)) HF.out, fresh_w HB4.out⟩
end Go.Proofs.YteikakoheibnjaaDoor
