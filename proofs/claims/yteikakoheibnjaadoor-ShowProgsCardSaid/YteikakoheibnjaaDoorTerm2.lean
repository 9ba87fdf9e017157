/- sibylref3.term on a set; term on anything (printed by mkterm2.py). -/
import Derived.Test.YteikakoheibnjaaDoorTerm
namespace Go.Proofs.YteikakoheibnjaaDoor
open Go Go.RowKit

set_option maxHeartbeats 2000000 in
theorem term_set (s : List UInt8) (n p : Int) (ks : List Node) (A : Option Addr) (cap : Nat) (w : World) (h : NodeAt w w.heap.size (.node [115, 101, 116] s n p ks) A cap) (hT : Tab8 w) (ih : ∀ k ∈ ks, TermLaw k) :
    Calls Tryd.prog 26 #[nodeW [115, 101, 116] s n p ks.length A cap] w fun e w' => e = .returned (.bool (termB (.node [115, 101, 116] s n p ks))) ∧ Below w.heap.size w w' := by
  have HC := Lib.hid h
  have IH := Lib.hid ih
  have HT := Lib.hid (fun (W : World) (hW : Below w.heap.size w W) => Go.Proofs.Utf8Tabs_below hT hW)
  have hl := h.len
  obtain ⟨hl1, hl2, _⟩ := hl
  clear h ih hT
  have HH := Lib.hid (fun k nm nu W hW ht => has_any (.node [115, 101, 116] s n p ks) A cap k nm nu W hW ht)
  simp only [nodeT, Node.op, Node.name, Node.num, Node.pos, Node.kids] at HH
  have HB0 := Lib.hid (Below.refl (w.heap.size + 1) (w.alloc (boxN [115, 101, 116] s n p ks.length A cap)))
  simp only [nodeW] at HH ⊢
  have HV := Lib.hid (show termB (.node [115, 101, 116] s n p ks) = (ks.all (fun k => !(setOp k.op || decide (k.op = nSet))) && hasB ks.length s n ks.length false false && decide (ks.length ≤ 6) && termsB ks) by
    show termB (.node nSet s n p ks) = _
    rw [termB, if_neg (by decide), if_neg (by decide), if_neg (by decide), if_pos rfl, List.not_any_eq_all_not])
  have HL := Lib.hid (fun W hW ht => terms_any (.node [115, 101, 116] s n p ks) A cap W hW ht (by first | exact IH.out))
  simp only [nodeT, nodeW, Node.op, Node.name, Node.num, Node.pos, Node.kids] at HL
  have HX := Lib.hid (HH.out ks.length false false)
  clear HH IH
  generalize termB (.node [115, 101, 116] s n p ks) = V at *
  generalize hasB ks.length s n ks.length false false = H at *
  generalize termsB ks = Y at *
  generalize hf : (fun k : Node => !(setOp k.op || decide (k.op = nSet))) = f at *
  have HFF := Lib.hid hf
  clear hf
  go_enter Tryd.func26, Tryd.ntmps26
  go_wp2_with fail
  go_loopg [3] ks.length (fun r i wr => ∃ k : Nat, k ≤ ks.length ∧ r = ks.length - k ∧ i = .int .i64 (k : Int) ∧ (ks.take k).all f = true ∧ Below (w.heap.size + 1) (w.alloc (boxN [115, 101, 116] s n p ks.length A cap)) wr)
  case atStart => exact ⟨0, Nat.zero_le _, rfl, rfl, by simp, Below.refl _ _⟩
  case round =>
    obtain ⟨k, hk, hr, rfl, hz, hb⟩ := hrel
    have HRr := Lib.hid hr
    have HB0 := Lib.hid hb
    have HZ := Lib.hid hz
    have hs1 := fresh_size hb
    obtain ⟨c0, c1, c2, c3, c4⟩ := box5 hb
    clear hr hb hz
    by_cases hlt : k < ks.length
    · obtain ⟨bb, off, A', cap', rfl, hlo, hcells, hkid⟩ := HC.out.kid k hlt
      have HS := Lib.hid (all_take (f := f) ks k hlt)
      have HN := Lib.hid (all_false (f := f) ks k hlt)
      have HQ := Lib.hid (fun (W : World) => Set_any ks[k] A' cap' W)
      generalize hx : ks[k] = x at *
      clear hx
      cases x with
      | node o' s' n' p' ks' =>
        have HKC := Lib.hid (fun (W : World) (hW : Below w.heap.size w W) => kid_cells hlo hcells hW)
        obtain ⟨d0, d1, d2, d3, d4⟩ := HKC.out _ (fresh_w HB0.out)
        clear hcells hkid
        simp only [nodeT, nodeW, Node.op, Node.name, Node.num, Node.pos, Node.kids] at HQ
        have HFX := Lib.hid (show f (.node o' s' n' p' ks') = !(setOp o' || decide (o' = nSet)) by rw [← HFF.out]; rfl)
        have g2 : decide ((k : Int) < (ks.length : Int)) = true := decide_eq_true (by omega)
        generalize setOp o' = y at *
        cases y with
        | true =>
          have HF := Lib.hid (show false = V by rw [HV.out, HN.out (by rw [HFX.out]; rfl)]; rfl)
          go_wp2_with (
            go_at_call 61
            refine (HQ.out _).mono ?_
            rintro e w2 ⟨rfl, hb⟩
            have HB1 := Lib.hid (fresh_more HB0.out hb)
            clear hb)
          all_goals
            go_ret
            exact ⟨congrArg (fun x : Bool => Ending.returned (.bool x)) HF.out, fresh_w HB1.out⟩
        | false =>
          by_cases h3 : o' = [115, 101, 116]
          · have g3 : (o' == [115, 101, 116]) = true := by rw [h3]; rfl
            have HF := Lib.hid (show false = V by rw [HV.out, HN.out (by rw [HFX.out]; have h : o' = nSet := h3; simp [h])]; rfl)
            clear h3
            go_wp2_with (
              go_at_call 61
              refine (HQ.out _).mono ?_
              rintro e w2 ⟨rfl, hb⟩
              have HB1 := Lib.hid (fresh_more HB0.out hb)
              obtain ⟨c0, c1, c2, c3, c4⟩ := box5 HB1.out
              obtain ⟨d0, d1, d2, d3, d4⟩ := HKC.out _ (fresh_w HB1.out)
              clear hb)
            all_goals
              go_ret
              exact ⟨congrArg (fun x : Bool => Ending.returned (.bool x)) HF.out, fresh_w HB1.out⟩
          · have g3 : (o' == [115, 101, 116]) = false := beq_false_of_ne h3
            have HT2 := Lib.hid (show (ks.take (k + 1)).all f = true by rw [HS.out, HZ.out, HFX.out]; have h : ¬ o' = nSet := h3; simp [h])
            clear h3
            go_wp2_with (
              go_at_call 61
              refine (HQ.out _).mono ?_
              rintro e w2 ⟨rfl, hb⟩
              have HB1 := Lib.hid (fresh_more HB0.out hb)
              obtain ⟨c0, c1, c2, c3, c4⟩ := box5 HB1.out
              obtain ⟨d0, d1, d2, d3, d4⟩ := HKC.out _ (fresh_w HB1.out)
              clear hb)
            all_goals
              go_roundg (ks.length - (k + 1))
              case measure => have := HRr.out; omega
              case rel => exact ⟨k + 1, by omega, rfl, by go_num, HT2.out, HB1.out⟩
    · have g2 : decide ((k : Int) < (ks.length : Int)) = false := decide_eq_false (by omega)
      have HV2 := Lib.hid (show V = (H && decide (ks.length ≤ 6) && Y) by
        have := HZ.out
        rw [List.take_of_length_le (by omega)] at this
        rw [HV.out, this]; rfl)
      clear HV HZ
      cases H with
      | false =>
        have HF := Lib.hid (show false = V by rw [HV2.out]; rfl)
        clear HV2
        go_wp2_with (first
          | (go_at_call 58
             refine (HX.out _ (HC.out.later (fresh_w HB0.out) (fresh_w HB0.out).size) (HT.out _ (fresh_w HB0.out))).mono ?_
             rintro e w2 ⟨rfl, hb⟩
             have HB1 := Lib.hid (fresh_more HB0.out hb)
             obtain ⟨c0, c1, c2, c3, c4⟩ := box5 HB1.out
             clear hb))
        all_goals
          go_ret
          exact ⟨congrArg (fun x : Bool => Ending.returned (.bool x)) HF.out, fresh_w HB1.out⟩
      | true =>
        by_cases h6 : ks.length ≤ 6
        · have g6 : decide ((ks.length : Int) ≤ 6) = true := decide_eq_true (by omega)
          have HF := Lib.hid (show Y = V by rw [HV2.out, decide_eq_true h6]; rfl)
          clear HV2
          go_wp2_with (first
            | (go_at_call 58
               refine (HX.out _ (HC.out.later (fresh_w HB0.out) (fresh_w HB0.out).size) (HT.out _ (fresh_w HB0.out))).mono ?_
               rintro e w2 ⟨rfl, hb⟩
               have HB1 := Lib.hid (fresh_more HB0.out hb)
               obtain ⟨c0, c1, c2, c3, c4⟩ := box5 HB1.out
               clear hb)
            | (go_at_call 60
               refine (HL.out _ (HC.out.later (fresh_w HB1.out) (fresh_w HB1.out).size) (HT.out _ (fresh_w HB1.out))).mono ?_
               rintro e w3 ⟨rfl, hb⟩
               have HB2 := Lib.hid (fresh_more HB1.out hb)
               obtain ⟨c0, c1, c2, c3, c4⟩ := box5 HB2.out
               clear hb))
          all_goals
            go_ret
            exact ⟨congrArg (fun x : Bool => Ending.returned (.bool x)) HF.out, fresh_w HB2.out⟩
        · have g6 : decide ((ks.length : Int) ≤ 6) = false := decide_eq_false (by omega)
          have HF := Lib.hid (show false = V by rw [HV2.out, decide_eq_false h6]; rfl)
          clear HV2
          go_wp2_with (first
            | (go_at_call 58
               refine (HX.out _ (HC.out.later (fresh_w HB0.out) (fresh_w HB0.out).size) (HT.out _ (fresh_w HB0.out))).mono ?_
               rintro e w2 ⟨rfl, hb⟩
               have HB1 := Lib.hid (fresh_more HB0.out hb)
               obtain ⟨c0, c1, c2, c3, c4⟩ := box5 HB1.out
               clear hb))
          all_goals
            go_ret
            exact ⟨congrArg (fun x : Bool => Ending.returned (.bool x)) HF.out, fresh_w HB1.out⟩
theorem term_any : ∀ t : Node, TermLaw t := by
  intro t
  induction t using Node.ind with
  | h o s n p ks ih =>
    intro A cap w h hT
    show Calls Tryd.prog 26 #[nodeW o s n p ks.length A cap] w _
    by_cases h1 : o = nVar
    · subst h1
      exact term_var s n p ks A cap w h hT ih
    by_cases h2 : o = nNum
    · subst h2
      exact term_num s n p ks A cap w h hT ih
    by_cases h3 : o = nPlus
    · subst h3
      exact term_plus s n p ks A cap w h hT ih
    by_cases h4 : o = nSet
    · subst h4
      exact term_set s n p ks A cap w h hT ih
    exact term_rest o s n p ks A cap w h hT ih h1 h2 h3 h4
end Go.Proofs.YteikakoheibnjaaDoor
