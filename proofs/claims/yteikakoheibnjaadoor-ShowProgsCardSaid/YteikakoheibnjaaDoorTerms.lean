/- The walks over sibylref3.terms, formulas: given what the kids' calls answer. -/
import Derived.Test.YteikakoheibnjaaDoorHas2
namespace Go.Proofs.YteikakoheibnjaaDoor
open Go Go.RowKit

/-- What a call of term on x answers. -/
def TermLaw (x : Node) : Prop := ∀ (A : Option Addr) (cap : Nat) (w : World), NodeAt w w.heap.size x A cap → Tab8 w →
  Calls Tryd.prog 26 #[nodeT x A cap] w fun e w' => e = .returned (.bool (termB x)) ∧ Below w.heap.size w w'
/-- What a call of formula on x answers. -/
def FormLaw (x : Node) : Prop := ∀ (A : Option Addr) (cap : Nat) (w : World), NodeAt w w.heap.size x A cap → Tab8 w →
  Calls Tryd.prog 25 #[nodeT x A cap] w fun e w' => e = .returned (.bool (formB x)) ∧ Below w.heap.size w w'
theorem all_take {f : Node → Bool} : ∀ (ks : List Node) (k : Nat) (hk : k < ks.length), (ks.take (k + 1)).all f = ((ks.take k).all f && f ks[k])
  | x :: r, 0, _ => by simp
  | x :: r, k + 1, hk => by
    have h := all_take (f := f) r k (by simpa using hk)
    simp only [List.take_succ_cons, List.all_cons, List.getElem_cons_succ] at h ⊢
    rw [h, Bool.and_assoc]
theorem all_false {f : Node → Bool} (ks : List Node) (k : Nat) (hk : k < ks.length) (h : f ks[k] = false) : ks.all f = false := by
  rw [List.all_eq_false]
  exact ⟨ks[k], List.getElem_mem hk, by rw [h]; simp⟩
set_option maxHeartbeats 2000000 in
theorem terms_any (t : Node) (A : Option Addr) (cap : Nat) (w : World) (h : NodeAt w w.heap.size t A cap) (hT : Tab8 w) (ih : ∀ k ∈ t.kids, TermLaw k) :
    Calls Tryd.prog 60 #[nodeT t A cap] w fun e w' => e = .returned (.bool (termsB t.kids)) ∧ Below w.heap.size w w' := by
  cases t with
  | node o s n p ks =>
    have HC := Lib.hid h
    have IH := Lib.hid ih
    have HT := Lib.hid (fun (W : World) (hW : Below w.heap.size w W) => Go.Proofs.Utf8Tabs_below hT hW)
    have hl := h.len
    obtain ⟨hl1, hl2, _⟩ := hl
    clear h ih hT
    simp only [nodeT, nodeW, Node.op, Node.name, Node.num, Node.pos, Node.kids] at IH ⊢
    rw [termsB_all]
    have HV := Lib.hid (rfl : ks.all termB = ks.all termB)
    generalize hv : ks.all termB = V at *
    have HQ := Lib.hid hv
    clear hv HV
    go_enter Tryd.func60, Tryd.ntmps60
    go_wp2_with fail
    go_loopg [3] ks.length (fun r i wr => ∃ k : Nat, k ≤ ks.length ∧ r = ks.length - k ∧ i = .int .i64 (k : Int) ∧ (ks.take k).all termB = true ∧ Below w.heap.size w wr ∧ wr.cell? ⟨w.heap.size, 4, none⟩ = some (.slice A ks.length cap))
    case atStart => exact ⟨0, Nat.zero_le _, rfl, rfl, by simp, (Below.refl _ _).alloc (Nat.le_refl _) _, (by go_keep)⟩
    case round =>
      obtain ⟨k, hk, hr, rfl, hz, hb, hc4⟩ := hrel
      have HRr := Lib.hid hr
      have HB := Lib.hid hb
      have HZ := Lib.hid hz
      have hs1 := hb.size
      clear hr hb hz
      by_cases hlt : k < ks.length
      · obtain ⟨bb, off, A', cap', rfl, hlo, hcells, hkid⟩ := HC.out.kid k hlt
        have HS := Lib.hid (all_take (f := termB) ks k hlt)
        have HN := Lib.hid (all_false (f := termB) ks k hlt)
        have HI := Lib.hid (fun (W : World) (hh : NodeAt W W.heap.size ks[k] A' cap') (ht : Tab8 W) => (IH.out ks[k] (List.getElem_mem hlt)) A' cap' W (by first | exact hh) (by first | exact ht))
        generalize hx : ks[k] = x at *
        clear hx
        cases x with
        | node o' s' n' p' ks' =>
          obtain ⟨c0, c1, c2, c3, c4⟩ := kid_cells hlo hcells HB.out
          have HKD := Lib.hid hkid
          clear hcells hkid IH
          simp only [nodeT, nodeW, Node.op, Node.name, Node.num, Node.pos, Node.kids] at HI
          have g2 : decide ((k : Int) < (ks.length : Int)) = true := decide_eq_true (by omega)
          generalize termB (.node o' s' n' p' ks') = y at *
          cases y with
          | true =>
            go_wp2_with (
              go_at_call 26
              refine (HI.out _ (HKD.out.later HB.out (by omega)) (HT.out _ HB.out)).mono ?_
              rintro e w2 ⟨rfl, hb2⟩
              have HB2 := Lib.hid (HB.out.trans (hb2.mono hs1))
              have hc5 := (hb2.cell (p := ⟨w.heap.size, 4, none⟩) (World.block_lt_of_cell? _ _ hc4)).trans hc4
              clear hb2)
            all_goals
              go_roundg (ks.length - (k + 1))
              case measure => have := HRr.out; omega
              case rel => exact ⟨k + 1, by omega, rfl, by go_num, by rw [HS.out, HZ.out]; rfl, HB2.out, hc5⟩
          | false =>
            have HF := Lib.hid (show false = V by rw [← HQ.out, HN.out rfl])
            go_wp2_with (
              go_at_call 26
              refine (HI.out _ (HKD.out.later HB.out (by omega)) (HT.out _ HB.out)).mono ?_
              rintro e w2 ⟨rfl, hb2⟩
              have HB2 := Lib.hid (HB.out.trans (hb2.mono hs1))
              clear hb2)
            all_goals
              go_ret
              exact ⟨congrArg (fun x : Bool => Ending.returned (.bool x)) HF.out, HB2.out⟩
      · have g2 : decide ((k : Int) < (ks.length : Int)) = false := decide_eq_false (by omega)
        have HF := Lib.hid (show true = V by
          have := HZ.out
          rw [List.take_of_length_le (by omega)] at this
          rw [← HQ.out, this])
        clear HZ
        go_wp2_with fail
        go_ret
        exact ⟨congrArg (fun x : Bool => Ending.returned (.bool x)) HF.out, HB.out⟩
set_option maxHeartbeats 2000000 in
theorem formulas_any (t : Node) (A : Option Addr) (cap : Nat) (w : World) (h : NodeAt w w.heap.size t A cap) (hT : Tab8 w) (ih : ∀ k ∈ t.kids, FormLaw k) :
    Calls Tryd.prog 59 #[nodeT t A cap] w fun e w' => e = .returned (.bool (formsB t.kids)) ∧ Below w.heap.size w w' := by
  cases t with
  | node o s n p ks =>
    have HC := Lib.hid h
    have IH := Lib.hid ih
    have HT := Lib.hid (fun (W : World) (hW : Below w.heap.size w W) => Go.Proofs.Utf8Tabs_below hT hW)
    have hl := h.len
    obtain ⟨hl1, hl2, _⟩ := hl
    clear h ih hT
    simp only [nodeT, nodeW, Node.op, Node.name, Node.num, Node.pos, Node.kids] at IH ⊢
    rw [formsB_all]
    have HV := Lib.hid (rfl : ks.all formB = ks.all formB)
    generalize hv : ks.all formB = V at *
    have HQ := Lib.hid hv
    clear hv HV
    go_enter Tryd.func59, Tryd.ntmps59
    go_wp2_with fail
    go_loopg [3] ks.length (fun r i wr => ∃ k : Nat, k ≤ ks.length ∧ r = ks.length - k ∧ i = .int .i64 (k : Int) ∧ (ks.take k).all formB = true ∧ Below w.heap.size w wr ∧ wr.cell? ⟨w.heap.size, 4, none⟩ = some (.slice A ks.length cap))
    case atStart => exact ⟨0, Nat.zero_le _, rfl, rfl, by simp, (Below.refl _ _).alloc (Nat.le_refl _) _, (by go_keep)⟩
    case round =>
      obtain ⟨k, hk, hr, rfl, hz, hb, hc4⟩ := hrel
      have HRr := Lib.hid hr
      have HB := Lib.hid hb
      have HZ := Lib.hid hz
      have hs1 := hb.size
      clear hr hb hz
      by_cases hlt : k < ks.length
      · obtain ⟨bb, off, A', cap', rfl, hlo, hcells, hkid⟩ := HC.out.kid k hlt
        have HS := Lib.hid (all_take (f := formB) ks k hlt)
        have HN := Lib.hid (all_false (f := formB) ks k hlt)
        have HI := Lib.hid (fun (W : World) (hh : NodeAt W W.heap.size ks[k] A' cap') (ht : Tab8 W) => (IH.out ks[k] (List.getElem_mem hlt)) A' cap' W (by first | exact hh) (by first | exact ht))
        generalize hx : ks[k] = x at *
        clear hx
        cases x with
        | node o' s' n' p' ks' =>
          obtain ⟨c0, c1, c2, c3, c4⟩ := kid_cells hlo hcells HB.out
          have HKD := Lib.hid hkid
          clear hcells hkid IH
          simp only [nodeT, nodeW, Node.op, Node.name, Node.num, Node.pos, Node.kids] at HI
          have g2 : decide ((k : Int) < (ks.length : Int)) = true := decide_eq_true (by omega)
          generalize formB (.node o' s' n' p' ks') = y at *
          cases y with
          | true =>
            go_wp2_with (
              go_at_call 25
              refine (HI.out _ (HKD.out.later HB.out (by omega)) (HT.out _ HB.out)).mono ?_
              rintro e w2 ⟨rfl, hb2⟩
              have HB2 := Lib.hid (HB.out.trans (hb2.mono hs1))
              have hc5 := (hb2.cell (p := ⟨w.heap.size, 4, none⟩) (World.block_lt_of_cell? _ _ hc4)).trans hc4
              clear hb2)
            all_goals
              go_roundg (ks.length - (k + 1))
              case measure => have := HRr.out; omega
              case rel => exact ⟨k + 1, by omega, rfl, by go_num, by rw [HS.out, HZ.out]; rfl, HB2.out, hc5⟩
          | false =>
            have HF := Lib.hid (show false = V by rw [← HQ.out, HN.out rfl])
            go_wp2_with (
              go_at_call 25
              refine (HI.out _ (HKD.out.later HB.out (by omega)) (HT.out _ HB.out)).mono ?_
              rintro e w2 ⟨rfl, hb2⟩
              have HB2 := Lib.hid (HB.out.trans (hb2.mono hs1))
              clear hb2)
            all_goals
              go_ret
              exact ⟨congrArg (fun x : Bool => Ending.returned (.bool x)) HF.out, HB2.out⟩
      · have g2 : decide ((k : Int) < (ks.length : Int)) = false := decide_eq_false (by omega)
        have HF := Lib.hid (show true = V by
          have := HZ.out
          rw [List.take_of_length_le (by omega)] at this
          rw [← HQ.out, this])
        clear HZ
        go_wp2_with fail
        go_ret
        exact ⟨congrArg (fun x : Bool => Ending.returned (.bool x)) HF.out, HB.out⟩
end Go.Proofs.YteikakoheibnjaaDoor
