/- Parts of the proof: Has2, Terms, Term, Term2. -/
import Derived.Test.YteikakoheibnjaaDoorQ3
namespace Go.Proofs.YteikakoheibnjaaDoor
open Go Go.RowKit

set_option maxHeartbeats 2000000 in
theorem has_any (t : Node) (A : Option Addr) (cap : Nat) (k : Nat) (nm nu : Bool) (w : World) (h : NodeAt w w.heap.size t A cap) (hT : Tab8 w) :
  Calls Tryd.prog 58 #[nodeT t A cap, .int .i64 k, .bool nm, .bool nu] w fun e w' => e = .returned (.bool (hasB t.kids.length t.name t.num k nm nu)) ∧ Below w.heap.size w w' := by
 cases t with
 | node o s n p ks =>
   have hl := h.len
   obtain ⟨_, _, hl1, hl2⟩ := hl
   clear h
   simp only [nodeT, nodeW, Node.op, Node.name, Node.num, Node.pos, Node.kids]
   have HB1 := Lib.hid ((Below.refl w.heap.size w).alloc (Nat.le_refl _) (boxN o s n p ks.length A cap))
   have HN := Lib.hid (fun W hW => isName_any s hl2 W (Go.Proofs.Utf8Tabs_below hT hW))
   clear hT
   have HV := Lib.hid (show hasB ks.length s n k nm nu = (decide (ks.length = k) && (nm || decide (s = [])) && (nu || decide (n = 0)) && (!nm || nameB s)) from rfl)
   generalize hasB ks.length s n k nm nu = V at *
   generalize nameB s = NB at *
   clear hl1
   cases nm <;> cases nu
   · by_cases hk : ks.length = k
     · have gk : ((ks.length : Int) == (k : Int)) = true := by rw [hk]; simp
       by_cases hs : s = []
       · have gs : (s == []) = true := by rw [hs]; rfl
         by_cases hn : n = 0
         · have gn : (n == 0) = true := by rw [hn]; rfl
           have HF := Lib.hid (show true = V by rw [HV.out]; simp [hs, hk, hn])
           clear HV
           try clear hk
           try clear hs
           try clear hn
           go_enter Tryd.func58, Tryd.ntmps58
           go_wp2_with fail
           all_goals
            go_ret
            exact ⟨congrArg (fun x : Bool => Ending.returned (.bool x)) HF.out, HB1.out⟩
         · have gn : (n == 0) = false := beq_false_of_ne hn
           have HF := Lib.hid (show false = V by rw [HV.out]; simp [hs, hk, hn])
           clear HV
           try clear hk
           try clear hs
           try clear hn
           go_enter Tryd.func58, Tryd.ntmps58
           go_wp2_with fail
           all_goals
            go_ret
            exact ⟨congrArg (fun x : Bool => Ending.returned (.bool x)) HF.out, HB1.out⟩
       · have gs : (s == []) = false := beq_false_of_ne hs
         have HF := Lib.hid (show false = V by rw [HV.out]; simp [hk, hs])
         clear HV
         try clear hk
         try clear hs
         try clear hn
         go_enter Tryd.func58, Tryd.ntmps58
         go_wp2_with fail
         all_goals
          go_ret
          exact ⟨congrArg (fun x : Bool => Ending.returned (.bool x)) HF.out, HB1.out⟩
     · have gk : ((ks.length : Int) == (k : Int)) = false := by simp; omega
       have HF := Lib.hid (show false = V by rw [HV.out]; simp [hk])
       clear HV
       try clear hk
       try clear hs
       try clear hn
       go_enter Tryd.func58, Tryd.ntmps58
       go_wp2_with fail
       all_goals
        go_ret
        exact ⟨congrArg (fun x : Bool => Ending.returned (.bool x)) HF.out, HB1.out⟩
   · by_cases hk : ks.length = k
     · have gk : ((ks.length : Int) == (k : Int)) = true := by rw [hk]; simp
       by_cases hs : s = []
       · have gs : (s == []) = true := by rw [hs]; rfl
         have HF := Lib.hid (show true = V by rw [HV.out]; simp [hs, hk])
         clear HV
         try clear hk
         try clear hs
         try clear hn
         go_enter Tryd.func58, Tryd.ntmps58
         go_wp2_with fail
         all_goals
          go_ret
          exact ⟨congrArg (fun x : Bool => Ending.returned (.bool x)) HF.out, HB1.out⟩
       · have gs : (s == []) = false := beq_false_of_ne hs
         have HF := Lib.hid (show false = V by rw [HV.out]; simp [hk, hs])
         clear HV
         try clear hk
         try clear hs
         try clear hn
         go_enter Tryd.func58, Tryd.ntmps58
         go_wp2_with fail
         all_goals
          go_ret
          exact ⟨congrArg (fun x : Bool => Ending.returned (.bool x)) HF.out, HB1.out⟩
     · have gk : ((ks.length : Int) == (k : Int)) = false := by simp; omega
       have HF := Lib.hid (show false = V by rw [HV.out]; simp [hk])
       clear HV
       try clear hk
       try clear hs
       try clear hn
       go_enter Tryd.func58, Tryd.ntmps58
       go_wp2_with fail
       all_goals
        go_ret
        exact ⟨congrArg (fun x : Bool => Ending.returned (.bool x)) HF.out, HB1.out⟩
   · by_cases hk : ks.length = k
     · have gk : ((ks.length : Int) == (k : Int)) = true := by rw [hk]; simp
       by_cases hn : n = 0
       · have gn : (n == 0) = true := by rw [hn]; rfl
         have HF := Lib.hid (show NB = V by rw [HV.out]; simp [hk, hn])
         clear HV
         try clear hk
         try clear hs
         try clear hn
         go_enter Tryd.func58, Tryd.ntmps58
         go_wp2_with (
          go_at_call 64
          refine (HN.out _ HB1.out).mono ?_
          rintro e w2 ⟨rfl, hb⟩
          have HB := Lib.hid (HB1.out.trans (hb.mono (by simp)))
          clear hb)
         all_goals
          go_ret
          exact ⟨congrArg (fun x : Bool => Ending.returned (.bool x)) HF.out, HB.out⟩
       · have gn : (n == 0) = false := beq_false_of_ne hn
         have HF := Lib.hid (show false = V by rw [HV.out]; simp [hk, hn])
         clear HV
         try clear hk
         try clear hs
         try clear hn
         go_enter Tryd.func58, Tryd.ntmps58
         go_wp2_with fail
         all_goals
          go_ret
          exact ⟨congrArg (fun x : Bool => Ending.returned (.bool x)) HF.out, HB1.out⟩
     · have gk : ((ks.length : Int) == (k : Int)) = false := by simp; omega
       have HF := Lib.hid (show false = V by rw [HV.out]; simp [hk])
       clear HV
       try clear hk
       try clear hs
       try clear hn
       go_enter Tryd.func58, Tryd.ntmps58
       go_wp2_with fail
       all_goals
        go_ret
        exact ⟨congrArg (fun x : Bool => Ending.returned (.bool x)) HF.out, HB1.out⟩
   · by_cases hk : ks.length = k
     · have gk : ((ks.length : Int) == (k : Int)) = true := by rw [hk]; simp
       have HF := Lib.hid (show NB = V by rw [HV.out]; simp [hk])
       clear HV
       try clear hk
       try clear hs
       try clear hn
       go_enter Tryd.func58, Tryd.ntmps58
       go_wp2_with (
        go_at_call 64
        refine (HN.out _ HB1.out).mono ?_
        rintro e w2 ⟨rfl, hb⟩
        have HB := Lib.hid (HB1.out.trans (hb.mono (by simp)))
        clear hb)
       all_goals
        go_ret
        exact ⟨congrArg (fun x : Bool => Ending.returned (.bool x)) HF.out, HB.out⟩
     · have gk : ((ks.length : Int) == (k : Int)) = false := by simp; omega
       have HF := Lib.hid (show false = V by rw [HV.out]; simp [hk])
       clear HV
       try clear hk
       try clear hs
       try clear hn
       go_enter Tryd.func58, Tryd.ntmps58
       go_wp2_with fail
       all_goals
        go_ret
        exact ⟨congrArg (fun x : Bool => Ending.returned (.bool x)) HF.out, HB1.out⟩
theorem small_any (t : Node) (A : Option Addr) (cap : Nat) (w : World) (h : NodeAt w w.heap.size t A cap) :
  Calls Tryd.prog 24 #[nodeT t A cap] w fun e w' => e = .returned (.bool (smallB t)) ∧ Below w.heap.size w w' := by
 have HD := Lib.hid (fun W hW => Depth_any t A cap W hW)
 have HS := Lib.hid (fun W hW => rSize_any t A cap W hW)
 have HC := Lib.hid h
 clear h
 have HV := Lib.hid (show smallB t = (decide (depth t ≤ 30) && decide (nodes t ≤ 2000)) from rfl)
 generalize smallB t = V at *
 cases t with
 | node o s n p ks =>
   simp only [nodeT, nodeW, Node.op, Node.name, Node.num, Node.pos, Node.kids] at HD HS ⊢
   have HB1 := Lib.hid ((Below.refl w.heap.size w).alloc (Nat.le_refl _) (boxN o s n p ks.length A cap))
   by_cases h1 : depth (.node o s n p ks) ≤ 30
   · have g1 : decide (((min (depth (.node o s n p ks)) 31 : Nat) : Int) ≤ 30) = true := decide_eq_true (by omega)
     by_cases h2 : nodes (.node o s n p ks) ≤ 2000
     · have g2 : decide (((min (nodes (.node o s n p ks)) 2001 : Nat) : Int) ≤ 2000) = true := decide_eq_true (by omega)
       have HF := Lib.hid (show true = V by rw [HV.out, decide_eq_true h1, decide_eq_true h2]; rfl)
       clear HV h1 h2
       generalize min (depth (.node o s n p ks)) 31 = d at *
       generalize min (nodes (.node o s n p ks)) 2001 = m at *
       go_enter Tryd.func24, Tryd.ntmps24
       go_wp2_with (first
        | (go_at_call 57
           refine (HD.out _ (HC.out.later HB1.out (by simp))).mono ?_
           rintro e w2 ⟨rfl, hb⟩
           have HB := Lib.hid (HB1.out.trans (hb.mono (by simp)))
           have hsz := HB.out.size
           obtain ⟨c0, c1, c2, c3, c4⟩ := box5 (by simpa using hb)
           clear hb)
        | (go_at_call 8
           refine (HS.out _ (HC.out.later HB.out hsz)).mono ?_
           rintro e w3 ⟨rfl, hb3⟩
           have HBB := Lib.hid (HB.out.trans (hb3.mono hsz))
           clear hb3))
       all_goals
        go_ret
        exact ⟨congrArg (fun x : Bool => Ending.returned (.bool x)) HF.out, HBB.out⟩
     · have g2 : decide (((min (nodes (.node o s n p ks)) 2001 : Nat) : Int) ≤ 2000) = false := decide_eq_false (by omega)
       have HF := Lib.hid (show false = V by rw [HV.out, decide_eq_true h1, decide_eq_false h2]; rfl)
       clear HV h1 h2
       generalize min (depth (.node o s n p ks)) 31 = d at *
       generalize min (nodes (.node o s n p ks)) 2001 = m at *
       go_enter Tryd.func24, Tryd.ntmps24
       go_wp2_with (first
        | (go_at_call 57
           refine (HD.out _ (HC.out.later HB1.out (by simp))).mono ?_
           rintro e w2 ⟨rfl, hb⟩
           have HB := Lib.hid (HB1.out.trans (hb.mono (by simp)))
           have hsz := HB.out.size
           obtain ⟨c0, c1, c2, c3, c4⟩ := box5 (by simpa using hb)
           clear hb)
        | (go_at_call 8
           refine (HS.out _ (HC.out.later HB.out hsz)).mono ?_
           rintro e w3 ⟨rfl, hb3⟩
           have HBB := Lib.hid (HB.out.trans (hb3.mono hsz))
           clear hb3))
       all_goals
        go_ret
        exact ⟨congrArg (fun x : Bool => Ending.returned (.bool x)) HF.out, HBB.out⟩
   · have g1 : decide (((min (depth (.node o s n p ks)) 31 : Nat) : Int) ≤ 30) = false := decide_eq_false (by omega)
     have HF := Lib.hid (show false = V by rw [HV.out, decide_eq_false h1]; rfl)
     clear HV h1 HS
     generalize min (depth (.node o s n p ks)) 31 = d at *
     go_enter Tryd.func24, Tryd.ntmps24
     go_wp2_with (
      go_at_call 57
      refine (HD.out _ (HC.out.later HB1.out (by simp))).mono ?_
      rintro e w2 ⟨rfl, hb⟩
      have HB := Lib.hid (HB1.out.trans (hb.mono (by simp)))
      clear hb)
     all_goals
      go_ret
      exact ⟨congrArg (fun x : Bool => Ending.returned (.bool x)) HF.out, HB.out⟩
end Go.Proofs.YteikakoheibnjaaDoor
namespace Go.Proofs.YteikakoheibnjaaDoor
open Go Go.RowKit

def TermLaw (x : Node) : Prop := ∀ (A : Option Addr) (cap : Nat) (w : World), NodeAt w w.heap.size x A cap → Tab8 w →
 Calls Tryd.prog 26 #[nodeT x A cap] w fun e w' => e = .returned (.bool (termB x)) ∧ Below w.heap.size w w'
def FormLaw (x : Node) : Prop := ∀ (A : Option Addr) (cap : Nat) (w : World), NodeAt w w.heap.size x A cap → Tab8 w →
 Calls Tryd.prog 25 #[nodeT x A cap] w fun e w' => e = .returned (.bool (formB x)) ∧ Below w.heap.size w w'
theorem all_take {f : Node → Bool} : ∀ (ks : List Node) (k : Nat) (hk : k < ks.length), (ks.take (k + 1)).all f = ((ks.take k).all f && f ks[k])
 | x :: r, 0, _ => by simp
 | x :: r, k + 1, hk => by
   have h := all_take (f := f) r k (by simpa using hk)
   simp only [List.take_succ_cons, List.all_cons, List.getElem_cons_succ] at h ⊢
   rw [h, Bool.and_assoc]
theorem all_false {f : Node → Bool} (ks : List Node) (k : Nat) (hk : k < ks.length) (h : f ks[k] = false) : ks.all f = false := by
 rw [List.all_eq_false]
 exact ⟨ks[k], List.getElem_mem hk, by rw [h]; simp⟩
set_option maxHeartbeats 2000000 in
theorem terms_any (t : Node) (A : Option Addr) (cap : Nat) (w : World) (h : NodeAt w w.heap.size t A cap) (hT : Tab8 w) (ih : ∀ k ∈ t.kids, TermLaw k) :
  Calls Tryd.prog 60 #[nodeT t A cap] w fun e w' => e = .returned (.bool (termsB t.kids)) ∧ Below w.heap.size w w' := by
 cases t with
 | node o s n p ks =>
   have HC := Lib.hid h
   have IH := Lib.hid ih
   have HT := Lib.hid (fun (W : World) (hW : Below w.heap.size w W) => Go.Proofs.Utf8Tabs_below hT hW)
   have hl := h.len
   obtain ⟨hl1, hl2, _⟩ := hl
   clear h ih hT
   simp only [nodeT, nodeW, Node.op, Node.name, Node.num, Node.pos, Node.kids] at IH ⊢
   rw [termsB_all]
   have HV := Lib.hid (rfl : ks.all termB = ks.all termB)
   generalize hv : ks.all termB = V at *
   have HQ := Lib.hid hv
   clear hv HV
   go_enter Tryd.func60, Tryd.ntmps60
   go_wp2_with fail
   go_loopg [3] ks.length (fun r i wr => ∃ k : Nat, k ≤ ks.length ∧ r = ks.length - k ∧ i = .int .i64 (k : Int) ∧ (ks.take k).all termB = true ∧ Below w.heap.size w wr ∧ wr.cell? ⟨w.heap.size, 4, none⟩ = some (.slice A ks.length cap))
   case atStart => exact ⟨0, Nat.zero_le _, rfl, rfl, by simp, (Below.refl _ _).alloc (Nat.le_refl _) _, (by go_keep)⟩
   case round =>
    obtain ⟨k, hk, hr, rfl, hz, hb, hc4⟩ := hrel
    have HRr := Lib.hid hr
    have HB := Lib.hid hb
    have HZ := Lib.hid hz
    have hs1 := hb.size
    clear hr hb hz
    by_cases hlt : k < ks.length
    · obtain ⟨bb, off, A', cap', rfl, hlo, hcells, hkid⟩ := HC.out.kid k hlt
      have HS := Lib.hid (all_take (f := termB) ks k hlt)
      have HN := Lib.hid (all_false (f := termB) ks k hlt)
      have HI := Lib.hid (fun (W : World) (hh : NodeAt W W.heap.size ks[k] A' cap') (ht : Tab8 W) => (IH.out ks[k] (List.getElem_mem hlt)) A' cap' W (by first | exact hh) (by first | exact ht))
      generalize hx : ks[k] = x at *
      clear hx
      cases x with
      | node o' s' n' p' ks' =>
        obtain ⟨c0, c1, c2, c3, c4⟩ := kid_cells hlo hcells HB.out
        have HKD := Lib.hid hkid
        clear hcells hkid IH
        simp only [nodeT, nodeW, Node.op, Node.name, Node.num, Node.pos, Node.kids] at HI
        have g2 : decide ((k : Int) < (ks.length : Int)) = true := decide_eq_true (by omega)
        generalize termB (.node o' s' n' p' ks') = y at *
        cases y with
        | true =>
          go_wp2_with (
           go_at_call 26
           refine (HI.out _ (HKD.out.later HB.out (by omega)) (HT.out _ HB.out)).mono ?_
           rintro e w2 ⟨rfl, hb2⟩
           have HB2 := Lib.hid (HB.out.trans (hb2.mono hs1))
           have hc5 := (hb2.cell (p := ⟨w.heap.size, 4, none⟩) (World.block_lt_of_cell? _ _ hc4)).trans hc4
           clear hb2)
          all_goals
           go_roundg (ks.length - (k + 1))
           case measure => have := HRr.out; omega
           case rel => exact ⟨k + 1, by omega, rfl, by go_num, by rw [HS.out, HZ.out]; rfl, HB2.out, hc5⟩
        | false =>
          have HF := Lib.hid (show false = V by rw [← HQ.out, HN.out rfl])
          go_wp2_with (
           go_at_call 26
           refine (HI.out _ (HKD.out.later HB.out (by omega)) (HT.out _ HB.out)).mono ?_
           rintro e w2 ⟨rfl, hb2⟩
           have HB2 := Lib.hid (HB.out.trans (hb2.mono hs1))
           clear hb2)
          all_goals
           go_ret
           exact ⟨congrArg (fun x : Bool => Ending.returned (.bool x)) HF.out, HB2.out⟩
    · have g2 : decide ((k : Int) < (ks.length : Int)) = false := decide_eq_false (by omega)
      have HF := Lib.hid (show true = V by
       have := HZ.out
       rw [List.take_of_length_le (by omega)] at this
       rw [← HQ.out, this])
      clear HZ
      go_wp2_with fail
      go_ret
      exact ⟨congrArg (fun x : Bool => Ending.returned (.bool x)) HF.out, HB.out⟩
set_option maxHeartbeats 2000000 in
theorem formulas_any (t : Node) (A : Option Addr) (cap : Nat) (w : World) (h : NodeAt w w.heap.size t A cap) (hT : Tab8 w) (ih : ∀ k ∈ t.kids, FormLaw k) :
  Calls Tryd.prog 59 #[nodeT t A cap] w fun e w' => e = .returned (.bool (formsB t.kids)) ∧ Below w.heap.size w w' := by
 cases t with
 | node o s n p ks =>
   have HC := Lib.hid h
   have IH := Lib.hid ih
   have HT := Lib.hid (fun (W : World) (hW : Below w.heap.size w W) => Go.Proofs.Utf8Tabs_below hT hW)
   have hl := h.len
   obtain ⟨hl1, hl2, _⟩ := hl
   clear h ih hT
   simp only [nodeT, nodeW, Node.op, Node.name, Node.num, Node.pos, Node.kids] at IH ⊢
   rw [formsB_all]
   have HV := Lib.hid (rfl : ks.all formB = ks.all formB)
   generalize hv : ks.all formB = V at *
   have HQ := Lib.hid hv
   clear hv HV
   go_enter Tryd.func59, Tryd.ntmps59
   go_wp2_with fail
   go_loopg [3] ks.length (fun r i wr => ∃ k : Nat, k ≤ ks.length ∧ r = ks.length - k ∧ i = .int .i64 (k : Int) ∧ (ks.take k).all formB = true ∧ Below w.heap.size w wr ∧ wr.cell? ⟨w.heap.size, 4, none⟩ = some (.slice A ks.length cap))
   case atStart => exact ⟨0, Nat.zero_le _, rfl, rfl, by simp, (Below.refl _ _).alloc (Nat.le_refl _) _, (by go_keep)⟩
   case round =>
    obtain ⟨k, hk, hr, rfl, hz, hb, hc4⟩ := hrel
    have HRr := Lib.hid hr
    have HB := Lib.hid hb
    have HZ := Lib.hid hz
    have hs1 := hb.size
    clear hr hb hz
    by_cases hlt : k < ks.length
    · obtain ⟨bb, off, A', cap', rfl, hlo, hcells, hkid⟩ := HC.out.kid k hlt
      have HS := Lib.hid (all_take (f := formB) ks k hlt)
      have HN := Lib.hid (all_false (f := formB) ks k hlt)
      have HI := Lib.hid (fun (W : World) (hh : NodeAt W W.heap.size ks[k] A' cap') (ht : Tab8 W) => (IH.out ks[k] (List.getElem_mem hlt)) A' cap' W (by first | exact hh) (by first | exact ht))
      generalize hx : ks[k] = x at *
      clear hx
      cases x with
      | node o' s' n' p' ks' =>
        obtain ⟨c0, c1, c2, c3, c4⟩ := kid_cells hlo hcells HB.out
        have HKD := Lib.hid hkid
        clear hcells hkid IH
        simp only [nodeT, nodeW, Node.op, Node.name, Node.num, Node.pos, Node.kids] at HI
        have g2 : decide ((k : Int) < (ks.length : Int)) = true := decide_eq_true (by omega)
        generalize formB (.node o' s' n' p' ks') = y at *
        cases y with
        | true =>
          go_wp2_with (
           go_at_call 25
           refine (HI.out _ (HKD.out.later HB.out (by omega)) (HT.out _ HB.out)).mono ?_
           rintro e w2 ⟨rfl, hb2⟩
           have HB2 := Lib.hid (HB.out.trans (hb2.mono hs1))
           have hc5 := (hb2.cell (p := ⟨w.heap.size, 4, none⟩) (World.block_lt_of_cell? _ _ hc4)).trans hc4
           clear hb2)
          all_goals
           go_roundg (ks.length - (k + 1))
           case measure => have := HRr.out; omega
           case rel => exact ⟨k + 1, by omega, rfl, by go_num, by rw [HS.out, HZ.out]; rfl, HB2.out, hc5⟩
        | false =>
          have HF := Lib.hid (show false = V by rw [← HQ.out, HN.out rfl])
          go_wp2_with (
           go_at_call 25
           refine (HI.out _ (HKD.out.later HB.out (by omega)) (HT.out _ HB.out)).mono ?_
           rintro e w2 ⟨rfl, hb2⟩
           have HB2 := Lib.hid (HB.out.trans (hb2.mono hs1))
           clear hb2)
          all_goals
           go_ret
           exact ⟨congrArg (fun x : Bool => Ending.returned (.bool x)) HF.out, HB2.out⟩
    · have g2 : decide ((k : Int) < (ks.length : Int)) = false := decide_eq_false (by omega)
      have HF := Lib.hid (show true = V by
       have := HZ.out
       rw [List.take_of_length_le (by omega)] at this
       rw [← HQ.out, this])
      clear HZ
      go_wp2_with fail
      go_ret
      exact ⟨congrArg (fun x : Bool => Ending.returned (.bool x)) HF.out, HB.out⟩
end Go.Proofs.YteikakoheibnjaaDoor
namespace Go.Proofs.YteikakoheibnjaaDoor
open Go Go.RowKit

theorem fresh_w {w W : World} {x : Obj} (h : Below (w.heap.size + 1) (w.alloc x) W) : Below w.heap.size w W := ((Below.refl w.heap.size w).alloc (Nat.le_refl _) _).trans (h.mono (Nat.le_succ _))
theorem fresh_size {w W : World} {x : Obj} (h : Below (w.heap.size + 1) (w.alloc x) W) : w.heap.size + 1 ≤ W.heap.size := by
 have := h.size
 simpa using this
theorem fresh_more {w W W' : World} {x : Obj} (h : Below (w.heap.size + 1) (w.alloc x) W) (hb : Below W.heap.size W W') : Below (w.heap.size + 1) (w.alloc x) W' := h.trans (hb.mono (fresh_size h))
theorem two_of : ∀ {l : List Node}, l.length = 2 → ∃ x y, l = [x, y]
 | [a, b], _ => ⟨a, b, rfl⟩
set_option maxHeartbeats 2000000 in
theorem term_var (s : List UInt8) (n p : Int) (ks : List Node) (A : Option Addr) (cap : Nat) (w : World) (h : NodeAt w w.heap.size (.node [118, 97, 114] s n p ks) A cap) (hT : Tab8 w) (ih : ∀ k ∈ ks, TermLaw k) :
  Calls Tryd.prog 26 #[nodeW [118, 97, 114] s n p ks.length A cap] w fun e w' => e = .returned (.bool (termB (.node [118, 97, 114] s n p ks))) ∧ Below w.heap.size w w' := by
 have HC := Lib.hid h
 have IH := Lib.hid ih
 have HT := Lib.hid (fun (W : World) (hW : Below w.heap.size w W) => Go.Proofs.Utf8Tabs_below hT hW)
 have hl := h.len
 obtain ⟨hl1, hl2, _⟩ := hl
 clear h ih hT
 have HH := Lib.hid (fun k nm nu W hW ht => has_any (.node [118, 97, 114] s n p ks) A cap k nm nu W hW ht)
 simp only [nodeT, Node.op, Node.name, Node.num, Node.pos, Node.kids] at HH
 have HB0 := Lib.hid (Below.refl (w.heap.size + 1) (w.alloc (boxN [118, 97, 114] s n p ks.length A cap)))
 simp only [nodeW] at HH ⊢
 have HF := Lib.hid (show hasB ks.length s n 0 true false = termB (.node [118, 97, 114] s n p ks) by show _ = termB (.node nVar s n p ks); rw [termB, if_pos rfl])
 generalize termB (.node [118, 97, 114] s n p ks) = V at *
 go_enter Tryd.func26, Tryd.ntmps26
 go_wp2_with (first
  | (go_at_call 58
     refine (HH.out 0 true false _ (HC.out.later (fresh_w HB0.out) (fresh_w HB0.out).size) (HT.out _ (fresh_w HB0.out))).mono ?_
     rintro e w2 ⟨rfl, hb⟩
     have HB1 := Lib.hid (fresh_more HB0.out hb)
     obtain ⟨c0, c1, c2, c3, c4⟩ := box5 HB1.out
     clear hb))
 all_goals
  go_ret
  exact ⟨congrArg (fun x : Bool => Ending.returned (.bool x)) HF.out, fresh_w HB1.out⟩
set_option maxHeartbeats 2000000 in
theorem term_num (s : List UInt8) (n p : Int) (ks : List Node) (A : Option Addr) (cap : Nat) (w : World) (h : NodeAt w w.heap.size (.node [110, 117, 109] s n p ks) A cap) (hT : Tab8 w) (ih : ∀ k ∈ ks, TermLaw k) :
  Calls Tryd.prog 26 #[nodeW [110, 117, 109] s n p ks.length A cap] w fun e w' => e = .returned (.bool (termB (.node [110, 117, 109] s n p ks))) ∧ Below w.heap.size w w' := by
 have HC := Lib.hid h
 have IH := Lib.hid ih
 have HT := Lib.hid (fun (W : World) (hW : Below w.heap.size w W) => Go.Proofs.Utf8Tabs_below hT hW)
 have hl := h.len
 obtain ⟨hl1, hl2, _⟩ := hl
 clear h ih hT
 have HH := Lib.hid (fun k nm nu W hW ht => has_any (.node [110, 117, 109] s n p ks) A cap k nm nu W hW ht)
 simp only [nodeT, Node.op, Node.name, Node.num, Node.pos, Node.kids] at HH
 have HB0 := Lib.hid (Below.refl (w.heap.size + 1) (w.alloc (boxN [110, 117, 109] s n p ks.length A cap)))
 simp only [nodeW] at HH ⊢
 have HV := Lib.hid (show termB (.node [110, 117, 109] s n p ks) = (hasB ks.length s n 0 false true && decide (0 ≤ n) && decide (n ≤ 99)) by show termB (.node nNum s n p ks) = _; rw [termB, if_neg (by decide), if_pos rfl])
 have HX := Lib.hid (HH.out 0 false true)
 clear HH
 generalize termB (.node [110, 117, 109] s n p ks) = V at *
 generalize hasB ks.length s n 0 false true = H at *
 cases H with
 | false =>
   have HF := Lib.hid (show false = V by rw [HV.out]; rfl)
   clear HV
   go_enter Tryd.func26, Tryd.ntmps26
   go_wp2_with (first
    | (go_at_call 58
       refine (HX.out _ (HC.out.later (fresh_w HB0.out) (fresh_w HB0.out).size) (HT.out _ (fresh_w HB0.out))).mono ?_
       rintro e w2 ⟨rfl, hb⟩
       have HB1 := Lib.hid (fresh_more HB0.out hb)
       obtain ⟨c0, c1, c2, c3, c4⟩ := box5 HB1.out
       clear hb))
   all_goals
    go_ret
    exact ⟨congrArg (fun x : Bool => Ending.returned (.bool x)) HF.out, fresh_w HB1.out⟩
 | true =>
   by_cases h1 : 0 ≤ n
   · have g1 : decide (n ≥ 0) = true := decide_eq_true h1
     by_cases h2 : n ≤ 99
     · have g2 : decide (n ≤ 99) = true := decide_eq_true h2
       have HF := Lib.hid (show true = V by rw [HV.out, decide_eq_true h1, decide_eq_true h2]; rfl)
       clear HV
       go_enter Tryd.func26, Tryd.ntmps26
       go_wp2_with (first
        | (go_at_call 58
           refine (HX.out _ (HC.out.later (fresh_w HB0.out) (fresh_w HB0.out).size) (HT.out _ (fresh_w HB0.out))).mono ?_
           rintro e w2 ⟨rfl, hb⟩
           have HB1 := Lib.hid (fresh_more HB0.out hb)
           obtain ⟨c0, c1, c2, c3, c4⟩ := box5 HB1.out
           clear hb))
       all_goals
        go_ret
        exact ⟨congrArg (fun x : Bool => Ending.returned (.bool x)) HF.out, fresh_w HB1.out⟩
     · have g2 : decide (n ≤ 99) = false := decide_eq_false h2
       have HF := Lib.hid (show false = V by rw [HV.out, decide_eq_false h2, Bool.and_false])
       clear HV
       go_enter Tryd.func26, Tryd.ntmps26
       go_wp2_with (first
        | (go_at_call 58
           refine (HX.out _ (HC.out.later (fresh_w HB0.out) (fresh_w HB0.out).size) (HT.out _ (fresh_w HB0.out))).mono ?_
           rintro e w2 ⟨rfl, hb⟩
           have HB1 := Lib.hid (fresh_more HB0.out hb)
           obtain ⟨c0, c1, c2, c3, c4⟩ := box5 HB1.out
           clear hb))
       all_goals
        go_ret
        exact ⟨congrArg (fun x : Bool => Ending.returned (.bool x)) HF.out, fresh_w HB1.out⟩
   · have g1 : decide (n ≥ 0) = false := decide_eq_false h1
     have HF := Lib.hid (show false = V by rw [HV.out, decide_eq_false h1]; rfl)
     clear HV
     go_enter Tryd.func26, Tryd.ntmps26
     go_wp2_with (first
      | (go_at_call 58
         refine (HX.out _ (HC.out.later (fresh_w HB0.out) (fresh_w HB0.out).size) (HT.out _ (fresh_w HB0.out))).mono ?_
         rintro e w2 ⟨rfl, hb⟩
         have HB1 := Lib.hid (fresh_more HB0.out hb)
         obtain ⟨c0, c1, c2, c3, c4⟩ := box5 HB1.out
         clear hb))
     all_goals
      go_ret
      exact ⟨congrArg (fun x : Bool => Ending.returned (.bool x)) HF.out, fresh_w HB1.out⟩
set_option maxHeartbeats 2000000 in
theorem term_plus (s : List UInt8) (n p : Int) (ks : List Node) (A : Option Addr) (cap : Nat) (w : World) (h : NodeAt w w.heap.size (.node [112, 108, 117, 115] s n p ks) A cap) (hT : Tab8 w) (ih : ∀ k ∈ ks, TermLaw k) :
  Calls Tryd.prog 26 #[nodeW [112, 108, 117, 115] s n p ks.length A cap] w fun e w' => e = .returned (.bool (termB (.node [112, 108, 117, 115] s n p ks))) ∧ Below w.heap.size w w' := by
 have HC := Lib.hid h
 have IH := Lib.hid ih
 have HT := Lib.hid (fun (W : World) (hW : Below w.heap.size w W) => Go.Proofs.Utf8Tabs_below hT hW)
 have hl := h.len
 obtain ⟨hl1, hl2, _⟩ := hl
 clear h ih hT
 have HH := Lib.hid (fun k nm nu W hW ht => has_any (.node [112, 108, 117, 115] s n p ks) A cap k nm nu W hW ht)
 simp only [nodeT, Node.op, Node.name, Node.num, Node.pos, Node.kids] at HH
 have HB0 := Lib.hid (Below.refl (w.heap.size + 1) (w.alloc (boxN [112, 108, 117, 115] s n p ks.length A cap)))
 simp only [nodeW] at HH ⊢
 have HV := Lib.hid (show termB (.node [112, 108, 117, 115] s n p ks) = (hasB ks.length s n 1 false true && decide (1 ≤ n) && decide (n ≤ 99) && ks.all (fun k => decide (k.op = nVar)) && termsB ks) by show termB (.node nPlus s n p ks) = _; rw [termB, if_neg (by decide), if_neg (by decide), if_pos rfl])
 have HX := Lib.hid (HH.out 1 false true)
 clear HH
 generalize termB (.node [112, 108, 117, 115] s n p ks) = V at *
 have hH : hasB ks.length s n 1 false true = true → ks.length = 1 := fun h => (hasB_name h).2.1
 generalize hasB ks.length s n 1 false true = H at *
 cases H with
 | false =>
   clear hH
   have HF := Lib.hid (show false = V by rw [HV.out]; rfl)
   clear HV
   go_enter Tryd.func26, Tryd.ntmps26
   go_wp2_with (first
    | (go_at_call 58
       refine (HX.out _ (HC.out.later (fresh_w HB0.out) (fresh_w HB0.out).size) (HT.out _ (fresh_w HB0.out))).mono ?_
       rintro e w2 ⟨rfl, hb⟩
       have HB1 := Lib.hid (fresh_more HB0.out hb)
       obtain ⟨c0, c1, c2, c3, c4⟩ := box5 HB1.out
       clear hb))
   all_goals
    go_ret
    exact ⟨congrArg (fun x : Bool => Ending.returned (.bool x)) HF.out, fresh_w HB1.out⟩
 | true =>
   have hk := hH rfl
   clear hH
   by_cases h1 : 1 ≤ n
   · have g1 : decide (n ≥ 1) = true := decide_eq_true h1
     by_cases h2 : n ≤ 99
     · have g2 : decide (n ≤ 99) = true := decide_eq_true h2
       obtain ⟨x, rfl⟩ : ∃ x, ks = [x] := by
        match ks, hk with
        | [a], _ => exact ⟨a, rfl⟩
       obtain ⟨bb, off, A', cap', rfl, hlo, hcells, hkid⟩ := HC.out.kid 0 (by simp)
       have HI := Lib.hid (fun (W : World) (hh : NodeAt W W.heap.size x A' cap') (ht : Tab8 W) => (IH.out x (by simp)) A' cap' W (by first | exact hh) (by first | exact ht))
       have HV2 := Lib.hid (show V = (decide (x.op = nVar) && termB x) by rw [HV.out, decide_eq_true h1, decide_eq_true h2]; simp [termsB])
       clear HV IH hk
       simp only [List.getElem_cons_zero, Nat.zero_mul, Nat.add_zero] at hcells hkid
       cases x with
       | node o' s' n' p' ks' =>
         have HKC := Lib.hid (fun (W : World) (hW : Below w.heap.size w W) => kid_cells hlo hcells hW)
         have HKD := Lib.hid hkid
         clear hcells hkid
         simp only [nodeT, nodeW, Node.op, Node.name, Node.num, Node.pos, Node.kids] at HI HV2
         by_cases h3 : o' = [118, 97, 114]
         · have g3 : (o' == [118, 97, 114]) = true := by rw [h3]; rfl
           have HF := Lib.hid (show termB (.node o' s' n' p' ks') = V by rw [HV2.out]; have h : o' = nVar := h3; simp [h])
           clear HV2 h3
           generalize termB (.node o' s' n' p' ks') = y at *
           go_enter Tryd.func26, Tryd.ntmps26
           go_wp2_with (first
            | (go_at_call 58
               refine (HX.out _ (HC.out.later (fresh_w HB0.out) (fresh_w HB0.out).size) (HT.out _ (fresh_w HB0.out))).mono ?_
               rintro e w2 ⟨rfl, hb⟩
               have HB1 := Lib.hid (fresh_more HB0.out hb)
               obtain ⟨c0, c1, c2, c3, c4⟩ := box5 HB1.out
               obtain ⟨d0, d1, d2, d3, d4⟩ := HKC.out _ (fresh_w HB1.out)
               clear hb)
            | (go_at_call 26
               refine (HI.out _ (HKD.out.later (fresh_w HB1.out) (fresh_w HB1.out).size) (HT.out _ (fresh_w HB1.out))).mono ?_
               rintro e w3 ⟨rfl, hb⟩
               have HB2 := Lib.hid (fresh_more HB1.out hb)
               obtain ⟨c0, c1, c2, c3, c4⟩ := box5 HB2.out
               clear hb))
           all_goals
            go_ret
            exact ⟨congrArg (fun x : Bool => Ending.returned (.bool x)) HF.out, fresh_w HB2.out⟩
         · have g3 : (o' == [118, 97, 114]) = false := beq_false_of_ne h3
           have HF := Lib.hid (show false = V by rw [HV2.out]; have h : ¬ o' = nVar := h3; simp [h])
           clear HV2 h3
           go_enter Tryd.func26, Tryd.ntmps26
           go_wp2_with (first
            | (go_at_call 58
               refine (HX.out _ (HC.out.later (fresh_w HB0.out) (fresh_w HB0.out).size) (HT.out _ (fresh_w HB0.out))).mono ?_
               rintro e w2 ⟨rfl, hb⟩
               have HB1 := Lib.hid (fresh_more HB0.out hb)
               obtain ⟨c0, c1, c2, c3, c4⟩ := box5 HB1.out
               obtain ⟨d0, d1, d2, d3, d4⟩ := HKC.out _ (fresh_w HB1.out)
               clear hb))
           all_goals
            go_ret
            exact ⟨congrArg (fun x : Bool => Ending.returned (.bool x)) HF.out, fresh_w HB1.out⟩
     · have g2 : decide (n ≤ 99) = false := decide_eq_false h2
       have HF := Lib.hid (show false = V by rw [HV.out, decide_eq_false h2, Bool.and_false]; rfl)
       clear HV hk
       go_enter Tryd.func26, Tryd.ntmps26
       go_wp2_with (first
        | (go_at_call 58
           refine (HX.out _ (HC.out.later (fresh_w HB0.out) (fresh_w HB0.out).size) (HT.out _ (fresh_w HB0.out))).mono ?_
           rintro e w2 ⟨rfl, hb⟩
           have HB1 := Lib.hid (fresh_more HB0.out hb)
           obtain ⟨c0, c1, c2, c3, c4⟩ := box5 HB1.out
           clear hb))
       all_goals
        go_ret
        exact ⟨congrArg (fun x : Bool => Ending.returned (.bool x)) HF.out, fresh_w HB1.out⟩
   · have g1 : decide (n ≥ 1) = false := decide_eq_false h1
     have HF := Lib.hid (show false = V by rw [HV.out, decide_eq_false h1]; rfl)
     clear HV hk
     go_enter Tryd.func26, Tryd.ntmps26
     go_wp2_with (first
      | (go_at_call 58
         refine (HX.out _ (HC.out.later (fresh_w HB0.out) (fresh_w HB0.out).size) (HT.out _ (fresh_w HB0.out))).mono ?_
         rintro e w2 ⟨rfl, hb⟩
         have HB1 := Lib.hid (fresh_more HB0.out hb)
         obtain ⟨c0, c1, c2, c3, c4⟩ := box5 HB1.out
         clear hb))
     all_goals
      go_ret
      exact ⟨congrArg (fun x : Bool => Ending.returned (.bool x)) HF.out, fresh_w HB1.out⟩
set_option maxHeartbeats 2000000 in
theorem term_rest (o s : List UInt8) (n p : Int) (ks : List Node) (A : Option Addr) (cap : Nat) (w : World) (h : NodeAt w w.heap.size (.node o s n p ks) A cap) (hT : Tab8 w) (ih : ∀ k ∈ ks, TermLaw k) (h1 : ¬ o = nVar) (h2 : ¬ o = nNum) (h3 : ¬ o = nPlus) (h4 : ¬ o = nSet) :
  Calls Tryd.prog 26 #[nodeW o s n p ks.length A cap] w fun e w' => e = .returned (.bool (termB (.node o s n p ks))) ∧ Below w.heap.size w w' := by
 have HC := Lib.hid h
 have IH := Lib.hid ih
 have HT := Lib.hid (fun (W : World) (hW : Below w.heap.size w W) => Go.Proofs.Utf8Tabs_below hT hW)
 have hl := h.len
 obtain ⟨hl1, hl2, _⟩ := hl
 clear h ih hT
 have HH := Lib.hid (fun k nm nu W hW ht => has_any (.node o s n p ks) A cap k nm nu W hW ht)
 simp only [nodeT, Node.op, Node.name, Node.num, Node.pos, Node.kids] at HH
 have HB0 := Lib.hid (Below.refl (w.heap.size + 1) (w.alloc (boxN o s n p ks.length A cap)))
 simp only [nodeW] at HH ⊢
 have HV := Lib.hid (show termB (.node o s n p ks) = (setOp o && hasB ks.length s n 2 false false && termsB ks && !(ks.drop 1).any fun k => setOp k.op) by rw [termB, if_neg h1, if_neg h2, if_neg h3, if_neg h4])
 have g1 : (o == [118, 97, 114]) = false := beq_false_of_ne h1
 have g2 : (o == [110, 117, 109]) = false := beq_false_of_ne h2
 have g3 : (o == [112, 108, 117, 115]) = false := beq_false_of_ne h3
 have g4 : (o == [115, 101, 116]) = false := beq_false_of_ne h4
 clear h1 h2 h3 h4
 have HS := Lib.hid (fun W => Set_any (.node o s n p ks) A cap W)
 have HL := Lib.hid (fun W hW ht => terms_any (.node o s n p ks) A cap W hW ht (by first | exact IH.out))
 simp only [nodeT, nodeW, Node.op, Node.name, Node.num, Node.pos, Node.kids] at HS HL
 have HX := Lib.hid (HH.out 2 false false)
 clear HH IH
 generalize termB (.node o s n p ks) = V at *
 have hH : hasB ks.length s n 2 false false = true → ks.length = 2 := fun h => (hasB_name h).2.1
 generalize hasB ks.length s n 2 false false = H at *
 generalize setOp o = G at *
 cases G with
 | false =>
   clear hH
   have HF := Lib.hid (show false = V by rw [HV.out]; rfl)
   clear HV
   go_enter Tryd.func26, Tryd.ntmps26
   go_wp2_with (first
    | (go_at_call 61
       refine (HS.out _).mono ?_
       rintro e w2 ⟨rfl, hb⟩
       have HB1 := Lib.hid (fresh_more HB0.out hb)
       obtain ⟨c0, c1, c2, c3, c4⟩ := box5 HB1.out
       clear hb))
   all_goals
    go_ret
    exact ⟨congrArg (fun x : Bool => Ending.returned (.bool x)) HF.out, fresh_w HB1.out⟩
 | true =>
   cases H with
   | false =>
     clear hH
     have HF := Lib.hid (show false = V by rw [HV.out]; rfl)
     clear HV
     go_enter Tryd.func26, Tryd.ntmps26
     go_wp2_with (first
      | (go_at_call 61
         refine (HS.out _).mono ?_
         rintro e w2 ⟨rfl, hb⟩
         have HB1 := Lib.hid (fresh_more HB0.out hb)
         obtain ⟨c0, c1, c2, c3, c4⟩ := box5 HB1.out
         clear hb)
      | (go_at_call 58
         refine (HX.out _ (HC.out.later (fresh_w HB1.out) (fresh_w HB1.out).size) (HT.out _ (fresh_w HB1.out))).mono ?_
         rintro e w3 ⟨rfl, hb⟩
         have HB2 := Lib.hid (fresh_more HB1.out hb)
         obtain ⟨c0, c1, c2, c3, c4⟩ := box5 HB2.out
         clear hb))
     all_goals
      go_ret
      exact ⟨congrArg (fun x : Bool => Ending.returned (.bool x)) HF.out, fresh_w HB2.out⟩
   | true =>
     have hk := hH rfl
     clear hH
     have HK1 := Lib.hid (two_of hk)
     clear hk
     generalize hy : termsB ks = Y at *
     cases Y with
     | false =>
       have HF := Lib.hid (show false = V by rw [HV.out]; rfl)
       clear HV HK1 hy
       go_enter Tryd.func26, Tryd.ntmps26
       go_wp2_with (first
        | (go_at_call 61
           refine (HS.out _).mono ?_
           rintro e w2 ⟨rfl, hb⟩
           have HB1 := Lib.hid (fresh_more HB0.out hb)
           obtain ⟨c0, c1, c2, c3, c4⟩ := box5 HB1.out
           clear hb)
        | (go_at_call 58
           refine (HX.out _ (HC.out.later (fresh_w HB1.out) (fresh_w HB1.out).size) (HT.out _ (fresh_w HB1.out))).mono ?_
           rintro e w3 ⟨rfl, hb⟩
           have HB2 := Lib.hid (fresh_more HB1.out hb)
           obtain ⟨c0, c1, c2, c3, c4⟩ := box5 HB2.out
           clear hb)
        | (go_at_call 60
           refine (HL.out _ (HC.out.later (fresh_w HB2.out) (fresh_w HB2.out).size) (HT.out _ (fresh_w HB2.out))).mono ?_
           rintro e w4 ⟨rfl, hb⟩
           have HB3 := Lib.hid (fresh_more HB2.out hb)
           obtain ⟨c0, c1, c2, c3, c4⟩ := box5 HB3.out
           clear hb))
       all_goals
        go_ret
        exact ⟨congrArg (fun x : Bool => Ending.returned (.bool x)) HF.out, fresh_w HB3.out⟩
     | true =>
       clear hy
       obtain ⟨x, y, rfl⟩ := HK1.out
       clear HK1
       have HF := Lib.hid (show (!setOp y.op) = V by rw [HV.out]; simp)
       clear HV
       obtain ⟨bb, off, A', cap', rfl, hlo, hcells, hkid⟩ := HC.out.kid 1 (by simp)
       have HQ := Lib.hid (fun (W : World) => Set_any y A' cap' W)
       simp only [List.getElem_cons_succ, List.getElem_cons_zero, Nat.one_mul] at hcells hkid
       cases y with
       | node o' s' n' p' ks' =>
         have HKC := Lib.hid (fun (W : World) (hW : Below w.heap.size w W) => kid_cells hlo hcells hW)
         clear hcells hkid
         simp only [nodeT, nodeW, Node.op, Node.name, Node.num, Node.pos, Node.kids] at HQ HF
         generalize setOp o' = z at *
         go_enter Tryd.func26, Tryd.ntmps26
         go_wp2_with (first
          | (go_at_call 61
             have hhb := HB3
             refine (HQ.out _).mono ?_
             rintro e w5 ⟨rfl, hb⟩
             have HB4 := Lib.hid (fresh_more HB3.out hb)
             obtain ⟨c0, c1, c2, c3, c4⟩ := box5 HB4.out
             clear hb)
          | (go_at_call 61
             refine (HS.out _).mono ?_
             rintro e w2 ⟨rfl, hb⟩
             have HB1 := Lib.hid (fresh_more HB0.out hb)
             obtain ⟨c0, c1, c2, c3, c4⟩ := box5 HB1.out
             clear hb)
          | (go_at_call 58
             refine (HX.out _ (HC.out.later (fresh_w HB1.out) (fresh_w HB1.out).size) (HT.out _ (fresh_w HB1.out))).mono ?_
             rintro e w3 ⟨rfl, hb⟩
             have HB2 := Lib.hid (fresh_more HB1.out hb)
             obtain ⟨c0, c1, c2, c3, c4⟩ := box5 HB2.out
             clear hb)
          | (go_at_call 60
             refine (HL.out _ (HC.out.later (fresh_w HB2.out) (fresh_w HB2.out).size) (HT.out _ (fresh_w HB2.out))).mono ?_
             rintro e w4 ⟨rfl, hb⟩
             have HB3 := Lib.hid (fresh_more HB2.out hb)
             obtain ⟨c0, c1, c2, c3, c4⟩ := box5 HB3.out
             obtain ⟨d0, d1, d2, d3, d4⟩ := HKC.out _ (fresh_w HB3.out)
             clear hb))
         all_goals
          go_ret
          exact ⟨congrArg (fun x : Bool => Ending.returned (.bool x)) HF.out, fresh_w HB4.out⟩
end Go.Proofs.YteikakoheibnjaaDoor
namespace Go.Proofs.YteikakoheibnjaaDoor
open Go Go.RowKit

set_option maxHeartbeats 2000000 in
theorem term_set (s : List UInt8) (n p : Int) (ks : List Node) (A : Option Addr) (cap : Nat) (w : World) (h : NodeAt w w.heap.size (.node [115, 101, 116] s n p ks) A cap) (hT : Tab8 w) (ih : ∀ k ∈ ks, TermLaw k) :
  Calls Tryd.prog 26 #[nodeW [115, 101, 116] s n p ks.length A cap] w fun e w' => e = .returned (.bool (termB (.node [115, 101, 116] s n p ks))) ∧ Below w.heap.size w w' := by
 have HC := Lib.hid h
 have IH := Lib.hid ih
 have HT := Lib.hid (fun (W : World) (hW : Below w.heap.size w W) => Go.Proofs.Utf8Tabs_below hT hW)
 have hl := h.len
 obtain ⟨hl1, hl2, _⟩ := hl
 clear h ih hT
 have HH := Lib.hid (fun k nm nu W hW ht => has_any (.node [115, 101, 116] s n p ks) A cap k nm nu W hW ht)
 simp only [nodeT, Node.op, Node.name, Node.num, Node.pos, Node.kids] at HH
 have HB0 := Lib.hid (Below.refl (w.heap.size + 1) (w.alloc (boxN [115, 101, 116] s n p ks.length A cap)))
 simp only [nodeW] at HH ⊢
 have HV := Lib.hid (show termB (.node [115, 101, 116] s n p ks) = (ks.all (fun k => !(setOp k.op || decide (k.op = nSet))) && hasB ks.length s n ks.length false false && decide (ks.length ≤ 6) && termsB ks) by
  show termB (.node nSet s n p ks) = _
  rw [termB, if_neg (by decide), if_neg (by decide), if_neg (by decide), if_pos rfl, List.not_any_eq_all_not])
 have HL := Lib.hid (fun W hW ht => terms_any (.node [115, 101, 116] s n p ks) A cap W hW ht (by first | exact IH.out))
 simp only [nodeT, nodeW, Node.op, Node.name, Node.num, Node.pos, Node.kids] at HL
 have HX := Lib.hid (HH.out ks.length false false)
 clear HH IH
 generalize termB (.node [115, 101, 116] s n p ks) = V at *
 generalize hasB ks.length s n ks.length false false = H at *
 generalize termsB ks = Y at *
 generalize hf : (fun k : Node => !(setOp k.op || decide (k.op = nSet))) = f at *
 have HFF := Lib.hid hf
 clear hf
 go_enter Tryd.func26, Tryd.ntmps26
 go_wp2_with fail
 go_loopg [3] ks.length (fun r i wr => ∃ k : Nat, k ≤ ks.length ∧ r = ks.length - k ∧ i = .int .i64 (k : Int) ∧ (ks.take k).all f = true ∧ Below (w.heap.size + 1) (w.alloc (boxN [115, 101, 116] s n p ks.length A cap)) wr)
 case atStart => exact ⟨0, Nat.zero_le _, rfl, rfl, by simp, Below.refl _ _⟩
 case round =>
  obtain ⟨k, hk, hr, rfl, hz, hb⟩ := hrel
  have HRr := Lib.hid hr
  have HB0 := Lib.hid hb
  have HZ := Lib.hid hz
  have hs1 := fresh_size hb
  obtain ⟨c0, c1, c2, c3, c4⟩ := box5 hb
  clear hr hb hz
  by_cases hlt : k < ks.length
  · obtain ⟨bb, off, A', cap', rfl, hlo, hcells, hkid⟩ := HC.out.kid k hlt
    have HS := Lib.hid (all_take (f := f) ks k hlt)
    have HN := Lib.hid (all_false (f := f) ks k hlt)
    have HQ := Lib.hid (fun (W : World) => Set_any ks[k] A' cap' W)
    generalize hx : ks[k] = x at *
    clear hx
    cases x with
    | node o' s' n' p' ks' =>
      have HKC := Lib.hid (fun (W : World) (hW : Below w.heap.size w W) => kid_cells hlo hcells hW)
      obtain ⟨d0, d1, d2, d3, d4⟩ := HKC.out _ (fresh_w HB0.out)
      clear hcells hkid
      simp only [nodeT, nodeW, Node.op, Node.name, Node.num, Node.pos, Node.kids] at HQ
      have HFX := Lib.hid (show f (.node o' s' n' p' ks') = !(setOp o' || decide (o' = nSet)) by rw [← HFF.out]; rfl)
      have g2 : decide ((k : Int) < (ks.length : Int)) = true := decide_eq_true (by omega)
      generalize setOp o' = y at *
      cases y with
      | true =>
        have HF := Lib.hid (show false = V by rw [HV.out, HN.out (by rw [HFX.out]; rfl)]; rfl)
        go_wp2_with (
         go_at_call 61
         refine (HQ.out _).mono ?_
         rintro e w2 ⟨rfl, hb⟩
         have HB1 := Lib.hid (fresh_more HB0.out hb)
         clear hb)
        all_goals
         go_ret
         exact ⟨congrArg (fun x : Bool => Ending.returned (.bool x)) HF.out, fresh_w HB1.out⟩
      | false =>
        by_cases h3 : o' = [115, 101, 116]
        · have g3 : (o' == [115, 101, 116]) = true := by rw [h3]; rfl
          have HF := Lib.hid (show false = V by rw [HV.out, HN.out (by rw [HFX.out]; have h : o' = nSet := h3; simp [h])]; rfl)
          clear h3
          go_wp2_with (
           go_at_call 61
           refine (HQ.out _).mono ?_
           rintro e w2 ⟨rfl, hb⟩
           have HB1 := Lib.hid (fresh_more HB0.out hb)
           obtain ⟨c0, c1, c2, c3, c4⟩ := box5 HB1.out
           obtain ⟨d0, d1, d2, d3, d4⟩ := HKC.out _ (fresh_w HB1.out)
           clear hb)
          all_goals
           go_ret
           exact ⟨congrArg (fun x : Bool => Ending.returned (.bool x)) HF.out, fresh_w HB1.out⟩
        · have g3 : (o' == [115, 101, 116]) = false := beq_false_of_ne h3
          have HT2 := Lib.hid (show (ks.take (k + 1)).all f = true by rw [HS.out, HZ.out, HFX.out]; have h : ¬ o' = nSet := h3; simp [h])
          clear h3
          go_wp2_with (
           go_at_call 61
           refine (HQ.out _).mono ?_
           rintro e w2 ⟨rfl, hb⟩
           have HB1 := Lib.hid (fresh_more HB0.out hb)
           obtain ⟨c0, c1, c2, c3, c4⟩ := box5 HB1.out
           obtain ⟨d0, d1, d2, d3, d4⟩ := HKC.out _ (fresh_w HB1.out)
           clear hb)
          all_goals
           go_roundg (ks.length - (k + 1))
           case measure => have := HRr.out; omega
           case rel => exact ⟨k + 1, by omega, rfl, by go_num, HT2.out, HB1.out⟩
  · have g2 : decide ((k : Int) < (ks.length : Int)) = false := decide_eq_false (by omega)
    have HV2 := Lib.hid (show V = (H && decide (ks.length ≤ 6) && Y) by
     have := HZ.out
     rw [List.take_of_length_le (by omega)] at this
     rw [HV.out, this]; rfl)
    clear HV HZ
    cases H with
    | false =>
      have HF := Lib.hid (show false = V by rw [HV2.out]; rfl)
      clear HV2
      go_wp2_with (first
       | (go_at_call 58
          refine (HX.out _ (HC.out.later (fresh_w HB0.out) (fresh_w HB0.out).size) (HT.out _ (fresh_w HB0.out))).mono ?_
          rintro e w2 ⟨rfl, hb⟩
          have HB1 := Lib.hid (fresh_more HB0.out hb)
          obtain ⟨c0, c1, c2, c3, c4⟩ := box5 HB1.out
          clear hb))
      all_goals
       go_ret
       exact ⟨congrArg (fun x : Bool => Ending.returned (.bool x)) HF.out, fresh_w HB1.out⟩
    | true =>
      by_cases h6 : ks.length ≤ 6
      · have g6 : decide ((ks.length : Int) ≤ 6) = true := decide_eq_true (by omega)
        have HF := Lib.hid (show Y = V by rw [HV2.out, decide_eq_true h6]; rfl)
        clear HV2
        go_wp2_with (first
         | (go_at_call 58
            refine (HX.out _ (HC.out.later (fresh_w HB0.out) (fresh_w HB0.out).size) (HT.out _ (fresh_w HB0.out))).mono ?_
            rintro e w2 ⟨rfl, hb⟩
            have HB1 := Lib.hid (fresh_more HB0.out hb)
            obtain ⟨c0, c1, c2, c3, c4⟩ := box5 HB1.out
            clear hb)
         | (go_at_call 60
            refine (HL.out _ (HC.out.later (fresh_w HB1.out) (fresh_w HB1.out).size) (HT.out _ (fresh_w HB1.out))).mono ?_
            rintro e w3 ⟨rfl, hb⟩
            have HB2 := Lib.hid (fresh_more HB1.out hb)
            obtain ⟨c0, c1, c2, c3, c4⟩ := box5 HB2.out
            clear hb))
        all_goals
         go_ret
         exact ⟨congrArg (fun x : Bool => Ending.returned (.bool x)) HF.out, fresh_w HB2.out⟩
      · have g6 : decide ((ks.length : Int) ≤ 6) = false := decide_eq_false (by omega)
        have HF := Lib.hid (show false = V by rw [HV2.out, decide_eq_false h6]; rfl)
        clear HV2
        go_wp2_with (first
         | (go_at_call 58
            refine (HX.out _ (HC.out.later (fresh_w HB0.out) (fresh_w HB0.out).size) (HT.out _ (fresh_w HB0.out))).mono ?_
            rintro e w2 ⟨rfl, hb⟩
            have HB1 := Lib.hid (fresh_more HB0.out hb)
            obtain ⟨c0, c1, c2, c3, c4⟩ := box5 HB1.out
            clear hb))
        all_goals
         go_ret
         exact ⟨congrArg (fun x : Bool => Ending.returned (.bool x)) HF.out, fresh_w HB1.out⟩
theorem term_any : ∀ t : Node, TermLaw t := by
 intro t
 induction t using Node.ind with
 | h o s n p ks ih =>
   intro A cap w h hT
   show Calls Tryd.prog 26 #[nodeW o s n p ks.length A cap] w _
   by_cases h1 : o = nVar
   · subst h1
     exact term_var s n p ks A cap w h hT ih
   by_cases h2 : o = nNum
   · subst h2
     exact term_num s n p ks A cap w h hT ih
   by_cases h3 : o = nPlus
   · subst h3
     exact term_plus s n p ks A cap w h hT ih
   by_cases h4 : o = nSet
   · subst h4
     exact term_set s n p ks A cap w h hT ih
   exact term_rest o s n p ks A cap w h hT ih h1 h2 h3 h4
end Go.Proofs.YteikakoheibnjaaDoor
