/- The walks over sibylref3.has, small. -/
import Derived.Test.YteikakoheibnjaaDoorHas
namespace Go.Proofs.YteikakoheibnjaaDoor
open Go Go.RowKit

set_option maxHeartbeats 2000000 in
theorem has_any (t : Node) (A : Option Addr) (cap : Nat) (k : Nat) (nm nu : Bool) (w : World) (h : NodeAt w w.heap.size t A cap) (hT : Tab8 w) :
    Calls Tryd.prog 58 #[nodeT t A cap, .int .i64 k, .bool nm, .bool nu] w fun e w' => e = .returned (.bool (hasB t.kids.length t.name t.num k nm nu)) ∧ Below w.heap.size w w' := by
  cases t with
  | node o s n p ks =>
    have hl := h.len
    obtain ⟨_, _, hl1, hl2⟩ := hl
    clear h
    simp only [nodeT, nodeW, Node.op, Node.name, Node.num, Node.pos, Node.kids]
    have HB1 := Lib.hid ((Below.refl w.heap.size w).alloc (Nat.le_refl _) (boxN o s n p ks.length A cap))
    have HN := Lib.hid (fun W hW => isName_any s hl2 W (Go.Proofs.Utf8Tabs_below hT hW))
    clear hT
    have HV := Lib.hid (show hasB ks.length s n k nm nu = (decide (ks.length = k) && (nm || decide (s = [])) && (nu || decide (n = 0)) && (!nm || nameB s)) from rfl)
    generalize hasB ks.length s n k nm nu = V at *
    generalize nameB s = NB at *
    clear hl1
    cases nm <;> cases nu
    · by_cases hk : ks.length = k
      · have gk : ((ks.length : Int) == (k : Int)) = true := by rw [hk]; simp
        by_cases hs : s = []
        · have gs : (s == []) = true := by rw [hs]; rfl
          by_cases hn : n = 0
          · have gn : (n == 0) = true := by rw [hn]; rfl
            have HF := Lib.hid (show true = V by rw [HV.out]; simp [hs, hk, hn])
            clear HV
            try clear hk
            try clear hs
            try clear hn
            go_enter Tryd.func58, Tryd.ntmps58
            go_wp2_with fail
            all_goals
              go_ret
              exact ⟨congrArg (fun x : Bool => Ending.returned (.bool x)) HF.out, HB1.out⟩
          · have gn : (n == 0) = false := beq_false_of_ne hn
            have HF := Lib.hid (show false = V by rw [HV.out]; simp [hs, hk, hn])
            clear HV
            try clear hk
            try clear hs
            try clear hn
            go_enter Tryd.func58, Tryd.ntmps58
            go_wp2_with fail
            all_goals
              go_ret
              exact ⟨congrArg (fun x : Bool => Ending.returned (.bool x)) HF.out, HB1.out⟩
        · have gs : (s == []) = false := beq_false_of_ne hs
          have HF := Lib.hid (show false = V by rw [HV.out]; simp [hk, hs])
          clear HV
          try clear hk
          try clear hs
          try clear hn
          go_enter Tryd.func58, Tryd.ntmps58
          go_wp2_with fail
          all_goals
            go_ret
            exact ⟨congrArg (fun x : Bool => Ending.returned (.bool x)) HF.out, HB1.out⟩
      · have gk : ((ks.length : Int) == (k : Int)) = false := by simp; omega
        have HF := Lib.hid (show false = V by rw [HV.out]; simp [hk])
        clear HV
        try clear hk
        try clear hs
        try clear hn
        go_enter Tryd.func58, Tryd.ntmps58
        go_wp2_with fail
        all_goals
          go_ret
          exact ⟨congrArg (fun x : Bool => Ending.returned (.bool x)) HF.out, HB1.out⟩
    · by_cases hk : ks.length = k
      · have gk : ((ks.length : Int) == (k : Int)) = true := by rw [hk]; simp
        by_cases hs : s = []
        · have gs : (s == []) = true := by rw [hs]; rfl
          have HF := Lib.hid (show true = V by rw [HV.out]; simp [hs, hk])
          clear HV
          try clear hk
          try clear hs
          try clear hn
          go_enter Tryd.func58, Tryd.ntmps58
          go_wp2_with fail
          all_goals
            go_ret
            exact ⟨congrArg (fun x : Bool => Ending.returned (.bool x)) HF.out, HB1.out⟩
        · have gs : (s == []) = false := beq_false_of_ne hs
          have HF := Lib.hid (show false = V by rw [HV.out]; simp [hk, hs])
          clear HV
          try clear hk
          try clear hs
          try clear hn
          go_enter Tryd.func58, Tryd.ntmps58
          go_wp2_with fail
          all_goals
            go_ret
            exact ⟨congrArg (fun x : Bool => Ending.returned (.bool x)) HF.out, HB1.out⟩
      · have gk : ((ks.length : Int) == (k : Int)) = false := by simp; omega
        have HF := Lib.hid (show false = V by rw [HV.out]; simp [hk])
        clear HV
        try clear hk
        try clear hs
        try clear hn
        go_enter Tryd.func58, Tryd.ntmps58
        go_wp2_with fail
        all_goals
          go_ret
          exact ⟨congrArg (fun x : Bool => Ending.returned (.bool x)) HF.out, HB1.out⟩
    · by_cases hk : ks.length = k
      · have gk : ((ks.length : Int) == (k : Int)) = true := by rw [hk]; simp
        by_cases hn : n = 0
        · have gn : (n == 0) = true := by rw [hn]; rfl
          have HF := Lib.hid (show NB = V by rw [HV.out]; simp [hk, hn])
          clear HV
          try clear hk
          try clear hs
          try clear hn
          go_enter Tryd.func58, Tryd.ntmps58
          go_wp2_with (
            go_at_call 64
            refine (HN.out _ HB1.out).mono ?_
            rintro e w2 ⟨rfl, hb⟩
            have HB := Lib.hid (HB1.out.trans (hb.mono (by simp)))
            clear hb)
          all_goals
            go_ret
            exact ⟨congrArg (fun x : Bool => Ending.returned (.bool x)) HF.out, HB.out⟩
        · have gn : (n == 0) = false := beq_false_of_ne hn
          have HF := Lib.hid (show false = V by rw [HV.out]; simp [hk, hn])
          clear HV
          try clear hk
          try clear hs
          try clear hn
          go_enter Tryd.func58, Tryd.ntmps58
          go_wp2_with fail
          all_goals
            go_ret
            exact ⟨congrArg (fun x : Bool => Ending.returned (.bool x)) HF.out, HB1.out⟩
      · have gk : ((ks.length : Int) == (k : Int)) = false := by simp; omega
        have HF := Lib.hid (show false = V by rw [HV.out]; simp [hk])
        clear HV
        try clear hk
        try clear hs
        try clear hn
        go_enter Tryd.func58, Tryd.ntmps58
        go_wp2_with fail
        all_goals
          go_ret
          exact ⟨congrArg (fun x : Bool => Ending.returned (.bool x)) HF.out, HB1.out⟩
    · by_cases hk : ks.length = k
      · have gk : ((ks.length : Int) == (k : Int)) = true := by rw [hk]; simp
        have HF := Lib.hid (show NB = V by rw [HV.out]; simp [hk])
        clear HV
        try clear hk
        try clear hs
        try clear hn
        go_enter Tryd.func58, Tryd.ntmps58
        go_wp2_with (
          go_at_call 64
          refine (HN.out _ HB1.out).mono ?_
          rintro e w2 ⟨rfl, hb⟩
          have HB := Lib.hid (HB1.out.trans (hb.mono (by simp)))
          clear hb)
        all_goals
          go_ret
          exact ⟨congrArg (fun x : Bool => Ending.returned (.bool x)) HF.out, HB.out⟩
      · have gk : ((ks.length : Int) == (k : Int)) = false := by simp; omega
        have HF := Lib.hid (show false = V by rw [HV.out]; simp [hk])
        clear HV
        try clear hk
        try clear hs
        try clear hn
        go_enter Tryd.func58, Tryd.ntmps58
        go_wp2_with fail
        all_goals
          go_ret
          exact ⟨congrArg (fun x : Bool => Ending.returned (.bool x)) HF.out, HB1.out⟩
theorem small_any (t : Node) (A : Option Addr) (cap : Nat) (w : World) (h : NodeAt w w.heap.size t A cap) :
    Calls Tryd.prog 24 #[nodeT t A cap] w fun e w' => e = .returned (.bool (smallB t)) ∧ Below w.heap.size w w' := by
  have HD := Lib.hid (fun W hW => Depth_any t A cap W hW)
  have HS := Lib.hid (fun W hW => rSize_any t A cap W hW)
  have HC := Lib.hid h
  clear h
  have HV := Lib.hid (show smallB t = (decide (depth t ≤ 30) && decide (nodes t ≤ 2000)) from rfl)
  generalize smallB t = V at *
  cases t with
  | node o s n p ks =>
    simp only [nodeT, nodeW, Node.op, Node.name, Node.num, Node.pos, Node.kids] at HD HS ⊢
    have HB1 := Lib.hid ((Below.refl w.heap.size w).alloc (Nat.le_refl _) (boxN o s n p ks.length A cap))
    by_cases h1 : depth (.node o s n p ks) ≤ 30
    · have g1 : decide (((min (depth (.node o s n p ks)) 31 : Nat) : Int) ≤ 30) = true := decide_eq_true (by omega)
      by_cases h2 : nodes (.node o s n p ks) ≤ 2000
      · have g2 : decide (((min (nodes (.node o s n p ks)) 2001 : Nat) : Int) ≤ 2000) = true := decide_eq_true (by omega)
        have HF := Lib.hid (show true = V by rw [HV.out, decide_eq_true h1, decide_eq_true h2]; rfl)
        clear HV h1 h2
        generalize min (depth (.node o s n p ks)) 31 = d at *
        generalize min (nodes (.node o s n p ks)) 2001 = m at *
        go_enter Tryd.func24, Tryd.ntmps24
        go_wp2_with (first
          | (go_at_call 57
             refine (HD.out _ (HC.out.later HB1.out (by simp))).mono ?_
             rintro e w2 ⟨rfl, hb⟩
             have HB := Lib.hid (HB1.out.trans (hb.mono (by simp)))
             have hsz := HB.out.size
             obtain ⟨c0, c1, c2, c3, c4⟩ := box5 (by simpa using hb)
             clear hb)
          | (go_at_call 8
             refine (HS.out _ (HC.out.later HB.out hsz)).mono ?_
             rintro e w3 ⟨rfl, hb3⟩
             have HBB := Lib.hid (HB.out.trans (hb3.mono hsz))
             clear hb3))
        all_goals
          go_ret
          exact ⟨congrArg (fun x : Bool => Ending.returned (.bool x)) HF.out, HBB.out⟩
      · have g2 : decide (((min (nodes (.node o s n p ks)) 2001 : Nat) : Int) ≤ 2000) = false := decide_eq_false (by omega)
        have HF := Lib.hid (show false = V by rw [HV.out, decide_eq_true h1, decide_eq_false h2]; rfl)
        clear HV h1 h2
        generalize min (depth (.node o s n p ks)) 31 = d at *
        generalize min (nodes (.node o s n p ks)) 2001 = m at *
        go_enter Tryd.func24, Tryd.ntmps24
        go_wp2_with (first
          | (go_at_call 57
             refine (HD.out _ (HC.out.later HB1.out (by simp))).mono ?_
             rintro e w2 ⟨rfl, hb⟩
             have HB := Lib.hid (HB1.out.trans (hb.mono (by simp)))
             have hsz := HB.out.size
             obtain ⟨c0, c1, c2, c3, c4⟩ := box5 (by simpa using hb)
             clear hb)
          | (go_at_call 8
             refine (HS.out _ (HC.out.later HB.out hsz)).mono ?_
             rintro e w3 ⟨rfl, hb3⟩
             have HBB := Lib.hid (HB.out.trans (hb3.mono hsz))
             clear hb3))
        all_goals
          go_ret
          exact ⟨congrArg (fun x : Bool => Ending.returned (.bool x)) HF.out, HBB.out⟩
    · have g1 : decide (((min (depth (.node o s n p ks)) 31 : Nat) : Int) ≤ 30) = false := decide_eq_false (by omega)
      have HF := Lib.hid (show false = V by rw [HV.out, decide_eq_false h1]; rfl)
      clear HV h1 HS
      generalize min (depth (.node o s n p ks)) 31 = d at *
      go_enter Tryd.func24, Tryd.ntmps24
      go_wp2_with (
        go_at_call 57
        refine (HD.out _ (HC.out.later HB1.out (by simp))).mono ?_
        rintro e w2 ⟨rfl, hb⟩
        have HB := Lib.hid (HB1.out.trans (hb.mono (by simp)))
        clear hb)
      all_goals
        go_ret
        exact ⟨congrArg (fun x : Bool => Ending.returned (.bool x)) HF.out, HB.out⟩
end Go.Proofs.YteikakoheibnjaaDoor
