/- The walks over sibylref3.deep, Depth, small, has, Set. -/
import Derived.Test.YteikakoheibnjaaDoorCount
import Derived.Test.YteikakoheibnjaaDoorIsName
namespace Go.Proofs.YteikakoheibnjaaDoor
open Go Go.RowKit

theorem depthL_take : ∀ (ks : List Node) (k : Nat) (hk : k < ks.length), depthL (ks.take (k + 1)) = max (depthL (ks.take k)) (depth ks[k])
  | x :: r, 0, _ => by simp [depthL]
  | x :: r, k + 1, hk => by
    have h := depthL_take r k (by simpa using hk)
    simp only [List.take_succ_cons, depthL, List.getElem_cons_succ] at h ⊢
    rw [h, Nat.max_assoc]
theorem depth_pos : ∀ t : Node, 1 ≤ depth t
  | .node _ _ _ _ k => by unfold depth; omega
set_option maxHeartbeats 2000000 in
theorem deep_any : ∀ (t : Node) (A : Option Addr) (cap : Nat) (m : Nat) (w : World), NodeAt w w.heap.size t A cap → 1 ≤ m → m ≤ 31 →
    Calls Tryd.prog 86 #[nodeT t A cap, .int .i64 m] w fun e w' => e = .returned (.int .i64 (min (depth t) m : Nat)) ∧ Below w.heap.size w w' := by
  intro t
  induction t using Node.ind with
  | h o s n p ks ih =>
    intro A cap m w h hm hm2
    have HC := Lib.hid h
    have IH := Lib.hid ih
    have hl := h.len
    obtain ⟨hl1, hl2, _⟩ := hl
    clear h ih
    have HV := Lib.hid (depth_node o s n p ks)
    generalize depth (.node o s n p ks) = D at *
    simp only [nodeT, nodeW, Node.op, Node.name, Node.num, Node.pos, Node.kids]
    by_cases h1 : m = 1
    · subst h1
      have HR := Lib.hid (show 1 = min D 1 by rw [HV.out]; omega)
      go_enter Tryd.func86, Tryd.ntmps86
      go_wp2_with fail
      all_goals
        go_ret
        exact ⟨congrArg (fun x : Nat => Ending.returned (.int .i64 (x : Int))) HR.out, (Below.refl _ _).alloc (Nat.le_refl _) _⟩
    · have g1 : decide ((m : Int) ≤ 1) = false := decide_eq_false (by omega)
      obtain ⟨m, rfl⟩ : ∃ k, m = k + 1 := ⟨m - 1, by omega⟩
      have hm3 : 1 ≤ m := by omega
      have q1 : ((m + 1 : Nat) : Int) = (m : Int) + 1 := rfl
      rw [q1] at g1 ⊢
      clear q1 h1
      have hm4 : m ≤ 30 := by omega
      go_enter Tryd.func86, Tryd.ntmps86
      go_wp2_with fail
      go_loopg [5, 6] ks.length (fun r z i wr => ∃ k : Nat, k ≤ ks.length ∧ r = ks.length - k ∧ i = .int .i64 (k : Int) ∧ z = .int .i64 (min (depthL (ks.take k)) m : Nat) ∧ Below w.heap.size w wr ∧ wr.cell? ⟨w.heap.size, 4, none⟩ = some (.slice A ks.length cap))
      case atStart => exact ⟨0, Nat.zero_le _, rfl, rfl, by simp [depthL], (Below.refl _ _).alloc (Nat.le_refl _) _, (by go_keep)⟩
      case round =>
        obtain ⟨k, hk, hr, rfl, rfl, hb, hc4⟩ := hrel
        have HRr := Lib.hid hr
        have HB := Lib.hid hb
        have hs1 := hb.size
        clear hr hb
        generalize hz : min (depthL (ks.take k)) m = z at *
        have HZ := Lib.hid hz
        have hz2 : z ≤ 30 := by omega
        clear hz
        by_cases hlt : k < ks.length
        · obtain ⟨bb, off, A', cap', rfl, hlo, hcells, hkid⟩ := HC.out.kid k hlt
          have HS := Lib.hid (depthL_take ks k hlt)
          have HI := Lib.hid (fun (A' : Option Addr) (cap' : Nat) (w' : World) (hh : NodeAt w' w'.heap.size ks[k] A' cap') => IH.out ks[k] (List.getElem_mem hlt) A' cap' m w' (by first | exact hh) hm3 (by omega))
          generalize hx : ks[k] = x at *
          clear hx
          cases x with
          | node o' s' n' p' ks' =>
            obtain ⟨c0, c1, c2, c3, c4⟩ := kid_cells hlo hcells HB.out
            have HKD := Lib.hid hkid
            clear hcells hkid IH
            simp only [nodeT, nodeW, Node.op, Node.name, Node.num, Node.pos, Node.kids] at HI
            have g2 : decide ((k : Int) < (ks.length : Int)) = true := decide_eq_true (by omega)
            have HMX := Lib.hid (show max z (min (depth (.node o' s' n' p' ks')) m) = min (depthL (ks.take (k + 1))) m by rw [HS.out, ← HZ.out]; omega)
            have hy : min (depth (.node o' s' n' p' ks')) m ≤ 30 := by omega
            generalize min (depth (.node o' s' n' p' ks')) m = y at *
            go_wp2_with (
              go_at_call 86
              refine (HI.out A' cap' _ (HKD.out.later HB.out (by omega))).mono ?_
              rintro e w2 ⟨rfl, hb2⟩
              have HB2 := Lib.hid (HB.out.trans (hb2.mono hs1))
              have hc5 := (hb2.cell (p := ⟨w.heap.size, 4, none⟩) (World.block_lt_of_cell? _ _ hc4)).trans hc4
              clear hb2)
            all_goals
              go_roundg (ks.length - (k + 1))
              case measure => have := HRr.out; omega
              case rel => exact ⟨k + 1, by omega, rfl, by go_num, by rw [← HMX.out]; exact congrArg (Value.int .i64) (by omega), HB2.out, hc5⟩
        · have g2 : decide ((k : Int) < (ks.length : Int)) = false := decide_eq_false (by omega)
          have HG := Lib.hid (show z + 1 = min D (m + 1) by
            have := HZ.out
            rw [List.take_of_length_le (by omega)] at this
            rw [HV.out]
            omega)
          clear HZ
          go_wp2_with fail
          go_ret
          exact ⟨congrArg (fun x : Nat => Ending.returned (.int .i64 (x : Int))) HG.out, HB.out⟩
theorem Depth_any (t : Node) (A : Option Addr) (cap : Nat) (w : World) (h : NodeAt w w.heap.size t A cap) :
    Calls Tryd.prog 57 #[nodeT t A cap] w fun e w' => e = .returned (.int .i64 (min (depth t) 31 : Nat)) ∧ Below w.heap.size w w' := by
  have HI := Lib.hid (fun W hW => deep_any t A cap 31 W hW (by decide) (by decide))
  have HC := Lib.hid h
  clear h
  cases t with
  | node o s n p ks =>
    simp only [nodeT, nodeW, Node.op, Node.name, Node.num, Node.pos, Node.kids] at HI ⊢
    have HB1 := Lib.hid ((Below.refl w.heap.size w).alloc (Nat.le_refl _) (boxN o s n p ks.length A cap))
    go_enter Tryd.func57, Tryd.ntmps57
    go_wp2_with (
      go_at_call 86
      refine (HI.out _ (HC.out.later HB1.out (by simp))).mono ?_
      rintro e w2 ⟨rfl, hb2⟩)
    go_ret
    exact ⟨rfl, HB1.out.trans (hb2.mono (by simp))⟩
theorem Set_any (t : Node) (A : Option Addr) (cap : Nat) (w : World) :
    Calls Tryd.prog 61 #[nodeT t A cap] w fun e w' => e = .returned (.bool (setOp t.op)) ∧ Below w.heap.size w w' := by
  cases t with
  | node o s n p ks =>
    simp only [nodeT, nodeW, Node.op, Node.name, Node.num, Node.pos, Node.kids]
    have HB1 := Lib.hid ((Below.refl w.heap.size w).alloc (Nat.le_refl _) (boxN o s n p ks.length A cap))
    have HV := Lib.hid (show setOp o = (decide (o = [117, 110, 105, 111, 110]) || decide (o = [105, 110, 116, 101, 114]) || decide (o = [109, 105, 110, 117, 115])) from rfl)
    generalize setOp o = V at *
    by_cases h1 : o = [117, 110, 105, 111, 110]
    · subst h1
      have HF := Lib.hid (show true = V by rw [HV.out]; rfl)
      go_enter Tryd.func61, Tryd.ntmps61
      go_wp2_with fail
      go_ret
      exact ⟨congrArg (fun x : Bool => Ending.returned (.bool x)) HF.out, HB1.out⟩
    have g1 : (o == [117, 110, 105, 111, 110]) = false := beq_false_of_ne h1
    by_cases h2 : o = [105, 110, 116, 101, 114]
    · subst h2
      have HF := Lib.hid (show true = V by rw [HV.out]; rfl)
      clear h1 g1
      go_enter Tryd.func61, Tryd.ntmps61
      go_wp2_with fail
      go_ret
      exact ⟨congrArg (fun x : Bool => Ending.returned (.bool x)) HF.out, HB1.out⟩
    have g2 : (o == [105, 110, 116, 101, 114]) = false := beq_false_of_ne h2
    by_cases h3 : o = [109, 105, 110, 117, 115]
    · subst h3
      have HF := Lib.hid (show true = V by rw [HV.out]; rfl)
      clear h1 g1 h2 g2
      go_enter Tryd.func61, Tryd.ntmps61
      go_wp2_with fail
      go_ret
      exact ⟨congrArg (fun x : Bool => Ending.returned (.bool x)) HF.out, HB1.out⟩
    have g3 : (o == [109, 105, 110, 117, 115]) = false := beq_false_of_ne h3
    have HF := Lib.hid (show false = V by rw [HV.out, decide_eq_false h1, decide_eq_false h2, decide_eq_false h3]; rfl)
    clear h1 h2 h3
    go_enter Tryd.func61, Tryd.ntmps61
    go_wp2_with fail
    go_ret
    exact ⟨congrArg (fun x : Bool => Ending.returned (.bool x)) HF.out, HB1.out⟩
end Go.Proofs.YteikakoheibnjaaDoor
