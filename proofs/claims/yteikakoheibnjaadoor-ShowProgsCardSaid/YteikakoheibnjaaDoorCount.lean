/- The walks over sibylref3.count and Size: how many nodes, up to some. -/
import Derived.Test.YteikakoheibnjaaDoorAt
import Derived.Deep.RegionHeld
namespace Go.Proofs.YteikakoheibnjaaDoor
open Go Go.RowKit

theorem nodesL_take (ks : List Node) (k : Nat) (h : k < ks.length) : nodesL (ks.take (k + 1)) = nodesL (ks.take k) + nodes ks[k] := by
  induction ks generalizing k with
  | nil => simp at h
  | cons x r ih =>
    cases k with
    | zero => simp [nodesL]
    | succ k =>
      simp only [List.take_succ_cons, nodesL, List.getElem_cons_succ]
      rw [ih k (by simpa using h)]
      omega
theorem nodesL_take_le (ks : List Node) (k : Nat) : nodesL (ks.take k) ≤ nodesL ks := by
  induction ks generalizing k with
  | nil => simp [nodesL]
  | cons x r ih =>
    cases k with
    | zero => simp [nodesL]
    | succ k =>
      have := ih k
      simp only [List.take_succ_cons, nodesL]
      omega

set_option maxHeartbeats 1000000 in
theorem count_any : ∀ (t : Node) (A : Option Addr) (cap : Nat) (m : Int) (w : World), NodeAt w w.heap.size t A cap → 1 ≤ m → m ≤ 2001 →
    Calls Tryd.prog 23 #[nodeT t A cap, .int .i64 m] w fun e w' => e = .returned (.int .i64 (min (nodes t) m.toNat : Nat)) ∧ Below w.heap.size w w' := by
  intro t
  induction t using Node.ind with
  | h o s n p ks ih =>
    intro A cap mi w h hm hm2
    obtain ⟨m, hmm⟩ := Int.eq_ofNat_of_zero_le (by omega : 0 ≤ mi)
    rw [show mi.toNat = m by omega]
    have HC := Lib.hid h
    have IH := Lib.hid ih
    have hl := h.len
    obtain ⟨hl1, hl2, _⟩ := hl
    clear h ih
    rw [nodes_node]
    simp only [nodeT, nodeW, Node.op, Node.name, Node.num, Node.pos, Node.kids]
    have hm1 : 1 ≤ m := by omega
    have hm3 : m ≤ 2001 := by omega
    have HMM := Lib.hid hmm
    clear hmm
    go_enter Tryd.func23, Tryd.ntmps23
    go_wp2_with fail
    go_loopg [5, 6] ks.length (fun r z i wr => ∃ k : Nat, k ≤ ks.length ∧ r = ks.length - k ∧ i = .int .i64 (k : Int) ∧ z = .int .i64 ((min (nodesL (ks.take k) + 1) m : Nat) : Int) ∧ Below w.heap.size w wr ∧ wr.cell? ⟨w.heap.size, 4, none⟩ = some (.slice A ks.length cap))
    case atStart => exact ⟨0, Nat.zero_le _, rfl, rfl, by simp [nodesL]; omega, (Below.refl _ _).alloc (Nat.le_refl _) _, (by go_keep)⟩
    case round =>
      obtain ⟨k, hk, hr, rfl, rfl, hb, hc5⟩ := hrel
      have HRr := Lib.hid hr
      have HB := Lib.hid hb
      have hs1 := hb.size
      have HT := Lib.hid (nodesL_take_le ks k)
      clear hr hb
      generalize hz : min (nodesL (ks.take k) + 1) m = z at *
      have HZ := Lib.hid hz
      have hz2 : z ≤ 2001 := by omega
      clear hz
      by_cases hlt : k < ks.length
      · by_cases hzm : (z : Int) < mi
        · obtain ⟨bb, off, A', cap', rfl, hlo, hcells, hkid⟩ := HC.out.kid k hlt
          have HS := Lib.hid (nodesL_take ks k hlt)
          have HI := Lib.hid (IH.out ks[k] (List.getElem_mem hlt))
          generalize hx : ks[k] = x at *
          clear hx
          cases x with
          | node o' s' n' p' ks' =>
            obtain ⟨c0, c1, c2, c3, c4⟩ := kid_cells hlo hcells HB.out
            have HK := Lib.hid hkid
            clear hcells hkid IH
            have g1 : decide ((k : Int) < (ks.length : Int)) = true := decide_eq_true (by omega)
            have g2 : decide ((z : Int) < mi) = true := decide_eq_true hzm
            go_wp2_with fail
            refine (HI.out A' cap' _ _ (HK.out.later HB.out (by omega)) (by omega) (by omega)).mono ?_
            rintro e w2 ⟨rfl, hb2⟩
            have HB2 := Lib.hid (HB.out.trans (hb2.mono hs1))
            have hc6 := (hb2.cell (p := ⟨w.heap.size, 4, none⟩) (World.block_lt_of_cell? _ _ hc5)).trans hc5
            clear hb2
            have HMN := Lib.hid (show z + min (nodes (.node o' s' n' p' ks')) (mi - (z : Int)).toNat = min (nodesL (ks.take (k + 1)) + 1) m by
              have := HZ.out
              have := HS.out
              have := HMM.out
              omega)
            have hmn : min (nodes (.node o' s' n' p' ks')) (mi - (z : Int)).toNat ≤ 2001 := by omega
            generalize min (nodes (.node o' s' n' p' ks')) (mi - (z : Int)).toNat = y at *
            go_wp2_with fail
            go_roundg (ks.length - (k + 1))
            case measure => have := HRr.out; omega
            case rel => exact ⟨k + 1, by omega, rfl, by go_num, by rw [← HMN.out]; go_num, HB2.out, hc6⟩
        · have g1 : decide ((k : Int) < (ks.length : Int)) = true := decide_eq_true (by omega)
          have g2 : decide ((z : Int) < mi) = false := decide_eq_false hzm
          have g3 : decide (mi ≤ (z : Int)) = true := decide_eq_true (by omega)
          go_wp2_with fail
          all_goals
            go_ret
            have h1 := HZ.out
            have h2 := HT.out
            have h3 := HMM.out
            exact ⟨congrArg (fun x : Int => Ending.returned (Value.int .i64 x)) (by omega), HB.out⟩
      · have g1 : decide ((k : Int) < (ks.length : Int)) = false := decide_eq_false (by omega)
        go_wp2_with fail
        all_goals
          go_ret
          have hkk : k = ks.length := by omega
          have h1 := HZ.out
          have h3 := HMM.out
          rw [hkk, List.take_length] at h1
          exact ⟨congrArg (fun x : Int => Ending.returned (Value.int .i64 x)) (by omega), HB.out⟩

theorem rSize_any (t : Node) (A : Option Addr) (cap : Nat) (w : World) (h : NodeAt w w.heap.size t A cap) :
    Calls Tryd.prog 8 #[nodeT t A cap] w fun e w' => e = .returned (.int .i64 (min (nodes t) 2001 : Nat)) ∧ Below w.heap.size w w' := by
  have HI := Lib.hid (fun W hW => count_any t A cap 2001 W hW (by decide) (by decide))
  have HC := Lib.hid h
  clear h
  cases t with
  | node o s n p ks =>
    simp only [nodeT, nodeW, Node.op, Node.name, Node.num, Node.pos, Node.kids] at HI ⊢
    go_enter Tryd.func8, Tryd.ntmps8
    go_wp2_with fail
    refine (HI.out _ (HC.out.later ((Below.refl _ _).alloc (Nat.le_refl _) _) (by simp))).mono ?_
    rintro e w2 ⟨rfl, hb2⟩
    have HB := Lib.hid (((Below.refl w.heap.size w).alloc (Nat.le_refl _) (boxN o s n p ks.length A cap)).trans (hb2.mono (by simp)))
    clear hb2
    go_wp2_with fail
    go_ret
    exact ⟨rfl, HB.out⟩
end Go.Proofs.YteikakoheibnjaaDoor
