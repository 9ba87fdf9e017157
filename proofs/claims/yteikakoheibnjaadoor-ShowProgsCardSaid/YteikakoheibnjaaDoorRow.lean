/- The walk over sibylref5.row, given what the kids' calls of Term answer. -/
import Derived.Test.YteikakoheibnjaaDoorForm
import Derived.Test.YteikakoheibnjaaDoorDigits
namespace Go.Proofs.YteikakoheibnjaaDoor
open Go Go.RowKit

/-- What a call of sibylref5.Term on x answers. -/
def RTermLaw (x : Node) : Prop := ∀ (A : Option Addr) (cap : Nat) (w : World), NodeAt w w.heap.size x A cap → termB x = true → nodes x ≤ 2000 →
  Calls Tryd.prog 14 #[nodeT x A cap] w fun e w' => e = .returned (.string ⟨(termS x).toArray⟩) ∧ Below w.heap.size w w'
theorem row_len (ks : List Node) (h : termsB ks = true) (hN : nodesL ks ≤ 2000) (k : Nat) : (commas ((ks.take k).map termS)).length ≤ 4200000 := by
  rw [termsB_all, List.all_eq_true] at h
  have h1 := commas_len 0 ((ks.take k).map termS)
  have h2 := sum_map_len (f := termS) (B := 2100) (ks.take k) (fun x hx => by have := termS_len x (h x (List.mem_of_mem_take hx)); omega)
  have h3 := nodesL_take_le ks k
  omega
theorem row_snoc (ks : List Node) (k : Nat) (hk : k < ks.length) (h0 : 0 < k) : commas ((ks.take (k + 1)).map termS) = commas ((ks.take k).map termS) ++ [44, 32] ++ termS ks[k] := by
  rw [List.take_succ_eq_append_getElem hk, List.map_append]
  refine commas_snoc _ _ ?_
  intro e
  have := congrArg List.length e
  simp only [List.length_map, List.length_take, List.length_nil] at this
  omega
theorem row_first (ks : List Node) (hk : 0 < ks.length) : commas ((ks.take (0 + 1)).map termS) = termS ks[0] := by
  match ks, hk with
  | x :: r, _ => simp [commas]
set_option maxHeartbeats 2000000 in
theorem rrow_any (o s : List UInt8) (n p : Int) (ks : List Node) (A : Option Addr) (cap : Nat) (w : World) (h : NodeAt w w.heap.size (.node o s n p ks) A cap) (ih : ∀ k ∈ ks, RTermLaw k) (hB : termsB ks = true) (hN : nodesL ks ≤ 2000) :
    Calls Tryd.prog 31 #[.slice A ks.length cap] w fun e w' => e = .returned (.string ⟨(commas (termSL ks)).toArray⟩) ∧ Below w.heap.size w w' := by
  have HC := Lib.hid h
  have HL := Lib.hid (row_len ks hB hN)
  have IH := Lib.hid (fun (k : Node) (hk : k ∈ ks) A cap W hC => ih k hk A cap W hC (by rw [termsB_all, List.all_eq_true] at hB; exact hB k hk) (Nat.le_trans (nodes_kid ks k hk) hN))
  have HLX := Lib.hid (fun (k : Node) (hk : k ∈ ks) => (show (termS k).length ≤ 4200000 by
    rw [termsB_all, List.all_eq_true] at hB
    have := termS_len k (hB k hk)
    have := nodes_kid ks k hk
    omega))
  have hl := h.len
  obtain ⟨hl1, hl2, _⟩ := hl
  clear h ih hB hN
  rw [termSL_map]
  have HV := Lib.hid (show commas ((ks.take ks.length).map termS) = commas (ks.map termS) by rw [List.take_length])
  generalize commas (ks.map termS) = V at *
  go_enter Tryd.func31, Tryd.ntmps31
  go_wp2_with fail
  generalize hS : (ByteArray.mk #[]) = S0
  have HS0 := Lib.hid (show S0.data.toList = [] by rw [← hS])
  clear hS
  go_loopg [3, 4] ks.length (fun r z i wr => ∃ (k : Nat) (T : ByteArray), k ≤ ks.length ∧ r = ks.length - k ∧ z = .string T ∧ Hid (T.data.toList = commas ((ks.take k).map termS)) ∧ i = .int .i64 (k : Int) ∧ Hid (Below w.heap.size w wr))
  case atStart => exact ⟨0, S0, Nat.zero_le _, rfl, rfl, Lib.hid (by rw [HS0.out]; simp [commas]), rfl, Lib.hid (Below.refl _ _)⟩
  case round =>
    obtain ⟨k, T, hk, hr, rfl, HTT, rfl, HB⟩ := hrel
    have HRr := Lib.hid hr
    have hs1 := HB.out.size
    clear hr
    by_cases hlt : k < ks.length
    · obtain ⟨bb, off, A', cap', rfl, hlo, hcells, hkid⟩ := HC.out.kid k hlt
      have HI := Lib.hid (fun (W : World) (hh : NodeAt W W.heap.size ks[k] A' cap') => (IH.out ks[k] (List.getElem_mem hlt)) A' cap' W (by first | exact hh))
      have hx1 := HLX.out ks[k] (List.getElem_mem hlt)
      have hL1 := HL.out k
      have hL2 := HL.out (k + 1)
      have HSN := Lib.hid (row_snoc ks k hlt)
      have HFI := Lib.hid (fun (e : k = 0) => (show commas ((ks.take (k + 1)).map termS) = termS ks[k] by subst e; exact row_first ks hlt))
      generalize hx : ks[k] = x at *
      clear hx
      generalize hX : termS x = X at *
      clear hX
      cases x with
      | node o' s' n' p' ks' =>
        obtain ⟨c0, c1, c2, c3, c4⟩ := kid_cells hlo hcells HB.out
        have HKD := Lib.hid hkid
        clear hcells hkid IH
        simp only [nodeT, nodeW, Node.op, Node.name, Node.num, Node.pos, Node.kids] at HI
        have g1 : decide ((k : Int) < (ks.length : Int)) = true := decide_eq_true (by omega)
        by_cases h0 : 0 < k
        · have g2 : decide ((k : Int) > 0) = true := decide_eq_true (by omega)
          obtain ⟨T1, hadd1, hT1⟩ := add_ex T ⟨#[44, 32]⟩ (X := commas ((ks.take k).map termS)) (Y := [44, 32]) HTT.out rfl (by simp only [List.length_cons, List.length_nil]; omega)
          obtain ⟨T2, hadd2, hT2⟩ := add_ex T1 ⟨X.toArray⟩ (Y := X) hT1 rfl (by simp only [List.length_append, List.length_cons, List.length_nil]; omega)
          have HT2 := Lib.hid (show T2.data.toList = commas ((ks.take (k + 1)).map termS) by rw [hT2, HSN.out h0])
          clear hT1 hT2 hL1 hL2
          go_wp2_with (
            go_at_call 14
            refine (HI.out _ (HKD.out.later HB.out (by omega))).mono ?_
            rintro e w2 ⟨rfl, hb2⟩
            have HB2 := Lib.hid (HB.out.trans (hb2.mono hs1))
            clear hb2)
          all_goals
            go_roundg (ks.length - (k + 1))
            case measure => have := HRr.out; omega
            case rel => exact ⟨k + 1, T2, by omega, rfl, rfl, HT2, by go_num, HB2⟩
        · have g2 : decide ((k : Int) > 0) = false := decide_eq_false (by omega)
          obtain ⟨T2, hadd2, hT2⟩ := add_ex T ⟨X.toArray⟩ (X := commas ((ks.take k).map termS)) (Y := X) HTT.out rfl (by omega)
          have HT2 := Lib.hid (show T2.data.toList = commas ((ks.take (k + 1)).map termS) by
            have hk0 : k = 0 := by omega
            rw [hT2, HFI.out hk0, hk0]; simp [commas])
          clear hT2 hL1 hL2
          go_wp2_with (
            go_at_call 14
            refine (HI.out _ (HKD.out.later HB.out (by omega))).mono ?_
            rintro e w2 ⟨rfl, hb2⟩
            have HB2 := Lib.hid (HB.out.trans (hb2.mono hs1))
            clear hb2)
          all_goals
            go_roundg (ks.length - (k + 1))
            case measure => have := HRr.out; omega
            case rel => exact ⟨k + 1, T2, by omega, rfl, rfl, HT2, by go_num, HB2⟩
    · have g1 : decide ((k : Int) < (ks.length : Int)) = false := decide_eq_false (by omega)
      have HF := Lib.hid (show T = ⟨V.toArray⟩ by
        have hkk : k = ks.length := by omega
        have := HTT.out
        rw [hkk, HV.out] at this
        exact bytes_of this)
      go_wp2_with fail
      go_ret
      exact ⟨congrArg (fun x : ByteArray => Ending.returned (.string x)) HF.out, HB.out⟩
end Go.Proofs.YteikakoheibnjaaDoor
