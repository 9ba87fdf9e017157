/- The walks over core.size, core.Size, sibylref9.count, Size: how many nodes, up to some. -/
import Derived.Test.YtcgjacaemblnmaaDoorAt
namespace Go.Proofs.YtcgjacaemblnmaaDoor
open Go Go.RowKit

theorem nodesL_take (ks : List Core) (k : Nat) (h : k < ks.length) : nodesL (ks.take (k + 1)) = nodesL (ks.take k) + nodes ks[k] := by
  induction ks generalizing k with
  | nil => simp at h
  | cons x r ih =>
    cases k with
    | zero => simp [nodesL]
    | succ k =>
      simp only [List.take_succ_cons, nodesL, List.getElem_cons_succ]
      rw [ih k (by simpa using h)]
      omega
theorem nodesL_take_le (ks : List Core) (k : Nat) : nodesL (ks.take k) ≤ nodesL ks := by
  induction ks generalizing k with
  | nil => simp [nodesL]
  | cons x r ih =>
    cases k with
    | zero => simp [nodesL]
    | succ k =>
      have := ih k
      simp only [List.take_succ_cons, nodesL]
      omega
theorem nodes_node (o : List UInt8) (a b c n : Int) (ks : List Core) : nodes (.node o a b c n ks) = nodesL ks + 1 := by rw [nodes]

/-- The same formula in a later world, below that world's end. -/
theorem CoreAt.later {w W : World} {B : Nat} {t : Core} {A : Option Addr} {cap : Nat} (h : CoreAt w B t A cap) (hb : Below B w W) (hB : B ≤ W.heap.size) : CoreAt W W.heap.size t A cap :=
  CoreAt.more hB t A cap (h.below hb)

/-- A formula's value, written out. -/
def coreW (o : List UInt8) (a b c n : Int) (l : Nat) (A : Option Addr) (cap : Nat) : Value :=
  .agg #[.string ⟨o.toArray⟩, .int .i64 a, .int .i64 b, .int .i64 c, .int .i64 n, .slice A l cap]

set_option maxHeartbeats 1000000 in
theorem size_any : ∀ (t : Core) (A : Option Addr) (cap : Nat) (m : Int) (w : World), CoreAt w w.heap.size t A cap → 1 ≤ m → m ≤ 2001 →
    Calls Tryd.prog 49 #[coreW t.op t.va t.vb t.vc t.vn t.kids.length A cap, .int .i64 m] w fun e w' => e = .returned (.int .i64 (min (nodes t) m.toNat : Nat)) ∧ Below w.heap.size w w' := by
  intro t
  induction t using Core.ind with
  | h o a b c n ks ih =>
    intro A cap mi w h hm hm2
    obtain ⟨m, hmm⟩ := Int.eq_ofNat_of_zero_le (by omega : 0 ≤ mi)
    rw [show mi.toNat = m by omega]
    have HC := Lib.hid h
    have IH := Lib.hid ih
    have hl := h.len
    simp only [Core.kids] at hl
    obtain ⟨hl1, hl2, _⟩ := hl
    clear h ih
    rw [nodes_node]
    simp only [coreW, Core.op, Core.va, Core.vb, Core.vc, Core.vn, Core.kids]
    have g0 : decide (mi ≤ 0) = false := decide_eq_false (by omega)
    have hm1 : 1 ≤ m := by omega
    have HMM := Lib.hid hmm
    clear hmm
    go_enter Tryd.func49, Tryd.ntmps49
    go_wp2_with fail
    go_loopg [5, 13] ks.length (fun r s i wr => ∃ k : Nat, k ≤ ks.length ∧ r = ks.length - k ∧ i = .int .i64 (k : Int) ∧ s = .int .i64 ((min (nodesL (ks.take k) + 1) m : Nat) : Int) ∧ Below w.heap.size w wr)
    case atStart => exact ⟨0, Nat.zero_le _, rfl, rfl, by simp [nodesL]; omega, (Below.refl _ _).alloc (Nat.le_refl _) _⟩
    case round =>
      obtain ⟨k, hk, hr, rfl, rfl, hb⟩ := hrel
      have HRr := Lib.hid hr
      have HB := Lib.hid hb
      have hs1 := hb.size
      have HT := Lib.hid (nodesL_take_le ks k)
      clear hr hb
      by_cases hlt : k < ks.length
      · obtain ⟨bb, off, A', cap', rfl, hlo, hcells, hkid⟩ := HC.out.kid k hlt
        simp only [Core.kids] at hcells hkid
        have HS := Lib.hid (nodesL_take ks k hlt)
        have HI := Lib.hid (IH.out ks[k] (List.getElem_mem hlt))
        generalize hx : ks[k] = x at *
        clear hx
        cases x with
        | node o' a' b' c' n' ks' =>
          obtain ⟨c0, c1, c2, c3, c4, c5⟩ := kid_cells hlo hcells HB.out
          have HK := Lib.hid hkid
          clear hcells hkid IH
          generalize hz : min (nodesL (ks.take k) + 1) m = z at *
          have HZ := Lib.hid hz
          clear hz
          by_cases hzm : mi ≤ (z : Int)
          · go_wp2_with fail
            go_ret
            refine ⟨?_, HB.out.alloc hs1 _⟩
            have := HZ.out
            have := HT.out
            have := HMM.out
            rw [show min (nodesL ks + 1) m = z by omega]
            rfl
          · go_wp2_with fail
            refine (HI.out A' cap' _ _ (HK.out.later (HB.out.alloc hs1 _) (by simp; omega)) (by omega) (by omega)).mono ?_
            rintro e w2 ⟨rfl, hb2⟩
            have HB2 := Lib.hid ((HB.out.alloc hs1 (.cells #[.string ⟨o'.toArray⟩, .int .i64 a', .int .i64 b', .int .i64 c', .int .i64 n', .slice A' ks'.length cap'] 24)).trans (hb2.mono (by simp; omega)))
            clear hb2
            have hmn : min (nodes (.node o' a' b' c' n' ks')) (mi - (z : Int)).toNat ≤ 2001 := by omega
            have HMN := Lib.hid (show z + min (nodes (.node o' a' b' c' n' ks')) (mi - (z : Int)).toNat = min (nodesL (ks.take (k + 1)) + 1) m by
              have := HZ.out
              have := HS.out
              have := HMM.out
              omega)
            generalize min (nodes (.node o' a' b' c' n' ks')) (mi - (z : Int)).toNat = y at *
            go_wp2_with fail
            go_roundg (ks.length - (k + 1))
            case measure => have := HRr.out; omega
            case rel => exact ⟨k + 1, by omega, rfl, by go_num, by rw [← HMN.out]; go_num, HB2.out⟩
      · go_wp2_with fail
        go_ret
        have hkk : k = ks.length := by omega
        refine ⟨?_, HB.out⟩
        rw [hkk, List.take_length]
        rfl

theorem Size_any (t : Core) (A : Option Addr) (cap : Nat) (w : World) (h : CoreAt w w.heap.size t A cap) :
    Calls Tryd.prog 39 #[coreW t.op t.va t.vb t.vc t.vn t.kids.length A cap] w fun e w' => e = .returned (.int .i64 (min (nodes t) 2001 : Nat)) ∧ Below w.heap.size w w' := by
  have HI := Lib.hid (fun W hW => size_any t A cap 2001 W hW (by decide) (by decide))
  have HC := Lib.hid h
  clear h
  cases t with
  | node o a b c n ks =>
    simp only [coreW, Core.op, Core.va, Core.vb, Core.vc, Core.vn, Core.kids] at HI ⊢
    go_enter Tryd.func39, Tryd.ntmps39
    go_wp2_with fail
    refine (HI.out _ (HC.out.later ((Below.refl _ _).alloc (Nat.le_refl _) _) (by simp))).mono ?_
    rintro e w2 ⟨rfl, hb2⟩
    have HB := Lib.hid (((Below.refl w.heap.size w).alloc (Nat.le_refl _) (.cells #[.string ⟨o.toArray⟩, .int .i64 a, .int .i64 b, .int .i64 c, .int .i64 n, .slice A ks.length cap] 24)).trans (hb2.mono (by simp)))
    clear hb2
    go_wp2_with fail
    go_ret
    exact ⟨rfl, HB.out⟩
end Go.Proofs.YtcgjacaemblnmaaDoor
