/- The walk over sibylref12.holds. -/
import Derived.Test.YtcgjacaemblnmaaDoorRAtom
import Derived.Deep.RegionHeld3
import Derived.Handy
namespace Go.Proofs.YtcgjacaemblnmaaDoor
open Go Go.RowKit

theorem heap_new_at {w : World} {o : Obj} {j : Nat} (h : w.heap.size = j) : (w.alloc o).heap[j]? = some o := by subst h; exact heap_alloc_new w o
theorem heap_old_at {w : World} {o x : Obj} {j : Nat} (h : w.heap[j]? = some x) (hj : j < w.heap.size) : (w.alloc o).heap[j]? = some x := (Below.heap_alloc w o j hj).trans h
theorem reads_one {w : World} {h : Nat} {t : TypeId} {v : Value} (hb : w.heap[h]? = some (.cells #[v] t (0, 0))) : Reads w (h + 1) 1 (some ⟨h, 0, none⟩) 1 [v] := by
  refine ⟨rfl, fun _ => ⟨_, rfl, by simp, fun j u hu => ?_⟩⟩
  match j, hu with
  | 0, hu =>
    simp at hu
    subst hu
    have := cell_of_row w h 0 #[v] t (0, 0) hb
    simpa [Addr.add] using this

theorem box_keptN {w w2 : World} {n : Nat} {x0 x1 x2 x3 x4 x5 : Value} (hb : Below ((w.alloc (.cells #[x0, x1, x2, x3, x4, x5] 24)).drewN n).heap.size ((w.alloc (.cells #[x0, x1, x2, x3, x4, x5] 24)).drewN n) w2) :
    w2.cell? ⟨w.heap.size, 0, none⟩ = some x0 ∧ w2.cell? ⟨w.heap.size, 1, none⟩ = some x1 ∧ w2.cell? ⟨w.heap.size, 2, none⟩ = some x2 ∧ w2.cell? ⟨w.heap.size, 3, none⟩ = some x3 ∧ w2.cell? ⟨w.heap.size, 4, none⟩ = some x4 ∧ w2.cell? ⟨w.heap.size, 5, none⟩ = some x5 :=
  box_kept ⟨hb.os, hb.tape, hb.output, hb.size, hb.block⟩
theorem fb_n {o : List UInt8} {a b c m n : Int} {ks : List Core} (h : fieldsB (.node o a b c m ks) n = true) : 0 ≤ m ∧ m ≤ 20 := by
  unfold fieldsB at h
  split at h
  · cases h
  · simp only [Bool.and_eq_true, decide_eq_true_eq] at h
    have := h.1.1.1.1.2
    simp only [Core.vn] at this
    split at this
    · rw [Bool.and_eq_true] at this
      exact ⟨of_decide_eq_true this.1, of_decide_eq_true this.2⟩
    · have e := eq_of_beq this
      omega
theorem atom_mem {o : List UInt8} {v k : Nat} {num : Bool} (h : shapeOf o = some (v, num, k)) (hN : ¬ o = [110, 111, 116]) (hA : ¬ o = [97, 110, 100]) (hE : ¬ o = [101, 120]) :
    o ∈ [oTrue, oSub, oSing, oFlag, oNone, oLess, oPlus, oNum, oUnion, oInter, oMinus] := by
  have hm := shapeOf_mem h
  unfold shapes at hm
  simp only [List.mem_cons, Prod.mk.injEq, List.not_mem_nil, or_false] at hm ⊢
  rcases hm with h | h | h | h | h | h | h | h | h | h | h | h | h | h
  all_goals first
    | exact absurd h.1 hN
    | exact absurd h.1 hA
    | exact absurd h.1 hE
    | simp [h.1]
theorem varB_lt {o : List UInt8} {v j n : Nat} {x : Int} (hE : ¬ o = [101, 120]) (hn : 0 < n) (h : varB o v n j x = true) : ∃ k : Nat, x = k ∧ k < n := by
  by_cases hv : v ≤ j
  · rw [varB_big hv] at h
    have := eq_of_beq h
    exact ⟨0, by omega, hn⟩
  · rw [varB_no hv hE] at h
    simp at h
    exact ⟨x.toNat, by omega, by omega⟩
theorem varB_none {o : List UInt8} {v j : Nat} {x : Int} (hE : ¬ o = [101, 120]) (h : varB o v (0 : Nat) j x = true) : v ≤ j ∧ x = 0 := by
  by_cases hv : v ≤ j
  · rw [varB_big hv] at h
    exact ⟨hv, eq_of_beq h⟩
  · rw [varB_no hv hE] at h
    simp at h
    omega
theorem no_vars {o : List UInt8} {v k n : Nat} {num : Bool} {a b c : Int} (h : shapeOf o = some (v, num, k)) (hE : ¬ o = [101, 120]) (ha : varB o v n 0 a = true) (hb : varB o v n 1 b = true) (hc : varB o v n 2 c = true)
    (hm : o ∈ [oTrue, oSub, oSing, oFlag, oNone, oLess, oPlus, oNum, oUnion, oInter, oMinus]) (hn : n = 0) : o = oTrue ∧ a = 0 ∧ b = 0 ∧ c = 0 := by
  subst hn
  obtain ⟨h0, rfl⟩ := varB_none hE ha
  obtain ⟨_, rfl⟩ := varB_none hE hb
  obtain ⟨_, rfl⟩ := varB_none hE hc
  refine ⟨?_, rfl, rfl, rfl⟩
  obtain rfl : v = 0 := by omega
  simp only [List.mem_cons, List.not_mem_nil, or_false] at hm
  rcases hm with rfl | rfl | rfl | rfl | rfl | rfl | rfl | rfl | rfl | rfl | rfl
  · rfl
  all_goals exact absurd h (by simp [show shapeOf oSub = some (2, false, 0) by decide, show shapeOf oSing = some (1, false, 0) by decide, show shapeOf oFlag = some (1, false, 0) by decide, show shapeOf oNone = some (1, false, 0) by decide, show shapeOf oLess = some (2, false, 0) by decide, show shapeOf oPlus = some (2, true, 0) by decide, show shapeOf oNum = some (1, true, 0) by decide, show shapeOf oUnion = some (3, false, 0) by decide, show shapeOf oInter = some (3, false, 0) by decide, show shapeOf oMinus = some (3, false, 0) by decide])

set_option maxRecDepth 100000 in
set_option maxHeartbeats 8000000 in
theorem rholds_any (bound : Nat) (hbd : bound ≤ 8) : ∀ (t : Core) (A : Option Addr) (cap : Nat) (s : List Nat) (S : Option Addr) (scap : Nat) (w : World), CoreAt w w.heap.size t A cap → isB t s.length = true → s.length ≤ 6 →
    (∀ x ∈ s, x < 65536) → IntsAt w w.heap.size S (natL s) →
    Calls Tryd.prog 30 #[coreW t.op t.va t.vb t.vc t.vn t.kids.length A cap, .slice S s.length scap, .int .i64 bound] w fun e w' => e = .returned (.bool (evalG atomR bound t s)) ∧ Below w.heap.size w w' := by
  intro t
  induction t using Core.ind with
  | h o a b c m ks ih =>
    intro A cap s S scap w h his hsl hs hS
    obtain ⟨hfb, hks⟩ := isB_node his
    obtain ⟨v, num, hsh, hva, hvb, hvc⟩ := fb_some hfb
    have HC := Lib.hid h
    have IH := Lib.hid ih
    have HS := Lib.hid hS
    have HX := Lib.hid hs
    have HKS := Lib.hid hks
    clear h ih his hS hs hks
    by_cases hN : o = [110, 111, 116]
    · subst hN
      have hshape : shapeOf oNot = some (0, false, 1) := by decide
      rw [show ([110, 111, 116] : List UInt8) = oNot from rfl, hshape] at hsh
      simp only [Option.some.injEq, Prod.mk.injEq] at hsh
      obtain ⟨hv0, -, hlen'⟩ := hsh
      have hlen := hlen'.symm
      clear hlen'
      subst hv0
      obtain rfl : a = 0 := by rw [varB_big (by omega)] at hva; exact eq_of_beq hva
      obtain rfl : b = 0 := by rw [varB_big (by omega)] at hvb; exact eq_of_beq hvb
      obtain rfl : c = 0 := by rw [varB_big (by omega)] at hvc; exact eq_of_beq hvc
      have HEV := Lib.hid (evalG_not atomR bound 0 0 0 m ks s (by omega))
      have HI := Lib.hid (IH.out ks[0] (List.getElem_mem (by omega)))
      have HK := Lib.hid (HKS.out ks[0] (List.getElem_mem (by omega)))
      obtain ⟨bb, off, A', cap', rfl, hlo, hcells, hkid⟩ := HC.out.kid 0 (by simp only [Core.kids]; omega)
      simp only [Core.kids] at hcells hkid
      generalize hx : ks[0] = x at *
      simp only [coreW, Core.op, Core.va, Core.vb, Core.vc, Core.vn, Core.kids]
      rw [hlen]
      rw [show evalG atomR bound (.node [110, 111, 116] 0 0 0 m ks) s = !(evalG atomR bound x s) from HEV.out]
      clear HEV IH HKS hfb hva hvb hvc hshape
      generalize hev : evalG atomR bound x s = ev at *
      cases x with
      | node o' a' b' c' m' ks' =>
        have HB1 := Lib.hid ((Below.refl w.heap.size w).alloc (Nat.le_refl _) (.cells #[.string ⟨#[110, 111, 116]⟩, .int .i64 0, .int .i64 0, .int .i64 0, .int .i64 m, .slice (some ⟨bb, off, none⟩) 1 cap] 24))
        obtain ⟨c0, c1, c2, c3, c4, c5⟩ := kid_cells hlo hcells (Below.refl _ _)
        clear hcells hx
        simp only [Nat.zero_mul, Nat.add_zero] at c0 c1 c2 c3 c4 c5
        simp only [coreW, Core.op, Core.va, Core.vb, Core.vc, Core.vn, Core.kids] at HI
        by_cases hs0 : s.length = 0
        · have gn : decide ((0 : Int) < (s.length : Int)) = false := decide_eq_false (by omega)
          have gn2 : decide (0 < s.length) = false := decide_eq_false (by omega)
          clear hs0 hlen
          go_enter Tryd.func30, Tryd.ntmps30
          go_wp2_with (
            go_at_call 30
            refine (HI.out A' cap' s S scap _ ((show CoreAt w w.heap.size (.node o' a' b' c' m' ks') A' cap' from hkid).later HB1.out HB1.out.size) HK.out hsl HX.out (HS.out.later HB1.out HB1.out.size)).mono ?_
            rintro e w2 ⟨rfl, hb2⟩)
          go_ret
          exact ⟨rfl, HB1.out.trans (hb2.mono HB1.out.size)⟩
        · obtain ⟨sb, soff, rfl, hsb, hcs⟩ := HS.out (by rw [natL_length]; omega)
          have cs := hcs 0 (by rw [natL_length]; omega)
          rw [Nat.add_zero] at cs
          have gn : decide ((0 : Int) < (s.length : Int)) = true := decide_eq_true (by omega)
          have gn2 : decide (0 < s.length) = true := decide_eq_true (by omega)
          have gp : 0 < s.length := by omega
          clear hcs
          generalize (natL s)[0]'_ = s0 at *
          clear hs0 hlen
          go_enter Tryd.func30, Tryd.ntmps30
          go_upto_region 3 with fail
          go_quiet (fail)
          go_wp2_with (
            go_at_call 30
            refine (HI.out A' cap' s (some ⟨sb, soff, none⟩) scap _ ((show CoreAt w w.heap.size (.node o' a' b' c' m' ks') A' cap' from hkid).later (Below.drewN_ HB1.out _) (Below.drewN_ HB1.out _).size) HK.out hsl HX.out (HS.out.later (Below.drewN_ HB1.out _) (Below.drewN_ HB1.out _).size)).mono ?_
            rintro e w2 ⟨rfl, hb2⟩)
          go_ret
          exact ⟨rfl, (Below.drewN_ HB1.out _).trans (hb2.mono (Below.drewN_ HB1.out _).size)⟩
    · by_cases hA : o = [97, 110, 100]
      · subst hA
        have hshape : shapeOf oAnd = some (0, false, 2) := by decide
        rw [show ([97, 110, 100] : List UInt8) = oAnd from rfl, hshape] at hsh
        simp only [Option.some.injEq, Prod.mk.injEq] at hsh
        obtain ⟨hv0, -, hlen'⟩ := hsh
        have hlen := hlen'.symm
        clear hlen'
        subst hv0
        obtain rfl : a = 0 := by rw [varB_big (by omega)] at hva; exact eq_of_beq hva
        obtain rfl : b = 0 := by rw [varB_big (by omega)] at hvb; exact eq_of_beq hvb
        obtain rfl : c = 0 := by rw [varB_big (by omega)] at hvc; exact eq_of_beq hvc
        have HEV := Lib.hid (evalG_and atomR bound 0 0 0 m ks s (by omega))
        have HI := Lib.hid (IH.out ks[0] (List.getElem_mem (by omega)))
        have HJ := Lib.hid (IH.out ks[1] (List.getElem_mem (by omega)))
        have HK := Lib.hid (HKS.out ks[0] (List.getElem_mem (by omega)))
        have HL := Lib.hid (HKS.out ks[1] (List.getElem_mem (by omega)))
        obtain ⟨bb, off, A', cap', rfl, hlo, hcells, hkid⟩ := HC.out.kid 0 (by simp only [Core.kids]; omega)
        obtain ⟨bb2, off2, A2, cap2, e2, hlo2, hcells2, hkid2⟩ := HC.out.kid 1 (by simp only [Core.kids]; omega)
        simp only [Option.some.injEq, Addr.mk.injEq] at e2
        obtain ⟨rfl, rfl, _⟩ := e2
        simp only [Core.kids] at hcells hkid hcells2 hkid2
        generalize hx : ks[0] = x at *
        generalize hy : ks[1] = y at *
        simp only [coreW, Core.op, Core.va, Core.vb, Core.vc, Core.vn, Core.kids]
        rw [hlen]
        rw [show evalG atomR bound (.node [97, 110, 100] 0 0 0 m ks) s = (evalG atomR bound x s && evalG atomR bound y s) from HEV.out]
        clear HEV IH HKS hfb hva hvb hvc hshape
        generalize hev : evalG atomR bound x s = ev at *
        generalize hew : evalG atomR bound y s = ew at *
        have HB1 := Lib.hid ((Below.refl w.heap.size w).alloc (Nat.le_refl _) (.cells #[.string ⟨#[97, 110, 100]⟩, .int .i64 0, .int .i64 0, .int .i64 0, .int .i64 m, .slice (some ⟨bb, off, none⟩) 2 cap] 24))
        cases x with
        | node o' a' b' c' m' ks' =>
        cases y with
        | node p' d' e' f' n' ls' =>
        obtain ⟨c0, c1, c2, c3, c4, c5⟩ := kid_cells hlo hcells (Below.refl _ _)
        have HCL := Lib.hid hcells2
        clear hcells hcells2 hx hy
        simp only [Nat.zero_mul, Nat.add_zero] at c0 c1 c2 c3 c4 c5
        simp only [coreW, Core.op, Core.va, Core.vb, Core.vc, Core.vn, Core.kids] at HI HJ
        by_cases hs0 : s.length = 0
        · have gn : decide ((0 : Int) < (s.length : Int)) = false := decide_eq_false (by omega)
          have gn2 : decide (0 < s.length) = false := decide_eq_false (by omega)
          clear hs0 hlen
          cases ev with
          | false =>
            go_enter Tryd.func30, Tryd.ntmps30
            go_wp2_with (
              go_at_call 30
              refine (HI.out A' cap' s S scap _ ((show CoreAt w w.heap.size (.node o' a' b' c' m' ks') A' cap' from hkid).later HB1.out HB1.out.size) HK.out hsl HX.out (HS.out.later HB1.out HB1.out.size)).mono ?_
              rintro e w2 ⟨rfl, hb2⟩)
            go_ret
            exact ⟨rfl, HB1.out.trans (hb2.mono HB1.out.size)⟩
          | true =>
            go_enter Tryd.func30, Tryd.ntmps30
            have tok : True := trivial
            go_wp2_with (first
              | (
                go_at_call 30
                have _t := tok
                refine (HI.out A' cap' s S scap _ ((show CoreAt w w.heap.size (.node o' a' b' c' m' ks') A' cap' from hkid).later HB1.out HB1.out.size) HK.out hsl HX.out (HS.out.later HB1.out HB1.out.size)).mono ?_
                rintro e w2 ⟨rfl, hb2⟩
                clear tok _t
                obtain ⟨q0, q1, q2, q3, q4, q5⟩ := box_kept hb2
                have HB2 := Lib.hid (HB1.out.trans (hb2.mono HB1.out.size))
                obtain ⟨d0, d1, d2, d3, d4, d5⟩ := kid_cells hlo2 HCL.out HB2.out
                simp only [Nat.one_mul] at d0 d1 d2 d3 d4 d5
                clear hb2)
              | (
                go_at_call 30
                refine (HJ.out A2 cap2 s S scap _ ((show CoreAt w w.heap.size (.node p' d' e' f' n' ls') A2 cap2 from hkid2).later HB2.out HB2.out.size) HL.out hsl HX.out (HS.out.later HB2.out HB2.out.size)).mono ?_
                rintro e w3 ⟨rfl, hb3⟩))
            go_ret
            exact ⟨rfl, HB2.out.trans (hb3.mono HB2.out.size)⟩
        · obtain ⟨sb, soff, rfl, hsb, hcs⟩ := HS.out (by rw [natL_length]; omega)
          have cs := hcs 0 (by rw [natL_length]; omega)
          rw [Nat.add_zero] at cs
          have gn : decide ((0 : Int) < (s.length : Int)) = true := decide_eq_true (by omega)
          have gn2 : decide (0 < s.length) = true := decide_eq_true (by omega)
          have gp : 0 < s.length := by omega
          clear hcs
          generalize (natL s)[0]'_ = s0 at *
          clear hs0 hlen
          cases ev with
          | false =>
            go_enter Tryd.func30, Tryd.ntmps30
            go_upto_region 3 with fail
            go_quiet (fail)
            go_wp2_with (
              go_at_call 30
              refine (HI.out A' cap' s (some ⟨sb, soff, none⟩) scap _ ((show CoreAt w w.heap.size (.node o' a' b' c' m' ks') A' cap' from hkid).later (Below.drewN_ HB1.out _) (Below.drewN_ HB1.out _).size) HK.out hsl HX.out (HS.out.later (Below.drewN_ HB1.out _) (Below.drewN_ HB1.out _).size)).mono ?_
              rintro e w2 ⟨rfl, hb2⟩)
            go_ret
            exact ⟨rfl, (Below.drewN_ HB1.out _).trans (hb2.mono (Below.drewN_ HB1.out _).size)⟩
          | true =>
            go_enter Tryd.func30, Tryd.ntmps30
            go_upto_region 3 with fail
            go_quiet (fail)
            have tok : True := trivial
            go_wp2_with (first
              | (
                go_at_call 30
                have _t := tok
                refine (HI.out A' cap' s (some ⟨sb, soff, none⟩) scap _ ((show CoreAt w w.heap.size (.node o' a' b' c' m' ks') A' cap' from hkid).later (Below.drewN_ HB1.out _) (Below.drewN_ HB1.out _).size) HK.out hsl HX.out (HS.out.later (Below.drewN_ HB1.out _) (Below.drewN_ HB1.out _).size)).mono ?_
                rintro e w2 ⟨rfl, hb2⟩
                clear tok _t
                obtain ⟨q0, q1, q2, q3, q4, q5⟩ := box_keptN hb2
                have HB2 := Lib.hid ((Below.drewN_ HB1.out _).trans (hb2.mono (Below.drewN_ HB1.out _).size))
                obtain ⟨d0, d1, d2, d3, d4, d5⟩ := kid_cells hlo2 HCL.out HB2.out
                simp only [Nat.one_mul] at d0 d1 d2 d3 d4 d5
                clear hb2)
              | (
                go_at_call 30
                refine (HJ.out A2 cap2 s (some ⟨sb, soff, none⟩) scap _ ((show CoreAt w w.heap.size (.node p' d' e' f' n' ls') A2 cap2 from hkid2).later HB2.out HB2.out.size) HL.out hsl HX.out (HS.out.later HB2.out HB2.out.size)).mono ?_
                rintro e w3 ⟨rfl, hb3⟩))
            go_ret
            exact ⟨rfl, HB2.out.trans (hb3.mono HB2.out.size)⟩
      · by_cases hE : o = [101, 120]
        · subst hE
          have hlen : ks.length = 1 := by
            have e : shapeOf oEx = some (1, false, 1) := by decide
            rw [show ([101, 120] : List UInt8) = oEx from rfl, e] at hsh
            simp at hsh
            omega
          have hs6 : s.length < 6 := by
            have := fb_ex hfb
            omega
          have HEV := Lib.hid (evalG_ex atomR bound a b c m ks s (by omega))
          have HI := Lib.hid (IH.out ks[0] (List.getElem_mem (by omega)))
          have HK := Lib.hid (HKS.out ks[0] (List.getElem_mem (by omega)))
          obtain ⟨bb, off, A', cap', rfl, hlo, hcells, hkid⟩ := HC.out.kid 0 (by simp only [Core.kids]; omega)
          simp only [Core.kids] at hcells hkid
          generalize hx : ks[0] = x at *
          simp only [coreW, Core.op, Core.va, Core.vb, Core.vc, Core.vn, Core.kids]
          rw [hlen]
          rw [show evalG atomR bound (.node [101, 120] a b c m ks) s = ((List.range (2 ^ bound)).any fun v => evalG atomR bound x (s ++ [v])) from HEV.out]
          clear HEV IH HKS hfb hsh hva hvb hvc hx
          generalize hR : ((List.range (2 ^ bound)).any fun v => evalG atomR bound x (s ++ [v])) = R
          have HR0 := Lib.hid hR
          clear hR
          have HB1 := Lib.hid ((Below.refl w.heap.size w).alloc (Nat.le_refl _) (.cells #[.string ⟨#[101, 120]⟩, .int .i64 a, .int .i64 b, .int .i64 c, .int .i64 m, .slice (some ⟨bb, off, none⟩) 1 cap] 24))
          obtain ⟨i0, hi, hz0, hz1, hz2⟩ := info_parts Tryd.info3
          cases x with
          | node o' a' b' c' m' ks' =>
          have HCE := Lib.hid hcells
          clear hcells
          simp only [coreW, Core.op, Core.va, Core.vb, Core.vc, Core.vn, Core.kids] at HI
          go_enter Tryd.func30, Tryd.ntmps30
          go_upto_region 31 with fail
          go_wp2_with fail
          have hN1 : 2 ^ bound ≤ 2 ^ 8 := Nat.pow_le_pow_right (by decide) hbd
          have hN0 : wrap64 ((2 : Int) ^ bound) = ((2 ^ bound : Nat) : Int) := (wrap_shl (x := 0) (by decide) bound (by omega)).2
          have HN0 := Lib.hid hN0
          generalize 2 ^ bound = N at *
          clear hN0
          generalize hP : (fun v => evalG atomR bound (.node o' a' b' c' m' ks') (s ++ [v])) = P at *
          have HP := Lib.hid hP
          clear hP
          have HNN := Lib.hid hN1
          generalize hZ : w.alloc (.cells #[.string ⟨#[101, 120]⟩, .int .i64 a, .int .i64 b, .int .i64 c, .int .i64 m, .slice (some ⟨bb, off, none⟩) 1 cap] 24) = Z at *
          have hz5 : Z.cell? ⟨w.heap.size, 5, none⟩ = some (.slice (some ⟨bb, off, none⟩) 1 cap) := by rw [← hZ]; simp
          have hzs : Z.heap.size = w.heap.size + 1 := by rw [← hZ]; simp
          have HZ5 := Lib.hid hz5
          have HZS := Lib.hid hzs
          clear hZ hz5 hzs
          go_loopg [10] N (fun r i wr => ∃ v : Nat, v ≤ N ∧ r = N - v ∧ i = .int .i64 (v : Int) ∧ Hid ((List.range v).any P = false) ∧ Below (w.heap.size + 1) Z wr)
          case atStart => exact ⟨0, Nat.zero_le _, rfl, rfl, Lib.hid (by simp), Below.refl _ _⟩
          case round =>
            obtain ⟨v, hv, hr, rfl, HAN, hb⟩ := hrel
            have HRr := Lib.hid hr
            have HBW := Lib.hid hb
            have HBL := Lib.hid (HB1.out.trans (hb.mono (Nat.le_succ _)))
            have hws : w.heap.size + 1 ≤ wr.heap.size := by have := hb.size; have := HZS.out; omega
            clear hr hb
            by_cases hlt : v < N
            · have g1 : decide ((v : Int) < wrap64 (2 ^ bound)) = true := by rw [HN0.out]; exact decide_eq_true (by omega)
              have HSS := Lib.hid (fun W (hW : Below wr.heap.size wr W) => (And.intro ((hW.cell (p := ⟨w.heap.size, 5, none⟩) (by show w.heap.size < _; omega)).trans ((HBW.out.cell (p := ⟨w.heap.size, 5, none⟩) (Nat.lt_succ_self _)).trans HZ5.out)) (by
                have := kid_cells hlo HCE.out (HBL.out.trans (hW.mono HBL.out.size))
                simp only [Nat.zero_mul, Nat.add_zero] at this
                exact this) :
                W.cell? ⟨w.heap.size, 5, none⟩ = some (.slice (some ⟨bb, off, none⟩) 1 cap) ∧ W.cell? ⟨bb, off, none⟩ = some (.string ⟨o'.toArray⟩) ∧ W.cell? ⟨bb, off + 1, none⟩ = some (.int .i64 a') ∧ W.cell? ⟨bb, off + 2, none⟩ = some (.int .i64 b') ∧ W.cell? ⟨bb, off + 3, none⟩ = some (.int .i64 c') ∧ W.cell? ⟨bb, off + 4, none⟩ = some (.int .i64 m') ∧ W.cell? ⟨bb, off + 5, none⟩ = some (.slice A' ks'.length cap')))
              have HRD := Lib.hid (show Reads wr wr.heap.size 1 S s.length (i64s (natL s)) by
                have := (reads_of_ints (HS.out.below HBL.out)).more (show w.heap.size ≤ wr.heap.size by omega)
                rwa [natL_length] at this)
              have hI1 := HI.out A' cap' (s ++ [v])
              rw [List.length_append, List.length_singleton, show evalG atomR bound (.node o' a' b' c' m' ks') (s ++ [v]) = P v from congrFun HP.out v] at hI1
              have HI1 := Lib.hid hI1
              clear hI1
              have HX1 := Lib.hid (show ∀ x ∈ s ++ [v], x < 65536 by
                intro x hx
                rcases List.mem_append.1 hx with h | h
                · exact HX.out x h
                · have := HNN.out
                  simp at h; omega)
              have HK1 := Lib.hid (show isB (.node o' a' b' c' m' ks') ((s.length + 1 : Nat) : Int) = true by simpa [under, oEx] using HK.out)
              have HAS := Lib.hid (fun hp : P v = true => show (List.range N).any P = true from List.any_eq_true.2 ⟨v, List.mem_range.2 hlt, hp⟩)
              have HAP := Lib.hid (show (List.range (v + 1)).any P = (P v || false) by rw [List.range_succ, List.any_append, HAN.out]; simp)
              have HKC := Lib.hid (fun W (hW : Below wr.heap.size wr W) => ((show CoreAt w w.heap.size (.node o' a' b' c' m' ks') A' cap' from hkid).later (HBL.out.trans (hW.mono HBL.out.size)) (Nat.le_trans HBL.out.size hW.size)))
              have HEQ := Lib.hid (show i64s (natL s) ++ [.int .i64 (v : Int)] = i64s (natL (s ++ [v])) by simp [i64s, natL])
              have HBZ := Lib.hid (fun W (hW : Below wr.heap.size wr W) => (HBW.out.trans (hW.mono hws) : Below (w.heap.size + 1) Z W))
              have HBR := Lib.hid (fun W (hW : Below wr.heap.size wr W) => (HBL.out.trans (hW.mono HBL.out.size) : Below w.heap.size w W))
              cases hpv : P v with
              | false =>
                rw [hpv] at HI1
                go_upto_region 34 with fail
                have hB0 := Below.refl wr.heap.size wr
                go_region_held3 (fun W => W.cell? ⟨w.heap.size, 5, none⟩ = some (.slice (some ⟨bb, off, none⟩) 1 cap) ∧ W.cell? ⟨bb, off, none⟩ = some (.string ⟨o'.toArray⟩) ∧ W.cell? ⟨bb, off + 1, none⟩ = some (.int .i64 a') ∧ W.cell? ⟨bb, off + 2, none⟩ = some (.int .i64 b') ∧ W.cell? ⟨bb, off + 3, none⟩ = some (.int .i64 c') ∧ W.cell? ⟨bb, off + 4, none⟩ = some (.int .i64 m') ∧ W.cell? ⟨bb, off + 5, none⟩ = some (.slice A' ks'.length cap')) (first | assumption | exact HSS.out _ (by go_grown)) (first
                  | (refine step_append_any _ (by rfl) (.tmp 151) (.tmp 152) 25 (by rfl) wr.heap.size 3 i0 (.int .i64 0) 1 8 und25 hi hz0 hz1 hz2 rfl (by decide) (.slice (some ⟨_, 0, none⟩) 0 0) 0 [] (by rfl) (own_of_heap (by first | exact heap_new_at (by go_size) | exact heap_old_at (heap_new_at (by go_size)) (by go_size)) (by go_size)) wr.heap.size S s.length _ (i64s (natL s)) (by rfl) (HRD.out.below (by go_grown)) (i64s_one _) (by simp only [maxLen]; omega) (by omega) (by go_size) ?_
                     intro v1 w1 hown1 hg1 hat1
                     simp only [Nat.zero_add, List.nil_append] at hown1
                     have hb1 : Below wr.heap.size wr w1 := Below.grown (by go_grown) hg1 (by go_size) (fun j hj => by simp only [Value.ownBlock, Option.some.injEq] at hj; omega)
                     have hs1 := hb1.size
                     have hr1 : ∀ j, v1.ownBlock = some j → wr.heap.size ≤ j := fun j hj => by (rcases hat1 with e | e <;> rw [e] at hj <;> simp [Value.ownBlock] at hj <;> omega))
                  | (refine step_append_any _ (by rfl) (.tmp 153) (.tmp 155) 25 (by rfl) wr.heap.size 3 i0 (.int .i64 0) 1 8 und25 hi hz0 hz1 hz2 rfl (by decide) v1 s.length (i64s (natL s)) (by rfl) (by first | exact hown1 | exact hown1.alloc _) _ (some ⟨_, 0, none⟩) 1 1 [.int .i64 (v : Int)] (by rfl)
                       (reads_one (by first | exact heap_new_at (by go_size) | exact (hg1.block _ (by go_size) (by simp [Value.ownBlock])).trans (heap_new_at (by go_size)) | exact (hg1.block _ (by go_size) (by simp [Value.ownBlock])).trans (heap_old_at (heap_new_at (by go_size)) (by go_size)))) (i64s_one [(v : Int)]) (by simp only [maxLen]; omega) (by omega) (by go_size) ?_
                     intro v2 w2 hown2 hg2 hat2
                     have hb2 : Below wr.heap.size wr w2 := Below.grown (by go_grown) hg2 (by go_size) hr1
                     have hs2 := hb2.size
                     obtain ⟨g, cap3, rfl, hbase, hglt⟩ := hown2.form (by omega)
                     have HO2 := Lib.hid hown2)
                  | (
                     go_at_call 30
                     have HO3 := HO2.out
                     rw [HEQ.out] at HO3
                     refine (HI1.out _ _ _ (HKC.out _ hb2) HK1.out (by omega) HX1.out (ints_of_own HO3)).mono ?_
                     rintro e w5 ⟨rfl, hb5⟩
                     have hb5' := hb2.trans (hb5.mono hs2))
                  | fail)
                all_goals
                  go_wp2_with fail
                  go_roundg (N - (v + 1))
                  case measure => have := HRr.out; omega
                  case rel => exact ⟨v + 1, by omega, rfl, by go_num, Lib.hid (by rw [HAP.out, hpv]; rfl), HBZ.out _ hb5'⟩
              | true =>
                rw [hpv] at HI1
                go_upto_region 34 with fail
                have hB0 := Below.refl wr.heap.size wr
                go_region_held3 (fun W => W.cell? ⟨w.heap.size, 5, none⟩ = some (.slice (some ⟨bb, off, none⟩) 1 cap) ∧ W.cell? ⟨bb, off, none⟩ = some (.string ⟨o'.toArray⟩) ∧ W.cell? ⟨bb, off + 1, none⟩ = some (.int .i64 a') ∧ W.cell? ⟨bb, off + 2, none⟩ = some (.int .i64 b') ∧ W.cell? ⟨bb, off + 3, none⟩ = some (.int .i64 c') ∧ W.cell? ⟨bb, off + 4, none⟩ = some (.int .i64 m') ∧ W.cell? ⟨bb, off + 5, none⟩ = some (.slice A' ks'.length cap')) (first | assumption | exact HSS.out _ (by go_grown)) (first
                  | (refine step_append_any _ (by rfl) (.tmp 151) (.tmp 152) 25 (by rfl) wr.heap.size 3 i0 (.int .i64 0) 1 8 und25 hi hz0 hz1 hz2 rfl (by decide) (.slice (some ⟨_, 0, none⟩) 0 0) 0 [] (by rfl) (own_of_heap (by first | exact heap_new_at (by go_size) | exact heap_old_at (heap_new_at (by go_size)) (by go_size)) (by go_size)) wr.heap.size S s.length _ (i64s (natL s)) (by rfl) (HRD.out.below (by go_grown)) (i64s_one _) (by simp only [maxLen]; omega) (by omega) (by go_size) ?_
                     intro v1 w1 hown1 hg1 hat1
                     simp only [Nat.zero_add, List.nil_append] at hown1
                     have hb1 : Below wr.heap.size wr w1 := Below.grown (by go_grown) hg1 (by go_size) (fun j hj => by simp only [Value.ownBlock, Option.some.injEq] at hj; omega)
                     have hs1 := hb1.size
                     have hr1 : ∀ j, v1.ownBlock = some j → wr.heap.size ≤ j := fun j hj => by (rcases hat1 with e | e <;> rw [e] at hj <;> simp [Value.ownBlock] at hj <;> omega))
                  | (refine step_append_any _ (by rfl) (.tmp 153) (.tmp 155) 25 (by rfl) wr.heap.size 3 i0 (.int .i64 0) 1 8 und25 hi hz0 hz1 hz2 rfl (by decide) v1 s.length (i64s (natL s)) (by rfl) (by first | exact hown1 | exact hown1.alloc _) _ (some ⟨_, 0, none⟩) 1 1 [.int .i64 (v : Int)] (by rfl)
                       (reads_one (by first | exact heap_new_at (by go_size) | exact (hg1.block _ (by go_size) (by simp [Value.ownBlock])).trans (heap_new_at (by go_size)) | exact (hg1.block _ (by go_size) (by simp [Value.ownBlock])).trans (heap_old_at (heap_new_at (by go_size)) (by go_size)))) (i64s_one [(v : Int)]) (by simp only [maxLen]; omega) (by omega) (by go_size) ?_
                     intro v2 w2 hown2 hg2 hat2
                     have hb2 : Below wr.heap.size wr w2 := Below.grown (by go_grown) hg2 (by go_size) hr1
                     have hs2 := hb2.size
                     obtain ⟨g, cap3, rfl, hbase, hglt⟩ := hown2.form (by omega)
                     have HO2 := Lib.hid hown2)
                  | (
                     go_at_call 30
                     have HO3 := HO2.out
                     rw [HEQ.out] at HO3
                     refine (HI1.out _ _ _ (HKC.out _ hb2) HK1.out (by omega) HX1.out (ints_of_own HO3)).mono ?_
                     rintro e w5 ⟨rfl, hb5⟩
                     have hb5' := hb2.trans (hb5.mono hs2))
                  | fail)
                all_goals
                  go_wp2_with fail
                  go_ret
                  exact ⟨congrArg (fun x : Bool => Ending.returned (.bool x)) (by rw [← HR0.out]; exact (HAS.out hpv).symm), HBR.out _ hb5'⟩
            · have g1 : decide ((v : Int) < wrap64 (2 ^ bound)) = false := by rw [HN0.out]; exact decide_eq_false (by omega)
              have hvN : v = N := by omega
              have HR := Lib.hid (show false = R by rw [← HR0.out, ← hvN]; exact HAN.out.symm)
              clear HAN hvN
              go_wp2_with fail
              go_ret
              exact ⟨congrArg (fun x : Bool => Ending.returned (.bool x)) HR.out, HBL.out⟩
        · have HEV := Lib.hid (evalG_atom atomR bound o a b c m ks s hN hA hE)
          obtain ⟨N, rfl⟩ := Int.eq_ofNat_of_zero_le (fb_n hfb).1
          have hN20 : N ≤ 20 := by have := (fb_n hfb).2; omega
          have hmem : o ∈ [oTrue, oSub, oSing, oFlag, oNone, oLess, oPlus, oNum, oUnion, oInter, oMinus] := atom_mem hsh hN hA hE
          by_cases hs0 : s.length = 0
          · obtain ⟨ho, rfl, rfl, rfl⟩ := no_vars hsh hE hva hvb hvc hmem hs0
            subst ho
            have HR := Lib.hid (show true = evalG atomR bound (.node oTrue 0 0 0 (N : Int) ks) s by rw [HEV.out]; rfl)
            clear HEV hfb hsh hva hvb hvc hmem IH HKS
            simp only [coreW, Core.op, Core.va, Core.vb, Core.vc, Core.vn, Core.kids]
            generalize evalG atomR bound (.node oTrue 0 0 0 (N : Int) ks) s = R at *
            have HB1 := Lib.hid ((Below.refl w.heap.size w).alloc (Nat.le_refl _) (.cells #[.string ⟨#[116, 114, 117, 101]⟩, .int .i64 0, .int .i64 0, .int .i64 0, .int .i64 N, .slice A ks.length cap] 24))
            have gn : decide ((0 : Int) < (s.length : Int)) = false := decide_eq_false (by omega)
            have gn2 : decide (0 < s.length) = false := decide_eq_false (by omega)
            clear hs0
            unfold oTrue
            go_enter Tryd.func30, Tryd.ntmps30
            go_wp2_with fail
            go_ret
            exact ⟨congrArg (fun x : Bool => Ending.returned (.bool x)) HR.out, HB1.out⟩
          · obtain ⟨sb, soff, rfl, hsb, hcs⟩ := HS.out (by rw [natL_length]; omega)
            obtain ⟨x, rfl, hx1⟩ := varB_lt hE (by omega) hva
            obtain ⟨y, rfl, hy1⟩ := varB_lt hE (by omega) hvb
            obtain ⟨z, rfl, hz1⟩ := varB_lt hE (by omega) hvc
            have hcell : ∀ j (hj : j < s.length), w.cell? ⟨sb, soff + j, none⟩ = some (.int .i64 ((getS s (j : Int) : Nat) : Int)) := fun j hj => by
              rw [hcs j (by rw [natL_length]; exact hj)]
              simp [natL, getS, List.getD_eq_getElem?_getD, List.getElem?_eq_getElem hj]
            have := ratom_any o x y z s.length N ks.length A cap (getS s x) (getS s y) (getS s z) sb soff scap bound w (by omega) hsl hx1 hy1 hz1 hN20 (setS_lt HX.out _) (setS_lt HX.out _) (setS_lt HX.out _) hsb (hcell x hx1) (hcell y hy1) (hcell z hz1) hE hN hA s rfl rfl rfl hmem
            simp only [Core.op, Core.va, Core.vb, Core.vc, Core.vn, Core.kids]
            rw [HEV.out]
            exact this
end Go.Proofs.YtcgjacaemblnmaaDoor
