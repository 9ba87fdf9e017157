/- The walk over eval.holds. -/
import Derived.Test.YtcgjacaemblnmaaDoorClone
import Derived.Test.YtcgjacaemblnmaaDoorIs
namespace Go.Proofs.YtcgjacaemblnmaaDoor
open Go Go.RowKit

theorem fb_some {o : List UInt8} {a b c m n : Int} {ks : List Core} (h : fieldsB (.node o a b c m ks) n = true) :
    ∃ v num, shapeOf o = some (v, num, ks.length) ∧ varB o v n 0 a = true ∧ varB o v n 1 b = true ∧ varB o v n 2 c = true := by
  cases hs : shapeOf o with
  | none => rw [fb_none a b c m n ks hs] at h; cases h
  | some x =>
    obtain ⟨v, num, k⟩ := x
    by_cases hk : ks.length = k
    · subst hk
      rw [fb_rest a b c m n hs] at h
      simp only [Bool.and_eq_true] at h
      exact ⟨v, num, rfl, h.1.1.1.2, h.1.1.2, h.1.2⟩
    · rw [fb_kids a b c m n hs hk] at h; cases h
theorem varB_nonneg {o : List UInt8} {v j : Nat} {n x : Int} (ho : ¬ o = [101, 120]) (h : varB o v n j x = true) : 0 ≤ x := by
  by_cases hv : v ≤ j
  · rw [varB_big hv] at h
    have := eq_of_beq h
    omega
  · rw [varB_no hv ho] at h
    simp at h
    exact h.1
theorem isB_node {o : List UInt8} {a b c m n : Int} {ks : List Core} (h : isB (.node o a b c m ks) n = true) : fieldsB (.node o a b c m ks) n = true ∧ ∀ k ∈ ks, isB k (under o n) = true := by
  rw [isB, Bool.and_eq_true] at h
  refine ⟨h.1, fun k hk => ?_⟩
  have h2 := h.2
  rw [isL_any] at h2
  simp at h2
  exact h2 k hk
theorem own_below {w w' : World} {base B n size : Nat} {e : TypeId} {v : Value} {xs : List Value} (h : w.ownsRow base e size v n xs) (hb : Below B w w') (hB : w.heap.size ≤ B) : w'.ownsRow base e size v n xs := by
  refine ⟨h.1, ?_⟩
  rcases h.2 with h | ⟨g, cap, cur, h1, h2, h3, h4⟩
  · exact .inl h
  · refine .inr ⟨g, cap, cur, h1, h2, ?_, h4⟩
    have hg : g < w.heap.size := (Array.getElem?_eq_some_iff.1 h3).1
    rw [hb.block g (by omega)]
    exact h3

set_option maxHeartbeats 2000000 in
theorem holds_any (bound : Nat) (hbd : bound ≤ 8) : ∀ (t : Core) (A : Option Addr) (cap : Nat) (s : List Nat) (S : Option Addr) (scap : Nat) (w : World), CoreAt w w.heap.size t A cap → isB t s.length = true → s.length ≤ 6 →
    (∀ x ∈ s, x < 65536) → IntsAt w w.heap.size S (natL s) → Tab w →
    Calls Tryd.prog 28 #[coreW t.op t.va t.vb t.vc t.vn t.kids.length A cap, .slice S s.length scap, .int .i64 bound] w fun e w' => e = .returned (.bool (evalG atomE bound t s)) ∧ Below w.heap.size w w' := by
  intro t
  induction t using Core.ind with
  | h o a b c m ks ih =>
    intro A cap s S scap w h his hsl hs hS hT
    obtain ⟨hfb, hks⟩ := isB_node his
    obtain ⟨v, num, hsh, hva, hvb, hvc⟩ := fb_some hfb
    have HC := Lib.hid h
    have IH := Lib.hid ih
    have HS := Lib.hid hS
    have HT := Lib.hid hT
    have HX := Lib.hid hs
    have HKS := Lib.hid hks
    clear h ih his hS hT hs hks
    by_cases hN : o = [110, 111, 116]
    · subst hN
      have hlen : ks.length = 1 := by
        have e : shapeOf oNot = some (0, false, 1) := by decide
        rw [show ([110, 111, 116] : List UInt8) = oNot from rfl, e] at hsh
        simp at hsh
        omega
      have HEV := Lib.hid (evalG_not atomE bound a b c m ks s (by omega))
      have HI := Lib.hid (IH.out ks[0] (List.getElem_mem (by omega)))
      have HK := Lib.hid (HKS.out ks[0] (List.getElem_mem (by omega)))
      obtain ⟨bb, off, A', cap', rfl, hlo, hcells, hkid⟩ := HC.out.kid 0 (by simp only [Core.kids]; omega)
      simp only [Core.kids] at hcells hkid
      generalize hx : ks[0] = x at *
      simp only [coreW, Core.op, Core.va, Core.vb, Core.vc, Core.vn, Core.kids]
      rw [hlen]
      rw [show evalG atomE bound (.node [110, 111, 116] a b c m ks) s = !(evalG atomE bound x s) from HEV.out]
      clear HEV IH HKS hfb hsh hva hvb hvc
      generalize hev : evalG atomE bound x s = ev at *
      cases x with
      | node o' a' b' c' m' ks' =>
        have HB1 := Lib.hid ((Below.refl w.heap.size w).alloc (Nat.le_refl _) (.cells #[.string ⟨#[110, 111, 116]⟩, .int .i64 a, .int .i64 b, .int .i64 c, .int .i64 m, .slice (some ⟨bb, off, none⟩) 1 cap] 24))
        obtain ⟨c0, c1, c2, c3, c4, c5⟩ := kid_cells hlo hcells (Below.refl _ _)
        clear hcells
        simp only [Nat.zero_mul, Nat.add_zero] at c0 c1 c2 c3 c4 c5
        simp only [coreW, Core.op, Core.va, Core.vb, Core.vc, Core.vn, Core.kids] at HI
        go_enter Tryd.func28, Tryd.ntmps28
        go_wp2_with (
          go_at_call 28
          refine (HI.out A' cap' s S scap _ ((show CoreAt w w.heap.size (.node o' a' b' c' m' ks') A' cap' from hkid).later HB1.out (by simp)) HK.out hsl HX.out (HS.out.later HB1.out (by simp)) (HT.out.below HB1.out (World.block_lt_of_cell? _ _ (HT.out 0 (by decide))))).mono ?_
          rintro e w2 ⟨rfl, hb2⟩)
        go_ret
        exact ⟨rfl, HB1.out.trans (hb2.mono (by simp))⟩
    · by_cases hA : o = [97, 110, 100]
      · subst hA
        have hlen : ks.length = 2 := by
          have e : shapeOf oAnd = some (0, false, 2) := by decide
          rw [show ([97, 110, 100] : List UInt8) = oAnd from rfl, e] at hsh
          simp at hsh
          omega
        have HEV := Lib.hid (evalG_and atomE bound a b c m ks s (by omega))
        have HI := Lib.hid (IH.out ks[0] (List.getElem_mem (by omega)))
        have HJ := Lib.hid (IH.out ks[1] (List.getElem_mem (by omega)))
        have HK := Lib.hid (HKS.out ks[0] (List.getElem_mem (by omega)))
        have HL := Lib.hid (HKS.out ks[1] (List.getElem_mem (by omega)))
        obtain ⟨bb, off, A', cap', rfl, hlo, hcells, hkid⟩ := HC.out.kid 0 (by simp only [Core.kids]; omega)
        obtain ⟨bb2, off2, A2, cap2, e2, hlo2, hcells2, hkid2⟩ := HC.out.kid 1 (by simp only [Core.kids]; omega)
        simp only [Option.some.injEq, Addr.mk.injEq] at e2
        obtain ⟨rfl, rfl, _⟩ := e2
        simp only [Core.kids] at hcells hkid hcells2 hkid2
        generalize hx : ks[0] = x at *
        generalize hy : ks[1] = y at *
        simp only [coreW, Core.op, Core.va, Core.vb, Core.vc, Core.vn, Core.kids]
        rw [hlen]
        rw [show evalG atomE bound (.node [97, 110, 100] a b c m ks) s = (evalG atomE bound x s && evalG atomE bound y s) from HEV.out]
        clear HEV IH HKS hfb hsh hva hvb hvc
        generalize hev : evalG atomE bound x s = ev at *
        generalize hew : evalG atomE bound y s = ew at *
        have HB1 := Lib.hid ((Below.refl w.heap.size w).alloc (Nat.le_refl _) (.cells #[.string ⟨#[97, 110, 100]⟩, .int .i64 a, .int .i64 b, .int .i64 c, .int .i64 m, .slice (some ⟨bb, off, none⟩) 2 cap] 24))
        cases x with
        | node o' a' b' c' m' ks' =>
        cases y with
        | node p' d' e' f' n' ls' =>
        obtain ⟨c0, c1, c2, c3, c4, c5⟩ := kid_cells hlo hcells (Below.refl _ _)
        have HCL := Lib.hid hcells2
        clear hcells hcells2
        simp only [Nat.zero_mul, Nat.add_zero] at c0 c1 c2 c3 c4 c5
        simp only [coreW, Core.op, Core.va, Core.vb, Core.vc, Core.vn, Core.kids] at HI HJ
        cases ev with
        | false =>
          go_enter Tryd.func28, Tryd.ntmps28
          go_wp2_with (
            go_at_call 28
            refine (HI.out A' cap' s S scap _ ((show CoreAt w w.heap.size (.node o' a' b' c' m' ks') A' cap' from hkid).later HB1.out (by simp)) HK.out hsl HX.out (HS.out.later HB1.out (by simp)) (HT.out.below HB1.out (World.block_lt_of_cell? _ _ (HT.out 0 (by decide))))).mono ?_
            rintro e w2 ⟨rfl, hb2⟩)
          go_ret
          exact ⟨rfl, HB1.out.trans (hb2.mono (by simp))⟩
        | true =>
          go_enter Tryd.func28, Tryd.ntmps28
          have tok : True := trivial
          go_wp2_with (first
            | (
              go_at_call 28
              have _t := tok
              refine (HI.out A' cap' s S scap _ ((show CoreAt w w.heap.size (.node o' a' b' c' m' ks') A' cap' from hkid).later HB1.out (by simp)) HK.out hsl HX.out (HS.out.later HB1.out (by simp)) (HT.out.below HB1.out (World.block_lt_of_cell? _ _ (HT.out 0 (by decide))))).mono ?_
              rintro e w2 ⟨rfl, hb2⟩
              clear tok _t
              obtain ⟨q0, q1, q2, q3, q4, q5⟩ := box_kept hb2
              have HB2 := Lib.hid (HB1.out.trans (hb2.mono (by simp)))
              obtain ⟨d0, d1, d2, d3, d4, d5⟩ := kid_cells hlo2 HCL.out HB2.out
              simp only [Nat.one_mul] at d0 d1 d2 d3 d4 d5
              clear hb2)
            | (
              go_at_call 28
              refine (HJ.out A2 cap2 s S scap _ ((show CoreAt w w.heap.size (.node p' d' e' f' n' ls') A2 cap2 from hkid2).later HB2.out HB2.out.size) HL.out hsl HX.out (HS.out.later HB2.out HB2.out.size) (HT.out.below HB2.out (World.block_lt_of_cell? _ _ (HT.out 0 (by decide))))).mono ?_
              rintro e w3 ⟨rfl, hb3⟩))
          go_ret
          exact ⟨rfl, HB2.out.trans (hb3.mono HB2.out.size)⟩
      · by_cases hE : o = [101, 120]
        · subst hE
          have hlen : ks.length = 1 := by
            have e : shapeOf oEx = some (1, false, 1) := by decide
            rw [show ([101, 120] : List UInt8) = oEx from rfl, e] at hsh
            simp at hsh
            omega
          have hs6 : s.length < 6 := by
            have := fb_ex hfb
            omega
          have HEV := Lib.hid (evalG_ex atomE bound a b c m ks s (by omega))
          have HI := Lib.hid (IH.out ks[0] (List.getElem_mem (by omega)))
          have HK := Lib.hid (HKS.out ks[0] (List.getElem_mem (by omega)))
          obtain ⟨bb, off, A', cap', rfl, hlo, hcells, hkid⟩ := HC.out.kid 0 (by simp only [Core.kids]; omega)
          simp only [Core.kids] at hcells hkid
          generalize hx : ks[0] = x at *
          simp only [coreW, Core.op, Core.va, Core.vb, Core.vc, Core.vn, Core.kids]
          rw [hlen]
          rw [show evalG atomE bound (.node [101, 120] a b c m ks) s = ((List.range (2 ^ bound)).any fun v => evalG atomE bound x (s ++ [v])) from HEV.out]
          clear HEV IH HKS hfb hsh hva hvb hvc
          generalize hR : ((List.range (2 ^ bound)).any fun v => evalG atomE bound x (s ++ [v])) = R
          have HR0 := Lib.hid hR
          clear hR
          have HB1 := Lib.hid ((Below.refl w.heap.size w).alloc (Nat.le_refl _) (.cells #[.string ⟨#[101, 120]⟩, .int .i64 a, .int .i64 b, .int .i64 c, .int .i64 m, .slice (some ⟨bb, off, none⟩) 1 cap] 24))
          have hcl0 := fun (W : World) (hr : IntsAt W W.heap.size S (natL s)) => clone_any (c := scap) (reads_of_ints hr) (by rw [natL_length]; omega)
          simp only [natL_length] at hcl0
          have HCL := Lib.hid hcl0
          clear hcl0
          obtain ⟨i0, hi, hz0, hz1, hz2⟩ := info_parts Tryd.info3
          cases x with
          | node o' a' b' c' m' ks' =>
          have HCE := Lib.hid hcells
          clear hcells
          simp only [coreW, Core.op, Core.va, Core.vb, Core.vc, Core.vn, Core.kids] at HI
          go_enter Tryd.func28, Tryd.ntmps28
          go_wp2_with (first
            | (
              go_at_call 43
              refine (HCL.out _ (HS.out.later HB1.out (by simp))).mono ?_
              rintro e w2 ⟨A1, c1, rfl, hown1, hb2⟩
              have HO1 := Lib.hid hown1
              have HB2 := Lib.hid (HB1.out.trans (hb2.mono (by simp)))
              have hz2s : (w.alloc (.cells #[.string ⟨#[101, 120]⟩, .int .i64 a, .int .i64 b, .int .i64 c, .int .i64 m, .slice (some ⟨bb, off, none⟩) 1 cap] 24)).heap.size ≤ w2.heap.size := hb2.size
              have HZ2 := Lib.hid hz2s
              obtain ⟨q0, q1, q2, q3, q4, q5⟩ := box_kept hb2
              clear hown1 hb2 hz2s)
            | (at_builtin; refine wpList_append_any _ rfl (.tmp 42) (.tmp 43) 25 rfl (w.heap.size + 1) 3 i0 (.int .i64 0) 1 8 und25 hi hz0 hz1 hz2 rfl (by decide) (.slice A1 s.length c1) s.length (i64s (natL s)) rfl ?c0 (w2.heap.size + 1) (some ⟨w2.heap.size, 0, none⟩) 1 1 [.int .i64 0] rfl ?c1 ?c2 ?c3 ?c4 ?c5 ?_))
          case c0 => exact own_below (by simpa using HO1.out) ((Below.refl _ _).alloc (Nat.le_refl _) _) (Nat.le_refl _)
          case c1 =>
            refine ⟨rfl, fun _ => ⟨_, rfl, Nat.lt_succ_self _, fun j u hu => ?_⟩⟩
            have hj : j = 0 := by
              have := (List.getElem?_eq_some_iff.1 hu).1
              simp at this
              exact this
            subst hj
            simp at hu
            subst hu
            simp [Addr.add]
          case c2 => intro u hu; simp at hu; subst hu; rfl
          case c3 => simp only [maxLen]; omega
          case c4 => omega
          case c5 => have := HZ2.out; simp at this ⊢; omega
          intro v3 w3 hown3 hg3 _
          obtain ⟨g, cap3, rfl, hbase, hglt⟩ := hown3.form (by omega)
          have hA1 : ∀ k, (Value.slice A1 s.length c1).ownBlock = some k → w.heap.size + 1 ≤ k := by
            intro k hk
            rcases HO1.out.2 with ⟨e, _⟩ | ⟨g', _, _, e, hb', _⟩
            · rw [e] at hk; simp [Value.ownBlock] at hk
            · rw [e] at hk
              simp [Value.ownBlock] at hk
              simp at hb'
              omega
          have hz22 : w.heap.size + 1 ≤ w2.heap.size := by simpa using HZ2.out
          have HB23 := Lib.hid (((Below.refl (w.heap.size + 1) w2).alloc hz22 (.cells #[.int .i64 0] 3)).grown hg3 (by simp; omega) hA1)
          have HB3 := Lib.hid (HB2.out.trans (HB23.out.mono (Nat.le_succ _)))
          have r5 := (HB23.out.cell (p := ⟨w.heap.size, 5, none⟩) (Nat.lt_succ_self _)).trans q5
          have HO3 := Lib.hid hown3
          clear hown3 hg3 hA1 q0 q1 q2 q3 q4 q5
          go_upto_region 9 with fail
          have hN1 : 2 ^ bound ≤ 2 ^ 8 := Nat.pow_le_pow_right (by decide) hbd
          have hN0 : ((2 : Int) ^ bound) = ((2 ^ bound : Nat) : Int) := by simp
          rw [hN0]
          generalize 2 ^ bound = N at *
          have hN2 : wrap64 (N : Int) = (N : Int) := IntWalk.wrap64_in _ ⟨by omega, by omega⟩
          rw [hN2]
          clear hN2 hN0
          generalize hP : (fun v => evalG atomE bound (.node o' a' b' c' m' ks') (s ++ [v])) = P at *
          have HP := Lib.hid hP
          clear hP
          have HNN := Lib.hid hN1
          go_loopg [47] N (fun r i wr => ∃ v : Nat, v ≤ N ∧ r = N - v ∧ i = .int .i64 (v : Int) ∧ ((List.range v).any P = false) ∧ (∃ z : Nat, wr.ownsRow (w.heap.size + 1) 3 1 (.slice (some ⟨g, 0, none⟩) (s.length + 1) cap3) (s.length + 1) (i64s (natL (s ++ [z])))) ∧ Below (w.heap.size + 1) w3 wr)
          case atStart => exact ⟨0, Nat.zero_le _, rfl, rfl, by simp, ⟨0, by simpa [i64s, natL] using HO3.out⟩, Below.refl _ _⟩
          case round =>
            obtain ⟨v, hv, hr, rfl, hany, ⟨z, hown⟩, hb⟩ := hrel
            have HRr := Lib.hid hr
            have HAN := Lib.hid hany
            have HBL := Lib.hid (HB3.out.trans (hb.mono (Nat.le_succ _)))
            have HBW := Lib.hid hb
            have k5 := (hb.cell (p := ⟨w.heap.size, 5, none⟩) (Nat.lt_succ_self _)).trans r5
            have f1 := hown.frozenAt s.length
            have hst := (hown.stored s.length (.int .i64 (v : Int))).1
            rw [show (i64s (natL (s ++ [z]))).set s.length (.int .i64 (v : Int)) = i64s (natL (s ++ [v])) by simp [i64s, natL]] at hst
            have HST := Lib.hid hst
            have hcell : wr.cell? ⟨g, s.length, none⟩ = some (.int .i64 (z : Int)) := by
              have := hown.cells (g := g) rfl s.length (.int .i64 (z : Int)) (by simp [i64s, natL])
              unfold Addr.add at this
              split at this
              · next h => rw [h]; exact this
              · simpa using this
            have hgl := (hown.lt g rfl).2
            clear hr hany hb hown hst
            by_cases hlt : v < N
            · have g1 : decide ((v : Int) < (N : Int)) = true := decide_eq_true (by omega)
              have g2 : (s.length : Int) < (s.length : Int) + 1 := by omega
              have hI1 := HI.out A' cap' (s ++ [v]) (some ⟨g, 0, none⟩) cap3
              rw [List.length_append, List.length_singleton, show evalG atomE bound (.node o' a' b' c' m' ks') (s ++ [v]) = P v from congrFun HP.out v] at hI1
              have HI1 := Lib.hid hI1
              clear hI1
              have hBS := HBL.out.setCell (p := ⟨g, s.length, none⟩) (by simp <;> omega) (.int .i64 (v : Int))
              have HBS := Lib.hid hBS
              obtain ⟨d0, d1, d2, d3, d4, d5⟩ := kid_cells hlo HCE.out hBS
              simp only [Nat.zero_mul, Nat.add_zero] at d0 d1 d2 d3 d4 d5
              have k5' := (World.cell?_setCell_other wr ⟨g, s.length, none⟩ ⟨w.heap.size, 5, none⟩ (.int .i64 (v : Int)) (by simp <;> omega)).trans k5
              have HWS := Lib.hid (show Below (w.heap.size + 1) w3 (wr.setCell ⟨g, s.length, none⟩ (.int .i64 (v : Int))) from HBW.out.setCell hbase _)
              have hX1 : ∀ x ∈ s ++ [v], x < 65536 := by
                intro x hx
                rcases List.mem_append.1 hx with h | h
                · exact HX.out x h
                · simp at h; omega
              have HX1 := Lib.hid hX1
              have hK1 : isB (.node o' a' b' c' m' ks') ((s.length + 1 : Nat) : Int) = true := by simpa [under, oEx] using HK.out
              have HK1 := Lib.hid hK1
              clear hBS hX1 hK1
              have hsz : w.heap.size ≤ (wr.setCell ⟨g, s.length, none⟩ (.int .i64 (v : Int))).heap.size := HBS.out.size
              have HSZ := Lib.hid hsz
              clear hsz
              have HAS := Lib.hid (fun hp : P v = true => show (List.range N).any P = true from List.any_eq_true.2 ⟨v, List.mem_range.2 hlt, hp⟩)
              have HAP := Lib.hid (show (List.range (v + 1)).any P = (P v || false) by rw [List.range_succ, List.any_append, HAN.out]; simp)
              cases hpv : P v with
              | true =>
                rw [hpv] at HI1
                go_wp2_with (
                  go_at_call 28
                  refine (HI1.out _ ((show CoreAt w w.heap.size (.node o' a' b' c' m' ks') A' cap' from hkid).later HBS.out HSZ.out) HK1.out (by omega) HX1.out (ints_of_own HST.out) (HT.out.below HBS.out (World.block_lt_of_cell? _ _ (HT.out 0 (by decide))))).mono ?_
                  rintro e w5 ⟨rfl, hb5⟩)
                go_ret
                exact ⟨congrArg (fun x : Bool => Ending.returned (.bool x)) (by rw [← HR0.out]; exact (HAS.out hpv).symm), HBS.out.trans (hb5.mono HSZ.out)⟩
              | false =>
                rw [hpv] at HI1
                go_wp2_with (
                  go_at_call 28
                  refine (HI1.out _ ((show CoreAt w w.heap.size (.node o' a' b' c' m' ks') A' cap' from hkid).later HBS.out HSZ.out) HK1.out (by omega) HX1.out (ints_of_own HST.out) (HT.out.below HBS.out (World.block_lt_of_cell? _ _ (HT.out 0 (by decide))))).mono ?_
                  rintro e w5 ⟨rfl, hb5⟩
                  have HB5 := Lib.hid hb5
                  clear hb5)
                go_roundg (N - (v + 1))
                case measure => have := HRr.out; omega
                case rel => exact ⟨v + 1, by omega, rfl, by go_num, by rw [HAP.out, hpv]; rfl, ⟨v, own_below HST.out HB5.out (Nat.le_refl _)⟩, HWS.out.trans (HB5.out.mono (by have := HWS.out.size; have := HB23.out.size; omega))⟩
            · have g1 : decide ((v : Int) < (N : Int)) = false := decide_eq_false (by omega)
              have hvN : v = N := by omega
              have HR := Lib.hid (show false = R by rw [← HR0.out, ← hvN]; exact HAN.out.symm)
              clear HAN
              go_wp2_with fail
              go_ret
              exact ⟨congrArg (fun x : Bool => Ending.returned (.bool x)) HR.out, HBL.out⟩
        · have HEV := Lib.hid (evalG_atom atomE bound o a b c m ks s hN hA hE)
          have ha := varB_nonneg hE hva
          have hb := varB_nonneg hE hvb
          have hc := varB_nonneg hE hvc
          clear hfb hsh hva hvb hvc IH HKS
          simp only [coreW, Core.op, Core.va, Core.vb, Core.vc, Core.vn, Core.kids]
          rw [HEV.out]
          have HB1 := Lib.hid ((Below.refl w.heap.size w).alloc (Nat.le_refl _) (.cells #[.string ⟨o.toArray⟩, .int .i64 a, .int .i64 b, .int .i64 c, .int .i64 m, .slice A ks.length cap] 24))
          have HAT := Lib.hid (fun W hS hT => atom_any o a b c m ks.length A cap s S scap W ha hb hc HX.out (by omega) hS hT)
          simp only [coreW] at HAT
          clear HEV
          generalize atomE o a b c m s = ev at *
          have g1 : (o == [110, 111, 116]) = false := beq_false_of_ne hN
          have g2 : (o == [97, 110, 100]) = false := beq_false_of_ne hA
          have g3 : (o == [101, 120]) = false := beq_false_of_ne hE
          go_enter Tryd.func28, Tryd.ntmps28
          go_wp2_with (
            go_at_call 44
            refine (HAT.out _ (HS.out.later HB1.out (by simp)) (HT.out.below HB1.out (World.block_lt_of_cell? _ _ (HT.out 0 (by decide))))).mono ?_
            rintro e w2 ⟨rfl, hb2⟩)
          go_ret
          exact ⟨rfl, HB1.out.trans (hb2.mono (by simp))⟩
end Go.Proofs.YtcgjacaemblnmaaDoor
