/- The walks over core.vars and core.fields. -/
import Derived.Test.YtcgjacaemblnmaaDoorShapes
import Derived.Test.YtcgjacaemblnmaaDoorSize
import Derived.Deep.RegionWith
import Derived.Deep.CutRange
import Derived.Deep.RegionHeld
import Derived.Laws.Rows
namespace Go.Proofs.YtcgjacaemblnmaaDoor
open Go Go.RowKit Go.ChangeMaps Go.MapKept

theorem und46 : Tryd.prog.underlying 46 = some (.array 3 3) := by kernel_rfl
theorem vars_any (o : List UInt8) (a b c n : Int) (l : Nat) (A : Option Addr) (cap : Nat) (w : World) :
    Calls Tryd.prog 35 #[coreW o a b c n l A cap] w fun e w' => e = .returned (.agg #[.int .i64 a, .int .i64 b, .int .i64 c]) ∧ Below w.heap.size w w' := by
  simp only [coreW]
  go_enter Tryd.func35, Tryd.ntmps35
  go_wp2_with fail
  refine bodyPost_ret (results_cell_row rfl _ _ (w.heap.size + 1) 46 _ (0, 0) _ rfl ?_ und46 rfl ?_) rfl ⟨rfl, ?_⟩
  · simpa using (heap_alloc (w.alloc (Obj.cells #[Value.string { data := o.toArray }, Value.int IntKind.i64 a, Value.int IntKind.i64 b, Value.int IntKind.i64 c, Value.int IntKind.i64 n, Value.slice A l cap] 24)) (Obj.cells #[Value.int IntKind.i64 a, Value.int IntKind.i64 b, Value.int IntKind.i64 c] 46)).1
  · kernel_rfl
  · exact ((Below.refl _ _).alloc (Nat.le_refl _) _).alloc (by simp) _

theorem look_some {w : World} {b : Nat} (h : MapAt w b shapeL) {o : List UInt8} {v k : Nat} {num : Bool} (hs : shapeOf o = some (v, num, k)) (c : Bool) :
    (Instr.lookup 44 (.map (some b)) (.string ⟨o.toArray⟩) c).run Tryd.prog w = .ok (if c then .tuple #[.agg #[.int .i64 v, .bool num, .int .i64 k], .bool true] else .agg #[.int .i64 v, .bool num, .int .i64 k]) w := by
  have h1 := shapeL_find o
  rw [hs] at h1
  rw [lookup_run h, h1]
  have h2 : (shapeL.find? (fun e => (⟨o.toArray⟩ : ByteArray) == e.1)).isSome = true := by
    cases hf : shapeL.find? (fun e => (⟨o.toArray⟩ : ByteArray) == e.1) with
    | none => rw [hf] at h1; cases h1
    | some x => rfl
  rw [h2]
  rfl
theorem look_none {w : World} {b : Nat} (h : MapAt w b shapeL) {o : List UInt8} (hs : shapeOf o = none) (c : Bool) :
    (Instr.lookup 44 (.map (some b)) (.string ⟨o.toArray⟩) c).run Tryd.prog w = .ok (if c then .tuple #[.agg #[.int .i64 0, .bool false, .int .i64 0], .bool false] else .agg #[.int .i64 0, .bool false, .int .i64 0]) w := by
  have h1 := shapeL_find o
  rw [hs] at h1
  rw [lookup_run h, h1]
  have h2 : (shapeL.find? (fun e => (⟨o.toArray⟩ : ByteArray) == e.1)).isSome = false := by
    cases hf : shapeL.find? (fun e => (⟨o.toArray⟩ : ByteArray) == e.1) with
    | none => rfl
    | some x => rw [hf] at h1; cases h1
  rw [h2]
  rfl
/-- What an op has, nothing where there is none, and whether there is. -/
def shapeD (o : List UInt8) : Nat × Bool × Nat := (shapeOf o).getD (0, false, 0)
theorem look_any {w : World} {b : Nat} (h : MapAt w b shapeL) (o : List UInt8) (c : Bool) :
    (Instr.lookup 44 (.map (some b)) (.string ⟨o.toArray⟩) c).run Tryd.prog w = .ok (if c then .tuple #[.agg #[.int .i64 (shapeD o).1, .bool (shapeD o).2.1, .int .i64 (shapeD o).2.2], .bool (shapeOf o).isSome] else .agg #[.int .i64 (shapeD o).1, .bool (shapeD o).2.1, .int .i64 (shapeD o).2.2]) w := by
  cases hs : shapeOf o with
  | none => rw [look_none h hs]; simp [shapeD, hs]
  | some x => obtain ⟨v, num, k⟩ := x; rw [look_some h hs]; simp [shapeD, hs]
theorem MapAt.alloc {w : World} {b : Nat} {l : List (ByteArray × Value)} (h : MapAt w b l) (hb : b < w.heap.size) (x : Obj) : MapAt (w.alloc x) b l := by
  unfold MapAt at h ⊢
  rw [(heap_alloc w x).2 b hb]
  exact h

theorem fb_none {o : List UInt8} (a b c m n : Int) (ks : List Core) (h : shapeOf o = none) : fieldsB (.node o a b c m ks) n = false := by
  unfold fieldsB
  simp only [Core.op, h]
theorem fb_kids {o : List UInt8} {v k : Nat} {num : Bool} (a b c m n : Int) {ks : List Core} (h : shapeOf o = some (v, num, k)) (hk : ¬ ks.length = k) : fieldsB (.node o a b c m ks) n = false := by
  unfold fieldsB
  simp [Core.op, h, Core.kids, hk]
theorem fb_rest {o : List UInt8} {v : Nat} {num : Bool} (a b c m n : Int) {ks : List Core} (h : shapeOf o = some (v, num, ks.length)) :
    fieldsB (.node o a b c m ks) n = ((if num then decide (0 ≤ m) && decide (m ≤ 20) else m == 0) && varB o v n 0 a && varB o v n 1 b && varB o v n 2 c && (if o = oEx then decide (a = n) && decide (n < 6) else true)) := by
  unfold fieldsB
  simp only [Core.op, h, Core.kids, Core.vn, Core.va, Core.vb, Core.vc, decide_true, Bool.true_and]
  rfl
theorem fb_num {o : List UInt8} {v : Nat} {num : Bool} (a b c m n : Int) {ks : List Core} (h : shapeOf o = some (v, num, ks.length)) (hb : (num = false ∧ m ≠ 0) ∨ m < 0 ∨ 20 < m) : fieldsB (.node o a b c m ks) n = false := by
  rw [fb_rest a b c m n h]
  have : (if num then decide (0 ≤ m) && decide (m ≤ 20) else m == 0) = false := by
    cases num with
    | false =>
      have : m ≠ 0 := by rcases hb with ⟨_, h⟩ | h | h <;> omega
      simpa using this
    | true =>
      have : m < 0 ∨ 20 < m := by rcases hb with ⟨h, _⟩ | h; cases h; exact h
      rw [if_pos rfl, Bool.and_eq_false_iff, decide_eq_false_iff_not, decide_eq_false_iff_not]
      omega
  rw [this]
  rfl
theorem fb_good {o : List UInt8} {v : Nat} {num : Bool} (a b c m n : Int) {ks : List Core} (h : shapeOf o = some (v, num, ks.length)) (h1 : num = true ∨ m = 0) (h2 : 0 ≤ m) (h3 : m ≤ 20) :
    fieldsB (.node o a b c m ks) n = (varB o v n 0 a && varB o v n 1 b && varB o v n 2 c && (if o = oEx then decide (a = n) && decide (n < 6) else true)) := by
  rw [fb_rest a b c m n h]
  have : (if num then decide (0 ≤ m) && decide (m ≤ 20) else m == 0) = true := by
    rcases h1 with rfl | rfl
    · rw [if_pos rfl, decide_eq_true h2, decide_eq_true h3]; rfl
    · cases num <;> rfl
  rw [this, Bool.true_and]

theorem varB_big {o : List UInt8} {v j : Nat} {n x : Int} (h : v ≤ j) : varB o v n j x = (x == 0) := by
  unfold varB
  rw [if_pos h]
theorem varB_ex {o : List UInt8} {v j : Nat} {n x : Int} (h : ¬ v ≤ j) (he : o = [101, 120]) : varB o v n j x = true := by
  unfold varB
  rw [if_neg h, if_pos (show o = oEx from he)]
theorem varB_no {o : List UInt8} {v j : Nat} {n x : Int} (h : ¬ v ≤ j) (he : ¬ o = [101, 120]) : varB o v n j x = (decide (0 ≤ x) && decide (x < n)) := by
  unfold varB
  rw [if_neg h, if_neg (show ¬ o = oEx from he)]
theorem idx0 (a b c : Int) (w : World) : (Instr.index 46 (.agg #[.int .i64 a, .int .i64 b, .int .i64 c]) (.int .i64 0)).run Tryd.prog w = .ok (.int .i64 a) w := by kernel_rfl
theorem idx1 (a b c : Int) (w : World) : (Instr.index 46 (.agg #[.int .i64 a, .int .i64 b, .int .i64 c]) (.int .i64 1)).run Tryd.prog w = .ok (.int .i64 b) w := by kernel_rfl
theorem idx2 (a b c : Int) (w : World) : (Instr.index 46 (.agg #[.int .i64 a, .int .i64 b, .int .i64 c]) (.int .i64 2)).run Tryd.prog w = .ok (.int .i64 c) w := by kernel_rfl

theorem set3 {w : World} {q : Nat} {x y z u0 u1 u2 : Value} (h0 : w.cell? ⟨q, 0, none⟩ = some u0) (h1 : w.cell? ⟨q, 1, none⟩ = some u1) (h2 : w.cell? ⟨q, 2, none⟩ = some u2) :
    (((w.setCell ⟨q, 0, none⟩ x).setCell ⟨q, 1, none⟩ y).setCell ⟨q, 2, none⟩ z).cell? ⟨q, 0, none⟩ = some x ∧ (((w.setCell ⟨q, 0, none⟩ x).setCell ⟨q, 1, none⟩ y).setCell ⟨q, 2, none⟩ z).cell? ⟨q, 1, none⟩ = some y ∧
      (((w.setCell ⟨q, 0, none⟩ x).setCell ⟨q, 1, none⟩ y).setCell ⟨q, 2, none⟩ z).cell? ⟨q, 2, none⟩ = some z := by
  have a0 := World.cell?_setCell_same w ⟨q, 0, none⟩ x h0
  have a1 := (World.cell?_setCell_other w ⟨q, 0, none⟩ ⟨q, 1, none⟩ x (by simp)).trans h1
  have a2 := (World.cell?_setCell_other w ⟨q, 0, none⟩ ⟨q, 2, none⟩ x (by simp)).trans h2
  have b0 := (World.cell?_setCell_other _ ⟨q, 1, none⟩ ⟨q, 0, none⟩ y (by simp)).trans a0
  have b1 := World.cell?_setCell_same _ ⟨q, 1, none⟩ y a1
  have b2 := (World.cell?_setCell_other _ ⟨q, 1, none⟩ ⟨q, 2, none⟩ y (by simp)).trans a2
  exact ⟨(World.cell?_setCell_other _ ⟨q, 2, none⟩ ⟨q, 0, none⟩ z (by simp)).trans b0, (World.cell?_setCell_other _ ⟨q, 2, none⟩ ⟨q, 1, none⟩ z (by simp)).trans b1, World.cell?_setCell_same _ ⟨q, 2, none⟩ z b2⟩

set_option maxHeartbeats 1000000 in
theorem fields_any (t : Core) (A : Option Addr) (cap : Nat) (n : Int) (w : World) (h : CoreAt w w.heap.size t A cap) (_hn0 : 0 ≤ n) (_hn1 : n ≤ 6) :
    Calls Tryd.prog 50 #[coreW t.op t.va t.vb t.vc t.vn t.kids.length A cap, .int .i64 n] w fun e w' => e = .returned (.bool (fieldsB t n)) ∧ Below w.heap.size w w' := by
  have hl := h.len
  clear h
  cases t with
  | node o a b c m ks =>
    simp only [Core.kids] at hl
    obtain ⟨hl1, hl2, _⟩ := hl
    simp only [coreW, Core.op, Core.va, Core.vb, Core.vc, Core.vn, Core.kids]
    generalize hB : fieldsB (.node o a b c m ks) n = B
    have HB := Lib.hid hB
    clear hB
    go_enter Tryd.func50, Tryd.ntmps50
    go_upto_region 1 with fail
    go_cut [5, 6] from 9 to 15 (fun s5 s6 wx => ∃ p : Nat, s5 = .pointer (some ⟨p, 0, none⟩) ∧ w.heap.size < p ∧ s6 = .bool (shapeOf o).isSome ∧ Below w.heap.size w wx ∧ w.heap.size < wx.heap.size ∧ wx.cell? ⟨p, 0, none⟩ = some (.int .i64 (shapeD o).1) ∧ wx.cell? ⟨p, 1, none⟩ = some (.bool (shapeD o).2.1) ∧ wx.cell? ⟨p, 2, none⟩ = some (.int .i64 (shapeD o).2.2) ∧ wx.cell? ⟨w.heap.size, 0, none⟩ = some (.string ⟨o.toArray⟩) ∧ wx.cell? ⟨w.heap.size, 1, none⟩ = some (.int .i64 a) ∧ wx.cell? ⟨w.heap.size, 2, none⟩ = some (.int .i64 b) ∧ wx.cell? ⟨w.heap.size, 3, none⟩ = some (.int .i64 c) ∧ wx.cell? ⟨w.heap.size, 4, none⟩ = some (.int .i64 m) ∧ wx.cell? ⟨w.heap.size, 5, none⟩ = some (.slice A ks.length cap))
    case first =>
      have HH := Lib.hid (fun W => shapes_any W)
      go_region_with ((
        go_at_call 34
        refine (HH.out _).mono ?_
        rintro e w1 ⟨rfl, hM, hb, hsz⟩
        simp at hM
        simp at hsz
        have hk0 := (hb.cell (p := ⟨w.heap.size, 0, none⟩) (by simp <;> omega)).trans (by go_keep : _ = some (.string ⟨o.toArray⟩))
        have hk0' := (World.cell?_alloc_lt w1 (.cells #[.int .i64 0, .bool false, .int .i64 0] 43) ⟨w.heap.size, 0, none⟩ (World.block_lt_of_cell? _ _ hk0)).trans hk0
        have hk1 := (hb.cell (p := ⟨w.heap.size, 1, none⟩) (by simp <;> omega)).trans (by go_keep : _ = some (.int .i64 a))
        have hk2 := (hb.cell (p := ⟨w.heap.size, 2, none⟩) (by simp <;> omega)).trans (by go_keep : _ = some (.int .i64 b))
        have hk3 := (hb.cell (p := ⟨w.heap.size, 3, none⟩) (by simp <;> omega)).trans (by go_keep : _ = some (.int .i64 c))
        have hk4 := (hb.cell (p := ⟨w.heap.size, 4, none⟩) (by simp <;> omega)).trans (by go_keep : _ = some (.int .i64 m))
        have hk5 := (hb.cell (p := ⟨w.heap.size, 5, none⟩) (by simp <;> omega)).trans (by go_keep : _ = some (.slice A ks.length cap))
        try (
          have hM' : MapAt w1 (w.heap.size + 1 + 1) shapeL := hM
          have hp0 := (hb.cell (p := ⟨w.heap.size + 1, 0, none⟩) (by simp <;> omega)).trans (by go_keep : _ = some (.int .i64 0))
          have hp1 := (hb.cell (p := ⟨w.heap.size + 1, 1, none⟩) (by simp <;> omega)).trans (by go_keep : _ = some (.bool false))
          have hp2 := (hb.cell (p := ⟨w.heap.size + 1, 2, none⟩) (by simp <;> omega)).trans (by go_keep : _ = some (.int .i64 0))
          have hf0 := (hb.frozen (p := ⟨w.heap.size + 1, 0, none⟩) (by simp <;> omega)).trans (by simp : _ = false)
          have hf1 := (hb.frozen (p := ⟨w.heap.size + 1, 1, none⟩) (by simp <;> omega)).trans (by simp : _ = false)
          have hf2 := (hb.frozen (p := ⟨w.heap.size + 1, 2, none⟩) (by simp <;> omega)).trans (by simp : _ = false))
        have hla := look_any hM o true
        have hlb := look_any (hM.alloc hsz (.cells #[.int .i64 0, .bool false, .int .i64 0] 43)) o true))
      all_goals
        go_wp2_with fail
        go_meet
        case rel =>
          have hB1 : Below w.heap.size w w1 := (Below.trans (by first | exact ((Below.refl _ _).alloc (Nat.le_refl _) _).drew | exact (((Below.refl _ _).alloc (Nat.le_refl _) _).alloc (by simp) _).drew) (hb.mono (by simp <;> omega)))
          clear hla hlb hk0' hb hM
          refine ⟨_, rfl, by omega, rfl, ?_, ?_, ?_, ?_, ?_, ?_, ?_, ?_, ?_, ?_, ?_⟩
          · first | exact hB1.alloc hB1.size _ | exact ((hB1.setCell (by simp) _).setCell (by simp) _).setCell (by simp) _
          · simp
            omega
          all_goals first | go_keep | exact (set3 hp0 hp1 hp2).1 | exact (set3 hp0 hp1 hp2).2.1 | exact (set3 hp0 hp1 hp2).2.2
    case rest =>
      obtain ⟨p, rfl, hp, rfl, hb, hsz, p0, p1, p2, k0, k1, k2, k3, k4, k5⟩ := hcut
      have HB0 := Lib.hid hb
      clear hb
      have hse : (shapeOf o).isSome = true → shapeOf o = some (shapeD o) := by
        intro h
        unfold shapeD
        cases hs : shapeOf o with
        | none => rw [hs] at h; cases h
        | some x => rfl
      have hsn : (shapeOf o).isSome = false → shapeOf o = none := by
        intro h
        cases hs : shapeOf o with
        | none => rfl
        | some x => rw [hs] at h; cases h
      have HS := Lib.hid hse
      have HN := Lib.hid hsn
      clear hse hsn
      generalize hok : (shapeOf o).isSome = ok at *
      generalize shapeD o = sh at *
      obtain ⟨v, num, k⟩ := sh
      simp only at p0 p1 p2
      cases ok with
      | false =>
        have HN' := Lib.hid ((fb_none a b c m n ks (HN.out rfl)).symm.trans HB.out)
        clear HN HS
        go_wp2_with fail
        go_ret
        exact ⟨congrArg (fun x : Bool => Ending.returned (.bool x)) HN'.out, HB0.out⟩
      | true =>
        have hs := HS.out rfl
        have hm := shapeOf_mem hs
        have hv : v ≤ 3 ∧ k ≤ 2 := by
          simp [shapes] at hm
          omega
        have HSS := Lib.hid hs
        clear hs hm hok HS HN
        by_cases hk : ks.length = k
        · subst hk
          by_cases hbad : (num = false ∧ m ≠ 0) ∨ m < 0 ∨ 20 < m
          · have HN' := Lib.hid ((fb_num a b c m n HSS.out hbad).symm.trans HB.out)
            have HQ := Lib.hid hbad
            clear hbad
            cases num with
            | false =>
              have h0 : ¬ m = 0 := by
                have := HQ.out
                rcases this with ⟨_, h⟩ | h | h <;> omega
              have g1 : decide (m = 0) = false := decide_eq_false h0
              go_wp2_with fail
              go_ret
              exact ⟨congrArg (fun x : Bool => Ending.returned (.bool x)) HN'.out, HB0.out⟩
            | true =>
              by_cases h1 : m < 0
              · have g1 : decide (m < 0) = true := decide_eq_true h1
                go_wp2_with fail
                all_goals
                  go_ret
                  exact ⟨congrArg (fun x : Bool => Ending.returned (.bool x)) HN'.out, HB0.out⟩
              · have g1 : decide (m < 0) = false := decide_eq_false h1
                have h2 : 20 < m := by
                  have := HQ.out
                  rcases this with ⟨h, _⟩ | h | h
                  · cases h
                  · exact absurd h h1
                  · exact h
                have g2 : decide (20 < m) = true := decide_eq_true h2
                go_wp2_with fail
                all_goals
                  go_ret
                  exact ⟨congrArg (fun x : Bool => Ending.returned (.bool x)) HN'.out, HB0.out⟩
          · have g0 : num = true ∨ (num = false ∧ m = 0) := by
              cases num with
              | true => exact Or.inl rfl
              | false => exact Or.inr ⟨rfl, Decidable.not_not.1 fun h => hbad (Or.inl ⟨rfl, h⟩)⟩
            have hm0 : 0 ≤ m := Int.not_lt.mp fun h => hbad (Or.inr (Or.inl h))
            have hm1 : m ≤ 20 := Int.not_lt.mp fun h => hbad (Or.inr (Or.inr h))
            clear hbad
            have hv0 := fun W => vars_any o a b c m ks.length A cap W
            simp only [coreW] at hv0
            have HV := Lib.hid hv0
            have HF := Lib.hid ((fb_good a b c m n HSS.out (g0.imp id And.right) hm0 hm1).symm.trans HB.out)
            clear hv0
            have g1 : decide (m < 0) = false := decide_eq_false (by omega)
            have g2 : decide (20 < m) = false := decide_eq_false (by omega)
            rcases g0 with rfl | ⟨rfl, rfl⟩
            all_goals
              go_upto_region 5 with (go_at_call 35; refine (HV.out _).mono ?_; rintro e w2 ⟨rfl, hb2⟩)
              have HB2 := Lib.hid (HB0.out.trans (hb2.mono (Nat.le_of_lt hsz)))
              have q0 := (hb2.cell (p := ⟨p, 0, none⟩) (World.block_lt_of_cell? _ _ p0)).trans p0
              have r0 := (hb2.cell (p := ⟨w.heap.size, 0, none⟩) (World.block_lt_of_cell? _ _ k0)).trans k0
              have r1 := (hb2.cell (p := ⟨w.heap.size, 1, none⟩) (World.block_lt_of_cell? _ _ k1)).trans k1
              clear p0 p1 p2 k0 k1 k2 k3 k4 k5 hb2
              go_loopg [48] 3 (fun r i wr => ∃ j : Nat, j ≤ 3 ∧ r = 3 - j ∧ i = .int .i64 (j : Int) ∧ wr = w2 ∧ (1 ≤ j → varB o v n 0 a = true) ∧ (2 ≤ j → varB o v n 1 b = true) ∧ (3 ≤ j → varB o v n 2 c = true))
              case atStart => exact ⟨0, by omega, rfl, rfl, rfl, by omega, by omega, by omega⟩
              case round =>
                obtain ⟨j, hj, hr, rfl, rfl, j1, j2, j3⟩ := hrel
                have HJ := Lib.hid (And.intro hr (And.intro j1 (And.intro j2 j3)))
                clear hr j1 j2 j3
                have hj4 : j = 0 ∨ j = 1 ∨ j = 2 ∨ j = 3 := by omega
                rcases hj4 with rfl | rfl | rfl | rfl
                · have ii := idx0 a b c
                  by_cases hvj : v ≤ 0
                  · have gv : decide (v ≤ 0) = true := decide_eq_true hvj
                    have gw : decide (0 < v) = false := decide_eq_false (by omega)
                    have gvi : decide ((v : Int) ≤ 0) = true := decide_eq_true (by omega)
                    have gwi : decide (0 < (v : Int)) = false := decide_eq_false (by omega)
                    have gz : decide (v = 0) = true := by simp; omega
                    by_cases hx0 : a = 0
                    · have HX := Lib.hid (show varB o v n 0 a = true by rw [varB_big hvj]; simpa using hx0)
                      subst hx0
                      go_wp2_with fail
                      go_roundg (3 - (0 + 1))
                      case measure => have := HJ.out.1; omega
                      case rel =>
                        have hx := HX.out
                        exact ⟨0 + 1, by omega, rfl, by go_num, rfl, fun _ => hx, fun h => absurd h (by omega), fun h => absurd h (by omega)⟩
                    · have HX := Lib.hid (show varB o v n 0 a = false by rw [varB_big hvj]; simpa using hx0)
                      have gx : decide (a = 0) = false := decide_eq_false hx0
                      go_wp2_with fail
                      all_goals
                        go_ret
                        exact ⟨congrArg (fun x : Bool => Ending.returned (.bool x)) (by rw [← HF.out, HX.out]; simp : false = B), HB2.out⟩
                  · have gv : decide (v ≤ 0) = false := decide_eq_false hvj
                    have gw : decide (0 < v) = true := decide_eq_true (by omega)
                    have gvi : decide ((v : Int) ≤ 0) = false := decide_eq_false (by omega)
                    have gwi : decide (0 < (v : Int)) = true := decide_eq_true (by omega)
                    have gz : decide (v = 0) = false := by simp; omega
                    by_cases hE : o = [101, 120]
                    · have HX := Lib.hid (show varB o v n 0 a = true from varB_ex hvj hE)
                      subst hE
                      go_wp2_with fail
                      go_roundg (3 - (0 + 1))
                      case measure => have := HJ.out.1; omega
                      case rel =>
                        have hx := HX.out
                        exact ⟨0 + 1, by omega, rfl, by go_num, rfl, fun _ => hx, fun h => absurd h (by omega), fun h => absurd h (by omega)⟩
                    · have gE1 : (o == [101, 120]) = false := beq_false_of_ne hE
                      have gE : (!o == [101, 120]) = true := by rw [gE1]; rfl
                      by_cases hx0 : a < 0
                      · have HX := Lib.hid (show varB o v n 0 a = false by rw [varB_no hvj hE, decide_eq_false (by omega : ¬ 0 ≤ a)]; rfl)
                        have gx : decide (a < 0) = true := decide_eq_true hx0
                        go_wp2_with fail
                        all_goals
                          go_ret
                          exact ⟨congrArg (fun x : Bool => Ending.returned (.bool x)) (by rw [← HF.out, HX.out]; simp : false = B), HB2.out⟩
                      · have gx : decide (a < 0) = false := decide_eq_false hx0
                        by_cases hx1 : n ≤ a
                        · have HX := Lib.hid (show varB o v n 0 a = false by rw [varB_no hvj hE, decide_eq_false (by omega : ¬ a < n), Bool.and_false])
                          have gn : decide (n ≤ a) = true := decide_eq_true hx1
                          go_wp2_with fail
                          all_goals
                            go_ret
                            exact ⟨congrArg (fun x : Bool => Ending.returned (.bool x)) (by rw [← HF.out, HX.out]; simp : false = B), HB2.out⟩
                        · have HX := Lib.hid (show varB o v n 0 a = true by rw [varB_no hvj hE, decide_eq_true (by omega : 0 ≤ a), decide_eq_true (by omega : a < n)]; rfl)
                          have gn : decide (n ≤ a) = false := decide_eq_false hx1
                          go_wp2_with fail
                          go_roundg (3 - (0 + 1))
                          case measure => have := HJ.out.1; omega
                          case rel =>
                            have hx := HX.out
                            exact ⟨0 + 1, by omega, rfl, by go_num, rfl, fun _ => hx, fun h => absurd h (by omega), fun h => absurd h (by omega)⟩
                · have ii := idx1 a b c
                  by_cases hvj : v ≤ 1
                  · have gv : decide (v ≤ 1) = true := decide_eq_true hvj
                    have gw : decide (1 < v) = false := decide_eq_false (by omega)
                    have gvi : decide ((v : Int) ≤ 1) = true := decide_eq_true (by omega)
                    have gwi : decide (1 < (v : Int)) = false := decide_eq_false (by omega)
                    skip
                    by_cases hx0 : b = 0
                    · have HX := Lib.hid (show varB o v n 1 b = true by rw [varB_big hvj]; simpa using hx0)
                      subst hx0
                      go_wp2_with fail
                      go_roundg (3 - (1 + 1))
                      case measure => have := HJ.out.1; omega
                      case rel =>
                        have hx := HX.out
                        exact ⟨1 + 1, by omega, rfl, by go_num, rfl, fun _ => HJ.out.2.1 (by omega), fun _ => hx, fun h => absurd h (by omega)⟩
                    · have HX := Lib.hid (show varB o v n 1 b = false by rw [varB_big hvj]; simpa using hx0)
                      have gx : decide (b = 0) = false := decide_eq_false hx0
                      go_wp2_with fail
                      all_goals
                        go_ret
                        exact ⟨congrArg (fun x : Bool => Ending.returned (.bool x)) (by rw [← HF.out, HX.out]; simp : false = B), HB2.out⟩
                  · have gv : decide (v ≤ 1) = false := decide_eq_false hvj
                    have gw : decide (1 < v) = true := decide_eq_true (by omega)
                    have gvi : decide ((v : Int) ≤ 1) = false := decide_eq_false (by omega)
                    have gwi : decide (1 < (v : Int)) = true := decide_eq_true (by omega)
                    skip
                    by_cases hE : o = [101, 120]
                    · have HX := Lib.hid (show varB o v n 1 b = true from varB_ex hvj hE)
                      subst hE
                      go_wp2_with fail
                      go_roundg (3 - (1 + 1))
                      case measure => have := HJ.out.1; omega
                      case rel =>
                        have hx := HX.out
                        exact ⟨1 + 1, by omega, rfl, by go_num, rfl, fun _ => HJ.out.2.1 (by omega), fun _ => hx, fun h => absurd h (by omega)⟩
                    · have gE1 : (o == [101, 120]) = false := beq_false_of_ne hE
                      have gE : (!o == [101, 120]) = true := by rw [gE1]; rfl
                      by_cases hx0 : b < 0
                      · have HX := Lib.hid (show varB o v n 1 b = false by rw [varB_no hvj hE, decide_eq_false (by omega : ¬ 0 ≤ b)]; rfl)
                        have gx : decide (b < 0) = true := decide_eq_true hx0
                        go_wp2_with fail
                        all_goals
                          go_ret
                          exact ⟨congrArg (fun x : Bool => Ending.returned (.bool x)) (by rw [← HF.out, HX.out]; simp : false = B), HB2.out⟩
                      · have gx : decide (b < 0) = false := decide_eq_false hx0
                        by_cases hx1 : n ≤ b
                        · have HX := Lib.hid (show varB o v n 1 b = false by rw [varB_no hvj hE, decide_eq_false (by omega : ¬ b < n), Bool.and_false])
                          have gn : decide (n ≤ b) = true := decide_eq_true hx1
                          go_wp2_with fail
                          all_goals
                            go_ret
                            exact ⟨congrArg (fun x : Bool => Ending.returned (.bool x)) (by rw [← HF.out, HX.out]; simp : false = B), HB2.out⟩
                        · have HX := Lib.hid (show varB o v n 1 b = true by rw [varB_no hvj hE, decide_eq_true (by omega : 0 ≤ b), decide_eq_true (by omega : b < n)]; rfl)
                          have gn : decide (n ≤ b) = false := decide_eq_false hx1
                          go_wp2_with fail
                          go_roundg (3 - (1 + 1))
                          case measure => have := HJ.out.1; omega
                          case rel =>
                            have hx := HX.out
                            exact ⟨1 + 1, by omega, rfl, by go_num, rfl, fun _ => HJ.out.2.1 (by omega), fun _ => hx, fun h => absurd h (by omega)⟩
                · have ii := idx2 a b c
                  by_cases hvj : v ≤ 2
                  · have gv : decide (v ≤ 2) = true := decide_eq_true hvj
                    have gw : decide (2 < v) = false := decide_eq_false (by omega)
                    have gvi : decide ((v : Int) ≤ 2) = true := decide_eq_true (by omega)
                    have gwi : decide (2 < (v : Int)) = false := decide_eq_false (by omega)
                    skip
                    by_cases hx0 : c = 0
                    · have HX := Lib.hid (show varB o v n 2 c = true by rw [varB_big hvj]; simpa using hx0)
                      subst hx0
                      go_wp2_with fail
                      go_roundg (3 - (2 + 1))
                      case measure => have := HJ.out.1; omega
                      case rel =>
                        have hx := HX.out
                        exact ⟨2 + 1, by omega, rfl, by go_num, rfl, fun _ => HJ.out.2.1 (by omega), fun _ => HJ.out.2.2.1 (by omega), fun _ => hx⟩
                    · have HX := Lib.hid (show varB o v n 2 c = false by rw [varB_big hvj]; simpa using hx0)
                      have gx : decide (c = 0) = false := decide_eq_false hx0
                      go_wp2_with fail
                      all_goals
                        go_ret
                        exact ⟨congrArg (fun x : Bool => Ending.returned (.bool x)) (by rw [← HF.out, HX.out]; simp : false = B), HB2.out⟩
                  · have gv : decide (v ≤ 2) = false := decide_eq_false hvj
                    have gw : decide (2 < v) = true := decide_eq_true (by omega)
                    have gvi : decide ((v : Int) ≤ 2) = false := decide_eq_false (by omega)
                    have gwi : decide (2 < (v : Int)) = true := decide_eq_true (by omega)
                    skip
                    by_cases hE : o = [101, 120]
                    · have HX := Lib.hid (show varB o v n 2 c = true from varB_ex hvj hE)
                      subst hE
                      go_wp2_with fail
                      go_roundg (3 - (2 + 1))
                      case measure => have := HJ.out.1; omega
                      case rel =>
                        have hx := HX.out
                        exact ⟨2 + 1, by omega, rfl, by go_num, rfl, fun _ => HJ.out.2.1 (by omega), fun _ => HJ.out.2.2.1 (by omega), fun _ => hx⟩
                    · have gE1 : (o == [101, 120]) = false := beq_false_of_ne hE
                      have gE : (!o == [101, 120]) = true := by rw [gE1]; rfl
                      by_cases hx0 : c < 0
                      · have HX := Lib.hid (show varB o v n 2 c = false by rw [varB_no hvj hE, decide_eq_false (by omega : ¬ 0 ≤ c)]; rfl)
                        have gx : decide (c < 0) = true := decide_eq_true hx0
                        go_wp2_with fail
                        all_goals
                          go_ret
                          exact ⟨congrArg (fun x : Bool => Ending.returned (.bool x)) (by rw [← HF.out, HX.out]; simp : false = B), HB2.out⟩
                      · have gx : decide (c < 0) = false := decide_eq_false hx0
                        by_cases hx1 : n ≤ c
                        · have HX := Lib.hid (show varB o v n 2 c = false by rw [varB_no hvj hE, decide_eq_false (by omega : ¬ c < n), Bool.and_false])
                          have gn : decide (n ≤ c) = true := decide_eq_true hx1
                          go_wp2_with fail
                          all_goals
                            go_ret
                            exact ⟨congrArg (fun x : Bool => Ending.returned (.bool x)) (by rw [← HF.out, HX.out]; simp : false = B), HB2.out⟩
                        · have HX := Lib.hid (show varB o v n 2 c = true by rw [varB_no hvj hE, decide_eq_true (by omega : 0 ≤ c), decide_eq_true (by omega : c < n)]; rfl)
                          have gn : decide (n ≤ c) = false := decide_eq_false hx1
                          go_wp2_with fail
                          go_roundg (3 - (2 + 1))
                          case measure => have := HJ.out.1; omega
                          case rel =>
                            have hx := HX.out
                            exact ⟨2 + 1, by omega, rfl, by go_num, rfl, fun _ => HJ.out.2.1 (by omega), fun _ => HJ.out.2.2.1 (by omega), fun _ => hx⟩
                · have HE : (if o = oEx then decide (a = n) && decide (n < 6) else true) = B := by
                    rw [← HF.out, HJ.out.2.1 (by omega), HJ.out.2.2.1 (by omega), HJ.out.2.2.2 (by omega)]
                    rfl
                  by_cases hE : o = [101, 120]
                  · rw [if_pos (show o = oEx from hE)] at HE
                    subst hE
                    by_cases ha : a = n
                    · by_cases h6 : n < 6
                      · rw [decide_eq_true ha, decide_eq_true h6] at HE
                        have HE' := Lib.hid HE
                        clear HE
                        go_wp2_with fail
                        go_ret
                        exact ⟨congrArg (fun x : Bool => Ending.returned (.bool x)) HE'.out, HB2.out⟩
                      · rw [decide_eq_true ha, decide_eq_false h6] at HE
                        have HE' := Lib.hid HE
                        clear HE
                        go_wp2_with fail
                        go_ret
                        exact ⟨congrArg (fun x : Bool => Ending.returned (.bool x)) HE'.out, HB2.out⟩
                    · rw [decide_eq_false ha] at HE
                      have HE' := Lib.hid HE
                      clear HE
                      go_wp2_with fail
                      go_ret
                      exact ⟨congrArg (fun x : Bool => Ending.returned (.bool x)) HE'.out, HB2.out⟩
                  · rw [if_neg (show ¬ o = oEx from hE)] at HE
                    have HE' := Lib.hid HE
                    clear HE
                    go_wp2_with fail
                    go_ret
                    exact ⟨congrArg (fun x : Bool => Ending.returned (.bool x)) HE'.out, HB2.out⟩
        · have HN' := Lib.hid ((fb_kids a b c m n HSS.out hk).symm.trans HB.out)
          go_wp2_with fail
          all_goals
            go_ret
            exact ⟨congrArg (fun x : Bool => Ending.returned (.bool x)) HN'.out, HB0.out⟩

end Go.Proofs.YtcgjacaemblnmaaDoor
