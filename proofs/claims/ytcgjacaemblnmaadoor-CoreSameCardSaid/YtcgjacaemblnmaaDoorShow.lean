/- The walk over core.Show. -/
import Derived.Test.YtcgjacaemblnmaaDoorIs
import Derived.Test.YtcgjacaemblnmaaDoorItoa
import Derived.Laws.Concat
namespace Go.Proofs.YtcgjacaemblnmaaDoor
open Go Go.RowKit

/-- The text's variables so far. -/
def varV (a b c : Int) (j : Nat) : Int := if j = 0 then a else if j = 1 then b else c
theorem varsTxt_succ (a b c : Int) (j : Nat) (hj : j < 3) : varsTxt (j + 1) a b c = varsTxt j a b c ++ ([32, 120] ++ dec (varV a b c j).toNat) := by
  have : j = 0 ∨ j = 1 ∨ j = 2 := by omega
  rcases this with rfl | rfl | rfl <;> simp [varsTxt, varV, varTxt]
theorem varV_ok {t : Core} {m : Int} {v : Nat} {b : Bool} {k : Nat} (h : fieldsB t m = true) (hs : shapeOf t.op = some (v, b, k)) (hm : 0 ≤ m ∧ m ≤ 6) (j : Nat) (hj : j < v) (hj3 : j < 3) : 0 ≤ varV t.va t.vb t.vc j ∧ varV t.va t.vb t.vc j ≤ 6 := by
  obtain ⟨h0, h1, h2⟩ := fieldsB_vars h hs hm
  have : j = 0 ∨ j = 1 ∨ j = 2 := by omega
  rcases this with rfl | rfl | rfl
  · rw [if_pos hj] at h0
    exact h0
  · rw [if_pos hj] at h1
    exact h1
  · rw [if_pos hj] at h2
    exact h2
theorem isB_parts {o : List UInt8} {a b c m n : Int} {ks : List Core} (h : isB (.node o a b c m ks) n = true) : fieldsB (.node o a b c m ks) n = true ∧ ∀ k ∈ ks, isB k (under o n) = true := by
  unfold isB at h
  rw [Bool.and_eq_true] at h
  refine ⟨h.1, fun k hk => ?_⟩
  have h2 := h.2
  rw [isL_any] at h2
  simp at h2
  exact h2 k hk
theorem showL_take : ∀ (ks : List Core) (k : Nat) (hk : k < ks.length), showL (ks.take (k + 1)) = showL (ks.take k) ++ ([32] ++ showT ks[k])
  | x :: r, 0, _ => by simp [showL]
  | x :: r, k + 1, hk => by
    have h := showL_take r k (by simpa using hk)
    simp only [List.take_succ_cons, showL, List.getElem_cons_succ] at h ⊢
    rw [h]
    simp

theorem showL_take_le (ks : List Core) (k : Nat) : (showL (ks.take k)).length ≤ (showL ks).length := by
  induction ks generalizing k with
  | nil => simp
  | cons x r ih =>
    cases k with
    | zero => simp [showL]
    | succ k =>
      have := ih k
      simp only [List.take_succ_cons, showL, List.length_append]
      omega
theorem dec_len : ∀ n : Fin 21, (dec n.val).length ≤ 2 := by decide
theorem dec_le {v : Int} (h0 : 0 ≤ v) (h1 : v ≤ 20) : (dec v.toNat).length ≤ 2 := dec_len ⟨v.toNat, by omega⟩
theorem op_len : ∀ e ∈ shapes, e.1.length ≤ 5 := by decide
theorem vars_len {t : Core} {m : Int} {v : Nat} {b : Bool} {k : Nat} (h : fieldsB t m = true) (hs : shapeOf t.op = some (v, b, k)) (hm : 0 ≤ m ∧ m ≤ 6) (hv : v ≤ 3) : (varsTxt v t.va t.vb t.vc).length ≤ 12 := by
  have step : ∀ j, j ≤ v → (varsTxt j t.va t.vb t.vc).length ≤ 4 * j := by
    intro j
    induction j with
    | zero => intro _; simp [varsTxt]
    | succ j ih =>
      intro hj
      have h1 := ih (by omega)
      have h2 := varV_ok h hs hm j (by omega) (by omega)
      have h3 := dec_le h2.1 (by omega)
      rw [varsTxt_succ _ _ _ _ (by omega)]
      simp only [List.length_append, List.length_cons, List.length_nil]
      omega
  have := step v (Nat.le_refl _)
  omega
theorem showT_len : ∀ (t : Core) (n : Int), 0 ≤ n → n ≤ 6 → isB t n = true → (showT t).length + 1 ≤ 23 * nodes t := by
  intro t
  induction t using Core.ind with
  | h o a b c m ks ih =>
    intro n hn0 hn1 hv
    obtain ⟨hf, hkk⟩ := isB_parts hv
    obtain ⟨⟨v, num, kk⟩, hs⟩ := fieldsB_shape hf
    have hu : 0 ≤ under o n ∧ under o n ≤ 6 := by
      unfold under
      split
      · rename_i ho
        subst ho
        have := fb_ex hf
        omega
      · omega
    have h1 := vars_len hf hs ⟨hn0, hn1⟩ (var_all _ (shapeOf_mem hs)).1
    have h2 : o.length ≤ 5 := op_len _ (shapeOf_mem hs)
    have h3 : (numTxt num m).length ≤ 3 := by
      cases num with
      | false => simp [numTxt]
      | true =>
        have h := fieldsB_num hf hs
        have := dec_le h.1 h.2
        simp only [Core.vn] at this
        simp only [numTxt, if_true, List.length_append, List.length_cons, List.length_nil]
        omega
    have h4 : (showL ks).length ≤ 23 * nodesL ks := by
      clear hf hs h1 h2 h3 hv
      induction ks with
      | nil => simp [showL]
      | cons x r ihr =>
        have e1 := ih x (by simp) (under o n) hu.1 hu.2 (hkk x (by simp))
        have e2 := ihr (fun k hk => ih k (by simp [hk])) (fun k hk => hkk k (by simp [hk]))
        simp only [showL, List.length_append, List.length_cons, List.length_nil, nodesL]
        omega
    rw [showT, headTxt, show shapeOf o = some (v, num, kk) from hs, nodes_node]
    simp only [Core.va, Core.vb, Core.vc] at h1
    simp only [List.length_append, List.length_cons, List.length_nil]
    omega
theorem nodes_kid : ∀ (ks : List Core) (k : Core), k ∈ ks → nodes k ≤ nodesL ks
  | x :: r, k, h => by
    rcases List.mem_cons.1 h with rfl | h
    · simp only [nodesL]
      omega
    · have := nodes_kid r k h
      simp only [nodesL]
      omega
theorem size_of {T : ByteArray} {X : List UInt8} (h : T.data.toList = X) : T.size = X.length := by
  rw [← h, Array.length_toList]
  rfl
theorem bytes_of {T : ByteArray} {X : List UInt8} (h : T.data.toList = X) : T = ⟨X.toArray⟩ := by
  subst h
  cases T with
  | mk d => exact congrArg ByteArray.mk (by rw [Array.toArray_toList])
/-- Two texts, one behind the other, where the lengths allow. -/
theorem add_ex (a b : ByteArray) {X Y : List UInt8} (ha : a.data.toList = X) (hb : b.data.toList = Y) (h : X.length + Y.length ≤ 100000000) :
    ∃ T : ByteArray, (∀ w : World, (Op.stringOp .add a b).run Tryd.prog w = .ok (.string T) w) ∧ T.data.toList = X ++ Y := by
  refine ⟨a ++ b, fun w => run_string_add_sum w a b ?_, ?_⟩
  · rw [size_of ha, size_of hb]
    omega
  · rw [ByteArray.data_append, Array.toList_append, ha, hb]

set_option maxHeartbeats 2000000 in
theorem show_any : ∀ (t : Core) (A : Option Addr) (cap : Nat) (n : Int) (w : World), CoreAt w w.heap.size t A cap → 0 ≤ n → n ≤ 6 → isB t n = true → nodes t ≤ 2000 →
    Calls Tryd.prog 19 #[coreW t.op t.va t.vb t.vc t.vn t.kids.length A cap] w fun e w' => e = .returned (.string ⟨(showT t).toArray⟩) ∧ Below w.heap.size w w' := by
  intro t
  induction t using Core.ind with
  | h o a b c m ks ih =>
    intro A cap n w h hn0 hn1 hv hN
    have hRl := showT_len _ n hn0 hn1 hv
    obtain ⟨hf, hkk⟩ := isB_parts hv
    obtain ⟨⟨v, num, kk⟩, hs⟩ := fieldsB_shape hf
    have hu : 0 ≤ under o n ∧ under o n ≤ 6 := by
      unfold under
      split
      · rename_i ho
        subst ho
        have := fb_ex hf
        omega
      · omega
    have hol : o.length ≤ 5 := op_len _ (shapeOf_mem hs)
    have hRl2 : (showT (.node o a b c m ks)).length ≤ 46000 := by omega
    clear hRl
    have hNK : ∀ k ∈ ks, nodes k ≤ 2000 := fun k hk => by
      have h1 := nodes_kid ks k hk
      rw [nodes_node] at hN
      omega
    have hlk := fieldsB_kids hf hs
    have hv3 : v ≤ 3 := (var_all _ (shapeOf_mem hs)).1
    have hsd : shapeD o = (v, num, kk) := by
      unfold shapeD
      rw [show shapeOf o = some (v, num, kk) from hs]
      rfl
    have hl := h.len
    simp only [Core.kids] at hl
    obtain ⟨hl1, hl2, _⟩ := hl
    have IH := Lib.hid (fun (k : Core) (hk : k ∈ ks) A cap W hC => ih k hk A cap (under o n) W hC hu.1 hu.2 (hkk k hk) (hNK k hk))
    have HC := Lib.hid h
    have HVV := Lib.hid (fun j hj hj3 => varV_ok hf hs ⟨hn0, hn1⟩ j hj hj3)
    simp only [Core.va, Core.vb, Core.vc] at HVV
    have HNUM := Lib.hid (fun (hnum : num = true) => fieldsB_num hf (hnum ▸ hs))
    simp only [Core.vn] at HNUM
    have HT := Lib.hid (show showT (.node o a b c m ks) = [40] ++ o ++ (varsTxt v a b c ++ numTxt num m) ++ showL ks ++ [41] by
      rw [showT, headTxt, show shapeOf o = some (v, num, kk) from hs])
    generalize showT (.node o a b c m ks) = R at *
    clear h ih hf hkk hs hv hu hlk hNK hN
    have HSD := Lib.hid hsd
    clear hsd
    have HRL := Lib.hid hRl2
    clear hRl2
    obtain ⟨T0, hadd0, hT0⟩ := add_ex ⟨#[40]⟩ ⟨o.toArray⟩ (X := [40]) (Y := o) rfl rfl (by simp; omega)
    have HT0 := Lib.hid hT0
    clear hT0
    simp only [coreW, Core.op, Core.va, Core.vb, Core.vc, Core.vn, Core.kids]
    go_enter Tryd.func19, Tryd.ntmps19
    go_upto_region 1 with fail
    go_cut [3] from 10 to 13 (fun s3 wx => ∃ p : Nat, s3 = .pointer (some ⟨p, 0, none⟩) ∧ w.heap.size < p ∧ Below w.heap.size w wx ∧ w.heap.size < wx.heap.size ∧ wx.cell? ⟨p, 0, none⟩ = some (.int .i64 (shapeD o).1) ∧ wx.cell? ⟨p, 1, none⟩ = some (.bool (shapeD o).2.1) ∧ wx.cell? ⟨w.heap.size, 0, none⟩ = some (.string ⟨o.toArray⟩) ∧ wx.cell? ⟨w.heap.size, 1, none⟩ = some (.int .i64 a) ∧ wx.cell? ⟨w.heap.size, 2, none⟩ = some (.int .i64 b) ∧ wx.cell? ⟨w.heap.size, 3, none⟩ = some (.int .i64 c) ∧ wx.cell? ⟨w.heap.size, 4, none⟩ = some (.int .i64 m) ∧ wx.cell? ⟨w.heap.size, 5, none⟩ = some (.slice A ks.length cap))
    case first =>
      have HH := Lib.hid (fun W => shapes_any W)
      go_region_with ((
        go_at_call 34
        refine (HH.out _).mono ?_
        rintro e w1 ⟨rfl, hM, hb, hsz⟩
        simp at hM
        simp at hsz
        have hk0 := (hb.cell (p := ⟨w.heap.size, 0, none⟩) (by simp <;> omega)).trans (by go_keep : _ = some (.string ⟨o.toArray⟩))
        have hk0' := (World.cell?_alloc_lt w1 (.cells #[.int .i64 0, .bool false, .int .i64 0] 43) ⟨w.heap.size, 0, none⟩ (World.block_lt_of_cell? _ _ hk0)).trans hk0
        have hk1 := (hb.cell (p := ⟨w.heap.size, 1, none⟩) (by simp <;> omega)).trans (by go_keep : _ = some (.int .i64 a))
        have hk2 := (hb.cell (p := ⟨w.heap.size, 2, none⟩) (by simp <;> omega)).trans (by go_keep : _ = some (.int .i64 b))
        have hk3 := (hb.cell (p := ⟨w.heap.size, 3, none⟩) (by simp <;> omega)).trans (by go_keep : _ = some (.int .i64 c))
        have hk4 := (hb.cell (p := ⟨w.heap.size, 4, none⟩) (by simp <;> omega)).trans (by go_keep : _ = some (.int .i64 m))
        have hk5 := (hb.cell (p := ⟨w.heap.size, 5, none⟩) (by simp <;> omega)).trans (by go_keep : _ = some (.slice A ks.length cap))
        try (
          have hM' : MapAt w1 (w.heap.size + 1 + 1) shapeL := hM
          have hp0 := (hb.cell (p := ⟨w.heap.size + 1, 0, none⟩) (by simp <;> omega)).trans (by go_keep : _ = some (.int .i64 0))
          have hp1 := (hb.cell (p := ⟨w.heap.size + 1, 1, none⟩) (by simp <;> omega)).trans (by go_keep : _ = some (.bool false))
          have hp2 := (hb.cell (p := ⟨w.heap.size + 1, 2, none⟩) (by simp <;> omega)).trans (by go_keep : _ = some (.int .i64 0))
          have hf0 := (hb.frozen (p := ⟨w.heap.size + 1, 0, none⟩) (by simp <;> omega)).trans (by simp : _ = false)
          have hf1 := (hb.frozen (p := ⟨w.heap.size + 1, 1, none⟩) (by simp <;> omega)).trans (by simp : _ = false)
          have hf2 := (hb.frozen (p := ⟨w.heap.size + 1, 2, none⟩) (by simp <;> omega)).trans (by simp : _ = false))
        have hla := look_any hM o false
        have hlb := look_any (hM.alloc hsz (.cells #[.int .i64 0, .bool false, .int .i64 0] 43)) o false))
      all_goals
        go_wp2_with fail
        go_meet
        case rel =>
          have hB1 : Below w.heap.size w w1 := (Below.trans (by first | exact ((Below.refl _ _).alloc (Nat.le_refl _) _).drew | exact (((Below.refl _ _).alloc (Nat.le_refl _) _).alloc (by simp) _).drew) (hb.mono (by simp <;> omega)))
          clear hla hlb hk0' hb hM
          refine ⟨_, rfl, by omega, ?_, ?_, ?_, ?_, ?_, ?_, ?_, ?_, ?_, ?_⟩
          · first | exact hB1.alloc hB1.size _ | exact ((hB1.setCell (by simp) _).setCell (by simp) _).setCell (by simp) _
          · simp
            omega
          all_goals first | go_keep | exact (set3 hp0 hp1 hp2).1 | exact (set3 hp0 hp1 hp2).2.1 | exact (set3 hp0 hp1 hp2).2.2
    case rest =>
      obtain ⟨p, rfl, hp, hb, hsz, p0, p1, k0, k1, k2, k3, k4, k5⟩ := hcut
      rw [HSD.out] at p0 p1
      clear HSD
      have HB0 := Lib.hid hb
      clear hb
      have hv0 := fun W => vars_any o a b c m ks.length A cap W
      simp only [coreW] at hv0
      have HV := Lib.hid hv0
      clear hv0
      go_upto_region 4 with (go_at_call 35; refine (HV.out _).mono ?_; rintro e w2 ⟨rfl, hb2⟩)
      have HB2 := Lib.hid (HB0.out.trans (hb2.mono (Nat.le_of_lt hsz)))
      have q00 := (hb2.cell (p := ⟨p, 0, none⟩) (World.block_lt_of_cell? _ _ p0)).trans p0
      have q0 := (World.cell?_alloc_lt w2 (.cells #[.int .i64 a, .int .i64 b, .int .i64 c] 46) ⟨p, 0, none⟩ (World.block_lt_of_cell? _ _ q00)).trans q00
      have q10 := (hb2.cell (p := ⟨p, 1, none⟩) (World.block_lt_of_cell? _ _ p1)).trans p1
      have q1 := (World.cell?_alloc_lt w2 (.cells #[.int .i64 a, .int .i64 b, .int .i64 c] 46) ⟨p, 1, none⟩ (World.block_lt_of_cell? _ _ q10)).trans q10
      have r40 := (hb2.cell (p := ⟨w.heap.size, 4, none⟩) (World.block_lt_of_cell? _ _ k4)).trans k4
      have r4 := (World.cell?_alloc_lt w2 (.cells #[.int .i64 a, .int .i64 b, .int .i64 c] 46) ⟨w.heap.size, 4, none⟩ (World.block_lt_of_cell? _ _ r40)).trans r40
      have r50 := (hb2.cell (p := ⟨w.heap.size, 5, none⟩) (World.block_lt_of_cell? _ _ k5)).trans k5
      have r5 := (World.cell?_alloc_lt w2 (.cells #[.int .i64 a, .int .i64 b, .int .i64 c] 46) ⟨w.heap.size, 5, none⟩ (World.block_lt_of_cell? _ _ r50)).trans r50
      have harr : ∀ j, j < 3 → (w2.alloc (.cells #[.int .i64 a, .int .i64 b, .int .i64 c] 46)).cell? ⟨w2.heap.size, j, none⟩ = some (.int .i64 (varV a b c j)) := by
        intro j hj
        have : j = 0 ∨ j = 1 ∨ j = 2 := by omega
        rcases this with rfl | rfl | rfl <;> simp [varV]
      have HARR := Lib.hid harr
      clear p0 p1 k0 k1 k2 k3 k4 k5 hb2 harr hadd0 q00 q10 r40 r50
      have hv3' : (v : Int) ≤ 3 := by omega
      go_wp2_with fail
      go_loopg [4, 23] v (fun r s4 s23 wr => ∃ (j : Nat) (T : ByteArray), j ≤ v ∧ r = v - j ∧ s4 = .string T ∧ Hid (T.data.toList = [40] ++ o ++ varsTxt j a b c) ∧ Hid (T.size ≤ 6 + 4 * j) ∧ s23 = .int .i64 (j : Int) ∧ wr = w2.alloc (.cells #[.int .i64 a, .int .i64 b, .int .i64 c] 46))
      case atStart => exact ⟨0, T0, Nat.zero_le _, rfl, rfl, Lib.hid (by rw [HT0.out]; simp [varsTxt]), Lib.hid (by rw [size_of HT0.out]; simp; omega), rfl, rfl⟩
      case round =>
        obtain ⟨j, T, hj, hr, rfl, HTj, HSj, rfl, rfl⟩ := hrel
        have HRr := Lib.hid hr
        clear hr
        by_cases hlt : j < v
        · have hvv := HVV.out j hlt (by omega)
          have hc := HARR.out j (by omega)
          have HV1 := Lib.hid (varsTxt_succ a b c j (by omega))
          generalize varV a b c j = x at *
          obtain ⟨i, rfl⟩ := Int.eq_ofNat_of_zero_le hvv.1
          have hi : i < 21 := by omega
          rw [Int.toNat_natCast] at HV1
          have hd := dec_len ⟨i, hi⟩
          simp only at hd
          have HIT := Lib.hid (fun W => itoa_any i hi W)
          have hsz1 := HSj.out
          obtain ⟨S1, hadd1, hS1⟩ := add_ex ⟨#[32, 120]⟩ ⟨(dec i).toArray⟩ (X := [32, 120]) (Y := dec i) rfl rfl (by simp; omega)
          obtain ⟨T', hadd2, hT'⟩ := add_ex T S1 rfl hS1 (by rw [← size_of (T := T) rfl]; simp; omega)
          have HT' := Lib.hid (hT'.trans (by rw [HTj.out]))
          have HS' := Lib.hid (show T'.size ≤ 6 + 4 * (j + 1) by
            rw [size_of hT']
            simp only [List.length_append, List.length_cons, List.length_nil]
            rw [← size_of (T := T) rfl]
            omega)
          clear hT' hS1 hvv hsz1
          have g1 : decide ((j : Int) < (v : Int)) = true := decide_eq_true (by omega)
          go_wp2_with (
            go_at_call 36
            refine (HIT.out _).mono ?_
            rintro e w9 ⟨rfl, rfl⟩)
          clear hadd1 hadd2 hc
          go_roundg (v - (j + 1))
          case measure => have := HRr.out; omega
          case rel => exact ⟨j + 1, T', by omega, rfl, rfl, Lib.hid (by rw [HT'.out, HV1.out]; simp), HS', by go_num, rfl⟩
        · have g1 : decide ((j : Int) < (v : Int)) = false := decide_eq_false (by omega)
          have hjv : j = v := by omega
          subst hjv
          clear hlt hj
          cases num with
          | false =>
            have HH : Hid (T.data.toList = [40] ++ o ++ (varsTxt j a b c ++ numTxt false m)) := Lib.hid (by rw [HTj.out]; simp [numTxt])
            go_wp2_with fail
            go_loopg [4, 44] ks.length (fun r s4 s44 wr => ∃ (k : Nat) (T : ByteArray), k ≤ ks.length ∧ r = ks.length - k ∧ s4 = .string T ∧ Hid (T.data.toList = [40] ++ o ++ (varsTxt j a b c ++ numTxt false m) ++ showL (ks.take k)) ∧ s44 = .int .i64 (k : Int) ∧ Below w.heap.size w wr)
            case atStart => exact ⟨0, T, Nat.zero_le _, rfl, rfl, Lib.hid (by rw [HH.out]; simp [showL]), rfl, HB2.out.alloc HB2.out.size _⟩
            case round =>
              obtain ⟨k, T, hk, hr, rfl, HTk, rfl, hb⟩ := hrel
              have HRr := Lib.hid hr
              have HB := Lib.hid hb
              have hs1 := hb.size
              clear hr hb
              by_cases hlt : k < ks.length
              · obtain ⟨bb, off, A', cap', rfl, hlo, hcells, hkid⟩ := HC.out.kid k hlt
                simp only [Core.kids] at hcells hkid
                have HS := Lib.hid (showL_take ks k hlt)
                have HSL := Lib.hid (showL_take_le ks (k + 1))
                have HI := Lib.hid (IH.out ks[k] (List.getElem_mem hlt))
                generalize ks[k] = x at *
                cases x with
                | node o' a' b' c' n' ks' =>
                  obtain ⟨c0, c1, c2, c3, c4, c5⟩ := kid_cells hlo hcells HB.out
                  have HK := Lib.hid hkid
                  clear hcells hkid IH
                  generalize showT (.node o' a' b' c' n' ks') = Y at *
                  have g1 : decide ((k : Int) < (ks.length : Int)) = true := decide_eq_true (by omega)
                  have hlen : ([32] : List UInt8).length + Y.length + T.data.toList.length ≤ 46000 := by
                    have e1 := HS.out
                    have e2 := HSL.out
                    have e3 := congrArg List.length HT.out
                    have e4 := HRL.out
                    rw [HTk.out]
                    rw [e1] at e2
                    simp only [List.length_append, List.length_cons, List.length_nil] at e2 e3 ⊢
                    omega
                  obtain ⟨S1, hadd3, hS1⟩ := add_ex ⟨#[32]⟩ ⟨Y.toArray⟩ (X := [32]) (Y := Y) rfl rfl (by omega)
                  obtain ⟨T', hadd4, hT'⟩ := add_ex T S1 rfl hS1 (by simp only [List.length_append]; omega)
                  have HT' := Lib.hid hT'
                  clear hT' hlen hS1
                  go_wp2_with (
                    go_at_call 19
                    refine (HI.out A' cap' _ (HK.out.later (HB.out.alloc hs1 _) (by simp <;> omega))).mono ?_
                    rintro e w5 ⟨rfl, hb5⟩
                    have HB5 := Lib.hid ((HB.out.alloc hs1 (.cells #[.string ⟨o'.toArray⟩, .int .i64 a', .int .i64 b', .int .i64 c', .int .i64 n', .slice A' ks'.length cap'] 24)).trans (hb5.mono (by simp <;> omega)))
                    clear hb5)
                  clear hadd3 hadd4
                  go_roundg (ks.length - (k + 1))
                  case measure => have := HRr.out; omega
                  case rel => exact ⟨k + 1, T', by omega, rfl, rfl, Lib.hid (by rw [HT'.out, HTk.out, HS.out]; simp), by go_num, HB5.out⟩
              · have g1 : decide ((k : Int) < (ks.length : Int)) = false := decide_eq_false (by omega)
                have HTe := Lib.hid (HTk.out.trans (by rw [List.take_of_length_le (by omega)]))
                obtain ⟨T', hadd5, hT'⟩ := add_ex T ⟨#[41]⟩ HTe.out (Y := [41]) rfl (by
                  have e3 := congrArg List.length HT.out
                  have e4 := HRL.out
                  simp only [List.length_append, List.length_cons, List.length_nil] at e3 ⊢
                  omega)
                have HF := Lib.hid (bytes_of (hT'.trans HT.out.symm))
                clear hT'
                go_wp2_with fail
                go_ret
                exact ⟨congrArg (fun x : ByteArray => Ending.returned (.string x)) HF.out, HB.out⟩
          | true =>
            have hnum := HNUM.out rfl
            obtain ⟨mi, rfl⟩ := Int.eq_ofNat_of_zero_le hnum.1
            have hmi : mi < 21 := by omega
            have hd := dec_len ⟨mi, hmi⟩
            simp only at hd
            have HIT := Lib.hid (fun W => itoa_any mi hmi W)
            obtain ⟨S1, hadd1, hS1⟩ := add_ex ⟨#[32]⟩ ⟨(dec mi).toArray⟩ (X := [32]) (Y := dec mi) rfl rfl (by simp; omega)
            obtain ⟨T2, hadd2, hT2⟩ := add_ex T S1 HTj.out hS1 (by
              have := congrArg List.length HT.out
              have := HRL.out
              simp [numTxt] at *
              omega)
            have HH : Hid (T2.data.toList = [40] ++ o ++ (varsTxt j a b c ++ numTxt true mi)) := Lib.hid (by rw [hT2]; simp [numTxt])
            clear hS1 hT2 hnum
            go_wp2_with (
              go_at_call 36
              refine (HIT.out _).mono ?_
              rintro e w9 ⟨rfl, rfl⟩)
            clear hadd1 hadd2
            go_loopg [4, 44] ks.length (fun r s4 s44 wr => ∃ (k : Nat) (T : ByteArray), k ≤ ks.length ∧ r = ks.length - k ∧ s4 = .string T ∧ Hid (T.data.toList = [40] ++ o ++ (varsTxt j a b c ++ numTxt true (mi : Int)) ++ showL (ks.take k)) ∧ s44 = .int .i64 (k : Int) ∧ Below w.heap.size w wr)
            case atStart => exact ⟨0, T2, Nat.zero_le _, rfl, rfl, Lib.hid (by rw [HH.out]; simp [showL]), rfl, HB2.out.alloc HB2.out.size _⟩
            case round =>
              obtain ⟨k, T, hk, hr, rfl, HTk, rfl, hb⟩ := hrel
              have HRr := Lib.hid hr
              have HB := Lib.hid hb
              have hs1 := hb.size
              clear hr hb
              by_cases hlt : k < ks.length
              · obtain ⟨bb, off, A', cap', rfl, hlo, hcells, hkid⟩ := HC.out.kid k hlt
                simp only [Core.kids] at hcells hkid
                have HS := Lib.hid (showL_take ks k hlt)
                have HSL := Lib.hid (showL_take_le ks (k + 1))
                have HI := Lib.hid (IH.out ks[k] (List.getElem_mem hlt))
                generalize ks[k] = x at *
                cases x with
                | node o' a' b' c' n' ks' =>
                  obtain ⟨c0, c1, c2, c3, c4, c5⟩ := kid_cells hlo hcells HB.out
                  have HK := Lib.hid hkid
                  clear hcells hkid IH
                  generalize showT (.node o' a' b' c' n' ks') = Y at *
                  have g1 : decide ((k : Int) < (ks.length : Int)) = true := decide_eq_true (by omega)
                  have hlen : ([32] : List UInt8).length + Y.length + T.data.toList.length ≤ 46000 := by
                    have e1 := HS.out
                    have e2 := HSL.out
                    have e3 := congrArg List.length HT.out
                    have e4 := HRL.out
                    rw [HTk.out]
                    rw [e1] at e2
                    simp only [List.length_append, List.length_cons, List.length_nil] at e2 e3 ⊢
                    omega
                  obtain ⟨S1, hadd3, hS1⟩ := add_ex ⟨#[32]⟩ ⟨Y.toArray⟩ (X := [32]) (Y := Y) rfl rfl (by omega)
                  obtain ⟨T', hadd4, hT'⟩ := add_ex T S1 rfl hS1 (by simp only [List.length_append]; omega)
                  have HT' := Lib.hid hT'
                  clear hT' hlen hS1
                  go_wp2_with (
                    go_at_call 19
                    refine (HI.out A' cap' _ (HK.out.later (HB.out.alloc hs1 _) (by simp <;> omega))).mono ?_
                    rintro e w5 ⟨rfl, hb5⟩
                    have HB5 := Lib.hid ((HB.out.alloc hs1 (.cells #[.string ⟨o'.toArray⟩, .int .i64 a', .int .i64 b', .int .i64 c', .int .i64 n', .slice A' ks'.length cap'] 24)).trans (hb5.mono (by simp <;> omega)))
                    clear hb5)
                  clear hadd3 hadd4
                  go_roundg (ks.length - (k + 1))
                  case measure => have := HRr.out; omega
                  case rel => exact ⟨k + 1, T', by omega, rfl, rfl, Lib.hid (by rw [HT'.out, HTk.out, HS.out]; simp), by go_num, HB5.out⟩
              · have g1 : decide ((k : Int) < (ks.length : Int)) = false := decide_eq_false (by omega)
                have HTe := Lib.hid (HTk.out.trans (by rw [List.take_of_length_le (by omega)]))
                obtain ⟨T', hadd5, hT'⟩ := add_ex T ⟨#[41]⟩ HTe.out (Y := [41]) rfl (by
                  have e3 := congrArg List.length HT.out
                  have e4 := HRL.out
                  simp only [List.length_append, List.length_cons, List.length_nil] at e3 ⊢
                  omega)
                have HF := Lib.hid (bytes_of (hT'.trans HT.out.symm))
                clear hT'
                go_wp2_with fail
                go_ret
                exact ⟨congrArg (fun x : ByteArray => Ending.returned (.string x)) HF.out, HB.out⟩
end Go.Proofs.YtcgjacaemblnmaaDoor
