/- Parts of the proof: LawTU. -/
import Derived.ArgAppend
import Derived.Deep.CutBlock
import Derived.Laws.Bits128
import Derived.Laws.IdiomStrings
import Derived.Test.YteikakoheibnjaaGreatDoorM38
namespace Go.Proofs.YteikakoheibnjaaGreatDoor
open Go Go.RowKit

theorem i64_and65535 (n : Int) : bits .and .i64 n 65535 = n % 65536 := by
  have h127 : (BitVec.ofInt 64 65535).toNat = 2 ^ 16 - 1 := by decide
  have key : (BitVec.ofInt 64 n &&& BitVec.ofInt 64 65535).toNat = (n % ((2 ^ 64 : Nat) : Int)).toNat % 2 ^ 16 := by
    rw [BitVec.toNat_and, BitVec.toNat_ofInt, h127, Nat.and_two_pow_sub_one_eq_mod]
  show IntKind.i64.wrap ((BitVec.ofInt 64 n &&& BitVec.ofInt 64 65535).toNat : Nat) = n % 65536
  rw [key, IntKind.wrap_i64]
  omega
theorem addr_add0 (g j : Nat) : (⟨g, 0, none⟩ : Addr).add j = ⟨g, j, none⟩ := by
  unfold Addr.add
  split
  · next h => subst h; rfl
  · simp
/-- A text as bytes. -/
theorem str_bytes (W : World) (B : List UInt8) (_hB : B.length ≤ 1000000) : ∃ (cap : Nat) (W2 : World), (convert 9 33 (.string ⟨B.toArray⟩)).run Tryz.prog W = .ok (.slice (some ⟨W.heap.size, 0, none⟩) B.length cap) W2 ∧ Below W.heap.size W W2 ∧ W.heap.size < W2.heap.size ∧
    (∀ j (hj : j < B.length), W2.cell? ⟨W.heap.size, j, none⟩ = some (.int .u8 (B[j].toNat : Int))) ∧ B.length ≤ cap ∧ (∀ j, j < cap → (W2.cell? ⟨W.heap.size, j, none⟩).isSome = true ∧ W2.frozen? ⟨W.heap.size, j, none⟩ = false) := by
  have hsz : ByteArray.size ⟨B.toArray⟩ = B.length := by show B.toArray.size = _; simp
  have hr := run_bytes_of_string (P := Tryz.prog) W 9 33 5 ⟨B.toArray⟩ (by kernel_rfl) (by kernel_rfl) (by kernel_rfl)
  have hge := grownCap_ge W (ByteArray.size ⟨B.toArray⟩) 0 5
  rw [hsz] at hr hge
  generalize grownCap W B.length 0 5 = cap at *
  have hrs : (bytesRow ⟨B.toArray⟩ cap).size = cap := by
    unfold bytesRow
    rw [Array.size_append, Array.size_map, Array.size_replicate, hsz]
    have : (ByteArray.mk B.toArray).data.size = B.length := hsz
    omega
  refine ⟨cap, _, hr, (Below.refl _ _).drew.alloc (Nat.le_refl _) _, by simp, fun j hj => ?_, hge, fun j hj => ?_⟩
  · refine (World.cell?_alloc_mark W.drew _ _ _ j).trans ((bytesRow_at _ _ j (by show j < B.toArray.size; simpa using hj)).trans ?_)
    simp
  · constructor
    · refine Option.isSome_iff_exists.2 ⟨(bytesRow ⟨B.toArray⟩ cap)[j]'(by omega), ?_⟩
      refine (World.cell?_alloc_mark W.drew _ _ _ j).trans ?_
      exact Array.getElem?_eq_getElem _
    · refine (World.frozen?_alloc_mark W.drew _ _ _ _ j).trans ?_
      rw [hrs, decide_eq_false (show ¬ cap ≤ j by omega)]
      rfl
theorem cell_setCell_same {W : World} {g o : Nat} {u : Value} (h : (W.cell? ⟨g, o, none⟩).isSome = true) : (W.setCell ⟨g, o, none⟩ u).cell? ⟨g, o, none⟩ = some u := by
  exact World.cell?_setCell_same' W ⟨g, o, none⟩ u h
theorem wpList_named {P : Program} {ops : Array Oper} {Q : Exit → Act → World → Prop} {rest : List Oper} {a : Act} {W : World} (F : World → Prop) (hF : F W) (h : ∀ W2, F W2 → wpList P ops Q rest a W2) : wpList P ops Q rest a W := h W hF
theorem bytes_later {W W2 : World} {g : Nat} {T : List UInt8} (h : ∀ j (hj : j < T.length), W.cell? ⟨g, j, none⟩ = some (.int .u8 (T[j].toNat : Int))) (hb : Below W.heap.size W W2) : ∀ j (hj : j < T.length), W2.cell? ⟨g, j, none⟩ = some (.int .u8 (T[j].toNat : Int)) := fun j hj =>
  (hb.cell (p := ⟨g, j, none⟩) (World.block_lt_of_cell? _ _ (h j hj))).trans (h j hj)
theorem bytes_snoc {W : World} {g : Nat} {B : List UInt8} {c : UInt8} (h : ∀ j (hj : j < B.length), W.cell? ⟨g, j, none⟩ = some (.int .u8 (B[j].toNat : Int))) (hc : W.cell? ⟨g, B.length, none⟩ = some (.int .u8 (c.toNat : Int))) :
    ∀ j (hj : j < (B ++ [c]).length), W.cell? ⟨g, j, none⟩ = some (.int .u8 ((B ++ [c])[j].toNat : Int)) := fun j hj => by
  rcases Nat.lt_or_ge j B.length with hlt | hge
  · rw [h j hlt, List.getElem_append_left hlt]
  · have e : j = B.length := by rw [List.length_append] at hj; simp at hj; omega
    subst e
    rw [hc]
    simp
def byteVs (l : List UInt8) : List Value := l.map fun b => .int .u8 (b.toNat : Int)
theorem tinf_u8 : (Tryz.prog.info? 5).map (fun i => (i.zero, i.size, i.bytes)) = some (some (.int .u8 0), 1, 1) := by kernel_rfl
theorem tund_bytes : Tryz.prog.underlying 33 = some (.slice 5) := by kernel_rfl
/-- Bytes as a text. -/
theorem bytes_str {W : World} {g cap : Nat} {T : List UInt8} (h : ∀ j (hj : j < T.length), W.cell? ⟨g, j, none⟩ = some (.int .u8 (T[j].toNat : Int))) : (convert 33 9 (.slice (some ⟨g, 0, none⟩) T.length cap)).run Tryz.prog W = .ok (.string ⟨T.toArray⟩) W :=
  run_convert_bytes_back W 33 9 5 ⟨g, 0, none⟩ cap T (by kernel_rfl) (by kernel_rfl) (by kernel_rfl) fun j hj => by rw [addr_add0]; exact h j hj
set_option maxRecDepth 100000 in
set_option maxHeartbeats 8000000 in
theorem lawTurned_any {w : World} {r : ResP} {L : ResL} (at_ : Int) (c : UInt8) (way : Int) (h : ResAt w w.heap.size r L) (hT : TTab w) :
    Calls Tryz.prog 6 #[resT r L, .int .i64 at_, .int .u8 (c.toNat : Nat), .int .i64 way] w fun e w' => e = .returned (.bool true) ∧ Below w.heap.size w w' := by
  show Calls Tryz.prog 6 #[resW r.tag r.err r.at_ r.model.length r.counter.length L, .int .i64 at_, .int .u8 (c.toNat : Nat), .int .i64 way] w _
  have HLG := Lib.hid (fun W (hb : Below w.heap.size w W) => (show Calls Tryz.prog 7 #[resW r.tag r.err r.at_ r.model.length r.counter.length L] W _ from long_any (h.later hb hb.size)))
  have HRI := Lib.hid (fun W (hb : Below w.heap.size w W) => (show Calls Tryz.prog 9 #[resW r.tag r.err r.at_ r.model.length r.counter.length L] W _ from ris_any (h.later hb hb.size) (hT.below hb).t8))
  have HRT := Lib.hid (fun W (hb : Below w.heap.size w W) => (show Calls Tryz.prog 11 #[resW r.tag r.err r.at_ r.model.length r.counter.length L] W _ from rtext_any (h.later hb hb.size) (hT.below hb).t8))
  have HKN := Lib.hid (fun W (hb : Below w.heap.size w W) => tknown_any (hT.below hb))
  have HTT := Lib.hid (fun W (hb : Below w.heap.size w W) => hT.below hb)
  have HB0 := Lib.hid ((Below.refl w.heap.size w).alloc (Nat.le_refl _) (boxR r.tag r.err r.at_ r.model.length r.counter.length L))
  have HX0 := Lib.hid (lblkNew w 25 #[.int .i64 r.tag, .int .i64 r.err, .int .i64 r.at_, .slice L.Am r.model.length L.cm, .slice L.Ac r.counter.length L.cc])
  cases hV : isB r with
  | false =>
    rw [hV] at HRI
    clear h hT HKN HRT
    generalize r.model.length = lm at *
    generalize r.counter.length = lc at *
    generalize r.tag = t at *
    generalize r.err = er at *
    generalize r.at_ = ap at *
    go_enter Tryz.func6, Tryz.ntmps6
    go_wp2_with (first
          | (
            have hgd := HB1
            clear hgd
            go_at_call 9
            refine (HRI.out _ HB1.out).mono ?_
            rintro q w2 ⟨rfl, hb2⟩
            have HX2 := Lib.hid (HX1.out.later hb2)
            obtain ⟨z0, z1, z2, z3, z4⟩ := lblk5 HX2.out
            have HB2 := Lib.hid (HB1.out.trans (hb2.mono HB1.out.size))
            clear hb2)
          | (
            go_at_call 7
            refine (HLG.out _ HB0.out).mono ?_
            rintro q w1 ⟨b, rfl, hb1⟩
            have HX1 := Lib.hid (HX0.out.later hb1)
            obtain ⟨x0, x1, x2, x3, x4⟩ := lblk5 HX1.out
            have HB1 := Lib.hid (HB0.out.trans (hb1.mono HB0.out.size))
            clear hb1))
    · go_ret
      exact ⟨rfl, HB1.out⟩
    · go_ret
      exact ⟨rfl, HB2.out⟩
  | true =>
  rw [hV] at HRI
  by_cases hw0 : way < 0
  · have g0 : decide (way < 0) = true := decide_eq_true hw0
    clear h hT HKN HRT
    generalize r.model.length = lm at *
    generalize r.counter.length = lc at *
    generalize r.tag = t at *
    generalize r.err = er at *
    generalize r.at_ = ap at *
    go_enter Tryz.func6, Tryz.ntmps6
    go_wp2_with (first
          | (
            have hgd := HB1
            clear hgd
            go_at_call 9
            refine (HRI.out _ HB1.out).mono ?_
            rintro q w2 ⟨rfl, hb2⟩
            have HX2 := Lib.hid (HX1.out.later hb2)
            obtain ⟨z0, z1, z2, z3, z4⟩ := lblk5 HX2.out
            have HB2 := Lib.hid (HB1.out.trans (hb2.mono HB1.out.size))
            clear hb2)
          | (
            go_at_call 7
            refine (HLG.out _ HB0.out).mono ?_
            rintro q w1 ⟨b, rfl, hb1⟩
            have HX1 := Lib.hid (HX0.out.later hb1)
            obtain ⟨x0, x1, x2, x3, x4⟩ := lblk5 HX1.out
            have HB1 := Lib.hid (HB0.out.trans (hb1.mono HB0.out.size))
            clear hb1))
    · go_ret
      exact ⟨rfl, HB1.out⟩
    · go_ret
      exact ⟨rfl, HB2.out⟩
  have g0 : decide (way < 0) = false := decide_eq_false hw0
  by_cases hw2 : 2 < way
  · have g2 : decide (2 < way) = true := decide_eq_true hw2
    clear h hT HKN HRT
    generalize r.model.length = lm at *
    generalize r.counter.length = lc at *
    generalize r.tag = t at *
    generalize r.err = er at *
    generalize r.at_ = ap at *
    go_enter Tryz.func6, Tryz.ntmps6
    go_wp2_with (first
          | (
            have hgd := HB1
            clear hgd
            go_at_call 9
            refine (HRI.out _ HB1.out).mono ?_
            rintro q w2 ⟨rfl, hb2⟩
            have HX2 := Lib.hid (HX1.out.later hb2)
            obtain ⟨z0, z1, z2, z3, z4⟩ := lblk5 HX2.out
            have HB2 := Lib.hid (HB1.out.trans (hb2.mono HB1.out.size))
            clear hb2)
          | (
            go_at_call 7
            refine (HLG.out _ HB0.out).mono ?_
            rintro q w1 ⟨b, rfl, hb1⟩
            have HX1 := Lib.hid (HX0.out.later hb1)
            obtain ⟨x0, x1, x2, x3, x4⟩ := lblk5 HX1.out
            have HB1 := Lib.hid (HB0.out.trans (hb1.mono HB0.out.size))
            clear hb1))
    · go_ret
      exact ⟨rfl, HB1.out⟩
    · go_ret
      exact ⟨rfl, HB2.out⟩
  have g2 : decide (2 < way) = false := decide_eq_false hw2
  have hp : textP r = textS r := by unfold textP; rw [hV]; rfl
  rw [hp] at HRT
  have hl := textS_len hV
  have hne : 1 ≤ (textS r).length := by
    have := (readP_ok (s := textS r) (by rw [readOk_text hV])).2.2
    cases hq : textS r with
    | nil => exact absurd hq this
    | cons => simp
  have HSMT := Lib.hid (fun W (Lq : ResL) (q : ResP) (T : List UInt8) (hb : Below w.heap.size w W) (hr : ResAt W W.heap.size q Lq) (hqB : isB q = true) (hqT : textS q = T) => (show Calls Tryz.prog 14 #[resT q Lq, resW r.tag r.err r.at_ r.model.length r.counter.length L] W (fun e w' => e = .returned (.bool (T == textS r)) ∧ Below W.heap.size W w') by
    have := rsame_any hr (h.later hb hb.size)
    have e : decide (q = r) = (T == textS r) := by
      rw [Bool.eq_iff_iff, decide_eq_true_eq, beq_iff_eq]
      constructor
      · rintro rfl
        exact hqT.symm
      · intro hT2
        have h1 := readOk_text hqB
        have h2 := readOk_text hV
        rw [hqT, hT2, h2] at h1
        injection h1 with h1 _
        exact h1.symm
    rw [e] at this
    exact this))
  clear h hT
  generalize textS r = B at *
  generalize r.model.length = lm at *
  generalize r.counter.length = lc at *
  generalize r.tag = t at *
  generalize r.err = er at *
  generalize r.at_ = ap at *
  go_enter Tryz.func6, Tryz.ntmps6
  go_upto_region 4 with (first
      | (
        have hgd := HB2
        clear hgd
        go_at_call 11
        refine (HRT.out _ HB2.out).mono ?_
        rintro q w3 ⟨rfl, hb3⟩
        obtain ⟨cap4, w4, hcv4, hb4, hlt4, hc4, hcap4, hsp4⟩ := str_bytes w3 B (by omega)
        have HX4 := Lib.hid ((HX2.out.later hb3).later hb4)
        have HB4 := Lib.hid ((HB2.out.trans (hb3.mono HB2.out.size)).trans (hb4.mono (Nat.le_trans HB2.out.size hb3.size)))
        have hbk4 := bytes_str (cap := cap4) hc4
        have HC4 := Lib.hid hc4
        have HSP4 := Lib.hid hsp4
        have hs43 := HB4.out.size
        have hlt3 := (HX2.out.later hb3).lt
        clear hb3 hb4 hc4 hsp4)
      | (
        have hgd := HB1
        clear hgd
        go_at_call 9
        refine (HRI.out _ HB1.out).mono ?_
        rintro q w2 ⟨rfl, hb2⟩
        have HX2 := Lib.hid (HX1.out.later hb2)
        obtain ⟨z0, z1, z2, z3, z4⟩ := lblk5 HX2.out
        have HB2 := Lib.hid (HB1.out.trans (hb2.mono HB1.out.size))
        clear hb2)
      | (
        go_at_call 7
        refine (HLG.out _ HB0.out).mono ?_
        rintro q w1 ⟨b, rfl, hb1⟩
        have HX1 := Lib.hid (HX0.out.later hb1)
        obtain ⟨x0, x1, x2, x3, x4⟩ := lblk5 HX1.out
        have HB1 := Lib.hid (HB0.out.trans (hb1.mono HB0.out.size))
        clear hb1))
  · go_ret
    exact ⟨rfl, HB1.out⟩
  have hand := i64_and65535 at_
  obtain ⟨A, hA⟩ : ∃ A : Nat, at_ % 65536 = (A : Int) := ⟨(at_ % 65536).toNat, by omega⟩
  rw [hA] at hand
  obtain ⟨K, hKl, hK⟩ : ∃ K : Nat, K < B.length ∧ (A : Int) % (B.length : Int) = (K : Int) := ⟨A % B.length, Nat.mod_lt _ hne, by simp⟩
  have hK0 : (0 : Int) ≤ (K : Int) := Int.natCast_nonneg _
  have hK1 : (K : Int) < (B.length : Int) := by omega
  have hK2 : (K : Int) ≤ (cap4 : Int) := by omega
  have c4K := HC4.out K hKl
  have f4K := (HSP4.out K (by omega)).2
  go_upto_block 0 with fail
  try rw [hK]
  clear hK
  go_cut [9] from 40 to 54 (fun v wx => ∃ (g cp : Nat) (T : List UInt8), v = .slice (some ⟨g, 0, none⟩) T.length cp ∧ T.length ≤ 200001 ∧ Below w.heap.size w wx ∧ Blk wx w.heap.size 25 #[.int .i64 t, .int .i64 er, .int .i64 ap, .slice L.Am lm L.cm, .slice L.Ac lc L.cc] ∧ (∀ j (hj : j < T.length), wx.cell? ⟨g, j, none⟩ = some (.int .u8 (T[j].toNat : Int))))
  case first =>
    have h012 : way = 0 ∨ way = 1 ∨ way = 2 := by omega
    rcases h012 with rfl | rfl | rfl
    · go_wp2_with fail
      go_meet
      case rel =>
        refine ⟨w3.heap.size, cap4, B.set K c, by rw [List.length_set], by rw [List.length_set]; omega, bel_put HB4.out (by omega) _ _, ?_, fun j hj => ?_⟩
        · exact Blk.other HX4.out (by show w3.heap.size ≠ w.heap.size; omega) _
        · rw [List.length_set] at hj
          by_cases hjk : K = j
          · subst hjk
            rw [cell_setCell_same (by rw [HC4.out _ hj]; rfl)]
            simp
          · rw [World.cell?_setCell_other _ _ _ _ (by intro e; injection e with _ e; omega), HC4.out j hj]
            simp [hjk]
    · go_wp2_with fail
      go_meet
      case rel =>
        have htl : (B.take K).length = K := by rw [List.length_take]; omega
        refine ⟨w3.heap.size, cap4, B.take K, by rw [htl], by omega, HB4.out, HX4.out, fun j hj => ?_⟩
        rw [HC4.out j (by omega)]
        simp
    · obtain ⟨i5, hi5, hz0, hz1, hz2⟩ := info_parts tinf_u8
      go_wp2_with (at_builtin; refine wpList_append_arg _ rfl (.tmp 40) (.tmp 42) 33 rfl 5 i5 _ 1 1 tund_bytes hi5 hz0 hz1 hz2 rfl (by decide) w3.heap.size 0 B.length cap4 (byteVs B) rfl (by simp [byteVs]) ?olds ⟨w4.heap.size, 0, none⟩ 1 1 [.int .u8 (c.toNat : Int)] rfl rfl ?news ?one ?spare (by simp only [maxLen]; omega) (by omega) ?room ?grow)
      case olds =>
        intro j u hj
        unfold byteVs at hj
        rw [List.getElem?_map] at hj
        have hjl : j < B.length := by
          rcases Nat.lt_or_ge j B.length with h1 | h1
          · exact h1
          · rw [List.getElem?_eq_none h1] at hj
            cases hj
        rw [List.getElem?_eq_getElem hjl] at hj
        injection hj with hj
        rw [Nat.zero_add, ← hj]
        exact lkeepA (HC4.out j hjl) _
      case news =>
        intro j u hj
        have hj0 : j = 0 := by
          have := (List.getElem?_eq_some_iff.1 hj).1
          simp at this
          omega
        subst hj0
        rw [addr_add0, (lblkNew w4 _ _).cell 0, ← hj]
        rfl
      case one =>
        intro u hu
        simp at hu
        subst hu
        rfl
      case spare =>
        intro hroom j hj
        have hj0 : j = 0 := by simp at hj; omega
        subst hj0
        rw [Nat.zero_add, Nat.mul_one, Nat.add_zero]
        obtain ⟨s1, s2⟩ := HSP4.out B.length (by omega)
        obtain ⟨v, hv⟩ := Option.isSome_iff_exists.1 s1
        exact ⟨by rw [lkeepA hv]; rfl, by rw [frozen?_alloc_cells]; exact s2⟩
      case room =>
        intro hroom
        refine wpList_named (fun W9 => Below w.heap.size w W9 ∧ Blk W9 w.heap.size 25 #[.int .i64 t, .int .i64 er, .int .i64 ap, .slice L.Am lm L.cm, .slice L.Ac lc L.cc] ∧ (∀ j (hj : j < (B ++ [c]).length), W9.cell? ⟨w3.heap.size, j, none⟩ = some (.int .u8 ((B ++ [c])[j].toNat : Int)))) ?_ ?_
        · try rw [Nat.zero_add, Nat.mul_one]
          show Below w.heap.size w ((w4.alloc _).setCell ⟨w3.heap.size, B.length, none⟩ _) ∧ Blk ((w4.alloc _).setCell ⟨w3.heap.size, B.length, none⟩ _) _ _ _ ∧ ∀ j (hj : j < (B ++ [c]).length), ((w4.alloc _).setCell ⟨w3.heap.size, B.length, none⟩ _).cell? _ = _
          refine ⟨bel_put (HB4.out.alloc HB4.out.size _) (by omega) _ _, Blk.other (lblkA HX4.out _) (by show w3.heap.size ≠ w.heap.size; omega) _, bytes_snoc (fun j hj => ?_) ?_⟩
          · rw [World.cell?_setCell_other _ _ _ _ (by intro e; injection e with _ e; omega)]
            exact lkeepA (HC4.out j hj) _
          · obtain ⟨s1, _⟩ := HSP4.out B.length (by omega)
            obtain ⟨v, hv⟩ := Option.isSome_iff_exists.1 s1
            exact cell_setCell_same (by rw [lkeepA hv]; rfl)
        rintro W9 ⟨h1, h2, h3⟩
        have H1 := Lib.hid h1
        have H2 := Lib.hid h2
        have H3 := Lib.hid h3
        clear h1 h2 h3
        go_wp2_with fail
        go_meet
        case rel => exact ⟨_, _, B ++ [c], by rw [List.length_append]; rfl, by rw [List.length_append]; simp; omega, H1.out, H2.out, H3.out⟩
      case grow =>
        intro hno v9 w9 hown9 hg9
        obtain ⟨A9, c9, rfl⟩ := own_slice hown9
        have hsz : (w4.alloc (.cells #[.int .u8 (c.toNat : Int)] 5)).heap.size = w4.heap.size + 1 := by simp
        obtain ⟨g9, cap9, hv9, hbase, hlt9⟩ := hown9.form (by omega)
        have hA9 : A9 = some ⟨g9, 0, none⟩ := by injection hv9
        subst hA9
        have H1 := Lib.hid ((HB4.out.alloc HB4.out.size _).grown hg9 (by omega) (fun k hk => by cases hk))
        have H2 := Lib.hid (blk_grown (lblkA HX4.out (.cells #[.int .u8 (c.toNat : Int)] 5)) hg9 (by simp))
        have H3 : Hid (∀ j (hj : j < (B ++ [c]).length), w9.cell? ⟨g9, j, none⟩ = some (.int .u8 ((B ++ [c])[j].toNat : Int))) := Lib.hid (fun j hj => by
          have := hown9.cells (g := g9) rfl j (.int .u8 ((B ++ [c])[j].toNat : Int)) (by
            rw [show byteVs B ++ [Value.int .u8 (c.toNat : Int)] = byteVs (B ++ [c]) by simp [byteVs]]
            unfold byteVs
            rw [List.getElem?_map, List.getElem?_eq_getElem hj]
            rfl)
          rwa [addr_add0] at this)
        clear hown9 hg9 hv9
        go_wp2_with fail
        go_meet
        case rel => exact ⟨_, _, B ++ [c], by rw [List.length_append]; rfl, by rw [List.length_append]; simp; omega, H1.out, H2.out, H3.out⟩
  case rest =>
    obtain ⟨g9, cp9, T, rfl, hTl, hb9, hx9, hc9⟩ := hcut
    obtain ⟨w5, hw5⟩ : ∃ x, x = wc := ⟨_, rfl⟩
    subst hw5
    have HB9 := Lib.hid hb9
    have HX9 := Lib.hid hx9
    have HC9 := Lib.hid hc9
    have hbk9 := bytes_str (cap := cp9) hc9
    have hrd := tReadR_any (s := T) (by omega) (HTT.out _ hb9)
    clear hb9 hx9 hc9 HC4 HSP4 HX4 HB4 hbk4 hcv4 c4K f4K HX1 HX2 HB2 HB1 HB0 HX0 hand hKl
    cases hok : (readP T).2 with
    | false =>
      rw [readP_no hok] at hrd
      have HRD := Lib.hid (show Calls Tryz.prog 13 #[.string ⟨T.toArray⟩] w5 (fun e w' => ∃ Lq : ResL, e = .returned (.tuple #[resW 0 0 0 0 0 Lq, .bool false]) ∧ Below w5.heap.size w5 w' ∧ ResAt w' w'.heap.size zeroR Lq) from hrd)
      clear hrd hok
      go_upto_region 13 with (
        go_at_call 13
        refine HRD.out.mono ?_
        rintro e w6 ⟨Lq, rfl, hb6, hr6⟩
        have HB6 := Lib.hid (HB9.out.trans (hb6.mono HB9.out.size))
        have HB7 := Lib.hid (HB6.out.alloc HB6.out.size (.cells (resC 0 0 0 (.slice Lq.Am 0 Lq.cm) (.slice Lq.Ac 0 Lq.cc)) 25))
        clear hb6 hr6)
      refine wp_region_noPanic ?_
      refine wp_region_held_drew (S := fun W => Below w.heap.size w W) (by kernel_rfl) HB7.out.drew (fun hHeld => ?_)
      refine wpAnyH_take (i := 0) (v := ?vv0) rfl (by kernel_rfl) (by kernel_rfl) (by kernel_rfl) (fun _ _ _ h => h) (Or.inl ⟨by rfl, ?hy0⟩) (by assumption) ?rr0
      case hy0 =>
        intro W hS
        try dsimp only at hS
        go_simp
        try with_reducible rfl
      case rr0 =>
      try simp only [Act.put, List.getElem_toArray, List.getElem_cons_zero, List.setIfInBounds_toArray, List.set_cons_zero, List.set_cons_succ]
      refine wpAnyH_take (i := 1) (v := ?vv1) rfl (by kernel_rfl) (by kernel_rfl) (by kernel_rfl) (fun _ _ _ h => h) (Or.inl ⟨by rfl, ?hy1⟩) (by assumption) ?rr1
      case hy1 =>
        intro W hS
        try dsimp only at hS
        go_simp
        try with_reducible rfl
      case rr1 =>
      try simp only [Act.put, List.getElem_toArray, List.getElem_cons_succ, List.getElem_cons_zero, List.setIfInBounds_toArray, List.set_cons_zero, List.set_cons_succ]
      refine wpAnyH_take (i := 2) (v := ?vv2) rfl (by kernel_rfl) (by kernel_rfl) (by kernel_rfl) (fun _ _ _ h => h) (Or.inl ⟨by rfl, ?hy2⟩) (by assumption) ?rr2
      case hy2 =>
        intro W hS
        try dsimp only at hS
        go_simp
        try with_reducible rfl
      case rr2 =>
      try simp only [Act.put, List.getElem_toArray, List.getElem_cons_succ, List.getElem_cons_zero, List.setIfInBounds_toArray, List.set_cons_zero, List.set_cons_succ]
      refine wpAnyH_take (i := 3) rfl (by kernel_rfl) (by kernel_rfl) (by kernel_rfl) (fun _ _ _ h => h) (Or.inr ⟨by kernel_rfl, rfl⟩) (by assumption) ?_
      try simp only [Act.put, List.getElem_toArray, List.getElem_cons_succ, List.getElem_cons_zero, List.setIfInBounds_toArray, List.set_cons_zero, List.set_cons_succ]
      refine wpAnyH_take (i := 4) rfl (by kernel_rfl) (by kernel_rfl) (by kernel_rfl) (fun _ _ _ h => h) (Or.inr ⟨by kernel_rfl, rfl⟩) (by assumption) ?_
      try simp only [Act.put, List.getElem_toArray, List.getElem_cons_succ, List.getElem_cons_zero, List.setIfInBounds_toArray, List.set_cons_zero, List.set_cons_succ]
      refine wpAnyH_take (i := 5) rfl (by kernel_rfl) (by kernel_rfl) (by kernel_rfl) (fun _ _ _ h => h) (Or.inr ⟨by kernel_rfl, rfl⟩) (by assumption) ?_
      try simp only [Act.put, List.getElem_toArray, List.getElem_cons_succ, List.getElem_cons_zero, List.setIfInBounds_toArray, List.set_cons_zero, List.set_cons_succ]
      refine wpAnyH_take (i := 6) rfl (by kernel_rfl) (by kernel_rfl) (by kernel_rfl) (fun _ _ _ h => h) (Or.inr ⟨by kernel_rfl, rfl⟩) (by assumption) ?_
      try simp only [Act.put, List.getElem_toArray, List.getElem_cons_succ, List.getElem_cons_zero, List.setIfInBounds_toArray, List.set_cons_zero, List.set_cons_succ]
      refine wpAnyH_take (i := 7) rfl (by kernel_rfl) (by kernel_rfl) (by kernel_rfl) (fun _ _ _ h => h) (Or.inr ⟨by kernel_rfl, rfl⟩) (by assumption) ?_
      try simp only [Act.put, List.getElem_toArray, List.getElem_cons_succ, List.getElem_cons_zero, List.setIfInBounds_toArray, List.set_cons_zero, List.set_cons_succ]
      refine wpAnyH_take (i := 8) rfl (by kernel_rfl) (by kernel_rfl) (by kernel_rfl) (fun _ _ _ h => h) (Or.inr ⟨by kernel_rfl, rfl⟩) (by assumption) ?_
      try simp only [Act.put, List.getElem_toArray, List.getElem_cons_succ, List.getElem_cons_zero, List.setIfInBounds_toArray, List.set_cons_zero, List.set_cons_succ]
      refine wpAnyH_take (i := 9) rfl (by kernel_rfl) (by kernel_rfl) (by kernel_rfl) (fun _ _ _ h => h) (Or.inr ⟨by kernel_rfl, rfl⟩) (by assumption) ?_
      try simp only [Act.put, List.getElem_toArray, List.getElem_cons_succ, List.getElem_cons_zero, List.setIfInBounds_toArray, List.set_cons_zero, List.set_cons_succ]
      refine wpAnyH_take (i := 10) rfl (by kernel_rfl) (by kernel_rfl) (by kernel_rfl) (fun _ _ _ h => h) (Or.inr ⟨by kernel_rfl, rfl⟩) (by assumption) ?_
      try simp only [Act.put, List.getElem_toArray, List.getElem_cons_succ, List.getElem_cons_zero, List.setIfInBounds_toArray, List.set_cons_zero, List.set_cons_succ]
      refine wpAnyH_take (i := 11) rfl (by kernel_rfl) (by kernel_rfl) (by kernel_rfl) (fun _ _ _ h => h) (Or.inr ⟨by kernel_rfl, rfl⟩) (by assumption) ?_
      try simp only [Act.put, List.getElem_toArray, List.getElem_cons_succ, List.getElem_cons_zero, List.setIfInBounds_toArray, List.set_cons_zero, List.set_cons_succ]
      refine wpAnyH_take (i := 12) rfl (by kernel_rfl) (by kernel_rfl) (by kernel_rfl) (fun _ _ _ h => h) (Or.inr ⟨by kernel_rfl, rfl⟩) (by assumption) ?_
      try simp only [Act.put, List.getElem_toArray, List.getElem_cons_succ, List.getElem_cons_zero, List.setIfInBounds_toArray, List.set_cons_zero, List.set_cons_succ]
      refine wpAnyH_take (i := 13) rfl (by kernel_rfl) (by kernel_rfl) (by kernel_rfl) (fun _ _ _ h => h) (Or.inr ⟨by kernel_rfl, rfl⟩) (by assumption) ?_
      try simp only [Act.put, List.getElem_toArray, List.getElem_cons_succ, List.getElem_cons_zero, List.setIfInBounds_toArray, List.set_cons_zero, List.set_cons_succ]
      refine wpAnyH_take (i := 14) rfl (by kernel_rfl) (by kernel_rfl) (by kernel_rfl) (fun _ _ _ h => h) (Or.inr ⟨by kernel_rfl, rfl⟩) (by assumption) ?_
      try simp only [Act.put, List.getElem_toArray, List.getElem_cons_succ, List.getElem_cons_zero, List.setIfInBounds_toArray, List.set_cons_zero, List.set_cons_succ]
      refine wpAnyH_take (i := 15) rfl (by kernel_rfl) (by kernel_rfl) (by kernel_rfl) (fun _ _ _ h => h) (Or.inr ⟨by kernel_rfl, rfl⟩) (by assumption) ?_
      try simp only [Act.put, List.getElem_toArray, List.getElem_cons_succ, List.getElem_cons_zero, List.setIfInBounds_toArray, List.set_cons_zero, List.set_cons_succ]
      refine wpAnyH_take (i := 16) rfl (by kernel_rfl) (by kernel_rfl) (by kernel_rfl) (fun _ _ _ h => h) (Or.inr ⟨by kernel_rfl, rfl⟩) (by assumption) ?_
      try simp only [Act.put, List.getElem_toArray, List.getElem_cons_succ, List.getElem_cons_zero, List.setIfInBounds_toArray, List.set_cons_zero, List.set_cons_succ]
      refine wpAnyH_take (i := 17) rfl (by kernel_rfl) (by kernel_rfl) (by kernel_rfl) (fun _ _ _ h => h) (Or.inr ⟨by kernel_rfl, rfl⟩) (by assumption) ?_
      try simp only [Act.put, List.getElem_toArray, List.getElem_cons_succ, List.getElem_cons_zero, List.setIfInBounds_toArray, List.set_cons_zero, List.set_cons_succ]
      refine wpAnyH_take (i := 18) rfl (by kernel_rfl) (by kernel_rfl) (by kernel_rfl) (fun _ _ _ h => h) (Or.inr ⟨by kernel_rfl, rfl⟩) (by assumption) ?_
      try simp only [Act.put, List.getElem_toArray, List.getElem_cons_succ, List.getElem_cons_zero, List.setIfInBounds_toArray, List.set_cons_zero, List.set_cons_succ]
      refine wpAnyH_take (i := 19) rfl (by kernel_rfl) (by kernel_rfl) (by kernel_rfl) (fun _ _ _ h => h) (Or.inr ⟨by kernel_rfl, rfl⟩) (by assumption) ?_
      try simp only [Act.put, List.getElem_toArray, List.getElem_cons_succ, List.getElem_cons_zero, List.setIfInBounds_toArray, List.set_cons_zero, List.set_cons_succ]
      refine wpAnyH_take (i := 20) rfl (by kernel_rfl) (by kernel_rfl) (by kernel_rfl) (fun _ _ _ h => h) (Or.inr ⟨by kernel_rfl, rfl⟩) (by assumption) ?_
      try simp only [Act.put, List.getElem_toArray, List.getElem_cons_succ, List.getElem_cons_zero, List.setIfInBounds_toArray, List.set_cons_zero, List.set_cons_succ]
      refine wpAnyH_take (i := 21) rfl (by kernel_rfl) (by kernel_rfl) (by kernel_rfl) (fun _ _ _ h => h) (Or.inr ⟨by kernel_rfl, rfl⟩) (by assumption) ?_
      try simp only [Act.put, List.getElem_toArray, List.getElem_cons_succ, List.getElem_cons_zero, List.setIfInBounds_toArray, List.set_cons_zero, List.set_cons_succ]
      refine wpAnyH_take (i := 22) (v := ?vv22) rfl (by kernel_rfl) (by kernel_rfl) (by kernel_rfl) (fun _ _ _ h => h) (Or.inl ⟨by rfl, ?hy22⟩) (by assumption) ?rr22
      case hy22 =>
        intro W hS
        try dsimp only at hS
        go_simp
        try with_reducible rfl
      case rr22 =>
      try simp only [Act.put, List.getElem_toArray, List.getElem_cons_succ, List.getElem_cons_zero, List.setIfInBounds_toArray, List.set_cons_zero, List.set_cons_succ]
      refine wpAnyH_take (i := 23) (v := ?vv23) rfl (by kernel_rfl) (by kernel_rfl) (by kernel_rfl) (fun _ _ _ h => h) (Or.inl ⟨by rfl, ?hy23⟩) (by assumption) ?rr23
      case hy23 =>
        intro W hS
        try dsimp only at hS
        go_simp
        try with_reducible rfl
      case rr23 =>
      try simp only [Act.put, List.getElem_toArray, List.getElem_cons_succ, List.getElem_cons_zero, List.setIfInBounds_toArray, List.set_cons_zero, List.set_cons_succ]
      refine wpAnyH_ready (rs := [24]) (by kernel_rfl) (by simp) ?_
      refine AllReadyH.cons rfl (fun K hK => ?_) AllReadyH.nil
      go_simp
      have hqq := hHeld
      refine (HKN.out _ hqq).mono ?_
      rintro e w8 ⟨rfl, hb8⟩
      refine hK _ _ (hqq.trans (hb8.mono hqq.size)) (fun hHeld => ?_)
      clear hK K
      try simp only [Act.put, List.getElem_toArray, List.getElem_cons_succ, List.getElem_cons_zero, List.setIfInBounds_toArray, List.set_cons_zero, List.set_cons_succ]
      refine wpAnyH_take (i := 25) (v := ?vv25) rfl (by kernel_rfl) (by kernel_rfl) (by kernel_rfl) (fun _ _ _ h => h) (Or.inl ⟨by rfl, ?hy25⟩) (by assumption) ?rr25
      case hy25 =>
        intro W hS
        try dsimp only at hS
        go_simp
        try with_reducible rfl
      case rr25 =>
      try simp only [Act.put, List.getElem_toArray, List.getElem_cons_succ, List.getElem_cons_zero, List.setIfInBounds_toArray, List.set_cons_zero, List.set_cons_succ]
      refine wpAnyH_take (i := 26) (v := ?vv26) rfl (by kernel_rfl) (by kernel_rfl) (by kernel_rfl) (fun _ _ _ h => h) (Or.inl ⟨by rfl, ?hy26⟩) (by assumption) ?rr26
      case hy26 =>
        intro W hS
        try dsimp only at hS
        go_simp
        try with_reducible rfl
      case rr26 =>
      try simp only [Act.put, List.getElem_toArray, List.getElem_cons_succ, List.getElem_cons_zero, List.setIfInBounds_toArray, List.set_cons_zero, List.set_cons_succ]
      refine wpAnyH_done (by kernel_rfl) ?_ _
      refine NoPanic.normal ?_
      go_wp2_with fail
      go_ret
      exact ⟨rfl, by assumption⟩
    | true =>
      obtain ⟨hB, hS, _⟩ := readP_ok hok
      have hpq : textP (readP T).1 = T := by unfold textP; rw [hB, if_pos rfl, hS]
      generalize hq : (readP T).1 = q at *
      rw [show readP T = (q, true) by rw [← hq, ← hok]] at hrd
      have HRD := Lib.hid (show Calls Tryz.prog 13 #[.string ⟨T.toArray⟩] w5 (fun e w' => ∃ Lq : ResL, e = .returned (.tuple #[resW q.tag q.err q.at_ q.model.length q.counter.length Lq, .bool true]) ∧ Below w5.heap.size w5 w' ∧ ResAt w' w'.heap.size q Lq) from hrd)
      have HLA := Lib.hid (fun (W : World) (Lq : ResL) (hr : ResAt W W.heap.size q Lq) => res_alloc hr (.cells (resC q.tag q.err q.at_ (.slice Lq.Am q.model.length Lq.cm) (.slice Lq.Ac q.counter.length Lq.cc)) 25))
      have HQI := Lib.hid (fun W (Lq : ResL) (hb : Below w.heap.size w W) (hr : ResAt W W.heap.size q Lq) => (show Calls Tryz.prog 9 #[resW q.tag q.err q.at_ q.model.length q.counter.length Lq] W (fun e w' => e = .returned (.bool true) ∧ Below W.heap.size W w') by
        have := ris_any hr (HTT.out W hb).t8
        rw [hB] at this
        exact this))
      have HQT := Lib.hid (fun W (Lq : ResL) (hb : Below w.heap.size w W) (hr : ResAt W W.heap.size q Lq) => (show Calls Tryz.prog 11 #[resW q.tag q.err q.at_ q.model.length q.counter.length Lq] W (fun e w' => e = .returned (.string ⟨T.toArray⟩) ∧ Below W.heap.size W w') by
        have := rtext_any hr (HTT.out W hb).t8
        rw [hpq] at this
        exact this))
      have HQS := Lib.hid (fun W (Lq : ResL) (hb : Below w.heap.size w W) (hr : ResAt W W.heap.size q Lq) => (show Calls Tryz.prog 14 #[resW q.tag q.err q.at_ q.model.length q.counter.length Lq, resW t er ap lm lc L] W (fun e w' => e = .returned (.bool (T == B)) ∧ Below W.heap.size W w') from HSMT.out W Lq q T hb hr hB hS))
      have HQL := Lib.hid (fun W W2 (Lq : ResL) (hr : ResAt W W.heap.size q Lq) (hb : Below W.heap.size W W2) => hr.later hb hb.size)
      clear hrd hok hB hS hpq hq
      generalize q.model.length = qm at *
      generalize q.counter.length = qc at *
      generalize q.tag = qt at *
      generalize q.err = qe at *
      generalize q.at_ = qa at *
      have hTT : (T == T) = true := by simp
      have hEE : ((T == B) == (T == B)) = true := by simp
      go_upto_region 13 with (
        go_at_call 13
        refine HRD.out.mono ?_
        rintro e w6 ⟨Lq, rfl, hb6, hr6⟩
        have HR7 := Lib.hid (HLA.out _ _ hr6)
        have HB6 := Lib.hid (HB9.out.trans (hb6.mono HB9.out.size))
        have HB7 := Lib.hid (HB6.out.alloc HB6.out.size (.cells (resC qt qe qa (.slice Lq.Am qm Lq.cm) (.slice Lq.Ac qc Lq.cc)) 25))
        have HX7 := Lib.hid (lblkA (HX9.out.later hb6) (.cells (resC qt qe qa (.slice Lq.Am qm Lq.cm) (.slice Lq.Ac qc Lq.cc)) 25))
        have HQ7 := Lib.hid (lblkNew w6 25 (resC qt qe qa (.slice Lq.Am qm Lq.cm) (.slice Lq.Ac qc Lq.cc)))
        have HC7 := Lib.hid (bytes_later (bytes_later HC9.out hb6) ((Below.refl _ _).alloc (Nat.le_refl _) (.cells (resC qt qe qa (.slice Lq.Am qm Lq.cm) (.slice Lq.Ac qc Lq.cc)) 25)))
        clear hb6 hr6)
      obtain ⟨g7, hg7⟩ : ∃ g7, g7 = w6.heap.size := ⟨_, rfl⟩
      rw [← hg7] at HQ7
      rw [← hg7]
      generalize w6.alloc (.cells (resC qt qe qa (.slice Lq.Am qm Lq.cm) (.slice Lq.Ac qc Lq.cc)) 25) = w7 at *
      clear hg7
      obtain ⟨x0, x1, x2, x3, x4⟩ := lblk5 HX7.out
      obtain ⟨q0, q1, q2, q3, q4⟩ := lblk5 HQ7.out
      have HR7d := Lib.hid (HQL.out _ w7.drew Lq HR7.out (Below.refl _ _).drew)
      have xc := bytes_str (W := w7.drew) (cap := cp9) (fun j hj => HC7.out j hj)
      go_region_held3 (fun W : World => W.cell? ⟨w.heap.size, 0, none⟩ = some (.int .i64 t) ∧ W.cell? ⟨w.heap.size, 1, none⟩ = some (.int .i64 er) ∧ W.cell? ⟨w.heap.size, 2, none⟩ = some (.int .i64 ap) ∧ W.cell? ⟨w.heap.size, 3, none⟩ = some (.slice L.Am lm L.cm) ∧ W.cell? ⟨w.heap.size, 4, none⟩ = some (.slice L.Ac lc L.cc) ∧ W.cell? ⟨g7, 0, none⟩ = some (.int .i64 qt) ∧ W.cell? ⟨g7, 1, none⟩ = some (.int .i64 qe) ∧ W.cell? ⟨g7, 2, none⟩ = some (.int .i64 qa) ∧ W.cell? ⟨g7, 3, none⟩ = some (.slice Lq.Am qm Lq.cm) ∧ W.cell? ⟨g7, 4, none⟩ = some (.slice Lq.Ac qc Lq.cc) ∧ (convert 33 9 (.slice (some ⟨g9, 0, none⟩) T.length cp9)).run Tryz.prog W = .ok (.string ⟨T.toArray⟩) W) ((refine ⟨?_, ?_, ?_, ?_, ?_, ?_, ?_, ?_, ?_, ?_, ?_⟩) <;> repeat' (first | (with_reducible exact xd0) | (with_reducible exact xd1) | (with_reducible exact xd2) | (with_reducible exact xd3) | (with_reducible exact xd4) | (with_reducible exact qd0) | (with_reducible exact qd1) | (with_reducible exact qd2) | (with_reducible exact qd3) | (with_reducible exact qd4) | (with_reducible exact xdc) | (with_reducible exact xc0) | (with_reducible exact xc1) | (with_reducible exact xc2) | (with_reducible exact xc3) | (with_reducible exact xc4) | (with_reducible exact qc0) | (with_reducible exact qc1) | (with_reducible exact qc2) | (with_reducible exact qc3) | (with_reducible exact qc4) | (with_reducible exact xcc) | (with_reducible exact xb0) | (with_reducible exact xb1) | (with_reducible exact xb2) | (with_reducible exact xb3) | (with_reducible exact xb4) | (with_reducible exact qb0) | (with_reducible exact qb1) | (with_reducible exact qb2) | (with_reducible exact qb3) | (with_reducible exact qb4) | (with_reducible exact xbc) | (with_reducible exact xa0) | (with_reducible exact xa1) | (with_reducible exact xa2) | (with_reducible exact xa3) | (with_reducible exact xa4) | (with_reducible exact qa0) | (with_reducible exact qa1) | (with_reducible exact qa2) | (with_reducible exact qa3) | (with_reducible exact qa4) | (with_reducible exact xac) | (with_reducible exact x0) | (with_reducible exact x1) | (with_reducible exact x2) | (with_reducible exact x3) | (with_reducible exact x4) | (with_reducible exact q0) | (with_reducible exact q1) | (with_reducible exact q2) | (with_reducible exact q3) | (with_reducible exact q4) | (with_reducible exact xc) | (with_reducible refine lkeepD ?_) | omega)) ((first
        | (
           have hgd := HBc
           clear hgd
           go_at_call 12
           refine (HKN.out _ HBc.out).mono ?_
           rintro e wd ⟨rfl, hbd⟩
           have HXd := Lib.hid (Blk.later HXc.out hbd)
           have HQd := Lib.hid (Blk.later HQc.out hbd)
           have HRd := Lib.hid (HQL.out _ _ Lq HRc.out hbd)
           have HCd := Lib.hid (bytes_later (W := wc) (fun j hj => HCc.out j hj) hbd)
           obtain ⟨xd0, xd1, xd2, xd3, xd4⟩ := lblk5 HXd.out
           obtain ⟨qd0, qd1, qd2, qd3, qd4⟩ := lblk5 HQd.out
           have xdc := bytes_str (cap := cp9) HCd.out
           have HBd := Lib.hid ((HBc.out).trans (hbd.mono HBc.out.size))
           clear hbd)
        | (
           have hgd := HBb
           clear hgd
           go_at_call 14
           refine (HQS.out _ Lq HBb.out HRb.out).mono ?_
           rintro e wc ⟨rfl, hbc⟩
           have HXc := Lib.hid (Blk.later HXb.out hbc)
           have HQc := Lib.hid (Blk.later HQb.out hbc)
           have HRc := Lib.hid (HQL.out _ _ Lq HRb.out hbc)
           have HCc := Lib.hid (bytes_later (W := wb) (fun j hj => HCb.out j hj) hbc)
           obtain ⟨xc0, xc1, xc2, xc3, xc4⟩ := lblk5 HXc.out
           obtain ⟨qc0, qc1, qc2, qc3, qc4⟩ := lblk5 HQc.out
           have xcc := bytes_str (cap := cp9) HCc.out
           have HBc := Lib.hid ((HBb.out).trans (hbc.mono HBb.out.size))
           clear hbc)
        | (
           have hgd := HBa
           clear hgd
           go_at_call 11
           refine (HQT.out _ Lq HBa.out HRa.out).mono ?_
           rintro e wb ⟨rfl, hbb⟩
           have HXb := Lib.hid (Blk.later HXa.out hbb)
           have HQb := Lib.hid (Blk.later HQa.out hbb)
           have HRb := Lib.hid (HQL.out _ _ Lq HRa.out hbb)
           have HCb := Lib.hid (bytes_later (W := wa) (fun j hj => HCa.out j hj) hbb)
           obtain ⟨xb0, xb1, xb2, xb3, xb4⟩ := lblk5 HXb.out
           obtain ⟨qb0, qb1, qb2, qb3, qb4⟩ := lblk5 HQb.out
           have xbc := bytes_str (cap := cp9) HCb.out
           have HBb := Lib.hid ((HBa.out).trans (hbb.mono HBa.out.size))
           clear hbb)
        | (
           go_at_call 9
           refine (HQI.out _ Lq HB7.out.drew HR7d.out).mono ?_
           rintro e wa ⟨rfl, hba⟩
           have HXa := Lib.hid (Blk.later (lblkD HX7.out) hba)
           have HQa := Lib.hid (Blk.later (lblkD HQ7.out) hba)
           have HRa := Lib.hid (HQL.out _ _ Lq HR7d.out hba)
           have HCa := Lib.hid (bytes_later (W := w7.drew) (fun j hj => HC7.out j hj) hba)
           obtain ⟨xa0, xa1, xa2, xa3, xa4⟩ := lblk5 HXa.out
           obtain ⟨qa0, qa1, qa2, qa3, qa4⟩ := lblk5 HQa.out
           have xac := bytes_str (cap := cp9) HCa.out
           have HBa := Lib.hid ((HB7.out.drew).trans (hba.mono HB7.out.size))
           clear hba)))
      all_goals
        go_wp2_with fail
        go_ret
        exact ⟨rfl, HBd.out⟩
end Go.Proofs.YteikakoheibnjaaGreatDoor
