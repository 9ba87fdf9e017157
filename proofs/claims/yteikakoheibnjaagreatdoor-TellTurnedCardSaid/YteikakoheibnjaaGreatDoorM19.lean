/- Parts of the proof: Tokens, IsName. -/
import Derived.Test.YteikakoheibnjaaGreatDoorM18
namespace Go.Proofs.YteikakoheibnjaaGreatDoor
open Go Go.RowKit

/-- Tokens as cells. -/
def cellsT (l : List Tok) : List Value := l.flatMap fun t => [.int .i64 t.kind, .string ⟨t.text.toArray⟩, .int .i64 t.n, .int .i64 t.at_]
theorem cellsT_snoc (l : List Tok) (t : Tok) : cellsT (l ++ [t]) = cellsT l ++ [.int .i64 t.kind, .string ⟨t.text.toArray⟩, .int .i64 t.n, .int .i64 t.at_] := by simp [cellsT]
theorem tok_one (k n a : Int) (s : ByteArray) : ∀ u ∈ ([.int .i64 k, .string s, .int .i64 n, .int .i64 a] : List Value), u.oneCell' = true := by
  intro u hu
  simp at hu
  rcases hu with rfl | rfl | rfl | rfl <;> rfl
theorem reads_four {w : World} {h : Nat} {t : TypeId} {u v x y : Value} (hb : w.heap[h]? = some (.cells #[u, v, x, y] t (0, 0))) : Reads w (h + 1) 4 (some ⟨h, 0, none⟩) 1 [u, v, x, y] := by
  refine ⟨rfl, fun _ => ⟨_, rfl, by simp, fun j z hz => ?_⟩⟩
  have hj : j < 4 := (List.getElem?_eq_some_iff.1 hz).1
  have e : (⟨h, 0, none⟩ : Addr).add j = ⟨h, j, none⟩ := by
    unfold Addr.add
    split
    · next h0 => rw [h0]
    · simp
  rw [e, cell_of_row w h j #[u, v, x, y] t (0, 0) hb, ← hz]
  simp
theorem und_toks : Tryz.prog.underlying 74 = some (.slice 78) := by kernel_rfl
theorem Rd.fr {w w' : World} {B q : Nat} {S : ByteArray} {R : List Ru} {A : Option Addr} {c : Nat} {bad : Int} {i : Nat} (h : Rd w B q S R A c bad i) (hf : Fr (fun k => B ≤ k) w w') : Rd w' B q S R A c bad i :=
  ⟨hf.blk h.blk (by have := h.qlt; omega), fun j hj => by
    obtain ⟨g, e, hg, hgB, h1, h2⟩ := h.runes j hj
    have hc : ∀ o, w'.cell? ⟨g, o, none⟩ = w.cell? ⟨g, o, none⟩ := fun o => World.cell?_of_block (hf.block g (World.block_lt_of_cell? _ _ h1) (by omega))
    exact ⟨g, e, hg, hgB, (hc _).trans h1, (hc _).trans h2⟩, h.qlt, h.small, h.len⟩
theorem rd_of_each {W : World} {base q : Nat} {S : ByteArray} {R : List Ru} {A : Option Addr} {c : Nat} {bad : Int} (hb : Blk W q 114 #[.string S, .slice A R.length c, .int .i64 bad, .int .i64 0])
    (ho : W.ownsRow base 126 2 (.slice A R.length c) R.length (cellsR 0 R)) (hq : q < base) (hs : ∀ r ∈ R, r.1 < 2097152) (hl : R.length ≤ 2000) : Rd W W.heap.size q S R A c bad 0 :=
  ⟨hb, fun j hj => by
    obtain ⟨g, cap, hv, hbase, hlt⟩ := ho.form (by omega)
    have hA : A = some ⟨g, 0, none⟩ := by injection hv
    subst hA
    obtain ⟨h1, h2⟩ := cellsR_at R 0 j hj
    have hc := ho.cells (g := g) rfl
    have add : ∀ k, (⟨g, 0, none⟩ : Addr).add k = ⟨g, k, none⟩ := fun k => by
      unfold Addr.add
      split
      · next h0 => rw [h0]
      · simp
    have e1 := hc _ _ h1
    have e2 := hc _ _ h2
    rw [add, Nat.mul_comm] at e1
    rw [add, Nat.mul_comm] at e2
    rw [Nat.zero_add] at e2
    exact ⟨g, rfl, by omega, hlt, e1, e2⟩, hb.lt, hs, hl⟩
theorem posn_add (R : List Ru) (a b : Nat) : posn R (a + b) = posn R a + (flat ((R.drop a).take b)).length := by
  unfold posn
  rw [List.take_add, flat_app, List.length_append]
/-- One step of the tokens. -/
theorem toks_none {R : List Ru} {i0 i : Nat} (hi : i = i0 + skipM false (R.drop i0)) (h : ¬ i < R.length) : toks (R.drop i0) (posn R i0) = ([], none) := by
  rw [toks_eq, if_pos]
  rw [List.drop_drop, ← hi]
  exact List.drop_eq_nil_of_le (by omega)
theorem toks_bad {R : List Ru} {i0 i : Nat} (hi : i = i0 + skipM false (R.drop i0)) (h : i < R.length) (ht : tokR (posn R i) (R.drop i) = none) : toks (R.drop i0) (posn R i0) = ([], some (posn R i)) := by
  have e : posn R i = posn R i0 + (flat ((R.drop i0).take (skipM false (R.drop i0)))).length := by rw [hi, posn_add]
  rw [toks_eq, if_neg, List.drop_drop, ← hi, ← e, ht]
  rw [List.drop_drop, ← hi, List.drop_eq_nil_iff]
  omega
theorem toks_step {R : List Ru} {i0 i n : Nat} {t : Tok} (hi : i = i0 + skipM false (R.drop i0)) (h : i < R.length) (ht : tokR (posn R i) (R.drop i) = some (t, n)) :
    toks (R.drop i0) (posn R i0) = (t :: (toks (R.drop (i + n)) (posn R (i + n))).1, (toks (R.drop (i + n)) (posn R (i + n))).2) := by
  have e : posn R i = posn R i0 + (flat ((R.drop i0).take (skipM false (R.drop i0)))).length := by rw [hi, posn_add]
  have e2 : posn R (i + n) = posn R i + (flat ((R.drop i).take n)).length := posn_add R i n
  rw [toks_eq, if_neg, List.drop_drop, ← hi, ← e, ht]
  · simp only
    rw [List.drop_drop, ← e2]
  · rw [List.drop_drop, ← hi, List.drop_eq_nil_iff]
    omega
theorem Below.drewN_ {B : Nat} {a w : World} (h : Below B a w) : ∀ k, Below B a (w.drewN k)
  | 0 => h
  | k + 1 => (Below.drewN_ h k).drew
/-- What the call hands back. -/
def ToksPost (w : World) (s : List UInt8) (e : Ending) (w' : World) : Prop :=
  ∃ A c, e = .returned (.tuple #[.slice A (tokens s).1.length c, .int .i64 ((tokens s).2.1 : Nat), .int .i64 ((tokens s).2.2 : Nat)]) ∧ w'.ownsRow w.heap.size 78 4 (.slice A (tokens s).1.length c) (tokens s).1.length (cellsT (tokens s).1) ∧ Below w.heap.size w w'
theorem tokens_long {s : List UInt8} (h : 2000 < s.length) : tokens s = ([], 0, 3) := by unfold tokens; rw [if_pos h]
theorem tokens_bad {s : List UInt8} {p : Nat} (h : ¬ 2000 < s.length) (ht : (toks (each s).1 0).2 = some p) : tokens s = ([], p, 2) := by unfold tokens; rw [if_neg h, ht]
theorem tokens_odd {s : List UInt8} (h : ¬ 2000 < s.length) (ht : (toks (each s).1 0).2 = none) (hb : (each s).2 = true) : tokens s = ([], (flat (each s).1).length, 2) := by unfold tokens; rw [if_neg h, ht]; simp only; rw [if_pos hb]
theorem tokens_good {s : List UInt8} (h : ¬ 2000 < s.length) (ht : (toks (each s).1 0).2 = none) (hb : (each s).2 = false) : tokens s = ((toks (each s).1 0).1 ++ [⟨4, [], 0, s.length⟩], s.length, 0) := by unfold tokens; rw [if_neg h, ht]; simp only; rw [if_neg (by rw [hb]; decide)]
theorem src_each (s : List UInt8) {bad : Int} (hb : if (each s).2 = true then bad = ((flat (each s).1).length : Nat) else bad = -1) : Src ⟨s.toArray⟩ (each s).1 bad := by
  obtain ⟨rest, e, h1, h2⟩ := each_flat s
  refine ⟨rest, by simpa using e, ?_⟩
  cases hh : (each s).2 with
  | true =>
    rw [hh, if_pos rfl] at hb
    exact Or.inr hb
  | false =>
    rw [hh, if_neg (by decide)] at hb
    exact Or.inl ⟨hb, h1 hh⟩
set_option maxHeartbeats 8000000 in
theorem tokens_any (s : List UInt8) (hs : s.length ≤ 140737488355328) (w : World) (hT : Tab8 w) : Calls Tryz.prog 62 #[.string ⟨s.toArray⟩] w (ToksPost w s) := by
  generalize hS : (⟨s.toArray⟩ : ByteArray) = S
  have hsz : S.size = s.length := by rw [← hS]; show s.toArray.size = _; simp
  by_cases hlong : 2000 < s.length
  · have HF := Lib.hid (tokens_long hlong)
    have g : decide ((2000 : Int) < (S.size : Int)) = true := decide_eq_true (by omega)
    clear hsz hS hT hlong
    go_enter Tryz.func62, Tryz.ntmps62
    go_wp2_with fail
    go_ret3
    unfold ToksPost
    rw [HF.out]
    exact ⟨none, 0, rfl, ⟨rfl, .inl ⟨rfl, rfl⟩⟩, Below.refl _ _⟩
  · have g : decide ((2000 : Int) < (S.size : Int)) = false := decide_eq_false (by omega)
    have HE := Lib.hid (fun W (hW : Below w.heap.size w W) => each_any s (by omega) W (Go.Proofs.Utf8Tabs_below hT hW))
    rw [hS] at HE
    have HSZ := Lib.hid hsz
    have HSS := Lib.hid hS
    have HNL := Lib.hid hlong
    clear hsz hS hT hlong
    go_enter Tryz.func62, Tryz.ntmps62
    go_upto_region 5 with (
      go_at_call 85
      refine (HE.out _ ((Below.refl _ _).alloc (Nat.le_refl _) _)).mono ?_
      intro e w2 hp
      obtain ⟨A, c, bad, rfl, hbad, hown, hb2⟩ := hp
      have HBAD := Lib.hid hbad
      have HOWN := Lib.hid hown
      have HB2 := Lib.hid hb2
      have hq2 : Blk w2 w.heap.size 114 #[.string S, .slice none 0 0, .int .i64 0, .int .i64 0] := (Fr.of_below hb2).blk (heap_alloc_new w _) (by simp)
      have k1 := hq2.cell 1
      have k2 := hq2.cell 2
      have k3 := hq2.frozen 1
      have k4 := hq2.frozen 2
      have HQ2 := Lib.hid hq2
      simp only [List.getElem?_toArray, List.getElem?_cons_zero, List.getElem?_cons_succ] at k1 k2
      clear hbad hown hb2 hq2)
    have HSM := Lib.hid (each_mem s)
    have hRl : (each s).1.length ≤ 2000 := by have := each_len s; have := HNL.out; omega
    have HSR := Lib.hid (src_each s HBAD.out)
    rw [HSS.out] at HSR
    refine wp_named (fun W3 => ∃ B, Rd W3 B w.heap.size S (each s).1 A c bad 0 ∧ Below w.heap.size w W3 ∧ B ≤ W3.heap.size ∧ w.heap.size + 1 ≤ B) ⟨((w2.setCell ⟨w.heap.size, 1, none⟩ (.slice A (each s).1.length c)).setCell ⟨w.heap.size, 2, none⟩ (.int .i64 bad)).heap.size, ?_, ?_, Nat.le_refl _, ?_⟩ ?_
    · have hfr : Fr (fun k => k = w.heap.size) w2 ((w2.setCell ⟨w.heap.size, 1, none⟩ (.slice A (each s).1.length c)).setCell ⟨w.heap.size, 2, none⟩ (.int .i64 bad)) := by
        refine Fr.setCell (Fr.setCell (Fr.refl _ _) (Or.inl ?_) _) (Or.inl ?_) _ <;> rfl
      refine rd_of_each (base := w.heap.size + 1) ?_ ?_ (Nat.lt_succ_self _) (fun r hr => (HSM.out r hr).1) hRl
      · have := (HQ2.out.set_ 1 (.slice A (each s).1.length c)).set_ 2 (.int .i64 bad)
        simpa using this
      · have ho : w2.ownsRow (w.heap.size + 1) 126 2 (.slice A (each s).1.length c) (each s).1.length (cellsR 0 (each s).1) := by simpa using HOWN.out
        exact hfr.own ho (fun k hk => by have := (ho.lt k hk).1; omega)
    · exact ((((Below.refl _ _).alloc (Nat.le_refl _) _).trans (HB2.out.mono (by simp))).setCell (Nat.le_refl _) _).setCell (Nat.le_refl _) _
    · have := HB2.out.size
      simp only [World.size_alloc, World.size_setCell] at this ⊢
      exact this
    rintro W3 ⟨B, hR3, hb3, hB3, hBw⟩
    have HR3 := Lib.hid hR3
    have HB3 := Lib.hid hb3
    clear hR3 hb3 k1 k2 k3 k4
    have HTB := Lib.hid (fun p ht => tokens_bad (p := p) HNL.out ht)
    have HTO := Lib.hid (fun ht hb => tokens_odd HNL.out ht hb)
    have HTG := Lib.hid (fun ht hb => tokens_good HNL.out ht hb)
    have HBD := HBAD
    clear HOWN HB2 HQ2 HBAD HE HSM
    generalize (each s).1 = R at *
    generalize (each s).2 = eb at *
    obtain ⟨i9, hi9, hz0, hz1, hz2⟩ := info_parts inf_tok
    go_wp2_with (
      go_at_call 86
      refine (skip_any HR3.out (Nat.zero_le _)).mono ?_
      intro e w4 hp
      obtain ⟨rfl, hL4⟩ := hp
      have HL4 := Lib.hid hL4
      clear hL4)
    have hB4 : B ≤ w4.heap.size := by have := HL4.out.1.size; omega
    have HBL4 := Lib.hid (HB3.out.trans (HL4.out.1.below (B := w.heap.size) (fun k hk => by omega) HB3.out.size))
    have HRD4 := Lib.hid HL4.out.2
    have hi4 : 0 + skipM false (R.drop 0) ≤ R.length := by have := skipM_le (R.drop 0) false; simpa using this
    go_loopg [6] (R.length - (0 + skipM false (R.drop 0))) (fun g lv wr => ∃ (i0 i : Nat) (acc : List Tok), Hid (i = i0 + skipM false (R.drop i0)) ∧ i ≤ R.length ∧ g = R.length - i ∧ Hid (toks R 0 = (acc ++ (toks (R.drop i0) (posn R i0)).1, (toks (R.drop i0) (posn R i0)).2)) ∧ acc.length ≤ i ∧
      Hid (Rd wr B w.heap.size S R A c bad i) ∧ Hid (wr.ownsRow B 78 4 lv acc.length (cellsT acc)) ∧ Hid (Below w.heap.size w wr) ∧ B ≤ wr.heap.size)
    case atStart => exact ⟨0, _, [], Lib.hid rfl, hi4, rfl, Lib.hid rfl, Nat.zero_le _, HRD4, Lib.hid ⟨rfl, .inl ⟨rfl, rfl⟩⟩, HBL4, hB4⟩
    case round =>
      obtain ⟨i0, i, acc, HI, hil, hg, HTK, hacc, HR, HO, HB, hBr⟩ := hrel
      have HG := Lib.hid hg
      clear hg
      obtain ⟨c0, c1, c2, c3⟩ := HR.out.cells
      have hi2 : i ≤ 2000 := by omega
      have ha2 : acc.length ≤ 2000 := by omega
      by_cases hlt : i < R.length
      · have g1 : decide ((i : Int) < (R.length : Int)) = true := decide_eq_true (by omega)
        have HAT0 := Lib.hid (fun W (hW : Rd W B w.heap.size S R A c bad i) => rdat_zero hW hi2)
        rw [show atAt R S.size i = posn R i by unfold atAt; rw [if_pos hlt]] at HAT0
        have hS2 : S.size ≤ 2000 := by have := HSZ.out; have := HNL.out; omega
        have HTN := Lib.hid (fun W (hW : Rd W B w.heap.size S R A c bad i) (hB : B ≤ W.heap.size) => token_any hW HSR.out hlt hS2 hB)
        go_wp2_with fail
        go_quiet (fail)
        go_upto_region 11 with (first
          | (
            go_at_call 87
            refine (HAT0.out _ (HR.out.drewN _)).mono ?_
            rintro e w5 ⟨rfl, n1, rfl⟩
            try simp only [World.drewN_drewN])
          | (
            go_at_call 88
            refine (HTN.out _ (HR.out.drewN _) hBr).mono ?_
            intro e w5 hp5
            obtain ⟨t, b, j, rfl, HL5, HT5⟩ := TokPost.open_ hp5
            clear hp5
            unfold tokV))
        have HB5 := Lib.hid ((Below.drewN_ HB.out _).trans (HL5.out.1.below (B := w.heap.size) (fun k hk => by omega) (Below.drewN_ HB.out _).size))
        have hB5 : B ≤ w5.heap.size := Nat.le_trans hBr HL5.out.1.size
        have HO5 := Lib.hid (HL5.out.1.own (HO.out) (fun k hk => by have := (HO.out.lt k hk).1; omega))
        cases b with
        | false =>
          have HF := Lib.hid (HTB.out (posn R i) (by
            rcases HT5.out with ⟨h, _⟩ | ⟨_, ht⟩
            · cases h
            · rw [HTK.out, toks_bad HI.out hlt ht]))
          go_wp2_with fail
          go_ret3
          unfold ToksPost
          rw [HF.out]
          exact ⟨none, 0, rfl, ⟨rfl, .inl ⟨rfl, rfl⟩⟩, HB5.out.alloc HB5.out.size _⟩
        | true =>
          obtain ⟨n, htk, rfl⟩ : ∃ n, tokR (posn R i) (R.drop i) = some (t, n) ∧ j = i + n := by
            rcases HT5.out with ⟨_, n, h1, h2⟩ | ⟨h, _⟩
            · exact ⟨n, h1, h2⟩
            · cases h
          have hnl := tokR_len htk
          rw [List.length_drop] at hnl
          have HST := Lib.hid (toks_step HI.out hlt htk)
          clear htk
          go_wp2_with (at_builtin; refine wpList_append_any _ rfl (.tmp 51) (.tmp 53) 74 rfl B 78 i9 _ 4 40 und_toks hi9 hz0 hz1 hz2 rfl (by decide) _ acc.length (cellsT acc) rfl ((HO5.out.alloc _).alloc _) (w5.heap.size + 1 + 1) (some ⟨w5.heap.size + 1, 0, none⟩) 1 1 [.int .i64 t.kind, .string ⟨t.text.toArray⟩, .int .i64 t.n, .int .i64 t.at_] rfl ?_ (tok_one _ _ _ _) (by simp only [maxLen]; omega) (by omega) (by simp <;> omega) ?_)
          · refine reads_four (t := 78) ?_
            exact heap_new_at (by simp)
          intro v7 w7 hown7 hg7 _
          have HO7 := Lib.hid (show w7.ownsRow B 78 4 v7 (acc ++ [t]).length (cellsT (acc ++ [t])) by
            rw [cellsT_snoc, List.length_append]
            exact hown7)
          have HR7 := Lib.hid (HL5.out.2.fr (((((Fr.refl _ _).alloc _).alloc _).grown hg7 (fun k hk => .inl (HO5.out.lt k hk).1))))
          have HB7 := Lib.hid (((HB5.out.alloc HB5.out.size _).alloc (by have := HB5.out.size; simp <;> omega) _).grown hg7 (by have := HB5.out.size; simp <;> omega) (fun k hk => by have := (HO5.out.lt k hk).1; omega))
          have hB7 : B ≤ w7.heap.size := by have := hg7.size; simp at this; omega
          clear hown7 hg7
          have hj7 : i + n ≤ R.length := by omega
          go_wp2_with (
            go_at_call 86
            refine (skip_any HR7.out hj7).mono ?_
            intro e w8 hp
            obtain ⟨rfl, hL8⟩ := hp
            have HL8 := Lib.hid hL8
            clear hL8)
          have hi8 : i + n + skipM false (R.drop (i + n)) ≤ R.length := by have := skipM_le (R.drop (i + n)) false; simp at this; omega
          go_roundg (R.length - (i + n + skipM false (R.drop (i + n))))
          case measure => have := HG.out; omega
          case rel =>
            exact ⟨i + n, _, acc ++ [t], Lib.hid rfl, hi8, rfl, Lib.hid (by rw [HTK.out, HST.out]; simp), by simp; omega, Lib.hid HL8.out.2,
              Lib.hid (HL8.out.1.own HO7.out (fun k hk => by have := (HO7.out.lt k hk).1; omega)), Lib.hid (HB7.out.trans (HL8.out.1.below (B := w.heap.size) (fun k hk => by omega) HB7.out.size)), Nat.le_trans hB7 HL8.out.1.size⟩
      · have g1 : decide ((i : Int) < (R.length : Int)) = false := decide_eq_false (by omega)
        have HN := Lib.hid (show toks R 0 = (acc, none) by rw [HTK.out, toks_none HI.out hlt]; simp)
        cases eb with
        | true =>
          have hbv : bad = ((flat R).length : Nat) := by have := HBD.out; rwa [if_pos rfl] at this
          subst hbv
          have HF := Lib.hid (HTO.out (by rw [HN.out]) rfl)
          have g2 : decide ((0 : Int) ≤ (((flat R).length : Nat) : Int)) = true := decide_eq_true (by omega)
          clear HBD
          go_wp2_with fail
          go_quiet (fail)
          go_wp2_with fail
          go_quiet (fail)
          go_wp2_with fail
          go_ret3
          unfold ToksPost
          rw [HF.out]
          refine ⟨none, 0, rfl, ⟨rfl, .inl ⟨rfl, rfl⟩⟩, ?_⟩
          repeat' (first | (with_reducible exact HB.out) | (with_reducible refine Below.drewN_ ?_ _))
        | false =>
          have hbv : bad = -1 := by have := HBD.out; rwa [if_neg (by decide)] at this
          subst hbv
          have HF := Lib.hid (HTG.out (by rw [HN.out]) rfl)
          rw [HN.out] at HF
          clear HBD
          go_wp2_with fail
          go_quiet (fail)
          go_wp2_with (at_builtin; refine wpList_append_any _ rfl (.tmp 64) (.tmp 68) 74 rfl B 78 i9 _ 4 40 und_toks hi9 hz0 hz1 hz2 rfl (by decide) _ acc.length (cellsT acc) rfl (HO.out.alloc _) (wr.heap.size + 1) (some ⟨wr.heap.size, 0, none⟩) 1 1 [.int .i64 4, .string ⟨#[]⟩, .int .i64 0, .int .i64 (S.size : Nat)] rfl ?_ (tok_one _ _ _ _) (by simp only [maxLen]; omega) (by omega) (by simp <;> omega) ?_)
          · exact reads_four (t := 78) (heap_new_at (by simp))
          intro v7 w7 hown7 hg7 _
          have HO7 := Lib.hid (show w7.ownsRow B 78 4 v7 (acc ++ ([⟨4, [], 0, s.length⟩] : List Tok)).length (cellsT (acc ++ ([⟨4, [], 0, s.length⟩] : List Tok))) by
            rw [cellsT_snoc, List.length_append, ← HSZ.out]
            exact hown7)
          have HB7 := Lib.hid (((Below.drewN_ HB.out _).alloc (Below.drewN_ HB.out _).size _).grown hg7 (by have := HB.out.size; simp <;> omega) (fun k hk => by have := (HO.out.lt k hk).1; omega))
          clear hown7 hg7
          go_wp2_with fail
          go_ret3
          obtain ⟨A7, c7, rfl⟩ := own_slice HO7.out
          unfold ToksPost
          rw [HF.out]
          refine ⟨A7, c7, ?_, ?_, HB7.out⟩
          · rw [HSZ.out]
            rfl
          · refine ⟨HO7.out.1, ?_⟩
            rcases HO7.out.2 with h | ⟨g, cap, cur, h1, h2, h3⟩
            · exact .inl h
            · exact .inr ⟨g, cap, cur, h1, by omega, h3⟩
end Go.Proofs.YteikakoheibnjaaGreatDoor
namespace Go.Proofs.YteikakoheibnjaaGreatDoor
open Go Go.RowKit

set_option maxHeartbeats 2000000 in
theorem isName_any (s : List UInt8) (hs : s.length ≤ 140737488355328) (w : World) (hT : Tab8 w) : Calls Tryz.prog 45 #[.string ⟨s.toArray⟩] w fun e w' => e = .returned (.bool (nameB s)) ∧ Below w.heap.size w w' := by
  have HTK := Lib.hid (fun W hW => tokens_any s hs W (Go.Proofs.Utf8Tabs_below hT hW))
  unfold ToksPost at HTK
  have HV := Lib.hid (show nameB s = ((tokens s).2.2 == 0 && (match (tokens s).1 with | [t, _] => t.kind == 1 && t.text == s | _ => false)) by
    unfold nameB
    generalize tokens s = x
    obtain ⟨l, p, e⟩ := x
    rfl)
  clear hT
  generalize nameB s = V at *
  generalize tokens s = x at *
  obtain ⟨l, p, er⟩ := x
  simp only at HTK HV
  have ARM : True := trivial
  by_cases he : er = 0
  · subst he
    by_cases hl : l.length = 2
    · obtain ⟨t0, t1, rfl⟩ : ∃ t0 t1, l = [t0, t1] := by
        match l, hl with
        | [a, b], _ => exact ⟨a, b, rfl⟩
      have HV2 := Lib.hid (show (t0.kind == 1 && t0.text == s) = V by rw [HV.out]; rfl)
      clear HV hl
      by_cases hk : t0.kind = 1
      · have gk : ((t0.kind : Int) == 1) = true := by rw [hk]; rfl
        have HV3 := Lib.hid (show (t0.text == s) = V by rw [← HV2.out, hk]; rfl)
        clear HV2 hk
        go_enter Tryz.func45, Tryz.ntmps45
        go_wp2_with (
          go_at_call 62
          refine (HTK.out _ (Below.refl _ _)).mono ?_
          intro e w2 hp
          obtain ⟨A, c, rfl, hown, hb⟩ := hp
          have HB := Lib.hid hb
          obtain ⟨g, cap, hv, _, hlt⟩ := hown.form (by simp)
          have hA : A = some ⟨g, 0, none⟩ := by injection hv
          subst hA
          have k0 : w2.cell? ⟨g, 0, none⟩ = some (.int .i64 t0.kind) := hown.cells (g := g) rfl 0 _ rfl
          have k1 : w2.cell? ⟨g, 1, none⟩ = some (.string ⟨t0.text.toArray⟩) := hown.cells (g := g) rfl 1 _ rfl
          clear hown hb hv)
        go_ret
        exact ⟨congrArg (fun x : Bool => Ending.returned (.bool x)) HV3.out, HB.out⟩
      · have gk : ((t0.kind : Int) == 1) = false := by simp; omega
        have HV3 := Lib.hid (show false = V by rw [← HV2.out, beq_false_of_ne hk]; rfl)
        clear HV2 hk
        go_enter Tryz.func45, Tryz.ntmps45
        go_wp2_with (
          go_at_call 62
          refine (HTK.out _ (Below.refl _ _)).mono ?_
          intro e w2 hp
          obtain ⟨A, c, rfl, hown, hb⟩ := hp
          have HB := Lib.hid hb
          obtain ⟨g, cap, hv, _, hlt⟩ := hown.form (by simp)
          have hA : A = some ⟨g, 0, none⟩ := by injection hv
          subst hA
          have k0 : w2.cell? ⟨g, 0, none⟩ = some (.int .i64 t0.kind) := hown.cells (g := g) rfl 0 _ rfl
          have k1 : w2.cell? ⟨g, 1, none⟩ = some (.string ⟨t0.text.toArray⟩) := hown.cells (g := g) rfl 1 _ rfl
          clear hown hb hv)
        go_ret
        exact ⟨congrArg (fun x : Bool => Ending.returned (.bool x)) HV3.out, HB.out⟩
    · have HV2 := Lib.hid (show false = V by
        rw [HV.out]
        match l, hl with
        | [], _ => rfl
        | [_], _ => rfl
        | [a, b], h => exact absurd rfl h
        | _ :: _ :: _ :: _, _ => rfl)
      have gl : ((l.length : Int) == 2) = false := by simp; omega
      clear HV hl
      go_enter Tryz.func45, Tryz.ntmps45
      go_wp2_with (
        go_at_call 62
        refine (HTK.out _ (Below.refl _ _)).mono ?_
        intro e w2 hp
        obtain ⟨A, c, rfl, hown, hb⟩ := hp
        have HB := Lib.hid hb
        clear hown hb)
      go_ret
      exact ⟨congrArg (fun x : Bool => Ending.returned (.bool x)) HV2.out, HB.out⟩
  · have HV2 := Lib.hid (show false = V by rw [HV.out, beq_false_of_ne he]; rfl)
    have ge : ((er : Int) == 0) = false := by simp; omega
    clear HV he
    go_enter Tryz.func45, Tryz.ntmps45
    go_wp2_with (
      go_at_call 62
      refine (HTK.out _ (Below.refl _ _)).mono ?_
      intro e w2 hp
      obtain ⟨A, c, rfl, hown, hb⟩ := hp
      have HB := Lib.hid hb
      clear hown hb)
    go_ret
    exact ⟨congrArg (fun x : Bool => Ending.returned (.bool x)) HV2.out, HB.out⟩
end Go.Proofs.YteikakoheibnjaaGreatDoor
