/- Parts of the proof: LTokens. -/
import Derived.Test.YteikakoheibnjaaGreatDoorM13
import Derived.Test.YteikakoheibnjaaGreatDoorM18
import Derived.Test.YteikakoheibnjaaGreatDoorM19
namespace Go.Proofs.YteikakoheibnjaaGreatDoor
open Go Go.RowKit

theorem Lxr.fr {w w' : World} {B q : Nat} {S : ByteArray} {R : List Ru} {A : Option Addr} {c : Nat} {bad : Int} {i : Nat} (h : Lxr w B q S R A c bad i) (hf : Fr (fun k => B ≤ k) w w') : Lxr w' B q S R A c bad i :=
  ⟨hf.blk h.blk (by have := h.qlt; omega), fun j hj => by
    obtain ⟨g, e, hg, hgB, h1, h2⟩ := h.runes j hj
    have hc : ∀ o, w'.cell? ⟨g, o, none⟩ = w.cell? ⟨g, o, none⟩ := fun o => World.cell?_of_block (hf.block g (World.block_lt_of_cell? _ _ h1) (by omega))
    exact ⟨g, e, hg, hgB, (hc _).trans h1, (hc _).trans h2⟩, h.qlt, h.small, h.len, h.size, h.fin⟩
theorem lxr_of_each {W : World} {base q : Nat} {S : ByteArray} {R : List Ru} {A : Option Addr} {c : Nat} {bad : Int} (hb : Blk W q 106 #[.string S, .slice A R.length c, .int .i64 bad, .int .i64 0])
    (ho : W.ownsRow base 126 2 (.slice A R.length c) R.length (cellsR 0 R)) (hq : q < base) (hs : ∀ r ∈ R, r.1 < 2097152) (hl : R.length ≤ 2000) (hz : S.size ≤ 2000) (hf : (posn R R.length : Int) = if 0 ≤ bad then bad else (S.size : Int)) : Lxr W W.heap.size q S R A c bad 0 :=
  ⟨hb, fun j hj => by
    obtain ⟨g, cap, hv, hbase, hlt⟩ := ho.form (by omega)
    have hA : A = some ⟨g, 0, none⟩ := by injection hv
    subst hA
    obtain ⟨h1, h2⟩ := cellsR_at R 0 j hj
    have hc := ho.cells (g := g) rfl
    have add : ∀ k, (⟨g, 0, none⟩ : Addr).add k = ⟨g, k, none⟩ := fun k => by
      unfold Addr.add
      split
      · next h0 => rw [h0]
      · simp
    have e1 := hc _ _ h1
    have e2 := hc _ _ h2
    rw [add, Nat.mul_comm] at e1
    rw [add, Nat.mul_comm] at e2
    rw [Nat.zero_add] at e2
    exact ⟨g, rfl, by omega, hlt, e1, e2⟩, hb.lt, hs, hl, hz, hf⟩
theorem each_rest : ∀ l, ∃ rest, l = flat (each l).1 ++ rest ∧ (rest = [] ∨ 128 ≤ (rest.getD 0 0).toNat) := by
  refine each_ind ⟨[], by simp [each_nil, flat], Or.inl rfl⟩ (fun l hn hb => ⟨l, by simp [each_bad hn hb, flat], Or.inr ?_⟩) ?_
  · cases l with
    | nil => exact absurd rfl hn
    | cons c t =>
      show 128 ≤ c.toNat
      rcases Nat.lt_or_ge c.toNat 128 with h | h
      · rw [dec_ascii c t h] at hb
        have := hb.1
        simp at this
        omega
      · exact h
  · intro l hn hb ⟨rest, e, h⟩
    refine ⟨rest, ?_, h⟩
    rw [each_step hn hb, flat_cons, List.append_assoc, ← e, List.take_append_drop]
theorem srcl_each (s : List UInt8) : SrcL ⟨s.toArray⟩ (each s).1 := by
  obtain ⟨rest, e, h⟩ := each_rest s
  exact ⟨rest, by simpa using e, h⟩
theorem fin_each {s : List UInt8} {bad : Int} (hb : if (each s).2 = true then bad = ((flat (each s).1).length : Nat) else bad = -1) : (posn (each s).1 (each s).1.length : Int) = if 0 ≤ bad then bad else ((⟨s.toArray⟩ : ByteArray).size : Int) := by
  have hsz : (⟨s.toArray⟩ : ByteArray).size = s.length := by show s.toArray.size = _; simp
  have hp : posn (each s).1 (each s).1.length = (flat (each s).1).length := by unfold posn; rw [List.take_length]
  rw [hsz, hp]
  obtain ⟨rest, e, h1, h2⟩ := each_flat s
  cases hh : (each s).2 with
  | true =>
    rw [hh, if_pos rfl] at hb
    rw [hb, if_pos (by omega)]
  | false =>
    rw [hh, if_neg (by decide)] at hb
    rw [hb, if_neg (by omega)]
    have := congrArg List.length e
    rw [h1 hh, List.append_nil] at this
    omega
set_option maxRecDepth 100000 in
set_option maxHeartbeats 8000000 in
theorem ltokens_any (s : List UInt8) (hs : s.length ≤ 140737488355328) (w : World) : Calls Tryz.prog 61 #[.string ⟨s.toArray⟩] w (ToksPost w s) := by
  generalize hS : (⟨s.toArray⟩ : ByteArray) = S
  have hsz : S.size = s.length := by rw [← hS]; show s.toArray.size = _; simp
  by_cases hlong : 2000 < s.length
  · have HF := Lib.hid (tokens_long hlong)
    have g : decide ((2000 : Int) < (S.size : Int)) = true := decide_eq_true (by omega)
    clear hsz hS hlong
    go_enter Tryz.func61, Tryz.ntmps61
    go_wp2_with fail
    go_ret3
    unfold ToksPost
    rw [HF.out]
    exact ⟨none, 0, rfl, ⟨rfl, .inl ⟨rfl, rfl⟩⟩, Below.refl _ _⟩
  · have g : decide ((2000 : Int) < (S.size : Int)) = false := decide_eq_false (by omega)
    have HE := Lib.hid (fun W => leach_any s (by omega) W)
    rw [hS] at HE
    have HSZ := Lib.hid hsz
    have HSS := Lib.hid hS
    have HNL := Lib.hid hlong
    clear hsz hS hlong
    go_enter Tryz.func61, Tryz.ntmps61
    go_upto_region 5 with (
      go_at_call 81
      refine (HE.out _).mono ?_
      intro e w2 hp
      obtain ⟨A, c, bad, rfl, hbad, hown, hb2⟩ := hp
      have HBAD := Lib.hid hbad
      have HOWN := Lib.hid hown
      have HB2 := Lib.hid hb2
      have hq2 : Blk w2 w.heap.size 106 #[.string S, .slice none 0 0, .int .i64 0, .int .i64 0] := (Fr.of_below hb2).blk (heap_alloc_new w _) (by simp)
      have k1 := hq2.cell 1
      have k2 := hq2.cell 2
      have k3 := hq2.frozen 1
      have k4 := hq2.frozen 2
      have HQ2 := Lib.hid hq2
      simp only [List.getElem?_toArray, List.getElem?_cons_zero, List.getElem?_cons_succ] at k1 k2
      clear hbad hown hb2 hq2)
    have HSM := Lib.hid (each_mem s)
    have hRl : (each s).1.length ≤ 2000 := by have := each_len s; have := HNL.out; omega
    have HSR := Lib.hid (src_each s HBAD.out)
    have HSL := Lib.hid (srcl_each s)
    have HFI := Lib.hid (fin_each HBAD.out)
    have HSN := Lib.hid (each_snd s)
    rw [HSS.out] at HSR HSL HFI
    have hS3 : S.size ≤ 2000 := by have := HSZ.out; have := HNL.out; omega
    refine wp_named (fun W3 => ∃ B, Lxr W3 B w.heap.size S (each s).1 A c bad 0 ∧ Below w.heap.size w W3 ∧ B ≤ W3.heap.size ∧ w.heap.size + 1 ≤ B) ⟨((w2.setCell ⟨w.heap.size, 1, none⟩ (.slice A (each s).1.length c)).setCell ⟨w.heap.size, 2, none⟩ (.int .i64 bad)).heap.size, ?_, ?_, Nat.le_refl _, ?_⟩ ?_
    · have hfr : Fr (fun k => k = w.heap.size) w2 ((w2.setCell ⟨w.heap.size, 1, none⟩ (.slice A (each s).1.length c)).setCell ⟨w.heap.size, 2, none⟩ (.int .i64 bad)) := by
        refine Fr.setCell (Fr.setCell (Fr.refl _ _) (Or.inl ?_) _) (Or.inl ?_) _ <;> rfl
      refine lxr_of_each (base := w.heap.size + 1) ?_ ?_ (Nat.lt_succ_self _) (fun r hr => (HSM.out r hr).1) hRl hS3 HFI.out
      · have := (HQ2.out.set_ 1 (.slice A (each s).1.length c)).set_ 2 (.int .i64 bad)
        simpa using this
      · have ho : w2.ownsRow (w.heap.size + 1) 126 2 (.slice A (each s).1.length c) (each s).1.length (cellsR 0 (each s).1) := by simpa using HOWN.out
        exact hfr.own ho (fun k hk => by have := (ho.lt k hk).1; omega)
    · exact ((((Below.refl _ _).alloc (Nat.le_refl _) _).trans (HB2.out.mono (by simp))).setCell (Nat.le_refl _) _).setCell (Nat.le_refl _) _
    · have := HB2.out.size
      simp only [World.size_alloc, World.size_setCell] at this ⊢
      exact this
    rintro W3 ⟨B, hR3, hb3, hB3, hBw⟩
    have HR3 := Lib.hid hR3
    have HB3 := Lib.hid hb3
    clear hR3 hb3 k1 k2 k3 k4
    have HTB := Lib.hid (fun p ht => tokens_bad (p := p) HNL.out ht)
    have HTO := Lib.hid (fun ht hb => tokens_odd HNL.out ht hb)
    have HTG := Lib.hid (fun ht hb => tokens_good HNL.out ht hb)
    have HBD := HBAD
    clear HOWN HB2 HQ2 HBAD HE HSM
    generalize (each s).1 = R at *
    generalize (each s).2 = eb at *
    obtain ⟨i9, hi9, hz0, hz1, hz2⟩ := info_parts inf_tok
    go_wp2_with (
      go_at_call 82
      refine (lblank_any HR3.out (Nat.zero_le _)).mono ?_
      intro e w4 hp
      obtain ⟨rfl, hL4⟩ := hp
      have HL4 := Lib.hid hL4
      clear hL4)
    have hB4 : B ≤ w4.heap.size := by have := HL4.out.1.size; omega
    have HBL4 := Lib.hid (HB3.out.trans (HL4.out.1.below (B := w.heap.size) (fun k hk => by omega) HB3.out.size))
    have HRD4 := Lib.hid HL4.out.2
    have hi4 : 0 + skipM false (R.drop 0) ≤ R.length := by have := skipM_le (R.drop 0) false; simpa using this
    go_loopg [2] (R.length - (0 + skipM false (R.drop 0))) (fun g lv wr => ∃ (i0 i : Nat) (acc : List Tok), Hid (i = i0 + skipM false (R.drop i0)) ∧ i ≤ R.length ∧ g = R.length - i ∧ Hid (toks R 0 = (acc ++ (toks (R.drop i0) (posn R i0)).1, (toks (R.drop i0) (posn R i0)).2)) ∧ acc.length ≤ i ∧
      Hid (Lxr wr B w.heap.size S R A c bad i) ∧ Hid (wr.ownsRow B 78 4 lv acc.length (cellsT acc)) ∧ Hid (Below w.heap.size w wr) ∧ B ≤ wr.heap.size)
    case atStart => exact ⟨0, _, [], Lib.hid rfl, hi4, rfl, Lib.hid rfl, Nat.zero_le _, HRD4, Lib.hid ⟨rfl, .inl ⟨rfl, rfl⟩⟩, HBL4, hB4⟩
    case round =>
      obtain ⟨i0, i, acc, HI, hil, hg, HTK, hacc, HR, HO, HB, hBr⟩ := hrel
      have HG := Lib.hid hg
      clear hg
      obtain ⟨c0, c1, c2, c3⟩ := HR.out.cells
      have hi2 : i ≤ 2000 := by omega
      have ha2 : acc.length ≤ 2000 := by omega
      by_cases hlt : i < R.length
      · have g1 : decide ((i : Int) < (R.length : Int)) = true := decide_eq_true (by omega)
        have HAT0 := Lib.hid (fun W (hW : Lxr W B w.heap.size S R A c bad i) => lat_any hW hil)
        have HTN := Lib.hid (fun W (hW : Lxr W B w.heap.size S R A c bad i) (hB : B ≤ W.heap.size) => ltoken_any hW HSR.out HSL.out HSN.out hlt hB)
        go_wp2_with fail
        go_quiet (fail)
        go_upto_region 10 with (first
          | (
            go_at_call 83
            refine (HAT0.out _ (HR.out.drewN _)).mono ?_
            rintro e w5 ⟨rfl, n1, rfl⟩
            try simp only [World.drewN_drewN])
          | (
            go_at_call 84
            refine (HTN.out _ (HR.out.drewN _) hBr).mono ?_
            intro e w5 hp5
            obtain ⟨t, b, j, rfl, HL5, HT5⟩ := LTokPost.open_ hp5
            clear hp5
            unfold tokV))
        have HB5 := Lib.hid ((Below.drewN_ HB.out _).trans (HL5.out.1.below (B := w.heap.size) (fun k hk => by omega) (Below.drewN_ HB.out _).size))
        have hB5 : B ≤ w5.heap.size := Nat.le_trans hBr HL5.out.1.size
        have HO5 := Lib.hid (HL5.out.1.own (HO.out) (fun k hk => by have := (HO.out.lt k hk).1; omega))
        cases b with
        | false =>
          have HF := Lib.hid (HTB.out (posn R i) (by
            rcases HT5.out with ⟨h, _⟩ | ⟨_, ht⟩
            · cases h
            · rw [HTK.out, toks_bad HI.out hlt ht]))
          go_wp2_with fail
          go_ret3
          unfold ToksPost
          rw [HF.out]
          exact ⟨none, 0, rfl, ⟨rfl, .inl ⟨rfl, rfl⟩⟩, HB5.out.alloc HB5.out.size _⟩
        | true =>
          obtain ⟨n, htk, rfl⟩ : ∃ n, tokR (posn R i) (R.drop i) = some (t, n) ∧ j = i + n := by
            rcases HT5.out with ⟨_, n, h1, h2⟩ | ⟨h, _⟩
            · exact ⟨n, h1, h2⟩
            · cases h
          have hnl := tokR_len htk
          rw [List.length_drop] at hnl
          have HST := Lib.hid (toks_step HI.out hlt htk)
          clear htk
          go_wp2_with (at_builtin; refine wpList_append_any _ rfl (.tmp 50) (.tmp 52) 74 rfl B 78 i9 _ 4 40 und_toks hi9 hz0 hz1 hz2 rfl (by decide) _ acc.length (cellsT acc) rfl ((HO5.out.alloc _).alloc _) (w5.heap.size + 1 + 1) (some ⟨w5.heap.size + 1, 0, none⟩) 1 1 [.int .i64 t.kind, .string ⟨t.text.toArray⟩, .int .i64 t.n, .int .i64 t.at_] rfl ?_ (tok_one _ _ _ _) (by simp only [maxLen]; omega) (by omega) (by simp <;> omega) ?_)
          · refine reads_four (t := 78) ?_
            exact heap_new_at (by simp)
          intro v7 w7 hown7 hg7 _
          have HO7 := Lib.hid (show w7.ownsRow B 78 4 v7 (acc ++ [t]).length (cellsT (acc ++ [t])) by
            rw [cellsT_snoc, List.length_append]
            exact hown7)
          have HR7 := Lib.hid (HL5.out.2.fr (((((Fr.refl _ _).alloc _).alloc _).grown hg7 (fun k hk => .inl (HO5.out.lt k hk).1))))
          have HB7 := Lib.hid (((HB5.out.alloc HB5.out.size _).alloc (by have := HB5.out.size; simp <;> omega) _).grown hg7 (by have := HB5.out.size; simp <;> omega) (fun k hk => by have := (HO5.out.lt k hk).1; omega))
          have hB7 : B ≤ w7.heap.size := by have := hg7.size; simp at this; omega
          clear hown7 hg7
          have hj7 : i + n ≤ R.length := by omega
          go_wp2_with (
            go_at_call 82
            refine (lblank_any HR7.out hj7).mono ?_
            intro e w8 hp
            obtain ⟨rfl, hL8⟩ := hp
            have HL8 := Lib.hid hL8
            clear hL8)
          have hi8 : i + n + skipM false (R.drop (i + n)) ≤ R.length := by have := skipM_le (R.drop (i + n)) false; simp at this; omega
          go_roundg (R.length - (i + n + skipM false (R.drop (i + n))))
          case measure => have := HG.out; omega
          case rel =>
            exact ⟨i + n, _, acc ++ [t], Lib.hid rfl, hi8, rfl, Lib.hid (by rw [HTK.out, HST.out]; simp), by simp; omega, Lib.hid HL8.out.2,
              Lib.hid (HL8.out.1.own HO7.out (fun k hk => by have := (HO7.out.lt k hk).1; omega)), Lib.hid (HB7.out.trans (HL8.out.1.below (B := w.heap.size) (fun k hk => by omega) HB7.out.size)), Nat.le_trans hB7 HL8.out.1.size⟩
      · have g1 : decide ((i : Int) < (R.length : Int)) = false := decide_eq_false (by omega)
        have HN := Lib.hid (show toks R 0 = (acc, none) by rw [HTK.out, toks_none HI.out hlt]; simp)
        cases eb with
        | true =>
          have hbv : bad = ((flat R).length : Nat) := by have := HBD.out; rwa [if_pos rfl] at this
          subst hbv
          have HF := Lib.hid (HTO.out (by rw [HN.out]) rfl)
          have g2 : decide ((0 : Int) ≤ (((flat R).length : Nat) : Int)) = true := decide_eq_true (by omega)
          clear HBD
          go_wp2_with fail
          go_quiet (fail)
          go_wp2_with fail
          go_quiet (fail)
          go_wp2_with fail
          go_ret3
          unfold ToksPost
          rw [HF.out]
          refine ⟨none, 0, rfl, ⟨rfl, .inl ⟨rfl, rfl⟩⟩, ?_⟩
          repeat' (first | (with_reducible exact HB.out) | (with_reducible refine Below.drewN_ ?_ _))
        | false =>
          have hbv : bad = -1 := by have := HBD.out; rwa [if_neg (by decide)] at this
          subst hbv
          have HF := Lib.hid (HTG.out (by rw [HN.out]) rfl)
          rw [HN.out] at HF
          clear HBD
          go_wp2_with fail
          go_quiet (fail)
          go_wp2_with (at_builtin; refine wpList_append_any _ rfl (.tmp 63) (.tmp 67) 74 rfl B 78 i9 _ 4 40 und_toks hi9 hz0 hz1 hz2 rfl (by decide) _ acc.length (cellsT acc) rfl (HO.out.alloc _) (wr.heap.size + 1) (some ⟨wr.heap.size, 0, none⟩) 1 1 [.int .i64 4, .string ⟨#[]⟩, .int .i64 0, .int .i64 (S.size : Nat)] rfl ?_ (tok_one _ _ _ _) (by simp only [maxLen]; omega) (by omega) (by simp <;> omega) ?_)
          · exact reads_four (t := 78) (heap_new_at (by simp))
          intro v7 w7 hown7 hg7 _
          have HO7 := Lib.hid (show w7.ownsRow B 78 4 v7 (acc ++ ([⟨4, [], 0, s.length⟩] : List Tok)).length (cellsT (acc ++ ([⟨4, [], 0, s.length⟩] : List Tok))) by
            rw [cellsT_snoc, List.length_append, ← HSZ.out]
            exact hown7)
          have HB7 := Lib.hid (((Below.drewN_ HB.out _).alloc (Below.drewN_ HB.out _).size _).grown hg7 (by have := HB.out.size; simp <;> omega) (fun k hk => by have := (HO.out.lt k hk).1; omega))
          clear hown7 hg7
          go_wp2_with fail
          go_ret3
          obtain ⟨A7, c7, rfl⟩ := own_slice HO7.out
          unfold ToksPost
          rw [HF.out]
          refine ⟨A7, c7, ?_, ?_, HB7.out⟩
          · rw [HSZ.out]
            rfl
          · refine ⟨HO7.out.1, ?_⟩
            rcases HO7.out.2 with h | ⟨g, cap, cur, h1, h2, h3⟩
            · exact .inl h
            · exact .inr ⟨g, cap, cur, h1, by omega, h3⟩
end Go.Proofs.YteikakoheibnjaaGreatDoor
