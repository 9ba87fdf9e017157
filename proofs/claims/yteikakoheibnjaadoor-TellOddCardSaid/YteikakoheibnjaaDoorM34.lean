/- Parts of the proof: TReadR. -/
import Derived.Test.YteikakoheibnjaaDoorM32
import Derived.Test.YteikakoheibnjaaDoorM33
namespace Go.Proofs.YteikakoheibnjaaDoor
open Go Go.RowKit

/-- Where a word stands among the tags. -/
def idxT (f : List UInt8) : Int := Lib.idxOfS (strBs tagsL) ⟨f.toArray⟩
theorem bytes_inj {a b : List UInt8} : ((⟨a.toArray⟩ : ByteArray) = ⟨b.toArray⟩) ↔ a = b := by
  constructor
  · intro h
    injection h with h
    simpa using h
  · rintro rfl
    rfl
theorem tagOf_idx (f : List UInt8) : (if idxT f < 0 then 0 else idxT f) = tagOf f := by
  unfold idxT Lib.idxOfS tagOf strBs tagsL
  simp only [List.map_cons, List.map_nil, Lib.idxFromS, bytes_inj, eq_comm (b := f)]
  by_cases h0 : f = []
  · subst h0; decide
  by_cases h1 : f = wValid
  · subst h1; decide
  by_cases h2 : f = wContingent
  · subst h2; decide
  by_cases h3 : f = wUnsat
  · subst h3; decide
  by_cases h4 : f = wRefused
  · subst h4; decide
  by_cases h5 : f = wLimit
  · subst h5; decide
  rw [if_neg h0, if_neg h1, if_neg h2, if_neg h3, if_neg h4, if_neg h5, if_pos (by decide), if_neg h1, if_neg h2, if_neg h3, if_neg h4, if_neg h5]
theorem tindex_any {w : World} {b : Nat} (hb : Blk w b 9 (strVs tagsL).toArray) (x : List UInt8) : Calls Tryd.prog 51 #[.slice (some ⟨b, 0, none⟩) 6 6, .string ⟨x.toArray⟩] w fun e w' => e = .returned (.int .i64 (idxT x)) ∧ w' = w := by
  refine (Tryd.slices_Index_string b 0 6 6 (strBs tagsL) ⟨x.toArray⟩ _ (by decide) (by decide) (fun j hj => ?_)).mono ?_
  · have hj2 : j < tagsL.length := by simpa [strBs] using hj
    rw [Nat.zero_add, cell_of_row w b j _ 9 (0, 0) hb, List.getElem?_toArray, strVs_at tagsL j hj2]
    unfold strBs
    rw [List.getD_eq_getElem?_getD, List.getElem?_map, List.getElem?_eq_getElem hj2]
    rfl
  · rintro e w2 ⟨rfl, rfl⟩
    exact ⟨rfl, rfl⟩
theorem ttags_blk (w : World) : Calls Tryd.prog 52 #[] w fun e w' => ∃ g, e = .returned (.slice (some ⟨g, 0, none⟩) 6 6) ∧ Below w.heap.size w w' ∧ Blk w' g 9 (strVs tagsL).toArray ∧ w.heap.size ≤ g := by
  refine (ttags_any w).mono ?_
  rintro e w' ⟨rfl, rfl⟩
  exact ⟨w.heap.size, rfl, (Below.refl _ _).alloc (Nat.le_refl _) _, lblkNew w _ _, Nat.le_refl _⟩
theorem tsplit_blk (s sep : List UInt8) (hs : s.length < 4294967281) (h1 : 1 ≤ sep.length) {w : World} (hT : TTab w) :
    Calls Tryd.prog 50 #[.string ⟨s.toArray⟩, .string ⟨sep.toArray⟩] w fun e w' => ∃ g, e = .returned (.slice (some ⟨g, 0, none⟩) (Lib.split s sep).length (Lib.split s sep).length) ∧ Below w.heap.size w w' ∧ Blk w' g 9 (strVs (Lib.split s sep)).toArray ∧ w.heap.size ≤ g := by
  refine (tsplit_any s sep hs h1 hT).mono ?_
  rintro e w' ⟨rfl, rfl⟩
  exact ⟨w.heap.size, rfl, (Below.refl _ _).alloc (Nat.le_refl _) _, lblkNew w _ _, Nat.le_refl _⟩
theorem strs_cell {w : World} {g : Nat} {l : List (List UInt8)} (h : Blk w g 9 (strVs l).toArray) (k : Nat) (hk : k < l.length) : w.cell? ⟨g, k, none⟩ = some (.string ⟨l[k].toArray⟩) := by
  rw [h.cell k]
  unfold strVs
  simp [hk]
theorem tinf_val : (Tryd.prog.info? 94).map (fun i => (i.zero, i.size, i.bytes)) = some (some (.agg #[.string ⟨#[]⟩, .int .i64 0, .slice none 0 0]), 3, 48) := by kernel_rfl
theorem tund_vals : Tryd.prog.underlying 42 = some (.slice 94) := by kernel_rfl
theorem tval_one (s : ByteArray) (n : Int) (A : Option Addr) (l c : Nat) : ∀ u ∈ ([.string s, .int .i64 n, .slice A l c] : List Value), u.oneCell' = true := by
  intro u hu
  simp at hu
  rcases hu with rfl | rfl | rfl <;> rfl
theorem treads_val {w : World} {h : Nat} {t : TypeId} {u0 u1 u2 : Value} (hb : w.heap[h]? = some (.cells #[u0, u1, u2] t (0, 0))) : Reads w (h + 1) 3 (some ⟨h, 0, none⟩) 1 [u0, u1, u2] := by
  refine ⟨rfl, fun _ => ⟨_, rfl, by simp, fun j z hz => ?_⟩⟩
  have e : (⟨h, 0, none⟩ : Addr).add j = ⟨h, j, none⟩ := by
    unfold Addr.add
    split
    · next h0 => subst h0; rfl
    · simp
  rw [e, cell_of_row w h j _ t (0, 0) hb, ← hz]
  simp
theorem res5 {w : World} {g : Nat} {t : TypeId} {x0 x1 x2 x3 x4 : Value} (h : Blk w g t #[x0, x1, x2, x3, x4]) (y0 y1 y2 y3 y4 : Value) :
    Blk (((((w.setCell ⟨g, 0, none⟩ y0).setCell ⟨g, 1, none⟩ y1).setCell ⟨g, 2, none⟩ y2).setCell ⟨g, 3, none⟩ y3).setCell ⟨g, 4, none⟩ y4) g t #[y0, y1, y2, y3, y4] := by
  have := ((((h.set_ 0 y0).set_ 1 y1).set_ 2 y2).set_ 3 y3).set_ 4 y4
  simpa using this
theorem res12 {w : World} {g : Nat} {t : TypeId} {x0 x1 x2 x3 x4 : Value} (h : Blk w g t #[x0, x1, x2, x3, x4]) (y1 y2 : Value) : Blk ((w.setCell ⟨g, 1, none⟩ y1).setCell ⟨g, 2, none⟩ y2) g t #[x0, y1, y2, x3, x4] := by
  have := (h.set_ 1 y1).set_ 2 y2
  simpa using this
theorem lblk5 {w : World} {g : Nat} {t : TypeId} {x0 x1 x2 x3 x4 : Value} (h : Blk w g t #[x0, x1, x2, x3, x4]) :
    w.cell? ⟨g, 0, none⟩ = some x0 ∧ w.cell? ⟨g, 1, none⟩ = some x1 ∧ w.cell? ⟨g, 2, none⟩ = some x2 ∧ w.cell? ⟨g, 3, none⟩ = some x3 ∧ w.cell? ⟨g, 4, none⟩ = some x4 := ⟨h.cell 0, h.cell 1, h.cell 2, h.cell 3, h.cell 4⟩
theorem lblk5f {w : World} {g : Nat} {t : TypeId} {cs : Array Value} (h : Blk w g t cs) :
    w.frozen? ⟨g, 0, none⟩ = false ∧ w.frozen? ⟨g, 1, none⟩ = false ∧ w.frozen? ⟨g, 2, none⟩ = false ∧ w.frozen? ⟨g, 3, none⟩ = false ∧ w.frozen? ⟨g, 4, none⟩ = false := ⟨h.frozen 0, h.frozen 1, h.frozen 2, h.frozen 3, h.frozen 4⟩
theorem resZ {w : World} {g : Nat} (h : Blk w g 44 (resC 0 0 0 (.slice none 0 0) (.slice none 0 0))) (y0 y1 y2 y3 y4 : Value) :
    Blk (((((w.setCell ⟨g, 0, none⟩ y0).setCell ⟨g, 1, none⟩ y1).setCell ⟨g, 2, none⟩ y2).setCell ⟨g, 3, none⟩ y3).setCell ⟨g, 4, none⟩ y4) g 44 #[y0, y1, y2, y3, y4] := res5 h y0 y1 y2 y3 y4
theorem res_res {fn : Func} {p u : Tmp} (h : fn.results = #[.cell p 44, .tmp u]) (tmps : Array Value) (w : World) (g : Nat) (cs : Array Value) (hp : tmps.getD p undef = .pointer (some ⟨g, 0, none⟩)) (hg : Blk w g 44 cs) (hc : cs.size = 5) :
    (results fn tmps).run Tryd.prog w = .ok (.tuple #[.agg cs, tmps.getD u undef]) w := by
  have hi : (Tryd.prog.info? 44).map (·.size) = some cs.size := by rw [hc]; kernel_rfl
  rw [results_cell_tmp h, hp]
  simp [asAddr, run_loadVar_row w g 44 44 cs (0, 0) _ hg Tryd.underlying44 rfl hi, Result.andThen]
theorem bel_put {B g : Nat} {a w : World} (h : Below B a w) (hg : B ≤ g) (o : Nat) (u : Value) : Below B a (w.setCell ⟨g, o, none⟩ u) := Below.setCell (p := ⟨g, o, none⟩) h hg u
theorem put5_below {w W : World} (h : Below w.heap.size w W) (y0 y1 y2 y3 y4 : Value) :
    Below w.heap.size w (((((W.setCell ⟨w.heap.size, 0, none⟩ y0).setCell ⟨w.heap.size, 1, none⟩ y1).setCell ⟨w.heap.size, 2, none⟩ y2).setCell ⟨w.heap.size, 3, none⟩ y3).setCell ⟨w.heap.size, 4, none⟩ y4) :=
  bel_put (bel_put (bel_put (bel_put (bel_put h (Nat.le_refl _) 0 y0) (Nat.le_refl _) 1 y1) (Nat.le_refl _) 2 y2) (Nat.le_refl _) 3 y3) (Nat.le_refl _) 4 y4
theorem resAt_zero (W : World) (B : Nat) : ResAt W B zeroR ⟨none, 0, none, 0⟩ := by
  have h : ValsAt W B none 0 [] := ⟨Nat.le_refl _, Nat.zero_le _, fun v hv => absurd hv (by simp), fun k hk => absurd hk (by simp)⟩
  exact ⟨h, h⟩
set_option maxRecDepth 100000 in
set_option maxHeartbeats 8000000 in
theorem tReadR_any {s : List UInt8} (hs : s.length ≤ 4294967200) {w : World} (hT : TTab w) :
    Calls Tryd.prog 21 #[.string ⟨s.toArray⟩] w fun e w' => ∃ L, e = .returned (.tuple #[resT (readP s).1 L, .bool (readP s).2]) ∧ Below w.heap.size w w' ∧ ResAt w' w'.heap.size (readP s).1 L := by
  have HTT := Lib.hid (fun W (hb : Below w.heap.size w W) => hT.below hb)
  have hll := split_len s [10] (by decide)
  have HLM := Lib.hid (fun x (hx : x ∈ Lib.split s [10]) => split_mem_len hx)
  have HS1 := Lib.hid (fun W (hb : Below w.heap.size w W) => (show Calls Tryd.prog 50 #[.string ⟨s.toArray⟩, .string ⟨#[10]⟩] W _ from tsplit_blk s [10] (by omega) (by decide) (hT.below hb)))
  have HFO := Lib.hid (show firstOf s = Lib.split ((Lib.split s [10]).getD 0 []) [32] from rfl)
  have HR := Lib.hid (show readR s = ⟨tagOf ((firstOf s).getD 0 []), if (firstOf s).length = 3 then number ((firstOf s).getD 1 []) else 0, if (firstOf s).length = 3 then number ((firstOf s).getD 2 []) else 0, (rdLines ((Lib.split s [10]).drop 1)).model, (rdLines ((Lib.split s [10]).drop 1)).counter⟩ from rfl)
  generalize Lib.split s [10] = LS at *
  have hl0 : LS.getD 0 [] = LS[0] := by rw [List.getD_eq_getElem?_getD, List.getElem?_eq_getElem]; rfl
  have hf0 := HLM.out LS[0] (List.getElem_mem _)
  rw [hl0] at HFO
  clear hl0
  have hfl := split_len LS[0] [32] (by decide)
  have HFM := Lib.hid (fun x (hx : x ∈ Lib.split LS[0] [32]) => split_mem_len hx)
  have HS2 := Lib.hid (fun W (hb : Below w.heap.size w W) => (show Calls Tryd.prog 50 #[.string ⟨LS[0].toArray⟩, .string ⟨#[32]⟩] W _ from tsplit_blk LS[0] [32] (by omega) (by decide) (hT.below hb)))
  have HLC := Lib.hid (fun W g (hb : Blk W g 9 (strVs LS).toArray) => strs_cell hb 0 (by omega))
  rw [HFO.out] at HR
  clear HFO
  generalize Lib.split LS[0] [32] = FZ at *
  have hg0 : FZ.getD 0 [] = FZ[0] := by rw [List.getD_eq_getElem?_getD, List.getElem?_eq_getElem]; rfl
  rw [hg0] at HR
  clear hg0
  have HIX := Lib.hid (fun W g (hb : Blk W g 9 (strVs tagsL).toArray) => tindex_any hb FZ[0])
  have HTO := Lib.hid (tagOf_idx FZ[0])
  have HFC := Lib.hid (fun W g (hb : Blk W g 9 (strVs FZ).toArray) => strs_cell hb 0 (by omega))
  have HTG := Lib.hid (fun W => ttags_blk W)
  generalize tagOf FZ[0] = T0 at *
  generalize idxT FZ[0] = I0 at *
  generalize FZ[0] = F0 at *
  generalize LS[0] = L0 at *
  generalize hnF : FZ.length = nF at *
  generalize hnL : LS.length = nL at *
  have HNF := Lib.hid hnF
  have HNL := Lib.hid hnL
  clear hnF hnL
  have hp0 : (0 : Int) < (nL : Int) := by omega
  have hp1 : (0 : Int) < (nF : Int) := by omega
  have hp0' : 0 < nL := by omega
  have hp1' : 0 < nF := by omega
  have HB0 := Lib.hid ((Below.refl w.heap.size w).alloc (Nat.le_refl _) (.cells (resC 0 0 0 (.slice none 0 0) (.slice none 0 0)) 44))
  have HZ0 := Lib.hid (lblkNew w 44 (resC 0 0 0 (.slice none 0 0) (.slice none 0 0)))
  clear hT
  go_enter Tryd.func21, Tryd.ntmps21
  go_upto_region 3 with (first
    | (
      have hgd := HL1
      clear hgd
      go_at_call 50
      refine (HS2.out _ HB1.out).mono ?_
      rintro e w3 ⟨gF, rfl, hb3, hF3, hgF⟩
      have HL3 := Lib.hid (HL1.out.later hb3)
      have HZ3 := Lib.hid (HZ1.out.later hb3)
      have HB3 := Lib.hid (HB1.out.trans (hb3.mono HB1.out.size))
      have HF3 := Lib.hid hF3
      have hsF := hF3.lt
      clear hb3 hF3)
    | (
      go_at_call 50
      refine (HS1.out _ HB0.out).mono ?_
      rintro e w2 ⟨gL, rfl, hb2, hL2, hgL⟩
      have HZ1 := Lib.hid (HZ0.out.later hb2)
      have HB1 := Lib.hid (HB0.out.trans (hb2.mono HB0.out.size))
      have HL1 := Lib.hid hL2
      have c0 := HLC.out _ _ hL2
      have hsL := hL2.lt
      clear hb2 hL2))
  have c1 := HFC.out _ _ HF3.out
  have HTa : Hid (Calls Tryd.prog 52 #[] (w3.alloc (.cells (resC 0 0 0 (.slice none 0 0) (.slice none 0 0)) 44)).drew fun e w' => ∃ g, e = .returned (.slice (some ⟨g, 0, none⟩) 6 6) ∧ Below w.heap.size w w' ∧ Blk w' w.heap.size 44 (resC 0 0 0 (.slice none 0 0) (.slice none 0 0)) ∧ Blk w' gL 9 (strVs LS).toArray ∧ Blk w' gF 9 (strVs FZ).toArray ∧ Blk w' g 9 (strVs tagsL).toArray ∧ Blk w' w3.heap.size 44 (resC 0 0 0 (.slice none 0 0) (.slice none 0 0))) := by
    refine Lib.hid ((HTG.out _).mono ?_)
    rintro e w' ⟨g, rfl, hb, ht, _⟩
    have hb2 := hb.mono (show w3.heap.size ≤ _ by simp)
    have hbb : Below w.heap.size w w' := ((HB3.out.alloc HB3.out.size _).drew).trans (hb2.mono HB3.out.size)
    exact ⟨g, rfl, hbb, Blk.later (lblkD (lblkA HZ3.out _)) hb, Blk.later (lblkD (lblkA HL3.out _)) hb, Blk.later (lblkD (lblkA HF3.out _)) hb, ht, Blk.later (lblkD (lblkNew _ _ _)) hb⟩
  have HTb : Hid (Calls Tryd.prog 52 #[] w3.drew fun e w' => ∃ g, e = .returned (.slice (some ⟨g, 0, none⟩) 6 6) ∧ Below w.heap.size w w' ∧ Blk w' w.heap.size 44 (resC 0 0 0 (.slice none 0 0) (.slice none 0 0)) ∧ Blk w' gL 9 (strVs LS).toArray ∧ Blk w' gF 9 (strVs FZ).toArray ∧ Blk w' g 9 (strVs tagsL).toArray ∧ w3.heap.size ≤ w'.heap.size) := by
    refine Lib.hid ((HTG.out _).mono ?_)
    rintro e w' ⟨g, rfl, hb, ht, _⟩
    have hbb : Below w.heap.size w w' := HB3.out.drew.trans (hb.mono HB3.out.size)
    exact ⟨g, rfl, hbb, Blk.later (lblkD HZ3.out) hb, Blk.later (lblkD HL3.out) hb, Blk.later (lblkD HF3.out) hb, ht, hb.size⟩
  have hs3 := HB3.out.size
  have hz3 := HZ3.out.lt
  have hl3 := HL3.out.lt
  clear HTG
  go_cut [6] from 21 to 27 (fun v wx => ∃ gr, v = .pointer (some ⟨gr, 0, none⟩) ∧ w3.heap.size ≤ gr ∧ Below w.heap.size w wx ∧ Blk wx w.heap.size 44 (resC 0 0 0 (.slice none 0 0) (.slice none 0 0)) ∧ Blk wx gL 9 (strVs LS).toArray ∧ Blk wx gF 9 (strVs FZ).toArray ∧ Blk wx gr 44 (resC T0 0 0 (.slice none 0 0) (.slice none 0 0)))
  case first =>
    have hmx := HTO.out
    have hmr : ∀ (ts : Array TypeId) (t : TypeId) (W : World), (Builtin.max_ ts t #[.int .i64 I0, .int .i64 0]).run Tryd.prog W = .ok (.int .i64 T0) W := fun ts t W => by
      rw [run_max_int2, ← hmx]
    go_region_held3 (fun W : World => W.cell? ⟨gF, 0, none⟩ = some (.string ⟨F0.toArray⟩)) (repeat' (first | (with_reducible exact c1) | (with_reducible exact c6) | (with_reducible refine lkeepS ?_ ?_ _) | (with_reducible refine lkeepA ?_ _) | (with_reducible refine lkeepD ?_) | (with_reducible refine lkeepN ?_) | omega)) ((first
      | (
        have hgd := HT6
        clear hgd
        go_at_call 51
        refine (HIX.out _ _ (by first | (with_reducible exact HT6.out) | (with_reducible exact lblkA HT6.out _))).mono ?_
        rintro e w7 ⟨rfl, rfl⟩)
      | (
        go_at_call 52
        first
          | (with_reducible refine HTa.out.mono ?_
             rintro e w6 ⟨gT, rfl, hb6, hz6, hl6, hf6, ht6, hn6⟩
             have HN6 := Lib.hid hn6
             obtain ⟨r60, r61, r62, r63, r64⟩ := lblk5 hn6
             obtain ⟨y60, y61, y62, y63, y64⟩ := lblk5f hn6
             have hsn6 := hn6.lt
             clear hn6)
          | (with_reducible refine HTb.out.mono ?_
             rintro e w6 ⟨gT, rfl, hb6, hz6, hl6, hf6, ht6, hs6⟩)
        have c6 := HFC.out _ _ hf6
        have HB6 := Lib.hid hb6
        have HZ6 := Lib.hid hz6
        have HL6 := Lib.hid hl6
        have HF6 := Lib.hid hf6
        have HT6 := Lib.hid ht6
        have hsF6 := hf6.lt
        clear hb6 hz6 hl6 hf6 ht6)))
    all_goals
      go_wp2_with fail
      go_meet
      case rel =>
        refine ⟨_, rfl, ?_, ?_, ?_, ?_, ?_, ?_⟩
        all_goals repeat' (first | (with_reducible exact HB6.out) | (with_reducible exact HZ6.out) | (with_reducible exact HL6.out) | (with_reducible exact HF6.out) | (with_reducible exact HN6.out) | (with_reducible exact lblkNew _ _ _) | (with_reducible refine resZ ?_ _ _ _ _ _) | (with_reducible refine lblkA ?_ _) | (with_reducible refine lblkD ?_) | (with_reducible refine Blk.other ?_ ?_ _) | (with_reducible refine Below.alloc ?_ ?_ _) | (with_reducible refine Below.setCell ?_ ?_ _) | omega | (simp; done) | (simp <;> omega))
  case rest =>
    obtain ⟨gr, rfl, hgr, hb4, hz4, hl4, hf4, hr4⟩ := hcut
    obtain ⟨w4, hw4⟩ : ∃ x, x = wc := ⟨_, rfl⟩
    subst hw4
    have HB4 := Lib.hid hb4
    have HZ4 := Lib.hid hz4
    have HL4 := Lib.hid hl4
    have HF4 := Lib.hid hf4
    have HR4 := Lib.hid hr4
    have hsr := hr4.lt
    have hsF4 := hf4.lt
    have hsL4 := hl4.lt
    have hs4 := hb4.size
    have hgw := hgr
    clear hb4 hz4 hl4 hf4 HTa HTb HIX HTO c0 c1 HZ0 HB0 HZ1 HB1 HL1 HL3 HZ3 HF3 HS1 HS2
    have HEF : Hid (∃ E1 A1 : Int, (if nF = 3 then number (FZ.getD 1 []) else 0) = E1 ∧ (if nF = 3 then number (FZ.getD 2 []) else 0) = A1) := Lib.hid ⟨_, _, rfl, rfl⟩
    obtain ⟨E1, A1, he1, ha1⟩ := HEF.out
    rw [he1, ha1] at HR
    clear HEF
    go_upto_if 30 with fail
    go_cut [6] from 28 to 40 (fun v wx => v = .pointer (some ⟨gr, 0, none⟩) ∧ Below w.heap.size w wx ∧ Blk wx w.heap.size 44 (resC 0 0 0 (.slice none 0 0) (.slice none 0 0)) ∧ Blk wx gL 9 (strVs LS).toArray ∧ Blk wx gr 44 (resC T0 E1 A1 (.slice none 0 0) (.slice none 0 0)))
    case first =>
      by_cases h3 : nF = 3
      · subst h3
        rw [if_pos rfl] at he1 ha1
        have hF1 : 1 < FZ.length := by have := HNF.out; omega
        have hF2 : 2 < FZ.length := by have := HNF.out; omega
        have hf1 : FZ.getD 1 [] = FZ[1]'hF1 := by rw [List.getD_eq_getElem?_getD, List.getElem?_eq_getElem]; rfl
        have hf2 : FZ.getD 2 [] = FZ[2]'hF2 := by rw [List.getD_eq_getElem?_getD, List.getElem?_eq_getElem]; rfl
        have hm1 := HFM.out (FZ[1]'hF1) (List.getElem_mem _)
        have hm2 := HFM.out (FZ[2]'hF2) (List.getElem_mem _)
        have c1 := strs_cell HF4.out 1 hF1
        have c2 := strs_cell HF4.out 2 hF2
        rw [hf1] at he1
        rw [hf2] at ha1
        have HN1 := Lib.hid (fun W => tnumber_any (FZ[1]'hF1) (by omega) W)
        have HN2 := Lib.hid (fun W => tnumber_any (FZ[2]'hF2) (by omega) W)
        rw [he1] at HN1
        rw [ha1] at HN2
        have HFK := Lib.hid (fun W (hb : Blk W gF 9 (strVs FZ).toArray) => And.intro (strs_cell hb 1 hF1) (strs_cell hb 2 hF2))
        clear he1 ha1 hf1 hf2 hm1 hm2
        generalize (FZ[1]'hF1) = F1 at *
        generalize (FZ[2]'hF2) = F2 at *
        have hFr : gF ≠ gr := by omega
        go_upto_region 5 with fail
        go_region_held3 (fun W : World => W.cell? ⟨gF, 1, none⟩ = some (.string ⟨F1.toArray⟩) ∧ W.cell? ⟨gF, 2, none⟩ = some (.string ⟨F2.toArray⟩)) ((refine ⟨?_, ?_⟩) <;> repeat' (first | (with_reducible exact x1) | (with_reducible exact x2) | (with_reducible exact z1) | (with_reducible exact z2) | (with_reducible exact c1) | (with_reducible exact c2) | (with_reducible refine lkeepS ?_ ?_ _) | (with_reducible refine lkeepD ?_) | omega)) ((first
          | (
            have hgd := HB7
            go_at_call 53
            refine (HN2.out _).mono ?_
            rintro e w8 ⟨rfl, hb8⟩
            have HB8 := Lib.hid (HB7.out.trans (hb8.mono HB7.out.size))
            have HZ8 := Lib.hid (HZ7.out.later hb8)
            have HL8 := Lib.hid (HL7.out.later hb8)
            have HF8 := Lib.hid (HF7.out.later hb8)
            have HR8 := Lib.hid (HR7.out.later hb8)
            obtain ⟨x1, x2⟩ := HFK.out _ HF8.out
            obtain ⟨r80, r81, r82, r83, r84⟩ := lblk5 HR8.out
            obtain ⟨y80, y81, y82, y83, y84⟩ := lblk5f HR8.out
            clear hb8)
          | (
            go_at_call 53
            refine (HN1.out _).mono ?_
            rintro e w7 ⟨rfl, hb7⟩
            have HB7 := Lib.hid (HB4.out.drew.trans (hb7.mono HB4.out.size))
            have HZ7 := Lib.hid ((lblkD HZ4.out).later hb7)
            have HL7 := Lib.hid ((lblkD HL4.out).later hb7)
            have HF7 := Lib.hid ((lblkD HF4.out).later hb7)
            have HR7 := Lib.hid ((lblkD HR4.out).later hb7)
            obtain ⟨z1, z2⟩ := HFK.out _ HF7.out
            obtain ⟨r70, r71, r72, r73, r74⟩ := lblk5 HR7.out
            obtain ⟨y70, y71, y72, y73, y74⟩ := lblk5f HR7.out
            clear hb7)))
        all_goals
          go_wp2_with fail
          go_meet
          case rel =>
            refine ⟨rfl, ?_, ?_, ?_, ?_⟩
            all_goals repeat' (first | (with_reducible exact HB8.out) | (with_reducible exact HZ8.out) | (with_reducible exact HL8.out) | (with_reducible exact res12 HR8.out _ _) | (with_reducible refine Blk.other ?_ ?_ _) | (with_reducible refine Below.setCell ?_ ?_ _) | omega | (simp; done) | (simp <;> omega))
      · have h3i : ((nF : Int) == 3) = false := by simp; omega
        rw [if_neg h3] at he1 ha1
        subst he1 ha1
        clear h3
        go_wp2_with fail
        go_meet
        case rel => exact ⟨rfl, HB4.out, HZ4.out, HL4.out, HR4.out⟩
    case rest =>
      obtain ⟨rfl, hb5, hz5, hl5, hr5⟩ := hcut
      obtain ⟨w5, hw5⟩ : ∃ x, x = wc := ⟨_, rfl⟩
      subst hw5
      have HB5 := Lib.hid hb5
      have HZ5 := Lib.hid hz5
      have HL5 := Lib.hid hl5
      have HR5 := Lib.hid hr5
      have hsr5 := hr5.lt
      have hsL5 := hl5.lt
      have hs5 := hb5.size
      clear hb5 hz5 hl5 hr5 HB4 HZ4 HL4 HF4 HR4
      have hn1 : (1 : Int) ≤ (nL : Int) := by omega
      have HRD0 : Hid (RdAt w w5 gL gr LS T0 E1 A1 [] [] (.slice none 0 0) (.slice none 0 0) w5) := Lib.hid ⟨HB5.out, Nat.le_refl _, HZ5.out, HL5.out, HR5.out, RowV.nil _ _, RowV.nil _ _, fun g h => by simp [Value.ownBlock] at h, by omega, by omega, by omega, by omega⟩
      obtain ⟨i9, hi9, hz0, hz1, hz2⟩ := info_parts tinf_val
      clear HB5 HZ5 HL5 HR5
      have hA43 := hn1
      go_wp2_with fail
      case inl =>
        go_loopg [7, 45] (nL - 1) (fun r pv i wr => ∃ (k : Nat) (a : RdS) (vm vc : Value), k ≤ nL - 1 ∧ r = nL - 1 - k ∧ i = .int .i64 (k : Int) ∧ pv = .pointer (some ⟨gr, if a.late then 4 else 3, none⟩) ∧ Hid (a = rdLines ((LS.drop 1).take k)) ∧ Hid (RdAt w w5 gL gr LS T0 E1 A1 a.model a.counter vm vc wr) ∧ a.model.length ≤ k ∧ a.counter.length ≤ k)
        case atStart => exact ⟨0, ⟨false, [], []⟩, _, _, Nat.zero_le _, rfl, rfl, rfl, Lib.hid rfl, HRD0, Nat.le_refl _, Nat.le_refl _⟩
        case round =>
          obtain ⟨k, a, vm, vc, hk, hr, rfl, rfl, HA, HRD, hlm, hlc⟩ := hrel
          have g1 : decide ((k : Int) < 0) = false := decide_eq_false (by omega)
          have hkn : k = nL - 1 := by omega
          have HRS := Lib.hid (show readR s = ⟨T0, E1, A1, a.model, a.counter⟩ by
            rw [HR.out, HA.out, List.take_of_length_le (by rw [List.length_drop]; have := HNL.out; omega)])
          obtain ⟨f, hf⟩ : ∃ f : Nat, (if a.late then 4 else 3) = f := ⟨_, rfl⟩
          rw [hf]
          clear hf HA
          obtain ⟨late, M, C⟩ := a
          dsimp only at HRS HRD hlm hlc
          obtain ⟨xm, hxm, _⟩ := HRD.out.rm.row
          obtain ⟨Am, cm, rfl⟩ := own_slice hxm
          obtain ⟨xc, hxc, _⟩ := HRD.out.rc.row
          obtain ⟨Ac, cc, rfl⟩ := own_slice hxc
          clear hxm hxc
          have HTX := Lib.hid (show Calls Tryd.prog 56 #[resW T0 E1 A1 M.length C.length ⟨Am, cm, Ac, cc⟩] wr (fun q w' => q = .returned (.string ⟨(textP ⟨T0, E1, A1, M, C⟩).toArray⟩) ∧ Below wr.heap.size wr w') from ttext_any (r := ⟨T0, E1, A1, M, C⟩) ⟨HRD.out.rm.vals (by omega), HRD.out.rc.vals (by omega)⟩ (HTT.out _ HRD.out.bel))
          obtain ⟨r0, r1, r2, r3, r4⟩ := lblk5 HRD.out.res
          obtain ⟨z0, z1, z2, z3, z4⟩ := lblk5 HRD.out.zero
          obtain ⟨y0, y1, y2, y3, y4⟩ := lblk5f HRD.out.zero
          clear HFC
          by_cases hse : s = []
          · have HPZ := Lib.hid (show readP s = (zeroR, false) by subst hse; rfl)
            have q1 : (s == []) = true := beq_iff_eq.2 hse
            have q2 : s.isEmpty = true := by rw [hse]; rfl
            clear hse HTX
            go_wp2_with fail
            refine bodyPost_ret (res_res (by rfl) _ _ w.heap.size (resC 0 0 0 (.slice none 0 0) (.slice none 0 0)) rfl (resZ HRD.out.zero _ _ _ _ _) rfl) rfl ?_
            rw [HPZ.out]
            refine ⟨⟨none, 0, none, 0⟩, rfl, ?_, resAt_zero _ _⟩
            exact put5_below HRD.out.bel _ _ _ _ _
          · have q1 : (s == []) = false := beq_eq_false_iff_ne.2 hse
            have q2 : s.isEmpty = false := by cases hs2 : s.isEmpty with | false => rfl | true => exact absurd (List.isEmpty_iff.1 hs2) hse
            by_cases hq : textP ⟨T0, E1, A1, M, C⟩ = s
            · have HPZ := Lib.hid (show readP s = (⟨T0, E1, A1, M, C⟩, true) by
                unfold readP readOk
                rw [HRS.out, hq, q2]
                simp)
              have q3 : (!textP ⟨T0, E1, A1, M, C⟩ == s) = false := by rw [beq_iff_eq.2 hq]; rfl
              generalize textP ⟨T0, E1, A1, M, C⟩ = TX at *
              clear hq hse
              go_wp2_with (
                go_at_call 56
                refine HTX.out.mono ?_
                rintro e w2 ⟨rfl, hb2⟩
                have HRD2 := Lib.hid (HRD.out.below hb2)
                obtain ⟨r20, r21, r22, r23, r24⟩ := lblk5 HRD2.out.res
                obtain ⟨z20, z21, z22, z23, z24⟩ := lblk5 HRD2.out.zero
                obtain ⟨y20, y21, y22, y23, y24⟩ := lblk5f HRD2.out.zero
                clear hb2)
              refine bodyPost_ret (res_res (by rfl) _ _ w.heap.size (resC T0 E1 A1 (.slice Am M.length cm) (.slice Ac C.length cc)) rfl (resZ HRD2.out.zero _ _ _ _ _) rfl) rfl ?_
              rw [HPZ.out]
              refine ⟨⟨Am, cm, Ac, cc⟩, rfl, ?_, ?_, ?_⟩
              · exact put5_below HRD2.out.bel _ _ _ _ _
              · exact (HRD2.out.rm.put5 HRD2.out.zero (by decide) (by decide) _ _ _ _ _).vals (by omega)
              · exact (HRD2.out.rc.put5 HRD2.out.zero (by decide) (by decide) _ _ _ _ _).vals (by omega)
            · have HPZ := Lib.hid (show readP s = (zeroR, false) by
                unfold readP readOk
                rw [HRS.out, q2, beq_eq_false_iff_ne.2 hq]
                rfl)
              have q3 : (!textP ⟨T0, E1, A1, M, C⟩ == s) = true := by rw [beq_eq_false_iff_ne.2 hq]; rfl
              generalize textP ⟨T0, E1, A1, M, C⟩ = TX at *
              clear hq hse
              go_wp2_with (
                go_at_call 56
                refine HTX.out.mono ?_
                rintro e w2 ⟨rfl, hb2⟩
                have HRD2 := Lib.hid (HRD.out.below hb2)
                obtain ⟨z20, z21, z22, z23, z24⟩ := lblk5 HRD2.out.zero
                obtain ⟨y20, y21, y22, y23, y24⟩ := lblk5f HRD2.out.zero
                clear hb2)
              refine bodyPost_ret (res_res (by rfl) _ _ w.heap.size (resC 0 0 0 (.slice none 0 0) (.slice none 0 0)) rfl (resZ HRD2.out.zero _ _ _ _ _) rfl) rfl ?_
              rw [HPZ.out]
              refine ⟨⟨none, 0, none, 0⟩, rfl, ?_, resAt_zero _ _⟩
              exact put5_below HRD2.out.bel _ _ _ _ _
      case inr =>
        go_loopg [7, 45] (nL - 1) (fun r pv i wr => ∃ (k : Nat) (a : RdS) (vm vc : Value), k ≤ nL - 1 ∧ r = nL - 1 - k ∧ i = .int .i64 (k : Int) ∧ pv = .pointer (some ⟨gr, if a.late then 4 else 3, none⟩) ∧ Hid (a = rdLines ((LS.drop 1).take k)) ∧ Hid (RdAt w w5 gL gr LS T0 E1 A1 a.model a.counter vm vc wr) ∧ a.model.length ≤ k ∧ a.counter.length ≤ k)
        case atStart => exact ⟨0, ⟨false, [], []⟩, _, _, Nat.zero_le _, rfl, rfl, rfl, Lib.hid rfl, HRD0, Nat.le_refl _, Nat.le_refl _⟩
        case round =>
          obtain ⟨k, a, vm, vc, hk, hr, rfl, rfl, HA, HRD, hlm, hlc⟩ := hrel
          have HRr := Lib.hid hr
          clear hr
          by_cases hlt : k < nL - 1
          · have hk1 : 1 + k < LS.length := by have := HNL.out; omega
            have c0 := strs_cell HRD.out.lines (1 + k) hk1
            have hkd : k < (LS.drop 1).length := by rw [List.length_drop]; omega
            have HSTEP := Lib.hid (rdLines_succ (LS.drop 1) k hkd)
            rw [List.getElem_drop] at HSTEP
            have hxl := HLM.out LS[1 + k] (List.getElem_mem _)
            have g1 : decide ((k : Int) < ((nL - 1 : Nat) : Int)) = true := decide_eq_true (by omega)
            have g1' : decide (k < nL - 1) = true := decide_eq_true hlt
            have hp0 : (0 : Int) ≤ (k : Int) := by omega
            have hp1 : (k : Int) < ((nL - 1 : Nat) : Int) := by omega
            have HCUT := Lib.hid (fun W (hb : Below w.heap.size w W) => (show Calls Tryd.prog 54 #[.string ⟨(LS[1 + k]).toArray⟩, .string ⟨#[32, 61, 32]⟩] W _ from tcut_any LS[1 + k] [32, 61, 32] (by omega) (HTT.out W hb)))
            obtain ⟨r0, r1, r2, r3, r4⟩ := lblk5 HRD.out.res
            obtain ⟨y0, y1, y2, y3, y4⟩ := lblk5f HRD.out.res
            generalize LS[1 + k] = x at *
            by_cases hc : x = wCounter
            · subst hc
              rw [rdStep_counter, ← HA.out] at HSTEP
              rw [show Lib.cut wCounter [32, 61, 32] = (wCounter, [], false) by decide] at HCUT
              clear HA
              obtain ⟨late, M, C⟩ := a
              go_wp2_with (
               go_at_call 54
               refine (HCUT.out _ HRD.out.bel).mono ?_
               rintro e w3x ⟨rfl, hb3⟩
               have HRD5 := Lib.hid (HRD.out.below hb3)
               clear hb3)
              go_roundg (nL - 1 - (k + 1))
              case measure => have := HRr.out; omega
              case rel => exact ⟨k + 1, ⟨true, M, C⟩, _, _, by omega, rfl, by go_num, rfl, Lib.hid HSTEP.out.symm, HRD5, by simp <;> omega, by simp <;> omega⟩
            · have t1 : (x == [99, 111, 117, 110, 116, 101, 114]) = false := beq_eq_false_iff_ne.2 hc
              cases hok : (Lib.cut x [32, 61, 32]).2.2 with
              | false =>
                rw [rdStep_none hc hok, ← HA.out] at HSTEP
                simp only [hok] at HCUT
                generalize (Lib.cut x [32, 61, 32]).1 = nm at *
                generalize (Lib.cut x [32, 61, 32]).2.1 = tx at *
                clear hok HA hc
                have hpv : ∃ f : Nat, (if a.late then 4 else 3) = f := ⟨_, rfl⟩
                obtain ⟨f, hf⟩ := hpv
                have HF := Lib.hid hf
                rw [hf]
                clear hf
                go_wp2_with (
                 go_at_call 54
                 refine (HCUT.out _ HRD.out.bel).mono ?_
                 rintro e w3x ⟨rfl, hb3⟩
                 have HRD5 := Lib.hid (HRD.out.below hb3)
                 clear hb3)
                go_roundg (nL - 1 - (k + 1))
                case measure => have := HRr.out; omega
                case rel => exact ⟨k + 1, a, _, _, by omega, rfl, by go_num, by rw [HF.out], Lib.hid HSTEP.out.symm, HRD5, by omega, by omega⟩
              | true =>
                have HSOME := Lib.hid (rdStep_some (a := a) hc hok)
                simp only [hok] at HCUT
                obtain ⟨hcl1, hcl2⟩ := cut_len x [32, 61, 32]
                generalize (Lib.cut x [32, 61, 32]).1 = nm at *
                generalize (Lib.cut x [32, 61, 32]).2.1 = tx at *
                have hrl := readV_len tx
                have HREAD := Lib.hid (fun W (hb : Below w.heap.size w W) => tread_any (s := tx) (by omega) (HTT.out W hb))
                unfold ReadPost at HREAD
                generalize (readV tx).1 = o at *
                generalize (readV tx).2 = set at *
                have hnml : nm.length ≤ 4294967296 := by omega
                have hsetl : set.length ≤ 4294967296 := by omega
                clear hok hc
                obtain ⟨late, M, C⟩ := a
                cases late with
                | false =>
                  have HA2 := Lib.hid (show rdLines ((LS.drop 1).take (k + 1)) = ⟨false, M ++ [⟨nm, o, set⟩], C⟩ by
                    rw [HSTEP.out, ← HA.out, HSOME.out]
                    rfl)
                  clear HSTEP HA HSOME
                  obtain ⟨xs, hxs, _⟩ := HRD.out.rm.row
                  have HXS := Lib.hid hxs
                  clear hxs
                  go_wp2_with (first
                    | (
                       at_builtin
                       refine wpList_append_any _ rfl (.tmp 67) (.tmp 72) 42 rfl w5.heap.size 94 i9 _ 3 48 tund_vals hi9 hz0 hz1 hz2 rfl (by decide) vm M.length xs rfl (HX6.out.alloc _) (w6.heap.size + 1) (some ⟨w6.heap.size, 0, none⟩) 1 1 [.string ⟨nm.toArray⟩, .int .i64 o, .slice A6 set.length c6] rfl (treads_val (heap_new_at rfl)) (tval_one _ _ _ _ _) (by simp only [maxLen]; omega) (by omega) (by have := HRD6.out.sz; simp <;> omega) ?_
                       intro v7 w7 hown7 hg7 hv7
                       obtain ⟨A7, c7, rfl⟩ := own_slice hown7
                       have hgr7 := blk_grown (HRD6.out.alloc _).res hg7 (fun e => by have := (HRD6.out.rm.lt _ e).1; have := HRD6.out.at_.2.1; omega)
                       obtain ⟨r70, r71, r72, r73, r74⟩ := lblk5 hgr7
                       obtain ⟨y70, y71, y72, y73, y74⟩ := lblk5f hgr7
                       have HRD7 := Lib.hid ((HRD6.out.alloc _).more_m (HX6.out.alloc _) hown7 (HI6.out.alloc _) hg7 hv7 hnml hsetl)
                       clear hown7 hg7 hv7 hgr7)
                    | (
                       go_at_call 55
                       refine (HREAD.out _ HRD5.out.bel).mono ?_
                       rintro e w6 ⟨A6, c6, rfl, hb6, hi6⟩
                       have HRD6 := Lib.hid (HRD5.out.below hb6)
                       have HI6 := Lib.hid (hi6.mono HRD5.out.sz)
                       obtain ⟨r60, r61, r62, r63, r64⟩ := lblk5 HRD6.out.res
                       obtain ⟨y60, y61, y62, y63, y64⟩ := lblk5f HRD6.out.res
                       have HX6 := Lib.hid ((Fr.of_below hb6).own (HX5.out) (fun k hk => by have := (HX5.out.lt k hk).2; omega))
                       clear hb6 hi6)
                    | (
                       go_at_call 54
                       refine (HCUT.out _ HRD.out.bel).mono ?_
                       rintro e w3x ⟨rfl, hb3⟩
                       have HRD5 := Lib.hid (HRD.out.below hb3)
                       have HX5 := Lib.hid ((Fr.of_below hb3).own HXS.out (fun k hk => by have := (HXS.out.lt k hk).2; omega))
                       clear hb3))
                  go_roundg (nL - 1 - (k + 1))
                  case measure => have := HRr.out; omega
                  case rel => exact ⟨k + 1, ⟨false, M ++ [⟨nm, o, set⟩], C⟩, _, _, by omega, rfl, by go_num, rfl, Lib.hid HA2.out.symm, HRD7, by simp <;> omega, by simp <;> omega⟩
                | true =>
                  have HA2 := Lib.hid (show rdLines ((LS.drop 1).take (k + 1)) = ⟨true, M, C ++ [⟨nm, o, set⟩]⟩ by
                    rw [HSTEP.out, ← HA.out, HSOME.out]
                    rfl)
                  clear HSTEP HA HSOME
                  obtain ⟨xs, hxs, _⟩ := HRD.out.rc.row
                  have HXS := Lib.hid hxs
                  clear hxs
                  go_wp2_with (first
                    | (
                       at_builtin
                       refine wpList_append_any _ rfl (.tmp 67) (.tmp 72) 42 rfl w5.heap.size 94 i9 _ 3 48 tund_vals hi9 hz0 hz1 hz2 rfl (by decide) vc C.length xs rfl (HX6.out.alloc _) (w6.heap.size + 1) (some ⟨w6.heap.size, 0, none⟩) 1 1 [.string ⟨nm.toArray⟩, .int .i64 o, .slice A6 set.length c6] rfl (treads_val (heap_new_at rfl)) (tval_one _ _ _ _ _) (by simp only [maxLen]; omega) (by omega) (by have := HRD6.out.sz; simp <;> omega) ?_
                       intro v7 w7 hown7 hg7 hv7
                       obtain ⟨A7, c7, rfl⟩ := own_slice hown7
                       have hgr7 := blk_grown (HRD6.out.alloc _).res hg7 (fun e => by have := (HRD6.out.rc.lt _ e).1; have := HRD6.out.at_.2.1; omega)
                       obtain ⟨r70, r71, r72, r73, r74⟩ := lblk5 hgr7
                       obtain ⟨y70, y71, y72, y73, y74⟩ := lblk5f hgr7
                       have HRD7 := Lib.hid ((HRD6.out.alloc _).more_c (HX6.out.alloc _) hown7 (HI6.out.alloc _) hg7 hv7 hnml hsetl)
                       clear hown7 hg7 hv7 hgr7)
                    | (
                       go_at_call 55
                       refine (HREAD.out _ HRD5.out.bel).mono ?_
                       rintro e w6 ⟨A6, c6, rfl, hb6, hi6⟩
                       have HRD6 := Lib.hid (HRD5.out.below hb6)
                       have HI6 := Lib.hid (hi6.mono HRD5.out.sz)
                       obtain ⟨r60, r61, r62, r63, r64⟩ := lblk5 HRD6.out.res
                       obtain ⟨y60, y61, y62, y63, y64⟩ := lblk5f HRD6.out.res
                       have HX6 := Lib.hid ((Fr.of_below hb6).own (HX5.out) (fun k hk => by have := (HX5.out.lt k hk).2; omega))
                       clear hb6 hi6)
                    | (
                       go_at_call 54
                       refine (HCUT.out _ HRD.out.bel).mono ?_
                       rintro e w3x ⟨rfl, hb3⟩
                       have HRD5 := Lib.hid (HRD.out.below hb3)
                       have HX5 := Lib.hid ((Fr.of_below hb3).own HXS.out (fun k hk => by have := (HXS.out.lt k hk).2; omega))
                       clear hb3))
                  go_roundg (nL - 1 - (k + 1))
                  case measure => have := HRr.out; omega
                  case rel => exact ⟨k + 1, ⟨true, M, C ++ [⟨nm, o, set⟩]⟩, _, _, by omega, rfl, by go_num, rfl, Lib.hid HA2.out.symm, HRD7, by simp <;> omega, by simp <;> omega⟩
          · have g1 : decide ((k : Int) < ((nL - 1 : Nat) : Int)) = false := decide_eq_false (by omega)
            have g1' : decide (k < nL - 1) = false := decide_eq_false hlt
            have hkn : k = nL - 1 := by omega
            have HRS := Lib.hid (show readR s = ⟨T0, E1, A1, a.model, a.counter⟩ by
              rw [HR.out, HA.out, List.take_of_length_le (by rw [List.length_drop]; have := HNL.out; omega)])
            obtain ⟨f, hf⟩ : ∃ f : Nat, (if a.late then 4 else 3) = f := ⟨_, rfl⟩
            rw [hf]
            clear hf HA
            obtain ⟨late, M, C⟩ := a
            dsimp only at HRS HRD hlm hlc
            obtain ⟨xm, hxm, _⟩ := HRD.out.rm.row
            obtain ⟨Am, cm, rfl⟩ := own_slice hxm
            obtain ⟨xc, hxc, _⟩ := HRD.out.rc.row
            obtain ⟨Ac, cc, rfl⟩ := own_slice hxc
            clear hxm hxc
            have HTX := Lib.hid (show Calls Tryd.prog 56 #[resW T0 E1 A1 M.length C.length ⟨Am, cm, Ac, cc⟩] wr (fun q w' => q = .returned (.string ⟨(textP ⟨T0, E1, A1, M, C⟩).toArray⟩) ∧ Below wr.heap.size wr w') from ttext_any (r := ⟨T0, E1, A1, M, C⟩) ⟨HRD.out.rm.vals (by omega), HRD.out.rc.vals (by omega)⟩ (HTT.out _ HRD.out.bel))
            obtain ⟨r0, r1, r2, r3, r4⟩ := lblk5 HRD.out.res
            obtain ⟨z0, z1, z2, z3, z4⟩ := lblk5 HRD.out.zero
            obtain ⟨y0, y1, y2, y3, y4⟩ := lblk5f HRD.out.zero
            clear HFC
            by_cases hse : s = []
            · have HPZ := Lib.hid (show readP s = (zeroR, false) by subst hse; rfl)
              have q1 : (s == []) = true := beq_iff_eq.2 hse
              have q2 : s.isEmpty = true := by rw [hse]; rfl
              clear hse HTX
              go_wp2_with fail
              refine bodyPost_ret (res_res (by rfl) _ _ w.heap.size (resC 0 0 0 (.slice none 0 0) (.slice none 0 0)) rfl (resZ HRD.out.zero _ _ _ _ _) rfl) rfl ?_
              rw [HPZ.out]
              refine ⟨⟨none, 0, none, 0⟩, rfl, ?_, resAt_zero _ _⟩
              exact put5_below HRD.out.bel _ _ _ _ _
            · have q1 : (s == []) = false := beq_eq_false_iff_ne.2 hse
              have q2 : s.isEmpty = false := by cases hs2 : s.isEmpty with | false => rfl | true => exact absurd (List.isEmpty_iff.1 hs2) hse
              by_cases hq : textP ⟨T0, E1, A1, M, C⟩ = s
              · have HPZ := Lib.hid (show readP s = (⟨T0, E1, A1, M, C⟩, true) by
                  unfold readP readOk
                  rw [HRS.out, hq, q2]
                  simp)
                have q3 : (!textP ⟨T0, E1, A1, M, C⟩ == s) = false := by rw [beq_iff_eq.2 hq]; rfl
                generalize textP ⟨T0, E1, A1, M, C⟩ = TX at *
                clear hq hse
                go_wp2_with (
                  go_at_call 56
                  refine HTX.out.mono ?_
                  rintro e w2 ⟨rfl, hb2⟩
                  have HRD2 := Lib.hid (HRD.out.below hb2)
                  obtain ⟨r20, r21, r22, r23, r24⟩ := lblk5 HRD2.out.res
                  obtain ⟨z20, z21, z22, z23, z24⟩ := lblk5 HRD2.out.zero
                  obtain ⟨y20, y21, y22, y23, y24⟩ := lblk5f HRD2.out.zero
                  clear hb2)
                refine bodyPost_ret (res_res (by rfl) _ _ w.heap.size (resC T0 E1 A1 (.slice Am M.length cm) (.slice Ac C.length cc)) rfl (resZ HRD2.out.zero _ _ _ _ _) rfl) rfl ?_
                rw [HPZ.out]
                refine ⟨⟨Am, cm, Ac, cc⟩, rfl, ?_, ?_, ?_⟩
                · exact put5_below HRD2.out.bel _ _ _ _ _
                · exact (HRD2.out.rm.put5 HRD2.out.zero (by decide) (by decide) _ _ _ _ _).vals (by omega)
                · exact (HRD2.out.rc.put5 HRD2.out.zero (by decide) (by decide) _ _ _ _ _).vals (by omega)
              · have HPZ := Lib.hid (show readP s = (zeroR, false) by
                  unfold readP readOk
                  rw [HRS.out, q2, beq_eq_false_iff_ne.2 hq]
                  rfl)
                have q3 : (!textP ⟨T0, E1, A1, M, C⟩ == s) = true := by rw [beq_eq_false_iff_ne.2 hq]; rfl
                generalize textP ⟨T0, E1, A1, M, C⟩ = TX at *
                clear hq hse
                go_wp2_with (
                  go_at_call 56
                  refine HTX.out.mono ?_
                  rintro e w2 ⟨rfl, hb2⟩
                  have HRD2 := Lib.hid (HRD.out.below hb2)
                  obtain ⟨z20, z21, z22, z23, z24⟩ := lblk5 HRD2.out.zero
                  obtain ⟨y20, y21, y22, y23, y24⟩ := lblk5f HRD2.out.zero
                  clear hb2)
                refine bodyPost_ret (res_res (by rfl) _ _ w.heap.size (resC 0 0 0 (.slice none 0 0) (.slice none 0 0)) rfl (resZ HRD2.out.zero _ _ _ _ _) rfl) rfl ?_
                rw [HPZ.out]
                refine ⟨⟨none, 0, none, 0⟩, rfl, ?_, resAt_zero _ _⟩
                exact put5_below HRD2.out.bel _ _ _ _ _
end Go.Proofs.YteikakoheibnjaaDoor
