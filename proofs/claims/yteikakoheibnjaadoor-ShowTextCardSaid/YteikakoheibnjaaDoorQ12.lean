/- Parts of the proof: SProg, Known5, PSame. -/
import Derived.Test.YteikakoheibnjaaDoorQ11
import Derived.Handy
namespace Go.Proofs.YteikakoheibnjaaDoor
open Go Go.RowKit

theorem bld_string {B b : Nat} {l : List UInt8} {w : World} (h : BldAt B b l w) (hBw : B ≤ w.heap.size) :
  Calls Tryd.prog 37 #[.pointer (some ⟨b, 0, none⟩)] w fun e w' => e = .returned (.string ⟨l.toArray⟩) ∧ Below B w w' := by
 refine (Tryd.Builder_String_any_k B b l w h hBw).mono ?_
 rintro e w' ⟨rfl, _, h2, _⟩
 exact ⟨rfl, h2⟩
theorem blk_below {W W' : World} {g : Nat} {t : TypeId} {cs : Array Value} (h : Blk W g t cs) (hb : Below W.heap.size W W') : Blk W' g t cs := (hb.block g h.lt).trans h
theorem blk_others {W W' : World} {g b : Nat} {t : TypeId} {cs : Array Value} (h : Blk W g t cs) (hk : Lib.OthersKept 5 (some b) W W') (hg : g ≠ b) (ht : t ≠ 5) : Blk W' g t cs :=
 hk g _ h (fun e => hg (Option.some.inj e)) (fun c fz e => by injection e with _ e2; exact ht e2)
theorem blk8 {W : World} {g : Nat} {t : TypeId} {c0 c1 c2 c3 c4 c5 c6 c7 : Value} (h : Blk W g t #[c0, c1, c2, c3, c4, c5, c6, c7]) : W.cell? ⟨g, 0, none⟩ = some c0 ∧ W.cell? ⟨g, 1, none⟩ = some c1 ∧ W.cell? ⟨g, 2, none⟩ = some c2 ∧ W.cell? ⟨g, 3, none⟩ = some c3 ∧ W.cell? ⟨g, 4, none⟩ = some c4 ∧ W.cell? ⟨g, 5, none⟩ = some c5 ∧ W.cell? ⟨g, 6, none⟩ = some c6 ∧ W.cell? ⟨g, 7, none⟩ = some c7 :=
 ⟨h.cell 0, h.cell 1, h.cell 2, h.cell 3, h.cell 4, h.cell 5, h.cell 6, h.cell 7⟩
theorem own_drew {w : World} {base n size : Nat} {e : TypeId} {v : Value} {xs : List Value} (h : w.ownsRow base e size v n xs) : w.drew.ownsRow base e size v n xs := h
theorem own_below {w w' : World} {base n size : Nat} {e : TypeId} {v : Value} {xs : List Value} (h : w.ownsRow base e size v n xs) (hb : Below w.heap.size w w') : w'.ownsRow base e size v n xs :=
 (Fr.of_below hb).own h (fun k hk => by have := (h.lt k hk).2; omega)
theorem bld_drew {B b : Nat} {l : List UInt8} {w : World} (h : BldAt B b l w) : BldAt B b l w.drew := h

set_option maxRecDepth 100000 in
set_option maxHeartbeats 8000000 in
theorem sprog_any (ds : List DeclP) (ps : List PredP) (o s : List UInt8) (n q : Int) (ks : List Node) (L : ProgL) (w : World) (h : ProgAt w w.heap.size ⟨ds, ps, .node o s n q ks⟩ L) (hB : progB ⟨ds, ps, .node o s n q ks⟩ = true)
  (hd20 : ds.length ≤ 20) (hp10 : ps.length ≤ 10) (hN : nodes (.node o s n q ks) ≤ 2000) (hNP : ∀ x ∈ ps, nodes x.body ≤ 2000) :
  Calls Tryd.prog 17 #[progW ds.length ps.length o s n q ks.length L] w fun e w' => e = .returned (.string ⟨(progS ⟨ds, ps, .node o s n q ks⟩).toArray⟩) ∧ Below w.heap.size w w' := by
 obtain ⟨hd, hp, hm⟩ := progAt_parts h
 clear h
 have hB0 := hB
 unfold progB at hB0
 simp only [Bool.and_eq_true, List.all_eq_true] at hB0
 have HDB := Lib.hid hB0.1.2
 have HPB := Lib.hid hB0.1.1
 have hMB := hB0.2.2
 have HMC := Lib.hid (fun W (hW : Below w.heap.size w W) => sform_any (.node o s n q ks) L.Ak L.ck W (hm.later hW hW.size) hMB hN)
 have HC := Lib.hid hp
 have HCD := Lib.hid hd
 have hl1 := hp.cap_
 have hl2 := hp.small
 have hl3 := hd.cap_
 have hl4 := hd.small
 have hl5 := hm.len
 obtain ⟨hl5, hl6, _⟩ := hl5
 have hLM := formS_len _ hMB
 have HLD := Lib.hid (fun k => (show ((ds.take k).flatMap (fun d => declS d ++ [59, 10])).length ≤ 2022 * ds.length by
  refine Nat.le_trans (flat_le (M := 2022) (ds.take k) (fun d hd => ?_)) (Nat.mul_le_mul_left _ (by rw [List.length_take]; omega))
  have := declB_len (HDB.out d (List.mem_of_mem_take hd))
  simp only [List.length_append, List.length_cons, List.length_nil]
  omega))
 have HLP := Lib.hid (fun k => (show ((ps.take k).flatMap predS).length ≤ 4250000 * ps.length from
  Nat.le_trans (flat_le (M := 4250000) (ps.take k) (fun x hx => predS_len (HPB.out x (List.mem_of_mem_take hx)) (hNP x (List.mem_of_mem_take hx)))) (Nat.mul_le_mul_left _ (by rw [List.length_take]; omega))))
 have HNP := Lib.hid hNP
 have HV := Lib.hid (show (ds.take ds.length).flatMap (fun d => declS d ++ [59, 10]) ++ (ps.take ps.length).flatMap predS ++ formS (.node o s n q ks) ++ [59, 10] = progS ⟨ds, ps, .node o s n q ks⟩ by
  rw [List.take_length, List.take_length]
  rfl)
 clear hd hp hm hB hB0 hMB hNP
 generalize progS ⟨ds, ps, .node o s n q ks⟩ = V at *
 simp only [nodeT, nodeW, Node.op, Node.name, Node.num, Node.pos, Node.kids] at HMC
 generalize formS (.node o s n q ks) = FM at *
 generalize nodes (.node o s n q ks) = NM at *
 have HX := Lib.hid (fun W (hW : Below (w.heap.size + 1) (w.alloc (boxP ds.length ps.length o s n q ks.length L)) W) => box7 hW)
 have HW := Lib.hid (fun W (hW : Below (w.heap.size + 1) (w.alloc (boxP ds.length ps.length o s n q ks.length L)) W) => fresh_w hW)
 have HG := Lib.hid (fun W W' (hW : Below (w.heap.size + 1) (w.alloc (boxP ds.length ps.length o s n q ks.length L)) W) (hb : Below W.heap.size W W') => fresh_more hW hb)
 have HB0 := Lib.hid (Below.refl (w.heap.size + 1) (w.alloc (boxP ds.length ps.length o s n q ks.length L)))
 simp only [progW]
 go_enter Tryd.func17, Tryd.ntmps17
 go_wp2_with fail
 have hBF := BldAt.fresh (w.alloc (boxP ds.length ps.length o s n q ks.length L))
 have hz1 : (w.alloc (boxP ds.length ps.length o s n q ks.length L)).heap.size = w.heap.size + 1 := by simp
 rw [hz1] at hBF
 have HBF := Lib.hid hBF
 have HZ1 := Lib.hid ((Below.refl (w.heap.size + 1) (w.alloc (boxP ds.length ps.length o s n q ks.length L))).alloc (by simp) (.cells #[.pointer none, .slice none 0 0] 58))
 clear hBF hz1
 go_loopg [14] ds.length (fun r i wr => ∃ k : Nat, k ≤ ds.length ∧ r = ds.length - k ∧ i = .int .i64 (k : Int) ∧ Hid (BldAt (w.heap.size + 1) (w.heap.size + 1) ((ds.take k).flatMap (fun d => declS d ++ [59, 10])) wr) ∧ Hid (Below (w.heap.size + 1) (w.alloc (boxP ds.length ps.length o s n q ks.length L)) wr))
 case atStart => exact ⟨0, Nat.zero_le _, rfl, rfl, HBF, HZ1⟩
 case round =>
  obtain ⟨k, hk, hr, rfl, HU, HB⟩ := hrel
  have HRr := Lib.hid hr
  have hs1 := HB.out.size
  simp only [World.size_alloc] at hs1
  obtain ⟨x0, x1, x2, x3, x4, x5, x6⟩ := HX.out _ HB.out
  clear hr
  by_cases hlt : k < ds.length
  · obtain ⟨bb, off, hAd, hlo, hc0, hc1, hc2⟩ := HCD.out.at_ k hlt
    have hBd := HDB.out ds[k] (List.getElem_mem hlt)
    have HSN := Lib.hid (flat_snoc (f := fun d => declS d ++ [59, 10]) hlt)
    have hL1 := HLD.out k
    have hL2 := HLD.out (k + 1)
    rw [HSN.out, List.length_append, List.length_append] at hL2
    generalize ds[k] = d at *
    obtain ⟨nm, od, ad⟩ := d
    simp only at hc0 hc1 hc2 HSN
    have HDC := Lib.hid (fun W => sdecl_any nm od ad W hBd)
    generalize declS ⟨nm, od, ad⟩ = X at *
    obtain ⟨T1, hadd1, hT1⟩ := add_ex ⟨X.toArray⟩ ⟨#[59, 10]⟩ (X := X) (Y := [59, 10]) rfl rfl (by simp only [List.length_cons, List.length_nil]; omega)
    have hT1 := bytes_of hT1
    subst hT1
    have hWr := HW.out _ HB.out
    have e0 := (hWr.cell (p := ⟨bb, off + k * 3, none⟩) hlo).trans hc0
    have e1 := (hWr.cell (p := ⟨bb, off + k * 3 + 1, none⟩) hlo).trans hc1
    have e2 := (hWr.cell (p := ⟨bb, off + k * 3 + 2, none⟩) hlo).trans hc2
    clear hc0 hc1 hc2 hWr hBd
    obtain ⟨Lad, Lcd, Lap, Lcp, Lak, Lck⟩ := L
    simp only at hAd hl1 hl2 hl3 hl4 hl5 hl6 x0 x1 x6
    subst hAd
    have g1 : decide ((k : Int) < (ds.length : Int)) = true := decide_eq_true (by omega)
    have HLX := Lib.hid (show ((ds.take k).flatMap (fun d => declS d ++ [59, 10])).length + (X ++ [59, 10]).length ≤ 140737488355328 by simp only [List.length_append, List.length_cons, List.length_nil]; omega)
    go_wp2_with (first
     | (
        go_at_call 35
        refine (HDC.out _).mono ?_
        rintro e w5 ⟨rfl, hb⟩
        have HU5 := Lib.hid ((HU.out.alloc (boxD nm od ad)).below hb)
        have HB5 := Lib.hid ((HB.out.alloc hs1 (boxD nm od ad)).trans (hb.mono (by simp <;> omega)))
        clear hb)
     | (
        go_at_call 34
        refine (bld_write HU5.out HLX.out (by have := HB5.out.size; simp at this; omega)).mono ?_
        rintro e w6 ⟨rfl, hu6, hb6, hk6⟩
        have HU6 := Lib.hid hu6
        have HB6 := Lib.hid (HB5.out.trans hb6)
        clear hu6 hb6 hk6))
    all_goals
     go_roundg (ds.length - (k + 1))
     case measure => have := HRr.out; omega
     case rel => exact ⟨k + 1, by omega, rfl, by go_num, by rw [HSN.out]; exact HU6, HB6⟩
  · have g1 : decide ((k : Int) < (ds.length : Int)) = false := decide_eq_false (by omega)
    have hkd : k = ds.length := by omega
    have HU2 := Lib.hid HU.out
    rw [hkd] at HU2
    have hLD := HLD.out ds.length
    clear HLD HU hkd HCD HDB
    generalize (ds.take ds.length).flatMap (fun d => declS d ++ [59, 10]) = XD at *
    have HZr := HB
    clear HB
    go_wp2_with fail
    have HUA := HU2
    have HBA := HZr
    clear HU2 HZr x0 x1 x2 x3 x4 x5 x6 hlt hs1 g1 HRr HBF HZ1
    go_loopg [26] ps.length (fun r i wr => ∃ k : Nat, k ≤ ps.length ∧ r = ps.length - k ∧ i = .int .i64 (k : Int) ∧ Hid (BldAt (w.heap.size + 1) (w.heap.size + 1) (XD ++ (ps.take k).flatMap predS) wr) ∧ Hid (Below (w.heap.size + 1) (w.alloc (boxP ds.length ps.length o s n q ks.length L)) wr))
    case atStart => exact ⟨0, Nat.zero_le _, rfl, rfl, Lib.hid (by rw [List.take_zero, List.flatMap_nil, List.append_nil]; exact HUA.out), HBA⟩
    case round =>
     obtain ⟨k, hk, hr, rfl, HU, HB⟩ := hrel
     have HRr := Lib.hid hr
     have hs1 := HB.out.size
     simp only [World.size_alloc] at hs1
     obtain ⟨x0, x1, x2, x3, x4, x5, x6⟩ := HX.out _ HB.out
     clear hr
     by_cases hlt : k < ps.length
     · obtain ⟨bb, off, A1, c1, A2, c2, hAp, hlo, ⟨d0, d1, d2, d3, d4, d5, d6, d7⟩, hd1, hn1⟩ := HC.out.at_ k hlt
       have hPB := HPB.out ps[k] (List.getElem_mem hlt)
       have hNk := HNP.out ps[k] (List.getElem_mem hlt)
       have HSN := Lib.hid (flat_snoc (f := predS) hlt)
       have hL1 := HLP.out k
       have hLQ := predS_len hPB hNk
       generalize ps[k] = x at *
       obtain ⟨nm, pr, bo, ax⟩ := x
       unfold predB at hPB
       simp only [Bool.and_eq_true, decide_eq_true_eq, List.all_eq_true] at hPB
       simp only at d0 d1 d2 d3 d4 d5 d6 d7 hd1 hn1 hNk HSN hLQ
       have HFB := Lib.hid (fun W (hW : Below w.heap.size w W) => sform_any bo A2 c2 W (hn1.later hW hW.size) hPB.2.2 hNk)
       have HPR := Lib.hid (fun d (hd : d ∈ pr) => hPB.1.2 d hd)
       have hp6 := hPB.1.1.2
       have HCP := Lib.hid hd1
       have hq1 := hd1.cap_
       have hq2 := hd1.small
       have HLC := Lib.hid (fun k => commasD_len (pr.take k) (fun d hd => hPB.1.2 d (List.mem_of_mem_take hd)))
       have HQ := Lib.hid (show [112, 114, 101, 100] ++ [32] ++ nm ++ [40] ++ commas ((pr.take pr.length).map declS) ++ [41, 32, 61, 32] ++ formS bo ++ [59, 10] = predS ⟨nm, pr, bo, ax⟩ by rw [List.take_length]; rfl)
       clear hPB hd1 hn1
       generalize predS ⟨nm, pr, bo, ax⟩ = Q at *
       cases bo with
       | node o1 s1 n1 p1 ks1 =>
       simp only [nodeT, nodeW, Node.op, Node.name, Node.num, Node.pos, Node.kids] at d2 d3 d4 d5 d6 HFB
       generalize formS (.node o1 s1 n1 p1 ks1) = FB at *
       generalize nodes (.node o1 s1 n1 p1 ks1) = NB at *
       have hWr := HW.out _ HB.out
       have e0 := (hWr.cell (p := ⟨bb, off + k * 8, none⟩) hlo).trans d0
       have e1 := (hWr.cell (p := ⟨bb, off + k * 8 + 1, none⟩) hlo).trans d1
       have e2 := (hWr.cell (p := ⟨bb, off + k * 8 + 2, none⟩) hlo).trans d2
       have e3 := (hWr.cell (p := ⟨bb, off + k * 8 + 3, none⟩) hlo).trans d3
       have e4 := (hWr.cell (p := ⟨bb, off + k * 8 + 4, none⟩) hlo).trans d4
       have e5 := (hWr.cell (p := ⟨bb, off + k * 8 + 5, none⟩) hlo).trans d5
       have e6 := (hWr.cell (p := ⟨bb, off + k * 8 + 6, none⟩) hlo).trans d6
       have e7 := (hWr.cell (p := ⟨bb, off + k * 8 + 7, none⟩) hlo).trans d7
       clear d0 d1 d2 d3 d4 d5 d6 d7 hWr
       have g1 : decide ((k : Int) < (ps.length : Int)) = true := decide_eq_true (by omega)
       have HLU := Lib.hid (show (XD ++ (ps.take k).flatMap predS).length + Q.length ≤ 140737488355328 by rw [List.length_append]; omega)
       obtain ⟨Lad, Lcd, Lap, Lcp, Lak, Lck⟩ := L
       simp only at hAp hl1 hl2 hl3 hl4 hl5 hl6 x0 x1 x6
       subst hAp
       have HBQ := Lib.hid (Below.refl (wr.heap.size + 1) (wr.alloc (boxQ nm A1 pr.length c1 o1 s1 n1 p1 A2 ks1.length c2 ax)))
       have HX8 := Lib.hid (fun W (hW : Below (wr.heap.size + 1) (wr.alloc (boxQ nm A1 pr.length c1 o1 s1 n1 p1 A2 ks1.length c2 ax)) W) => box8 hW)
       have HBW := Lib.hid (fun W (hW : Below (wr.heap.size + 1) (wr.alloc (boxQ nm A1 pr.length c1 o1 s1 n1 p1 A2 ks1.length c2 ax)) W) => HG.out _ _ HB.out (fresh_w hW))
       have HUW := Lib.hid (fun W (hW : Below (wr.heap.size + 1) (wr.alloc (boxQ nm A1 pr.length c1 o1 s1 n1 p1 A2 ks1.length c2 ax)) W) => HU.out.below (fresh_w hW))
       have HKW := Lib.hid (fun W (hW : Below (wr.heap.size + 1) (wr.alloc (boxQ nm A1 pr.length c1 o1 s1 n1 p1 A2 ks1.length c2 ax)) W) => (hW.block wr.heap.size (by simp)).trans (heap_alloc_new wr (boxQ nm A1 pr.length c1 o1 s1 n1 p1 A2 ks1.length c2 ax)))
       obtain ⟨i9, hi9, hz0, hz1, hz2⟩ := info_parts inf_str
       go_wp2_with fail
       obtain ⟨wq, hwq⟩ : ∃ x, x = wr := ⟨_, rfl⟩
       subst hwq
       go_loopg [8, 33] pr.length (fun r lv i wr => ∃ j : Nat, j ≤ pr.length ∧ r = pr.length - j ∧ i = .int .i64 (j : Int) ∧ Hid (wr.ownsRow (wq.heap.size + 1) 9 1 lv j (strVs ((pr.take j).map declS))) ∧ Hid (Below (wq.heap.size + 1) (wq.alloc (boxQ nm A1 pr.length c1 o1 s1 n1 p1 A2 ks1.length c2 ax)) wr))
       case atStart => exact ⟨0, Nat.zero_le _, rfl, rfl, Lib.hid ⟨rfl, .inl ⟨rfl, rfl⟩⟩, HBQ⟩
       case round =>
        obtain ⟨j, hj, hr, rfl, HO3, HB3⟩ := hrel
        have HRr3 := Lib.hid hr
        have hs3 := HB3.out.size
        simp only [World.size_alloc] at hs3
        obtain ⟨y0, y1, y2, y3, y4, y5, y6, y7⟩ := HX8.out _ HB3.out
        clear hr
        by_cases hlt3 : j < pr.length
        · obtain ⟨bp, offp, hA1, hlop, hc0, hc1, hc2⟩ := HCP.out.at_ j hlt3
          have hBd := HPR.out pr[j] (List.getElem_mem hlt3)
          have HSN3 := Lib.hid (show (pr.take (j + 1)).map declS = (pr.take j).map declS ++ [declS pr[j]] by rw [List.take_succ_eq_append_getElem hlt3, List.map_append]; rfl)
          generalize pr[j] = d at *
          obtain ⟨nmd, od, ad⟩ := d
          simp only at hc0 hc1 hc2 HSN3
          have HDC := Lib.hid (fun W => sdecl_any nmd od ad W hBd)
          generalize declS ⟨nmd, od, ad⟩ = X at *
          have hW3 := HW.out _ (HBW.out _ HB3.out)
          have f0 := (hW3.cell (p := ⟨bp, offp + j * 3, none⟩) hlop).trans hc0
          have f1 := (hW3.cell (p := ⟨bp, offp + j * 3 + 1, none⟩) hlop).trans hc1
          have f2 := (hW3.cell (p := ⟨bp, offp + j * 3 + 2, none⟩) hlop).trans hc2
          clear hc0 hc1 hc2 hW3 hBd
          subst hA1
          have g3 : decide ((j : Int) < (pr.length : Int)) = true := decide_eq_true (by omega)
          go_wp2_with (first
           | (at_builtin
              refine wpList_append_any _ rfl (.tmp 37) (.tmp 40) 40 rfl (wq.heap.size + 1) 9 i9 _ 1 16 und_strs hi9 hz0 hz1 hz2 rfl (by decide) _ j (strVs ((pr.take j).map declS)) rfl (HO5.out.alloc _) (w5.heap.size + 1) (some ⟨w5.heap.size, 0, none⟩) 1 1 [.string ⟨X.toArray⟩] rfl (reads_one (t := 9) (heap_new_at rfl)) (str_one _) (by simp only [maxLen]; omega) (by omega) (by have := HB5.out.size; simp at this; simp <;> omega) ?_
              intro v7 w7 hown7 hg7 hv7
              have HOWN7 := Lib.hid hown7
              have HG7 := Lib.hid hg7
              clear hown7 hg7 hv7)
           | (go_at_call 35
              refine (HDC.out _).mono ?_
              rintro e w5 ⟨rfl, hb5⟩
              have HB5 := Lib.hid ((HB3.out.alloc hs3 (boxD nmd od ad)).trans (hb5.mono (by simp <;> omega)))
              have HO5 := Lib.hid (own_below (HO3.out.alloc (boxD nmd od ad)) hb5)
              clear hb5))
          have hown7 := HOWN7.out
          have hg7 := HG7.out
          have HO7 := Lib.hid (show w7.ownsRow (wq.heap.size + 1) 9 1 v7 (j + 1) (strVs ((pr.take (j + 1)).map declS)) by
           rw [HSN3.out, strVs_snoc]
           exact hown7)
          have hs5 : wq.heap.size + 1 ≤ w5.heap.size := by have := HB5.out.size; simp only [World.size_alloc] at this; exact this
          have HB7 := Lib.hid ((HB5.out.alloc hs5 _).grown hg7 (by simp only [World.size_alloc]; omega) (fun k hk => by have := (HO5.out.lt k hk).1; omega))
          clear hs5
          clear hown7 hg7
          go_roundg (pr.length - (j + 1))
          case measure => have := HRr3.out; omega
          case rel => exact ⟨j + 1, by omega, rfl, by go_num, HO7, HB7⟩
        · have g3 : decide ((j : Int) < (pr.length : Int)) = false := decide_eq_false (by omega)
          have hjj : j = pr.length := by omega
          subst hjj
          obtain ⟨A8, c8, rfl⟩ := own_slice HO3.out
          have hLC := HLC.out pr.length
          have hVl : ((pr.take pr.length).map declS).length = pr.length := by simp
          generalize (pr.take pr.length).map declS = VP at *
          have hCV : (commas VP).length ≤ 20000 := by
           refine Nat.le_trans hLC ?_
           rw [List.length_take]
           omega
          rw [← hVl] at HO3
          have HJ := Lib.hid (fun W (ho : W.ownsRow (wq.heap.size + 1) 9 1 (.slice A8 VP.length c8) VP.length (strVs VP)) => join_any (w := W) ho (by omega) (by omega))
          rw [hVl] at HJ HO3
          have hQl := congrArg List.length HQ.out
          simp only [List.length_append, List.length_cons, List.length_nil] at hQl
          have HQl := Lib.hid hQl
          clear hQl hLC hVl
          generalize commas VP = CV at *
          obtain ⟨T1, hadd1, hT1⟩ := add_ex ⟨#[112, 114, 101, 100, 32]⟩ ⟨nm.toArray⟩ (X := [112, 114, 101, 100, 32]) (Y := nm) rfl rfl (by have := HQl.out; simp only [List.length_cons, List.length_nil]; omega)
          obtain ⟨T2, hadd2, hT2⟩ := add_ex T1 ⟨#[40]⟩ (Y := [40]) hT1 rfl (by have := HQl.out; simp only [List.length_append, List.length_cons, List.length_nil]; omega)
          obtain ⟨T3, hadd3, hT3⟩ := add_ex T2 ⟨CV.toArray⟩ (Y := CV) hT2 rfl (by have := HQl.out; simp only [List.length_append, List.length_cons, List.length_nil]; omega)
          obtain ⟨T4, hadd4, hT4⟩ := add_ex T3 ⟨#[41, 32, 61, 32]⟩ (Y := [41, 32, 61, 32]) hT3 rfl (by have := HQl.out; simp only [List.length_append, List.length_cons, List.length_nil]; omega)
          obtain ⟨T5, hadd5, hT5⟩ := add_ex T4 ⟨FB.toArray⟩ (Y := FB) hT4 rfl (by have := HQl.out; simp only [List.length_append, List.length_cons, List.length_nil]; omega)
          obtain ⟨T6, hadd6, hT6⟩ := add_ex T5 ⟨#[59, 10]⟩ (Y := [59, 10]) hT5 rfl (by have := HQl.out; simp only [List.length_append, List.length_cons, List.length_nil]; omega)
          have hT7 : T6 = ⟨Q.toArray⟩ := bytes_of (hT6.trans HQ.out)
          subst hT7
          clear hT1 hT2 hT3 hT4 hT5 hT6 y0 y1 y2 y3 y4 y5 y6 y7 x0 x1 x2 x3 x4 x5 x6 e0 e1 e2 e3 e4 e5 e6 e7
          have HSS := Lib.hid (fun (W : World) (hW : Below (wq.heap.size + 1) (wq.alloc (boxQ nm A1 pr.length c1 o1 s1 n1 p1 A2 ks1.length c2 ax)) W) => (⟨HBW.out _ hW, by have := hW.size; simp at this; exact this, HKW.out _ hW, HX8.out _ hW⟩ : (fun W : World => Below (w.heap.size + 1) (w.alloc (boxP ds.length ps.length o s n q ks.length ⟨Lad, Lcd, some ⟨bb, off, none⟩, Lcp, Lak, Lck⟩)) W ∧ wq.heap.size + 1 ≤ W.heap.size ∧ Blk W wq.heap.size 54 #[.string ⟨nm.toArray⟩, .slice A1 pr.length c1, .string ⟨o1.toArray⟩, .string ⟨s1.toArray⟩, .int .i64 n1, .int .i64 p1, .slice A2 ks1.length c2, .int .i64 ax] ∧ (W.cell? ⟨wq.heap.size, 0, none⟩ = some (.string ⟨nm.toArray⟩) ∧ W.cell? ⟨wq.heap.size, 1, none⟩ = some (.slice A1 pr.length c1) ∧ W.cell? ⟨wq.heap.size, 2, none⟩ = some (.string ⟨o1.toArray⟩) ∧ W.cell? ⟨wq.heap.size, 3, none⟩ = some (.string ⟨s1.toArray⟩) ∧ W.cell? ⟨wq.heap.size, 4, none⟩ = some (.int .i64 n1) ∧ W.cell? ⟨wq.heap.size, 5, none⟩ = some (.int .i64 p1) ∧ W.cell? ⟨wq.heap.size, 6, none⟩ = some (.slice A2 ks1.length c2) ∧ W.cell? ⟨wq.heap.size, 7, none⟩ = some (.int .i64 ax))) W))
          have HSM := Lib.hid (fun (W W' : World) (hq : (fun W : World => Below (w.heap.size + 1) (w.alloc (boxP ds.length ps.length o s n q ks.length ⟨Lad, Lcd, some ⟨bb, off, none⟩, Lcp, Lak, Lck⟩)) W ∧ wq.heap.size + 1 ≤ W.heap.size ∧ Blk W wq.heap.size 54 #[.string ⟨nm.toArray⟩, .slice A1 pr.length c1, .string ⟨o1.toArray⟩, .string ⟨s1.toArray⟩, .int .i64 n1, .int .i64 p1, .slice A2 ks1.length c2, .int .i64 ax] ∧ (W.cell? ⟨wq.heap.size, 0, none⟩ = some (.string ⟨nm.toArray⟩) ∧ W.cell? ⟨wq.heap.size, 1, none⟩ = some (.slice A1 pr.length c1) ∧ W.cell? ⟨wq.heap.size, 2, none⟩ = some (.string ⟨o1.toArray⟩) ∧ W.cell? ⟨wq.heap.size, 3, none⟩ = some (.string ⟨s1.toArray⟩) ∧ W.cell? ⟨wq.heap.size, 4, none⟩ = some (.int .i64 n1) ∧ W.cell? ⟨wq.heap.size, 5, none⟩ = some (.int .i64 p1) ∧ W.cell? ⟨wq.heap.size, 6, none⟩ = some (.slice A2 ks1.length c2) ∧ W.cell? ⟨wq.heap.size, 7, none⟩ = some (.int .i64 ax))) W) (hb : Below W.heap.size W W') => (⟨HG.out _ _ hq.1 hb, Nat.le_trans hq.2.1 hb.size, blk_below hq.2.2.1 hb, blk8 (blk_below hq.2.2.1 hb)⟩ : (fun W : World => Below (w.heap.size + 1) (w.alloc (boxP ds.length ps.length o s n q ks.length ⟨Lad, Lcd, some ⟨bb, off, none⟩, Lcp, Lak, Lck⟩)) W ∧ wq.heap.size + 1 ≤ W.heap.size ∧ Blk W wq.heap.size 54 #[.string ⟨nm.toArray⟩, .slice A1 pr.length c1, .string ⟨o1.toArray⟩, .string ⟨s1.toArray⟩, .int .i64 n1, .int .i64 p1, .slice A2 ks1.length c2, .int .i64 ax] ∧ (W.cell? ⟨wq.heap.size, 0, none⟩ = some (.string ⟨nm.toArray⟩) ∧ W.cell? ⟨wq.heap.size, 1, none⟩ = some (.slice A1 pr.length c1) ∧ W.cell? ⟨wq.heap.size, 2, none⟩ = some (.string ⟨o1.toArray⟩) ∧ W.cell? ⟨wq.heap.size, 3, none⟩ = some (.string ⟨s1.toArray⟩) ∧ W.cell? ⟨wq.heap.size, 4, none⟩ = some (.int .i64 n1) ∧ W.cell? ⟨wq.heap.size, 5, none⟩ = some (.int .i64 p1) ∧ W.cell? ⟨wq.heap.size, 6, none⟩ = some (.slice A2 ks1.length c2) ∧ W.cell? ⟨wq.heap.size, 7, none⟩ = some (.int .i64 ax))) W'))
          have HSK := Lib.hid (fun (W W' : World) (hq : (fun W : World => Below (w.heap.size + 1) (w.alloc (boxP ds.length ps.length o s n q ks.length ⟨Lad, Lcd, some ⟨bb, off, none⟩, Lcp, Lak, Lck⟩)) W ∧ wq.heap.size + 1 ≤ W.heap.size ∧ Blk W wq.heap.size 54 #[.string ⟨nm.toArray⟩, .slice A1 pr.length c1, .string ⟨o1.toArray⟩, .string ⟨s1.toArray⟩, .int .i64 n1, .int .i64 p1, .slice A2 ks1.length c2, .int .i64 ax] ∧ (W.cell? ⟨wq.heap.size, 0, none⟩ = some (.string ⟨nm.toArray⟩) ∧ W.cell? ⟨wq.heap.size, 1, none⟩ = some (.slice A1 pr.length c1) ∧ W.cell? ⟨wq.heap.size, 2, none⟩ = some (.string ⟨o1.toArray⟩) ∧ W.cell? ⟨wq.heap.size, 3, none⟩ = some (.string ⟨s1.toArray⟩) ∧ W.cell? ⟨wq.heap.size, 4, none⟩ = some (.int .i64 n1) ∧ W.cell? ⟨wq.heap.size, 5, none⟩ = some (.int .i64 p1) ∧ W.cell? ⟨wq.heap.size, 6, none⟩ = some (.slice A2 ks1.length c2) ∧ W.cell? ⟨wq.heap.size, 7, none⟩ = some (.int .i64 ax))) W) (hb : Below (w.heap.size + 1) W W') (hk : Lib.OthersKept 5 (some (w.heap.size + 1)) W W') (hne : wq.heap.size ≠ w.heap.size + 1) => (⟨hq.1.trans hb, Nat.le_trans hq.2.1 hb.size, blk_others hq.2.2.1 hk hne (by decide), blk8 (blk_others hq.2.2.1 hk hne (by decide))⟩ : (fun W : World => Below (w.heap.size + 1) (w.alloc (boxP ds.length ps.length o s n q ks.length ⟨Lad, Lcd, some ⟨bb, off, none⟩, Lcp, Lak, Lck⟩)) W ∧ wq.heap.size + 1 ≤ W.heap.size ∧ Blk W wq.heap.size 54 #[.string ⟨nm.toArray⟩, .slice A1 pr.length c1, .string ⟨o1.toArray⟩, .string ⟨s1.toArray⟩, .int .i64 n1, .int .i64 p1, .slice A2 ks1.length c2, .int .i64 ax] ∧ (W.cell? ⟨wq.heap.size, 0, none⟩ = some (.string ⟨nm.toArray⟩) ∧ W.cell? ⟨wq.heap.size, 1, none⟩ = some (.slice A1 pr.length c1) ∧ W.cell? ⟨wq.heap.size, 2, none⟩ = some (.string ⟨o1.toArray⟩) ∧ W.cell? ⟨wq.heap.size, 3, none⟩ = some (.string ⟨s1.toArray⟩) ∧ W.cell? ⟨wq.heap.size, 4, none⟩ = some (.int .i64 n1) ∧ W.cell? ⟨wq.heap.size, 5, none⟩ = some (.int .i64 p1) ∧ W.cell? ⟨wq.heap.size, 6, none⟩ = some (.slice A2 ks1.length c2) ∧ W.cell? ⟨wq.heap.size, 7, none⟩ = some (.int .i64 ax))) W'))
          have hBlt : w.heap.size + 1 < wq.heap.size := by
           rcases HU.out with h | h
           · exact h.lt
           · exact h.lt
          go_upto_region 16 with fail
          have HUd := Lib.hid (HUW.out _ HB3.out.drew)
          have HOd := Lib.hid (own_drew HO3.out)
          generalize (w.alloc (boxP ds.length ps.length o s n q ks.length ⟨Lad, Lcd, some ⟨bb, off, none⟩, Lcp, Lak, Lck⟩)) = Z at *
          go_region_held3 (fun W : World => Below (w.heap.size + 1) Z W ∧ wq.heap.size + 1 ≤ W.heap.size ∧ Blk W wq.heap.size 54 #[.string ⟨nm.toArray⟩, .slice A1 pr.length c1, .string ⟨o1.toArray⟩, .string ⟨s1.toArray⟩, .int .i64 n1, .int .i64 p1, .slice A2 ks1.length c2, .int .i64 ax] ∧ (W.cell? ⟨wq.heap.size, 0, none⟩ = some (.string ⟨nm.toArray⟩) ∧ W.cell? ⟨wq.heap.size, 1, none⟩ = some (.slice A1 pr.length c1) ∧ W.cell? ⟨wq.heap.size, 2, none⟩ = some (.string ⟨o1.toArray⟩) ∧ W.cell? ⟨wq.heap.size, 3, none⟩ = some (.string ⟨s1.toArray⟩) ∧ W.cell? ⟨wq.heap.size, 4, none⟩ = some (.int .i64 n1) ∧ W.cell? ⟨wq.heap.size, 5, none⟩ = some (.int .i64 p1) ∧ W.cell? ⟨wq.heap.size, 6, none⟩ = some (.slice A2 ks1.length c2) ∧ W.cell? ⟨wq.heap.size, 7, none⟩ = some (.int .i64 ax))) (first | assumption | exact HSM9.out | exact HSS.out _ HB3.out.drew | exact HSS.out _ HB3.out) (first
           | (go_at_call 34
              have hq := (show (fun W : World => Below (w.heap.size + 1) Z W ∧ wq.heap.size + 1 ≤ W.heap.size ∧ Blk W wq.heap.size 54 #[.string ⟨nm.toArray⟩, .slice A1 pr.length c1, .string ⟨o1.toArray⟩, .string ⟨s1.toArray⟩, .int .i64 n1, .int .i64 p1, .slice A2 ks1.length c2, .int .i64 ax] ∧ (W.cell? ⟨wq.heap.size, 0, none⟩ = some (.string ⟨nm.toArray⟩) ∧ W.cell? ⟨wq.heap.size, 1, none⟩ = some (.slice A1 pr.length c1) ∧ W.cell? ⟨wq.heap.size, 2, none⟩ = some (.string ⟨o1.toArray⟩) ∧ W.cell? ⟨wq.heap.size, 3, none⟩ = some (.string ⟨s1.toArray⟩) ∧ W.cell? ⟨wq.heap.size, 4, none⟩ = some (.int .i64 n1) ∧ W.cell? ⟨wq.heap.size, 5, none⟩ = some (.int .i64 p1) ∧ W.cell? ⟨wq.heap.size, 6, none⟩ = some (.slice A2 ks1.length c2) ∧ W.cell? ⟨wq.heap.size, 7, none⟩ = some (.int .i64 ax))) _ by assumption)
              refine (bld_write (show BldAt (w.heap.size + 1) (w.heap.size + 1) (XD ++ (ps.take k).flatMap predS) _ by first | exact HU5.out | exact HU4.out | exact HUd.out) HLU.out (Nat.le_trans (by omega) hq.2.1)).mono ?_
              rintro e w6 ⟨rfl, hu6, hb6, hk6⟩
              have HU6 := Lib.hid hu6
              have HSM9 := Lib.hid (HSK.out _ _ hq hb6 hk6 (by omega))
              clear hu6 hb6 hk6)
           | (go_at_call 36
              have hq := (show (fun W : World => Below (w.heap.size + 1) Z W ∧ wq.heap.size + 1 ≤ W.heap.size ∧ Blk W wq.heap.size 54 #[.string ⟨nm.toArray⟩, .slice A1 pr.length c1, .string ⟨o1.toArray⟩, .string ⟨s1.toArray⟩, .int .i64 n1, .int .i64 p1, .slice A2 ks1.length c2, .int .i64 ax] ∧ (W.cell? ⟨wq.heap.size, 0, none⟩ = some (.string ⟨nm.toArray⟩) ∧ W.cell? ⟨wq.heap.size, 1, none⟩ = some (.slice A1 pr.length c1) ∧ W.cell? ⟨wq.heap.size, 2, none⟩ = some (.string ⟨o1.toArray⟩) ∧ W.cell? ⟨wq.heap.size, 3, none⟩ = some (.string ⟨s1.toArray⟩) ∧ W.cell? ⟨wq.heap.size, 4, none⟩ = some (.int .i64 n1) ∧ W.cell? ⟨wq.heap.size, 5, none⟩ = some (.int .i64 p1) ∧ W.cell? ⟨wq.heap.size, 6, none⟩ = some (.slice A2 ks1.length c2) ∧ W.cell? ⟨wq.heap.size, 7, none⟩ = some (.int .i64 ax))) _ by assumption)
              refine (HJ.out _ (by first | exact HO5.out | exact HOd.out)).mono ?_
              rintro e w4 ⟨rfl, hb⟩
              have HU4 := Lib.hid (BldAt.below (show BldAt (w.heap.size + 1) (w.heap.size + 1) (XD ++ (ps.take k).flatMap predS) _ by first | exact HU5.out | exact HUd.out) hb)
              have HSM9 := Lib.hid (HSM.out _ _ hq hb)
              clear hb)
           | (go_at_call 11
              have hq := (show (fun W : World => Below (w.heap.size + 1) Z W ∧ wq.heap.size + 1 ≤ W.heap.size ∧ Blk W wq.heap.size 54 #[.string ⟨nm.toArray⟩, .slice A1 pr.length c1, .string ⟨o1.toArray⟩, .string ⟨s1.toArray⟩, .int .i64 n1, .int .i64 p1, .slice A2 ks1.length c2, .int .i64 ax] ∧ (W.cell? ⟨wq.heap.size, 0, none⟩ = some (.string ⟨nm.toArray⟩) ∧ W.cell? ⟨wq.heap.size, 1, none⟩ = some (.slice A1 pr.length c1) ∧ W.cell? ⟨wq.heap.size, 2, none⟩ = some (.string ⟨o1.toArray⟩) ∧ W.cell? ⟨wq.heap.size, 3, none⟩ = some (.string ⟨s1.toArray⟩) ∧ W.cell? ⟨wq.heap.size, 4, none⟩ = some (.int .i64 n1) ∧ W.cell? ⟨wq.heap.size, 5, none⟩ = some (.int .i64 p1) ∧ W.cell? ⟨wq.heap.size, 6, none⟩ = some (.slice A2 ks1.length c2) ∧ W.cell? ⟨wq.heap.size, 7, none⟩ = some (.int .i64 ax))) _ by assumption)
              refine (HFB.out _ (HW.out _ hq.1)).mono ?_
              rintro e w5 ⟨rfl, hb⟩
              have HU5 := Lib.hid (BldAt.below (show BldAt (w.heap.size + 1) (w.heap.size + 1) (XD ++ (ps.take k).flatMap predS) _ by first | exact HU4.out | exact HUd.out) hb)
              first | (have HO5 := Lib.hid (own_below HOd.out hb)) | skip
              have HSM9 := Lib.hid (HSM.out _ _ hq hb)
              clear hb))
          all_goals
           have hh := (show (fun W : World => Below (w.heap.size + 1) Z W ∧ wq.heap.size + 1 ≤ W.heap.size ∧ Blk W wq.heap.size 54 #[.string ⟨nm.toArray⟩, .slice A1 pr.length c1, .string ⟨o1.toArray⟩, .string ⟨s1.toArray⟩, .int .i64 n1, .int .i64 p1, .slice A2 ks1.length c2, .int .i64 ax] ∧ (W.cell? ⟨wq.heap.size, 0, none⟩ = some (.string ⟨nm.toArray⟩) ∧ W.cell? ⟨wq.heap.size, 1, none⟩ = some (.slice A1 pr.length c1) ∧ W.cell? ⟨wq.heap.size, 2, none⟩ = some (.string ⟨o1.toArray⟩) ∧ W.cell? ⟨wq.heap.size, 3, none⟩ = some (.string ⟨s1.toArray⟩) ∧ W.cell? ⟨wq.heap.size, 4, none⟩ = some (.int .i64 n1) ∧ W.cell? ⟨wq.heap.size, 5, none⟩ = some (.int .i64 p1) ∧ W.cell? ⟨wq.heap.size, 6, none⟩ = some (.slice A2 ks1.length c2) ∧ W.cell? ⟨wq.heap.size, 7, none⟩ = some (.int .i64 ax))) _ by assumption)
           go_wp2_with fail
           go_roundg (ps.length - (k + 1))
           case measure => have := HRr.out; omega
           case rel => exact ⟨k + 1, by omega, rfl, by go_num, by rw [HSN.out, ← List.append_assoc]; exact HU6, Lib.hid hh.1⟩
     · have g1 : decide ((k : Int) < (ps.length : Int)) = false := decide_eq_false (by omega)
       have hkd : k = ps.length := by omega
       have HU2 := Lib.hid HU.out
       rw [hkd] at HU2
       have hLP := HLP.out ps.length
       clear HU hkd HC
       generalize (ps.take ps.length).flatMap predS = XP at *
       obtain ⟨T1, hadd1, hT1⟩ := add_ex ⟨(XD ++ XP).toArray⟩ ⟨FM.toArray⟩ (X := XD ++ XP) (Y := FM) rfl rfl (by simp only [List.length_append]; omega)
       obtain ⟨T2, hadd2, hT2⟩ := add_ex T1 ⟨#[59, 10]⟩ (Y := [59, 10]) hT1 rfl (by simp only [List.length_append, List.length_cons, List.length_nil]; omega)
       have HE := Lib.hid (show T2 = ⟨V.toArray⟩ from bytes_of (hT2.trans HV.out))
       clear hT1 hT2 x0 x1 x2 x3 x4 x5 x6
       have HSS := Lib.hid (fun (W : World) (hW : Below (w.heap.size + 1) (w.alloc (boxP ds.length ps.length o s n q ks.length L)) W) => (⟨hW, by have := hW.size; simp at this; exact this, HX.out _ hW⟩ : (fun W : World => Below (w.heap.size + 1) (w.alloc (boxP ds.length ps.length o s n q ks.length L)) W ∧ w.heap.size + 1 ≤ W.heap.size ∧ (W.cell? ⟨w.heap.size, 0, none⟩ = some (.slice L.Ad ds.length L.cd) ∧ W.cell? ⟨w.heap.size, 1, none⟩ = some (.slice L.Ap ps.length L.cp) ∧ W.cell? ⟨w.heap.size, 2, none⟩ = some (.string ⟨o.toArray⟩) ∧ W.cell? ⟨w.heap.size, 3, none⟩ = some (.string ⟨s.toArray⟩) ∧ W.cell? ⟨w.heap.size, 4, none⟩ = some (.int .i64 n) ∧ W.cell? ⟨w.heap.size, 5, none⟩ = some (.int .i64 q) ∧ W.cell? ⟨w.heap.size, 6, none⟩ = some (.slice L.Ak ks.length L.ck))) W))
       go_upto_region 18 with fail
       have HUd := Lib.hid (bld_drew HU2.out)
       generalize (w.alloc (boxP ds.length ps.length o s n q ks.length L)) = Z at *
       go_region_held3 (fun W : World => Below (w.heap.size + 1) Z W ∧ w.heap.size + 1 ≤ W.heap.size ∧ (W.cell? ⟨w.heap.size, 0, none⟩ = some (.slice L.Ad ds.length L.cd) ∧ W.cell? ⟨w.heap.size, 1, none⟩ = some (.slice L.Ap ps.length L.cp) ∧ W.cell? ⟨w.heap.size, 2, none⟩ = some (.string ⟨o.toArray⟩) ∧ W.cell? ⟨w.heap.size, 3, none⟩ = some (.string ⟨s.toArray⟩) ∧ W.cell? ⟨w.heap.size, 4, none⟩ = some (.int .i64 n) ∧ W.cell? ⟨w.heap.size, 5, none⟩ = some (.int .i64 q) ∧ W.cell? ⟨w.heap.size, 6, none⟩ = some (.slice L.Ak ks.length L.ck))) (first | assumption | exact HSM9.out | exact HSS.out _ HB.out.drew | exact HSS.out _ HB.out) (first
        | (go_at_call 37
           have hq := (show (fun W : World => Below (w.heap.size + 1) Z W ∧ w.heap.size + 1 ≤ W.heap.size ∧ (W.cell? ⟨w.heap.size, 0, none⟩ = some (.slice L.Ad ds.length L.cd) ∧ W.cell? ⟨w.heap.size, 1, none⟩ = some (.slice L.Ap ps.length L.cp) ∧ W.cell? ⟨w.heap.size, 2, none⟩ = some (.string ⟨o.toArray⟩) ∧ W.cell? ⟨w.heap.size, 3, none⟩ = some (.string ⟨s.toArray⟩) ∧ W.cell? ⟨w.heap.size, 4, none⟩ = some (.int .i64 n) ∧ W.cell? ⟨w.heap.size, 5, none⟩ = some (.int .i64 q) ∧ W.cell? ⟨w.heap.size, 6, none⟩ = some (.slice L.Ak ks.length L.ck))) _ by assumption)
           refine (bld_string (show BldAt (w.heap.size + 1) (w.heap.size + 1) (XD ++ XP) _ by first | exact HU5.out | exact HUd.out) hq.2.1).mono ?_
           rintro e w6 ⟨rfl, hb6⟩
           have HSM9 := Lib.hid (HSS.out _ (hq.1.trans hb6))
           clear hb6)
        | (go_at_call 11
           have hq := (show (fun W : World => Below (w.heap.size + 1) Z W ∧ w.heap.size + 1 ≤ W.heap.size ∧ (W.cell? ⟨w.heap.size, 0, none⟩ = some (.slice L.Ad ds.length L.cd) ∧ W.cell? ⟨w.heap.size, 1, none⟩ = some (.slice L.Ap ps.length L.cp) ∧ W.cell? ⟨w.heap.size, 2, none⟩ = some (.string ⟨o.toArray⟩) ∧ W.cell? ⟨w.heap.size, 3, none⟩ = some (.string ⟨s.toArray⟩) ∧ W.cell? ⟨w.heap.size, 4, none⟩ = some (.int .i64 n) ∧ W.cell? ⟨w.heap.size, 5, none⟩ = some (.int .i64 q) ∧ W.cell? ⟨w.heap.size, 6, none⟩ = some (.slice L.Ak ks.length L.ck))) _ by assumption)
           refine (HMC.out _ (HW.out _ hq.1)).mono ?_
           rintro e w5 ⟨rfl, hb⟩
           first | (have HU5 := Lib.hid (BldAt.below HUd.out hb)) | skip
           have HSM9 := Lib.hid (HSS.out _ (HG.out _ _ hq.1 hb))
           clear hb))
       all_goals
        have hh := (show (fun W : World => Below (w.heap.size + 1) Z W ∧ w.heap.size + 1 ≤ W.heap.size ∧ (W.cell? ⟨w.heap.size, 0, none⟩ = some (.slice L.Ad ds.length L.cd) ∧ W.cell? ⟨w.heap.size, 1, none⟩ = some (.slice L.Ap ps.length L.cp) ∧ W.cell? ⟨w.heap.size, 2, none⟩ = some (.string ⟨o.toArray⟩) ∧ W.cell? ⟨w.heap.size, 3, none⟩ = some (.string ⟨s.toArray⟩) ∧ W.cell? ⟨w.heap.size, 4, none⟩ = some (.int .i64 n) ∧ W.cell? ⟨w.heap.size, 5, none⟩ = some (.int .i64 q) ∧ W.cell? ⟨w.heap.size, 6, none⟩ = some (.slice L.Ak ks.length L.ck))) _ by assumption)
        go_wp2_with fail
        go_ret
        exact ⟨congrArg (fun x : ByteArray => Ending.returned (.string x)) HE.out, HW.out _ hh.1⟩
end Go.Proofs.YteikakoheibnjaaDoor
namespace Go.Proofs.YteikakoheibnjaaDoor
open Go Go.RowKit

theorem cells_in {W : World} {b : Nat} {t : TypeId} (pre mid post : List Value) (hb : W.heap[b]? = some (.cells (pre ++ mid ++ post).toArray t (0, 0))) (j : Nat) (u : Value) (hu : mid[j]? = some u) : W.cell? ⟨b, pre.length + j, none⟩ = some u := by
 rw [cell_of_row W b _ _ t (0, 0) hb, List.getElem?_toArray, List.append_assoc, List.getElem?_append_right (by omega)]
 have hj : j < mid.length := (List.getElem?_eq_some_iff.1 hu).1
 rw [show pre.length + j - pre.length = j by omega, List.getElem?_append_left hj]
 exact hu
theorem NodeAt.leaf (w : World) (B : Nat) (o s : List UInt8) (n p : Int) (ho : o.length ≤ 140737488355328) (hs : s.length ≤ 140737488355328) (A : Option Addr) : NodeAt w B (.node o s n p []) A 0 := by
 unfold NodeAt KidsAt
 exact ⟨ho, hs, Nat.le_refl _, by simp, trivial⟩
def orNode : Node := .node nOr [] 0 0 [.node nTrue [] 0 0 [], .node nNot [] 0 0 [.node nFalse [] 0 0 []]]
theorem known_tree (w : World) : NodeAt ((w.alloc (.cells (cellsN (.node nFalse [] 0 0 []) none 0).toArray 24)).alloc (.cells (cellsN (.node nTrue [] 0 0 []) none 0 ++ cellsN (.node nNot [] 0 0 [.node nFalse [] 0 0 []]) (some ⟨w.heap.size, 0, none⟩) 1).toArray 24))
  ((w.alloc (.cells (cellsN (.node nFalse [] 0 0 []) none 0).toArray 24)).alloc (.cells (cellsN (.node nTrue [] 0 0 []) none 0 ++ cellsN (.node nNot [] 0 0 [.node nFalse [] 0 0 []]) (some ⟨w.heap.size, 0, none⟩) 1).toArray 24)).heap.size orNode (some ⟨w.heap.size + 1, 0, none⟩) 2 := by
 have hW1 : (w.alloc (.cells (cellsN (.node nFalse [] 0 0 []) none 0).toArray 24)).heap[w.heap.size]? = some (.cells (cellsN (.node nFalse [] 0 0 []) none 0).toArray 24 (0, 0)) := heap_alloc_new w _
 have hz : (w.alloc (.cells (cellsN (.node nFalse [] 0 0 []) none 0).toArray 24)).heap.size = w.heap.size + 1 := by simp
 generalize w.alloc (.cells (cellsN (.node nFalse [] 0 0 []) none 0).toArray 24) = W1 at *
 have hW2 : (W1.alloc (.cells (cellsN (.node nTrue [] 0 0 []) none 0 ++ cellsN (.node nNot [] 0 0 [.node nFalse [] 0 0 []]) (some ⟨w.heap.size, 0, none⟩) 1).toArray 24)).heap[w.heap.size + 1]? = some (.cells (cellsN (.node nTrue [] 0 0 []) none 0 ++ cellsN (.node nNot [] 0 0 [.node nFalse [] 0 0 []]) (some ⟨w.heap.size, 0, none⟩) 1).toArray 24 (0, 0)) := by
  rw [← hz]
  exact heap_alloc_new W1 _
 have hW3 : (W1.alloc (.cells (cellsN (.node nTrue [] 0 0 []) none 0 ++ cellsN (.node nNot [] 0 0 [.node nFalse [] 0 0 []]) (some ⟨w.heap.size, 0, none⟩) 1).toArray 24)).heap[w.heap.size]? = some (.cells (cellsN (.node nFalse [] 0 0 []) none 0).toArray 24 (0, 0)) := (Below.heap_alloc W1 _ _ (by omega)).trans hW1
 have hz2 : (W1.alloc (.cells (cellsN (.node nTrue [] 0 0 []) none 0 ++ cellsN (.node nNot [] 0 0 [.node nFalse [] 0 0 []]) (some ⟨w.heap.size, 0, none⟩) 1).toArray 24)).heap.size = w.heap.size + 2 := by simp [hz]
 generalize W1.alloc _ = W2 at *
 unfold orNode NodeAt
 refine ⟨by decide, by decide, by decide, by decide, ?_⟩
 unfold KidsAt
 refine ⟨⟨w.heap.size + 1, 0, none, 0, rfl, by omega, fun j u hu => ?_, NodeAt.leaf _ _ _ _ _ _ (by decide) (by decide) _⟩, ?_⟩
 · have := cells_in [] (cellsN (.node nTrue [] 0 0 []) none 0) (cellsN (.node nNot [] 0 0 [.node nFalse [] 0 0 []]) (some ⟨w.heap.size, 0, none⟩) 1) hW2 j u hu
   simpa using this
 · unfold KidsAt
   refine ⟨⟨w.heap.size + 1, 0, some ⟨w.heap.size, 0, none⟩, 1, rfl, by omega, fun j u hu => ?_, ?_⟩, by unfold KidsAt; trivial⟩
   · have := cells_in (cellsN (.node nTrue [] 0 0 []) none 0) (cellsN (.node nNot [] 0 0 [.node nFalse [] 0 0 []]) (some ⟨w.heap.size, 0, none⟩) 1) [] (by rw [List.append_nil]; exact hW2) j u hu
     simpa [cellsN] using this
   · unfold NodeAt
     refine ⟨by decide, by decide, by decide, by decide, ?_⟩
     unfold KidsAt
     refine ⟨⟨w.heap.size, 0, none, 0, rfl, by omega, fun j u hu => ?_, NodeAt.leaf _ _ _ _ _ _ (by decide) (by decide) _⟩, by unfold KidsAt; trivial⟩
     have := cells_in [] (cellsN (.node nFalse [] 0 0 []) none 0) [] (by rw [List.append_nil]; exact hW3) j u hu
     simpa using this
theorem known5_any (w : World) : Calls Tryd.prog 15 #[] w fun e w' => e = .returned (.bool true) ∧ Below w.heap.size w w' := by
 have H := Lib.hid (sform_any orNode _ _ _ (known_tree w) (by decide) (by decide))
 rw [show formS orNode = [40, 116, 114, 117, 101, 32, 124, 32, 126, 102, 97, 108, 115, 101, 41] by decide] at H
 simp only [nodeT, nodeW, orNode, Node.op, Node.name, Node.num, Node.pos, Node.kids] at H
 go_enter Tryd.func15, Tryd.ntmps15
 go_wp2_with (
  go_at_call 11
  refine H.out.mono ?_
  rintro e w2 ⟨rfl, hb⟩)
 go_ret
 exact ⟨rfl, (((Below.refl w.heap.size w).alloc (Nat.le_refl _) _).alloc (by simp) _).trans (hb.mono (by simp <;> omega))⟩
end Go.Proofs.YteikakoheibnjaaDoor
namespace Go.Proofs.YteikakoheibnjaaDoor
open Go Go.RowKit

theorem sameDs_at : ∀ (a b : List DeclP), sameDs a b = true → a.length = b.length ∧ ∀ k (h : k < a.length) (h2 : k < b.length), a[k].name = b[k].name ∧ a[k].order = b[k].order
 | [], [], _ => ⟨rfl, fun k h => absurd h (by simp)⟩
 | [], _ :: _, h => by simp [sameDs] at h
 | _ :: _, [], h => by simp [sameDs] at h
 | x :: r, y :: q, h => by
   simp only [sameDs, sameD, Bool.and_eq_true, beq_iff_eq] at h
   obtain ⟨e1, e2⟩ := sameDs_at r q h.2
   refine ⟨by simp [e1], fun k hk hk2 => ?_⟩
   cases k with
   | zero => exact h.1
   | succ k => exact e2 k (by simpa using hk) (by simpa using hk2)
theorem sameL_at : ∀ (a b : List Node), sameL a b = true → ∀ k (h : k < a.length) (h2 : k < b.length), sameB a[k] b[k] = true
 | [], _, _, k, h, _ => absurd h (by simp)
 | _ :: _, [], _, k, _, h => absurd h (by simp)
 | x :: r, y :: q, h, k, hk, hk2 => by
   simp only [sameL, Bool.and_eq_true] at h
   cases k with
   | zero => exact h.1
   | succ k => exact sameL_at r q h.2 k (by simpa using hk) (by simpa using hk2)
theorem sameQs_at : ∀ (a b : List PredP), sameQs a b = true → a.length = b.length ∧ ∀ k (h : k < a.length) (h2 : k < b.length), a[k].name = b[k].name ∧ sameDs a[k].params b[k].params = true ∧ sameB a[k].body b[k].body = true
 | [], [], _ => ⟨rfl, fun k h => absurd h (by simp)⟩
 | [], _ :: _, h => by simp [sameQs] at h
 | _ :: _, [], h => by simp [sameQs] at h
 | x :: r, y :: q, h => by
   simp only [sameQs, sameQ, Bool.and_eq_true, beq_iff_eq] at h
   obtain ⟨e1, e2⟩ := sameQs_at r q h.2
   refine ⟨by simp [e1], fun k hk hk2 => ?_⟩
   cases k with
   | zero => exact ⟨h.1.1.1, h.1.1.2, h.1.2⟩
   | succ k => exact e2 k (by simpa using hk) (by simpa using hk2)
set_option maxRecDepth 100000 in
set_option maxHeartbeats 4000000 in
theorem psameDs_any {w : World} {B B2 : Nat} {A A2 : Option Addr} {cap cap2 : Nat} {ds es : List DeclP} (h : DeclsAt w B A cap ds) (h2 : DeclsAt w B2 A2 cap2 es) (hs : sameDs ds es = true) :
  Calls Tryd.prog 48 #[.slice A ds.length cap, .slice A2 es.length cap2] w fun e w' => e = .returned (.bool true) ∧ ∃ n, w' = w.drewN n := by
 obtain ⟨hl, hat⟩ := sameDs_at ds es hs
 have HAT := Lib.hid hat
 have HC := Lib.hid h
 have HC2 := Lib.hid h2
 have hl1 := h.cap_
 have hl2 := h.small
 have hl3 := h2.cap_
 have gl : ((ds.length : Int) != (es.length : Int)) = false := by rw [hl]; simp
 have HL := Lib.hid hl
 have hle : (ds.length : Int) ≤ (es.length : Int) := by omega
 clear h h2 hs hat hl
 go_enter Tryd.func48, Tryd.ntmps48
 go_wp2_with fail
 go_loopg [5] ds.length (fun r i wr => ∃ (k m : Nat), k ≤ ds.length ∧ r = ds.length - k ∧ i = .int .i64 (k : Int) ∧ Hid (wr = w.drewN m))
 case atStart => exact ⟨0, 0, Nat.zero_le _, rfl, rfl, Lib.hid rfl⟩
 case round =>
  obtain ⟨k, m, hk, hr, rfl, hW⟩ := hrel
  have HRr := Lib.hid hr
  clear hr
  by_cases hlt : k < ds.length
  · have hlt2 : k < es.length := by have := HL.out; omega
    obtain ⟨bb, off, rfl, _, d0, d1, _⟩ := HC.out.at_ k hlt
    obtain ⟨bb2, off2, rfl, _, e0, e1, _⟩ := HC2.out.at_ k hlt2
    obtain ⟨en, eo⟩ := HAT.out k hlt hlt2
    rw [← en] at e0
    rw [← eo] at e1
    have hcw : ∀ p : Addr, wr.cell? p = w.cell? p := fun p => by rw [hW.out]; rfl
    replace d0 := (hcw _).trans d0
    replace d1 := (hcw _).trans d1
    replace e0 := (hcw _).trans e0
    replace e1 := (hcw _).trans e1
    have g1 : decide ((k : Int) < (ds.length : Int)) = true := decide_eq_true (by omega)
    have hk0 : (0 : Int) ≤ (k : Int) := Int.natCast_nonneg _
    have hk1 : (k : Int) < (ds.length : Int) := by omega
    have hk2 : (k : Int) < (es.length : Int) := by omega
    clear en eo hcw
    generalize (ds[k]'hlt).name = nm at *
    generalize (ds[k]'hlt).order = od at *
    have gn : (!nm == nm) = false := by simp
    have go' : (od != od) = false := by simp
    go_wp2_with fail
    go_quiet (fail)
    all_goals
     go_wp2_with fail
     go_roundg (ds.length - (k + 1))
     case measure => have := HRr.out; omega
     case rel => exact ⟨k + 1, _, by omega, rfl, by go_num, Lib.hid (by rw [hW.out, World.drewN_drewN])⟩
  · have g1 : decide ((k : Int) < (ds.length : Int)) = false := decide_eq_false (by omega)
    go_wp2_with fail
    go_ret
    exact ⟨rfl, m, hW.out⟩
theorem two_boxesN {w W : World} {o s : List UInt8} {n p : Int} {l : Nat} {A : Option Addr} {c : Nat} {o2 s2 : List UInt8} {n2 p2 : Int} {l2 : Nat} {A2 : Option Addr} {c2 : Nat}
  (h : Below (w.heap.size + 1 + 1) ((w.alloc (boxN o s n p l A c)).alloc (boxN o2 s2 n2 p2 l2 A2 c2)) W) : W.cell? ⟨w.heap.size, 4, none⟩ = some (.slice A l c) ∧ W.cell? ⟨w.heap.size + 1, 4, none⟩ = some (.slice A2 l2 c2) := by
 constructor
 · refine (h.cell (p := ⟨w.heap.size, 4, none⟩) (by show w.heap.size < _; omega)).trans ?_
   refine (World.cell?_alloc_lt _ _ ⟨w.heap.size, 4, none⟩ (by simp)).trans ?_
   exact (cell_of_row _ w.heap.size 4 _ 24 (0, 0) (heap_alloc_new w _)).trans rfl
 · refine (h.cell (p := ⟨w.heap.size + 1, 4, none⟩) (by show w.heap.size + 1 < _; omega)).trans ?_
   exact (cell_of_row _ (w.heap.size + 1) 4 _ 24 (0, 0) (heap_new_at (by simp))).trans rfl
set_option maxRecDepth 100000 in
set_option maxHeartbeats 8000000 in
theorem psame_any : ∀ (a b : Node) (A B : Option Addr) (cap cap2 : Nat) (w : World), NodeAt w w.heap.size a A cap → NodeAt w w.heap.size b B cap2 → sameB a b = true →
  Calls Tryd.prog 49 #[nodeT a A cap, nodeT b B cap2] w fun e w' => e = .returned (.bool true) ∧ Below w.heap.size w w' := by
 intro a
 induction a using Node.ind with
 | h o s n p ks ih =>
   intro b A B cap cap2 w h h2 hs
   cases b with
   | node o2 s2 n2 p2 ls =>
     have HC := Lib.hid h
     have HC2 := Lib.hid h2
     have IH := Lib.hid ih
     obtain ⟨hl1, hl2, _⟩ := h.len
     obtain ⟨hl3, hl4, _⟩ := h2.len
     simp only [sameB, Bool.and_eq_true, beq_iff_eq] at hs
     obtain ⟨⟨⟨⟨e1, e2⟩, e3⟩, hlen⟩, hsl⟩ := hs
     subst e1 e2 e3
     have HSL := Lib.hid (sameL_at ks ls hsl)
     have gl : ((ks.length : Int) != (ls.length : Int)) = false := by rw [hlen]; simp
     have go1 : (!o == o) = false := by simp
     have gs1 : (!s == s) = false := by simp
     have gn1 : (n != n) = false := by simp
     have HL := Lib.hid hlen
     clear h h2 ih hlen hsl
     simp only [nodeW, Node.op, Node.name, Node.num, Node.pos, Node.kids]
     have HX := Lib.hid (fun W (hW : Below (w.heap.size + 1 + 1) ((w.alloc (.cells #[.string ⟨o.toArray⟩, .string ⟨s.toArray⟩, .int .i64 n, .int .i64 p, .slice A ks.length cap] 24)).alloc (.cells #[.string ⟨o.toArray⟩, .string ⟨s.toArray⟩, .int .i64 n, .int .i64 p2, .slice B ls.length cap2] 24)) W) => two_boxesN hW)
     have HW := Lib.hid (fun W (hW : Below (w.heap.size + 1 + 1) ((w.alloc (.cells #[.string ⟨o.toArray⟩, .string ⟨s.toArray⟩, .int .i64 n, .int .i64 p, .slice A ks.length cap] 24)).alloc (.cells #[.string ⟨o.toArray⟩, .string ⟨s.toArray⟩, .int .i64 n, .int .i64 p2, .slice B ls.length cap2] 24)) W) => ((((Below.refl w.heap.size w).alloc (Nat.le_refl _) (.cells #[.string ⟨o.toArray⟩, .string ⟨s.toArray⟩, .int .i64 n, .int .i64 p, .slice A ks.length cap] 24)).alloc (by simp) (.cells #[.string ⟨o.toArray⟩, .string ⟨s.toArray⟩, .int .i64 n, .int .i64 p2, .slice B ls.length cap2] 24)).trans (hW.mono (by omega)) : Below w.heap.size w W))
     have HZS := Lib.hid (show ((w.alloc (.cells #[.string ⟨o.toArray⟩, .string ⟨s.toArray⟩, .int .i64 n, .int .i64 p, .slice A ks.length cap] 24)).alloc (.cells #[.string ⟨o.toArray⟩, .string ⟨s.toArray⟩, .int .i64 n, .int .i64 p2, .slice B ls.length cap2] 24)).heap.size = w.heap.size + 1 + 1 by simp)
     go_enter Tryd.func49, Tryd.ntmps49
     go_wp2_with fail
     have HB0 := Lib.hid (Below.refl (w.heap.size + 1 + 1) ((w.alloc (.cells #[.string ⟨o.toArray⟩, .string ⟨s.toArray⟩, .int .i64 n, .int .i64 p, .slice A ks.length cap] 24)).alloc (.cells #[.string ⟨o.toArray⟩, .string ⟨s.toArray⟩, .int .i64 n, .int .i64 p2, .slice B ls.length cap2] 24)))
     generalize ((w.alloc (.cells #[.string ⟨o.toArray⟩, .string ⟨s.toArray⟩, .int .i64 n, .int .i64 p, .slice A ks.length cap] 24)).alloc (.cells #[.string ⟨o.toArray⟩, .string ⟨s.toArray⟩, .int .i64 n, .int .i64 p2, .slice B ls.length cap2] 24)) = Z at *
     go_loopg [5] ks.length (fun r i wr => ∃ k : Nat, k ≤ ks.length ∧ r = ks.length - k ∧ i = .int .i64 (k : Int) ∧ Below (w.heap.size + 1 + 1) Z wr)
     case atStart => exact ⟨0, Nat.zero_le _, rfl, rfl, HB0.out⟩
     case round =>
      obtain ⟨k, hk, hr, rfl, hb⟩ := hrel
      have HRr := Lib.hid hr
      have HB := Lib.hid hb
      have hws : w.heap.size + 1 + 1 ≤ wr.heap.size := by have := hb.size; have := HZS.out; omega
      obtain ⟨p5, q5⟩ := HX.out _ hb
      clear hr hb
      by_cases hlt : k < ks.length
      · have hlt2 : k < ls.length := by have := HL.out; omega
        have hlt3 : (k : Int) < (ls.length : Int) := by omega
        obtain ⟨bb, off, A', cap', rfl, hlo, hcells, hkid⟩ := HC.out.kid k hlt
        obtain ⟨bb2, off2, B', cap2', rfl, hlo2, hcells2, hkid2⟩ := HC2.out.kid k hlt2
        have HI := Lib.hid (fun A B cap cap2 W h1 h2 => IH.out (ks[k]'hlt) (List.getElem_mem hlt) (ls[k]'hlt2) A B cap cap2 W h1 h2 (HSL.out k hlt hlt2))
        generalize ks[k]'hlt = x at *
        generalize ls[k]'hlt2 = y at *
        cases x with
        | node o' s' n' p' ks' =>
          cases y with
          | node q' r' m' t' ls' =>
            have HSS := Lib.hid (fun W (hW : Below wr.heap.size wr W) => (⟨(hW.cell (p := ⟨w.heap.size, 4, none⟩) (by show w.heap.size < _; omega)).trans p5, (hW.cell (p := ⟨w.heap.size + 1, 4, none⟩) (by show w.heap.size + 1 < _; omega)).trans q5,
             kid_cells hlo hcells ((HW.out _ HB.out).trans (hW.mono (HW.out _ HB.out).size)), kid_cells hlo2 hcells2 ((HW.out _ HB.out).trans (hW.mono (HW.out _ HB.out).size))⟩ :
             W.cell? ⟨w.heap.size, 4, none⟩ = some (.slice (some ⟨bb, off, none⟩) ks.length cap) ∧ W.cell? ⟨w.heap.size + 1, 4, none⟩ = some (.slice (some ⟨bb2, off2, none⟩) ls.length cap2) ∧ (W.cell? ⟨bb, off + k * 5, none⟩ = some (.string ⟨o'.toArray⟩) ∧ W.cell? ⟨bb, off + k * 5 + 1, none⟩ = some (.string ⟨s'.toArray⟩) ∧ W.cell? ⟨bb, off + k * 5 + 2, none⟩ = some (.int .i64 n') ∧ W.cell? ⟨bb, off + k * 5 + 3, none⟩ = some (.int .i64 p') ∧ W.cell? ⟨bb, off + k * 5 + 4, none⟩ = some (.slice A' ks'.length cap')) ∧ (W.cell? ⟨bb2, off2 + k * 5, none⟩ = some (.string ⟨q'.toArray⟩) ∧ W.cell? ⟨bb2, off2 + k * 5 + 1, none⟩ = some (.string ⟨r'.toArray⟩) ∧ W.cell? ⟨bb2, off2 + k * 5 + 2, none⟩ = some (.int .i64 m') ∧ W.cell? ⟨bb2, off2 + k * 5 + 3, none⟩ = some (.int .i64 t') ∧ W.cell? ⟨bb2, off2 + k * 5 + 4, none⟩ = some (.slice B' ls'.length cap2'))))
            have HKK := Lib.hid (fun W (hW : Below wr.heap.size wr W) => And.intro ((show NodeAt w w.heap.size (.node o' s' n' p' ks') A' cap' from hkid).later ((HW.out _ HB.out).trans (hW.mono (HW.out _ HB.out).size)) (Nat.le_trans (HW.out _ HB.out).size hW.size)) ((show NodeAt w w.heap.size (.node q' r' m' t' ls') B' cap2' from hkid2).later ((HW.out _ HB.out).trans (hW.mono (HW.out _ HB.out).size)) (Nat.le_trans (HW.out _ HB.out).size hW.size)))
            have HBZ := Lib.hid (fun W (hW : Below wr.heap.size wr W) => (HB.out.trans (hW.mono hws) : Below (w.heap.size + 1 + 1) Z W))
            simp only [nodeW, Node.op, Node.name, Node.num, Node.pos, Node.kids] at HI
            clear hcells hkid hcells2 hkid2
            have g1 : decide ((k : Int) < (ks.length : Int)) = true := decide_eq_true (by omega)
            have hk0 : (0 : Int) ≤ (k : Int) := Int.natCast_nonneg _
            have hk1 : (k : Int) < (ks.length : Int) := by omega
            have hB0 := Below.refl wr.heap.size wr
            go_upto_region 6 with fail
            go_region_held3 (fun W => W.cell? ⟨w.heap.size, 4, none⟩ = some (.slice (some ⟨bb, off, none⟩) ks.length cap) ∧ W.cell? ⟨w.heap.size + 1, 4, none⟩ = some (.slice (some ⟨bb2, off2, none⟩) ls.length cap2) ∧ (W.cell? ⟨bb, off + k * 5, none⟩ = some (.string ⟨o'.toArray⟩) ∧ W.cell? ⟨bb, off + k * 5 + 1, none⟩ = some (.string ⟨s'.toArray⟩) ∧ W.cell? ⟨bb, off + k * 5 + 2, none⟩ = some (.int .i64 n') ∧ W.cell? ⟨bb, off + k * 5 + 3, none⟩ = some (.int .i64 p') ∧ W.cell? ⟨bb, off + k * 5 + 4, none⟩ = some (.slice A' ks'.length cap')) ∧ (W.cell? ⟨bb2, off2 + k * 5, none⟩ = some (.string ⟨q'.toArray⟩) ∧ W.cell? ⟨bb2, off2 + k * 5 + 1, none⟩ = some (.string ⟨r'.toArray⟩) ∧ W.cell? ⟨bb2, off2 + k * 5 + 2, none⟩ = some (.int .i64 m') ∧ W.cell? ⟨bb2, off2 + k * 5 + 3, none⟩ = some (.int .i64 t') ∧ W.cell? ⟨bb2, off2 + k * 5 + 4, none⟩ = some (.slice B' ls'.length cap2'))) (first | assumption | exact HSS.out _ hB0 | exact HSS.out _ hb5' | exact HSS.out _ (by go_grown)) (first
             | (
              go_at_call 49
              have hb0 : Below wr.heap.size wr wr.drew := by go_grown
              refine (HI.out A' B' cap' cap2' _ (HKK.out _ hb0).1 (HKK.out _ hb0).2).mono ?_
              rintro e w5 ⟨rfl, hb5⟩
              have hb5' := hb0.trans (hb5.mono (Nat.le_refl _))))
            go_wp2_with fail
            go_roundg (ks.length - (k + 1))
            case measure => have := HRr.out; omega
            case rel => exact ⟨k + 1, by omega, rfl, by go_num, HBZ.out _ hb5'⟩
      · have g1 : decide ((k : Int) < (ks.length : Int)) = false := decide_eq_false (by omega)
        go_wp2_with fail
        go_ret
        exact ⟨rfl, HW.out _ HB.out⟩
end Go.Proofs.YteikakoheibnjaaDoor
