/- The walk over sibylref5.Prog (printed by mksprog.py). -/
import Derived.Test.YteikakoheibnjaaDoorDecl2
import Derived.Test.YteikakoheibnjaaDoorRForm
import Derived.Test.YteikakoheibnjaaDoorIs3
namespace Go.Proofs.YteikakoheibnjaaDoor
open Go Go.RowKit

theorem commasD_snoc (pr : List DeclP) (k : Nat) (hk : k < pr.length) (h0 : 0 < k) : commas ((pr.take (k + 1)).map declS) = commas ((pr.take k).map declS) ++ [44, 32] ++ declS pr[k] := by
  rw [List.take_succ_eq_append_getElem hk, List.map_append]
  refine commas_snoc _ _ ?_
  intro e
  have := congrArg List.length e
  simp only [List.length_map, List.length_take, List.length_nil] at this
  omega
theorem commasD_first (pr : List DeclP) (hk : 0 < pr.length) : commas ((pr.take (0 + 1)).map declS) = declS pr[0] := by
  match pr, hk with
  | x :: r, _ => simp [commas]
set_option maxHeartbeats 8000000 in
theorem rprog_any (ds : List DeclP) (ps : List PredP) (o s : List UInt8) (n q : Int) (ks : List Node) (L : ProgL) (w : World) (h : ProgAt w w.heap.size ⟨ds, ps, .node o s n q ks⟩ L) (hB : progB ⟨ds, ps, .node o s n q ks⟩ = true)
    (hd20 : ds.length ≤ 20) (hp10 : ps.length ≤ 10) (hN : nodes (.node o s n q ks) ≤ 2000) (hNP : ∀ x ∈ ps, nodes x.body ≤ 2000) :
    Calls Tryd.prog 18 #[progW ds.length ps.length o s n q ks.length L] w fun e w' => e = .returned (.string ⟨(progS ⟨ds, ps, .node o s n q ks⟩).toArray⟩) ∧ Below w.heap.size w w' := by
  obtain ⟨hd, hp, hm⟩ := progAt_parts h
  clear h
  have hB0 := hB
  unfold progB at hB0
  simp only [Bool.and_eq_true, List.all_eq_true] at hB0
  have HDB := Lib.hid hB0.1.2
  have HPB := Lib.hid hB0.1.1
  have hMB := hB0.2.2
  have HMC := Lib.hid (fun W (hW : Below w.heap.size w W) => rform_any (.node o s n q ks) L.Ak L.ck W (hm.later hW hW.size) hMB hN)
  have HC := Lib.hid hp
  have HCD := Lib.hid hd
  have hl1 := hp.cap_
  have hl2 := hp.small
  have hl3 := hd.cap_
  have hl4 := hd.small
  have hl5 := hm.len
  obtain ⟨hl5, hl6, _⟩ := hl5
  have hLM := formS_len _ hMB
  have HLD := Lib.hid (fun k => (show ((ds.take k).flatMap (fun d => declS d ++ [59, 10])).length ≤ 2022 * ds.length by
    refine Nat.le_trans (flat_le (M := 2022) (ds.take k) (fun d hd => ?_)) (Nat.mul_le_mul_left _ (by rw [List.length_take]; omega))
    have := declB_len (HDB.out d (List.mem_of_mem_take hd))
    simp only [List.length_append, List.length_cons, List.length_nil]
    omega))
  have HLP := Lib.hid (fun k => (show ((ps.take k).flatMap predS).length ≤ 4250000 * ps.length from
    Nat.le_trans (flat_le (M := 4250000) (ps.take k) (fun x hx => predS_len (HPB.out x (List.mem_of_mem_take hx)) (hNP x (List.mem_of_mem_take hx)))) (Nat.mul_le_mul_left _ (by rw [List.length_take]; omega))))
  have HNP := Lib.hid hNP
  have HV := Lib.hid (show (ds.take ds.length).flatMap (fun d => declS d ++ [59, 10]) ++ (ps.take ps.length).flatMap predS ++ formS (.node o s n q ks) ++ [59, 10] = progS ⟨ds, ps, .node o s n q ks⟩ by
    rw [List.take_length, List.take_length]
    rfl)
  clear hd hp hm hB hB0 hMB hNP
  generalize progS ⟨ds, ps, .node o s n q ks⟩ = V at *
  simp only [nodeT, nodeW, Node.op, Node.name, Node.num, Node.pos, Node.kids] at HMC
  generalize formS (.node o s n q ks) = FM at *
  generalize nodes (.node o s n q ks) = NM at *
  have HX := Lib.hid (fun W (hW : Below (w.heap.size + 1) (w.alloc (boxP ds.length ps.length o s n q ks.length L)) W) => box7 hW)
  have HW := Lib.hid (fun W (hW : Below (w.heap.size + 1) (w.alloc (boxP ds.length ps.length o s n q ks.length L)) W) => fresh_w hW)
  have HG := Lib.hid (fun W W' (hW : Below (w.heap.size + 1) (w.alloc (boxP ds.length ps.length o s n q ks.length L)) W) (hb : Below W.heap.size W W') => fresh_more hW hb)
  have HB0 := Lib.hid (Below.refl (w.heap.size + 1) (w.alloc (boxP ds.length ps.length o s n q ks.length L)))
  simp only [progW]
  go_enter Tryd.func18, Tryd.ntmps18
  go_wp2_with fail
  generalize hS : (ByteArray.mk #[]) = S0
  have HS0 := Lib.hid (show S0.data.toList = [] by rw [← hS])
  clear hS
  go_loopg [3, 4] ds.length (fun r z i wr => ∃ (k : Nat) (T : ByteArray), k ≤ ds.length ∧ r = ds.length - k ∧ z = .string T ∧ Hid (T.data.toList = (ds.take k).flatMap (fun d => declS d ++ [59, 10])) ∧ i = .int .i64 (k : Int) ∧ Hid (Below (w.heap.size + 1) (w.alloc (boxP ds.length ps.length o s n q ks.length L)) wr))
  case atStart => exact ⟨0, S0, Nat.zero_le _, rfl, rfl, Lib.hid (by rw [HS0.out]; rfl), rfl, HB0⟩
  case round =>
    obtain ⟨k, T, hk, hr, rfl, HT, rfl, HB⟩ := hrel
    have HRr := Lib.hid hr
    have hs1 := HB.out.size
    simp only [World.size_alloc] at hs1
    obtain ⟨x0, x1, x2, x3, x4, x5, x6⟩ := HX.out _ HB.out
    clear hr
    by_cases hlt : k < ds.length
    · obtain ⟨bb, off, hAd, hlo, hc0, hc1, hc2⟩ := HCD.out.at_ k hlt
      have hBd := HDB.out ds[k] (List.getElem_mem hlt)
      have HSN := Lib.hid (flat_snoc (f := fun d => declS d ++ [59, 10]) hlt)
      have hL2 := HLD.out (k + 1)
      rw [HSN.out, List.length_append, List.length_append] at hL2
      generalize ds[k] = d at *
      obtain ⟨nm, od, ad⟩ := d
      simp only at hc0 hc1 hc2 HSN
      have HDC := Lib.hid (fun W => rdecl_any nm od ad W hBd)
      generalize declS ⟨nm, od, ad⟩ = X at *
      obtain ⟨T1, hadd1, hT1⟩ := add_ex T ⟨X.toArray⟩ (Y := X) HT.out rfl (by omega)
      obtain ⟨T2, hadd2, hT2⟩ := add_ex T1 ⟨#[59, 10]⟩ (Y := [59, 10]) hT1 rfl (by simp only [List.length_append, List.length_cons, List.length_nil] at hL2 ⊢; omega)
      have HT2 := Lib.hid (show T2.data.toList = (ds.take (k + 1)).flatMap (fun d => declS d ++ [59, 10]) by rw [hT2, HSN.out, List.append_assoc])
      clear hT1 hT2
      have hWr := HW.out _ HB.out
      have e0 := (hWr.cell (p := ⟨bb, off + k * 3, none⟩) hlo).trans hc0
      have e1 := (hWr.cell (p := ⟨bb, off + k * 3 + 1, none⟩) hlo).trans hc1
      have e2 := (hWr.cell (p := ⟨bb, off + k * 3 + 2, none⟩) hlo).trans hc2
      clear hc0 hc1 hc2 hWr hBd
      obtain ⟨Lad, Lcd, Lap, Lcp, Lak, Lck⟩ := L
      simp only at hAd hl1 hl2 hl3 hl4 hl5 hl6 x0 x1 x6
      subst hAd
      have g1 : decide ((k : Int) < (ds.length : Int)) = true := decide_eq_true (by omega)
      go_wp2_with (
        go_at_call 38
        refine (HDC.out _).mono ?_
        rintro e w5 ⟨rfl, hb⟩
        have HB5 := Lib.hid (HG.out _ _ HB.out hb)
        clear hb)
      all_goals
        go_roundg (ds.length - (k + 1))
        case measure => have := HRr.out; omega
        case rel => exact ⟨k + 1, T2, by omega, rfl, rfl, HT2, by go_num, HB5⟩
    · have g1 : decide ((k : Int) < (ds.length : Int)) = false := decide_eq_false (by omega)
      have hkd : k = ds.length := by omega
      have HTD := Lib.hid HT.out
      rw [hkd] at HTD
      have hLD := HLD.out ds.length
      clear HLD HT hkd HCD HDB
      generalize (ds.take ds.length).flatMap (fun d => declS d ++ [59, 10]) = XD at *
      go_wp2_with fail
      have HBA := HB
      clear HB x0 x1 x2 x3 x4 x5 x6 hlt hs1 g1 HRr
      go_loopg [3, 5] ps.length (fun r z i wr => ∃ (k : Nat) (T : ByteArray), k ≤ ps.length ∧ r = ps.length - k ∧ z = .string T ∧ Hid (T.data.toList = XD ++ (ps.take k).flatMap predS) ∧ i = .int .i64 (k : Int) ∧ Hid (Below (w.heap.size + 1) (w.alloc (boxP ds.length ps.length o s n q ks.length L)) wr))
      case atStart => exact ⟨0, T, Nat.zero_le _, rfl, rfl, Lib.hid (by rw [HTD.out, List.take_zero, List.flatMap_nil, List.append_nil]), rfl, HBA⟩
      case round =>
        obtain ⟨k, T, hk, hr, rfl, HT, rfl, HB⟩ := hrel
        have HRr := Lib.hid hr
        have hs1 := HB.out.size
        simp only [World.size_alloc] at hs1
        obtain ⟨x0, x1, x2, x3, x4, x5, x6⟩ := HX.out _ HB.out
        clear hr
        by_cases hlt : k < ps.length
        · obtain ⟨bb, off, A1, c1, A2, c2, hAp, hlo, ⟨d0, d1, d2, d3, d4, d5, d6, d7⟩, hd1, hn1⟩ := HC.out.at_ k hlt
          have hPB := HPB.out ps[k] (List.getElem_mem hlt)
          have hNk := HNP.out ps[k] (List.getElem_mem hlt)
          have HSN := Lib.hid (flat_snoc (f := predS) hlt)
          have hL1 := HLP.out k
          have hLQ := predS_len hPB hNk
          generalize ps[k] = x at *
          obtain ⟨nm, pr, bo, ax⟩ := x
          unfold predB at hPB
          simp only [Bool.and_eq_true, decide_eq_true_eq, List.all_eq_true] at hPB
          simp only at d0 d1 d2 d3 d4 d5 d6 d7 hd1 hn1 hNk HSN hLQ
          have HFB := Lib.hid (fun W (hW : Below w.heap.size w W) => rform_any bo A2 c2 W (hn1.later hW hW.size) hPB.2.2 hNk)
          have HPR := Lib.hid (fun d (hd : d ∈ pr) => hPB.1.2 d hd)
          have hp6 := hPB.1.1.2
          have HCP := Lib.hid hd1
          have hq1 := hd1.cap_
          have hq2 := hd1.small
          have HLC := Lib.hid (fun k => commasD_len (pr.take k) (fun d hd => hPB.1.2 d (List.mem_of_mem_take hd)))
          have HQ := Lib.hid (show [112, 114, 101, 100] ++ [32] ++ nm ++ [40] ++ commas ((pr.take pr.length).map declS) ++ [41, 32, 61, 32] ++ formS bo ++ [59, 10] = predS ⟨nm, pr, bo, ax⟩ by rw [List.take_length]; rfl)
          clear hPB hd1 hn1
          generalize predS ⟨nm, pr, bo, ax⟩ = Q at *
          cases bo with
          | node o1 s1 n1 p1 ks1 =>
          simp only [nodeT, nodeW, Node.op, Node.name, Node.num, Node.pos, Node.kids] at d2 d3 d4 d5 d6 HFB
          generalize formS (.node o1 s1 n1 p1 ks1) = FB at *
          generalize nodes (.node o1 s1 n1 p1 ks1) = NB at *
          have hWr := HW.out _ HB.out
          have e0 := (hWr.cell (p := ⟨bb, off + k * 8, none⟩) hlo).trans d0
          have e1 := (hWr.cell (p := ⟨bb, off + k * 8 + 1, none⟩) hlo).trans d1
          have e2 := (hWr.cell (p := ⟨bb, off + k * 8 + 2, none⟩) hlo).trans d2
          have e3 := (hWr.cell (p := ⟨bb, off + k * 8 + 3, none⟩) hlo).trans d3
          have e4 := (hWr.cell (p := ⟨bb, off + k * 8 + 4, none⟩) hlo).trans d4
          have e5 := (hWr.cell (p := ⟨bb, off + k * 8 + 5, none⟩) hlo).trans d5
          have e6 := (hWr.cell (p := ⟨bb, off + k * 8 + 6, none⟩) hlo).trans d6
          have e7 := (hWr.cell (p := ⟨bb, off + k * 8 + 7, none⟩) hlo).trans d7
          clear d0 d1 d2 d3 d4 d5 d6 d7 hWr
          have g1 : decide ((k : Int) < (ps.length : Int)) = true := decide_eq_true (by omega)
          have hTl := congrArg List.length HT.out
          rw [List.length_append] at hTl
          have HTL := Lib.hid (show T.data.toList.length ≤ 50000000 by omega)
          clear hTl
          have hQl := congrArg List.length HQ.out
          simp only [List.length_append, List.length_cons, List.length_nil] at hQl
          have HQl := Lib.hid hQl
          clear hQl
          obtain ⟨Lad, Lcd, Lap, Lcp, Lak, Lck⟩ := L
          simp only at hAp hl1 hl2 hl3 hl4 hl5 hl6 x0 x1 x6
          subst hAp
          have HBQ := Lib.hid (Below.refl (wr.heap.size + 1) (wr.alloc (boxQ nm A1 pr.length c1 o1 s1 n1 p1 A2 ks1.length c2 ax)))
          have HX8 := Lib.hid (fun W (hW : Below (wr.heap.size + 1) (wr.alloc (boxQ nm A1 pr.length c1 o1 s1 n1 p1 A2 ks1.length c2 ax)) W) => box8 hW)
          have HBW := Lib.hid (fun W (hW : Below (wr.heap.size + 1) (wr.alloc (boxQ nm A1 pr.length c1 o1 s1 n1 p1 A2 ks1.length c2 ax)) W) => HG.out _ _ HB.out (fresh_w hW))
          have HGW := Lib.hid (fun W W' (hW : Below (wr.heap.size + 1) (wr.alloc (boxQ nm A1 pr.length c1 o1 s1 n1 p1 A2 ks1.length c2 ax)) W) (hb : Below W.heap.size W W') => fresh_more hW hb)
          obtain ⟨T1, hadd1, hT1⟩ := add_ex T ⟨#[112, 114, 101, 100, 32]⟩ (X := T.data.toList) (Y := [112, 114, 101, 100, 32]) rfl rfl (by have := HTL.out; simp only [List.length_cons, List.length_nil]; omega)
          obtain ⟨T2, hadd2, hT2⟩ := add_ex T1 ⟨nm.toArray⟩ (Y := nm) hT1 rfl (by have := HTL.out; have := HQl.out; simp only [List.length_append, List.length_cons, List.length_nil]; omega)
          obtain ⟨T3, hadd3, hT3⟩ := add_ex T2 ⟨#[40]⟩ (Y := [40]) hT2 rfl (by have := HTL.out; have := HQl.out; simp only [List.length_append, List.length_cons, List.length_nil]; omega)
          have HT3 := Lib.hid hT3
          clear hT1 hT2 hT3
          have HTP := Lib.hid (show (T.data.toList ++ [112, 114, 101, 100, 32] ++ nm ++ [40]).length ≤ 60000000 by have := HTL.out; have := HQl.out; simp only [List.length_append, List.length_cons, List.length_nil]; omega)
          have HTF := Lib.hid (show T.data.toList ++ [112, 114, 101, 100, 32] ++ nm ++ [40] ++ commas ((pr.take pr.length).map declS) ++ [41, 32, 61, 32] ++ FB ++ [59, 10] = XD ++ (ps.take (k + 1)).flatMap predS by
            rw [HSN.out, ← List.append_assoc, ← HT.out, ← HQ.out]
            simp only [List.append_assoc, List.cons_append, List.nil_append])
          have hFL : FB.length ≤ 10000000 := by have := HQl.out; omega
          generalize T.data.toList ++ [112, 114, 101, 100, 32] ++ nm ++ [40] = PRE at *
          go_wp2_with fail
          go_loopg [3, 7] pr.length (fun r z i w3 => ∃ (j : Nat) (U : ByteArray), j ≤ pr.length ∧ r = pr.length - j ∧ z = .string U ∧ Hid (U.data.toList = PRE ++ commas ((pr.take j).map declS)) ∧ i = .int .i64 (j : Int) ∧ Hid (Below (wr.heap.size + 1) (wr.alloc (boxQ nm A1 pr.length c1 o1 s1 n1 p1 A2 ks1.length c2 ax)) w3))
          case atStart => exact ⟨0, T3, Nat.zero_le _, rfl, rfl, Lib.hid (by rw [HT3.out, List.take_zero]; simp [commas]), rfl, HBQ⟩
          case round =>
            obtain ⟨j, U, hj, hr, rfl, HUU, rfl, HB3⟩ := hrel
            have HRr3 := Lib.hid hr
            have hs3 := HB3.out.size
            simp only [World.size_alloc] at hs3
            obtain ⟨y0, y1, y2, y3, y4, y5, y6, y7⟩ := HX8.out _ HB3.out
            clear hr
            have hLC1 := HLC.out j
            have hLC2 := HLC.out (j + 1)
            rw [List.length_take] at hLC1 hLC2
            by_cases hlt3 : j < pr.length
            · obtain ⟨bp, offp, hA1, hlop, hc0, hc1, hc2⟩ := HCP.out.at_ j hlt3
              have hBd := HPR.out pr[j] (List.getElem_mem hlt3)
              have hdl := declB_len hBd
              have HSN3 := Lib.hid (commasD_snoc pr j hlt3)
              have HFI := Lib.hid (fun (e : j = 0) => (show commas ((pr.take (j + 1)).map declS) = declS pr[j] by subst e; exact commasD_first pr hlt3))
              generalize pr[j] = d at *
              obtain ⟨nmd, od, ad⟩ := d
              simp only at hc0 hc1 hc2
              have HDC := Lib.hid (fun W => rdecl_any nmd od ad W hBd)
              generalize declS ⟨nmd, od, ad⟩ = X at *
              have hW3 := HW.out _ (HBW.out _ HB3.out)
              have f0 := (hW3.cell (p := ⟨bp, offp + j * 3, none⟩) hlop).trans hc0
              have f1 := (hW3.cell (p := ⟨bp, offp + j * 3 + 1, none⟩) hlop).trans hc1
              have f2 := (hW3.cell (p := ⟨bp, offp + j * 3 + 2, none⟩) hlop).trans hc2
              clear hc0 hc1 hc2 hW3 hBd
              subst hA1
              have g3 : decide ((j : Int) < (pr.length : Int)) = true := decide_eq_true (by omega)
              by_cases h0 : 0 < j
              · have g4 : decide ((j : Int) > 0) = true := decide_eq_true (by omega)
                obtain ⟨U1, hadd4, hU1⟩ := add_ex U ⟨#[44, 32]⟩ (Y := [44, 32]) HUU.out rfl (by have := HTP.out; simp only [List.length_append, List.length_cons, List.length_nil]; omega)
                obtain ⟨U2, hadd5, hU2⟩ := add_ex U1 ⟨X.toArray⟩ (Y := X) hU1 rfl (by have := HTP.out; simp only [List.length_append, List.length_cons, List.length_nil]; omega)
                have HU2 := Lib.hid (show U2.data.toList = PRE ++ commas ((pr.take (j + 1)).map declS) by rw [hU2, HSN3.out h0]; simp only [List.append_assoc])
                clear hU1 hU2 hLC1 hLC2 hdl
                go_wp2_with (
                  go_at_call 38
                  refine (HDC.out _).mono ?_
                  rintro e w5 ⟨rfl, hb⟩
                  have HB5 := Lib.hid (HGW.out _ _ HB3.out hb)
                  clear hb)
                all_goals
                  go_roundg (pr.length - (j + 1))
                  case measure => have := HRr3.out; omega
                  case rel => exact ⟨j + 1, U2, by omega, rfl, rfl, HU2, by go_num, HB5⟩
              · have g4 : decide ((j : Int) > 0) = false := decide_eq_false (by omega)
                obtain ⟨U2, hadd5, hU2⟩ := add_ex U ⟨X.toArray⟩ (Y := X) HUU.out rfl (by have := HTP.out; simp only [List.length_append]; omega)
                have HU2 := Lib.hid (show U2.data.toList = PRE ++ commas ((pr.take (j + 1)).map declS) by
                  have hj0 : j = 0 := by omega
                  rw [hU2, HFI.out hj0, hj0, List.take_zero]
                  simp [commas])
                clear hU2 hLC1 hLC2 hdl
                go_wp2_with (
                  go_at_call 38
                  refine (HDC.out _).mono ?_
                  rintro e w5 ⟨rfl, hb⟩
                  have HB5 := Lib.hid (HGW.out _ _ HB3.out hb)
                  clear hb)
                all_goals
                  go_roundg (pr.length - (j + 1))
                  case measure => have := HRr3.out; omega
                  case rel => exact ⟨j + 1, U2, by omega, rfl, rfl, HU2, by go_num, HB5⟩
            · have g3 : decide ((j : Int) < (pr.length : Int)) = false := decide_eq_false (by omega)
              have hjj : j = pr.length := by omega
              subst hjj
              obtain ⟨U1, hadd4, hU1⟩ := add_ex U ⟨#[41, 32, 61, 32]⟩ (Y := [41, 32, 61, 32]) HUU.out rfl (by have := HTP.out; simp only [List.length_append, List.length_cons, List.length_nil]; omega)
              obtain ⟨U2, hadd5, hU2⟩ := add_ex U1 ⟨FB.toArray⟩ (Y := FB) hU1 rfl (by have := HTP.out; simp only [List.length_append, List.length_cons, List.length_nil]; omega)
              obtain ⟨U3, hadd6, hU3⟩ := add_ex U2 ⟨#[59, 10]⟩ (Y := [59, 10]) hU2 rfl (by have := HTP.out; simp only [List.length_append, List.length_cons, List.length_nil]; omega)
              have HU3 := Lib.hid (show U3.data.toList = XD ++ (ps.take (k + 1)).flatMap predS by rw [hU3, ← HTF.out])
              clear hU1 hU2 hU3 hLC1 hLC2
              go_wp2_with (
                go_at_call 12
                refine (HFB.out _ (HW.out _ (HBW.out _ HB3.out))).mono ?_
                rintro e w5 ⟨rfl, hb⟩
                have HB5 := Lib.hid (HBW.out _ (HGW.out _ _ HB3.out hb))
                clear hb)
              all_goals
                go_roundg (ps.length - (k + 1))
                case measure => have := HRr.out; omega
                case rel => exact ⟨k + 1, U3, by omega, rfl, rfl, HU3, by go_num, HB5⟩
        · have g1 : decide ((k : Int) < (ps.length : Int)) = false := decide_eq_false (by omega)
          have hkd : k = ps.length := by omega
          have HT2 := Lib.hid HT.out
          rw [hkd] at HT2
          have hLP := HLP.out ps.length
          clear HT hkd HC
          generalize (ps.take ps.length).flatMap predS = XP at *
          obtain ⟨T1, hadd1, hT1⟩ := add_ex T ⟨FM.toArray⟩ (Y := FM) HT2.out rfl (by simp only [List.length_append]; omega)
          obtain ⟨T2, hadd2, hT2⟩ := add_ex T1 ⟨#[59, 10]⟩ (Y := [59, 10]) hT1 rfl (by simp only [List.length_append, List.length_cons, List.length_nil]; omega)
          have HE := Lib.hid (show T2 = ⟨V.toArray⟩ from bytes_of (hT2.trans HV.out))
          clear hT1 hT2
          go_wp2_with (
            go_at_call 12
            refine (HMC.out _ (HW.out _ HB.out)).mono ?_
            rintro e w5 ⟨rfl, hb⟩
            have HB5 := Lib.hid (HG.out _ _ HB.out hb)
            clear hb)
          all_goals
            go_ret
            exact ⟨congrArg (fun x : ByteArray => Ending.returned (.string x)) HE.out, HW.out _ HB5.out⟩
end Go.Proofs.YteikakoheibnjaaDoor
