/- Parts of the proof: Is3, WStr, Bld. -/
import Derived.Test.YteikakoheibnjaaDoorQ10
import Derived.KernelRfl
import Derived.Lib.FrozenHead2
import Derived.Lib.Hide
import Derived.Lib.OthersKept
import Derived.Shelf.Strings.Builder1
import Derived.Shelf.Strings.Builder2
import Derived.Shelf.Strings.BuilderF
import Derived.Shelf.Strings.BuilderK
import Derived.Test.YteikakoheibnjaaDoorProg
import Derived.Test.YteikakoheibnjaaDoorRows
namespace Go.Proofs.YteikakoheibnjaaDoor
open Go Go.RowKit

set_option maxHeartbeats 2000000 in
theorem decls_any (ds : List DeclP) (A : Option Addr) (cap : Nat) (w : World) (h : DeclsAt w w.heap.size A cap ds) (hT : Tab8 w) :
  Calls Tryd.prog 65 #[.slice A ds.length cap] w fun e w' => e = .returned (.bool (ds.all declB)) ∧ Below w.heap.size w w' := by
 have HC := Lib.hid h
 have HN := Lib.hid (fun d (hd : d ∈ ds) W (hW : Below w.heap.size w W) => isName_any d.name (h.name d hd) W (Go.Proofs.Utf8Tabs_below hT hW))
 have hl1 := h.cap_
 have hl2 := h.small
 clear h hT
 have HV := Lib.hid (fun (hh : (ds.take ds.length).all declB = true) => (show true = ds.all declB by rw [List.take_length] at hh; exact hh.symm))
 have HV2 := Lib.hid (fun k (hk : k < ds.length) (hh : declB ds[k] = false) => (show false = ds.all declB from (all_false_at hk hh).symm))
 generalize ds.all declB = V at *
 go_enter Tryd.func65, Tryd.ntmps65
 go_wp2_with fail
 go_loopg [3] ds.length (fun r i wr => ∃ k : Nat, k ≤ ds.length ∧ r = ds.length - k ∧ i = .int .i64 (k : Int) ∧ Hid ((ds.take k).all declB = true) ∧ Hid (Below w.heap.size w wr))
 case atStart => exact ⟨0, Nat.zero_le _, rfl, rfl, Lib.hid rfl, Lib.hid (Below.refl _ _)⟩
 case round =>
  obtain ⟨k, hk, hr, rfl, HA, HB⟩ := hrel
  have HRr := Lib.hid hr
  have hs1 := HB.out.size
  clear hr
  by_cases hlt : k < ds.length
  · obtain ⟨bb, off, rfl, hlo, hc0, hc1, hc2⟩ := HC.out.at_ k hlt
    have HI := Lib.hid (HN.out ds[k] (List.getElem_mem hlt))
    have HV3 := Lib.hid (HV2.out k hlt)
    have HA2 := Lib.hid (fun h2 => all_take_succ hlt HA.out h2)
    have HD := Lib.hid (show declB ds[k] = (nameB ds[k].name && decide (0 ≤ ds[k].order) && decide (ds[k].order ≤ 2)) from rfl)
    clear HN HV HV2
    generalize declB ds[k] = D at *
    generalize ds[k] = d at *
    obtain ⟨nm, od, ad⟩ := d
    simp only at hc0 hc1 hc2 HI HD
    have HCC := Lib.hid (fun (W : World) (hW : Below w.heap.size w W) => (⟨(hW.cell (p := ⟨bb, off + k * 3, none⟩) hlo).trans hc0, (hW.cell (p := ⟨bb, off + k * 3 + 1, none⟩) hlo).trans hc1⟩ : W.cell? ⟨bb, off + k * 3, none⟩ = some (.string ⟨nm.toArray⟩) ∧ W.cell? ⟨bb, off + k * 3 + 1, none⟩ = some (.int .i64 od)))
    clear hc0 hc1 hc2
    obtain ⟨e0, e1⟩ := HCC.out _ HB.out
    generalize nameB nm = N at *
    have g1 : decide ((k : Int) < (ds.length : Int)) = true := decide_eq_true (by omega)
    cases N with
    | false =>
      have HF := Lib.hid (HV3.out (by rw [HD.out]; rfl))
      clear HV3 HD HA2
      go_wp2_with (
    go_at_call 64
    refine (HI.out _ HB.out).mono ?_
    rintro e w2 ⟨rfl, hb2⟩
    have HB2 := Lib.hid (HB.out.trans (hb2.mono hs1))
    obtain ⟨f0, f1⟩ := HCC.out _ HB2.out
    clear hb2)
      all_goals
       go_ret
       exact ⟨congrArg (fun x : Bool => Ending.returned (.bool x)) HF.out, HB2.out⟩
    | true =>
      by_cases h0 : 0 ≤ od
      · have g2 : decide (od < 0) = false := decide_eq_false (by omega)
        by_cases h2 : od ≤ 2
        · have g3 : decide (2 < od) = false := decide_eq_false (by omega)
          have HF := Lib.hid (HA2.out (by rw [HD.out, decide_eq_true h0, decide_eq_true h2]; rfl))
          clear HV3 HD HA2 h0 h2
          go_wp2_with (
    go_at_call 64
    refine (HI.out _ HB.out).mono ?_
    rintro e w2 ⟨rfl, hb2⟩
    have HB2 := Lib.hid (HB.out.trans (hb2.mono hs1))
    obtain ⟨f0, f1⟩ := HCC.out _ HB2.out
    clear hb2)
          all_goals
           go_roundg (ds.length - (k + 1))
           case measure => have := HRr.out; omega
           case rel => exact ⟨k + 1, by omega, rfl, by go_num, HF, HB2⟩
        · have g3 : decide (2 < od) = true := decide_eq_true (by omega)
          have HF := Lib.hid (HV3.out (by rw [HD.out, decide_eq_true h0, decide_eq_false h2]; rfl))
          clear HV3 HD HA2 h0 h2
          go_wp2_with (
    go_at_call 64
    refine (HI.out _ HB.out).mono ?_
    rintro e w2 ⟨rfl, hb2⟩
    have HB2 := Lib.hid (HB.out.trans (hb2.mono hs1))
    obtain ⟨f0, f1⟩ := HCC.out _ HB2.out
    clear hb2)
          all_goals
           go_ret
           exact ⟨congrArg (fun x : Bool => Ending.returned (.bool x)) HF.out, HB2.out⟩
      · have g2 : decide (od < 0) = true := decide_eq_true (by omega)
        have HF := Lib.hid (HV3.out (by rw [HD.out, decide_eq_false h0]; rfl))
        clear HV3 HD HA2 h0
        go_wp2_with (
    go_at_call 64
    refine (HI.out _ HB.out).mono ?_
    rintro e w2 ⟨rfl, hb2⟩
    have HB2 := Lib.hid (HB.out.trans (hb2.mono hs1))
    obtain ⟨f0, f1⟩ := HCC.out _ HB2.out
    clear hb2)
        all_goals
         go_ret
         exact ⟨congrArg (fun x : Bool => Ending.returned (.bool x)) HF.out, HB2.out⟩
  · have g1 : decide ((k : Int) < (ds.length : Int)) = false := decide_eq_false (by omega)
    have HF := Lib.hid (HV.out (by rw [← HA.out, show k = ds.length by omega]))
    go_wp2_with fail
    go_ret
    exact ⟨congrArg (fun x : Bool => Ending.returned (.bool x)) HF.out, HB.out⟩

theorem progAt_parts {w : World} {B : Nat} {ds : List DeclP} {ps : List PredP} {t : Node} {L : ProgL} (h : ProgAt w B ⟨ds, ps, t⟩ L) : DeclsAt w B L.Ad L.cd ds ∧ PredsAt w B L.Ap L.cp ps ∧ NodeAt w B t L.Ak L.ck := ⟨h.decls, h.preds, h.main⟩
set_option maxHeartbeats 4000000 in
theorem rIs3_any (ds : List DeclP) (ps : List PredP) (o s : List UInt8) (n q : Int) (ks : List Node) (L : ProgL) (w : World) (h : ProgAt w w.heap.size ⟨ds, ps, .node o s n q ks⟩ L) (hT : Tab8 w) :
  Calls Tryd.prog 33 #[progW ds.length ps.length o s n q ks.length L] w fun e w' => e = .returned (.bool (progB ⟨ds, ps, .node o s n q ks⟩)) ∧ Below w.heap.size w w' := by
 obtain ⟨hd, hp, hm⟩ := progAt_parts h
 clear h
 have HDC := Lib.hid (fun W (hW : Below w.heap.size w W) => decls_any ds L.Ad L.cd W (hd.later hW hW.size) (Go.Proofs.Utf8Tabs_below hT hW))
 have HMC := Lib.hid (fun W (hW : Below w.heap.size w W) => isFormula_any (.node o s n q ks) L.Ak L.ck W (hm.later hW hW.size) (Go.Proofs.Utf8Tabs_below hT hW))
 have HC := Lib.hid hp
 have HN := Lib.hid (fun x (hx : x ∈ ps) W (hW : Below w.heap.size w W) => isName_any x.name (hp.name x hx) W (Go.Proofs.Utf8Tabs_below hT hW))
 have HDP := Lib.hid (fun ds1 A1 c1 (hd1 : DeclsAt w w.heap.size A1 c1 ds1) W (hW : Below w.heap.size w W) => decls_any ds1 A1 c1 W (hd1.later hW hW.size) (Go.Proofs.Utf8Tabs_below hT hW))
 have HFP := Lib.hid (fun t1 A1 c1 (ht1 : NodeAt w w.heap.size t1 A1 c1) W (hW : Below w.heap.size w W) => isFormula_any t1 A1 c1 W (ht1.later hW hW.size) (Go.Proofs.Utf8Tabs_below hT hW))
 have hl1 := hp.cap_
 have hl2 := hp.small
 have hl3 := hd.cap_
 have hl4 := hd.small
 have hl5 := hm.len
 obtain ⟨hl5, hl6, _⟩ := hl5
 clear hd hp hm hT
 have HV := Lib.hid (fun (hh : (ps.take ps.length).all predB = true) => (show (ds.all declB && isFormB (.node o s n q ks)) = progB ⟨ds, ps, .node o s n q ks⟩ by
  rw [List.take_length] at hh
  unfold progB isFormB
  rw [hh]
  simp))
 have HV2 := Lib.hid (fun k (hk : k < ps.length) (hh : predB ps[k] = false) => (show false = progB ⟨ds, ps, .node o s n q ks⟩ by
  unfold progB
  rw [all_false_at hk hh]
  simp))
 generalize progB ⟨ds, ps, .node o s n q ks⟩ = V at *
 generalize ds.all declB = VD at *
 simp only [nodeT, nodeW, Node.op, Node.name, Node.num, Node.pos, Node.kids] at HMC
 generalize isFormB (.node o s n q ks) = VM at *
 have HX := Lib.hid (fun W (hW : Below (w.heap.size + 1) (w.alloc (boxP ds.length ps.length o s n q ks.length L)) W) => box7 hW)
 have HW := Lib.hid (fun W (hW : Below (w.heap.size + 1) (w.alloc (boxP ds.length ps.length o s n q ks.length L)) W) => fresh_w hW)
 have HG := Lib.hid (fun W W' (hW : Below (w.heap.size + 1) (w.alloc (boxP ds.length ps.length o s n q ks.length L)) W) (hb : Below W.heap.size W W') => fresh_more hW hb)
 have HB0 := Lib.hid (Below.refl (w.heap.size + 1) (w.alloc (boxP ds.length ps.length o s n q ks.length L)))
 simp only [progW]
 go_enter Tryd.func33, Tryd.ntmps33
 go_wp2_with fail
 go_loopg [3] ps.length (fun r i wr => ∃ k : Nat, k ≤ ps.length ∧ r = ps.length - k ∧ i = .int .i64 (k : Int) ∧ Hid ((ps.take k).all predB = true) ∧ Hid (Below (w.heap.size + 1) (w.alloc (boxP ds.length ps.length o s n q ks.length L)) wr))
 case atStart => exact ⟨0, Nat.zero_le _, rfl, rfl, Lib.hid rfl, HB0⟩
 case round =>
  obtain ⟨k, hk, hr, rfl, HA, HB⟩ := hrel
  have HRr := Lib.hid hr
  have hs1 := HB.out.size
  simp only [World.size_alloc] at hs1
  obtain ⟨x0, x1, x2, x3, x4, x5, x6⟩ := HX.out _ HB.out
  clear hr
  by_cases hlt : k < ps.length
  · obtain ⟨bb, off, A1, c1, A2, c2, hAp, hlo, ⟨d0, d1, d2, d3, d4, d5, d6, d7⟩, hd1, hn1⟩ := HC.out.at_ k hlt
    have HI := Lib.hid (HN.out ps[k] (List.getElem_mem hlt))
    have HPD := Lib.hid (HDP.out _ _ _ hd1)
    have HPF := Lib.hid (HFP.out _ _ _ hn1)
    have hq1 := hd1.cap_
    have hq2 := hd1.small
    have HV3 := Lib.hid (HV2.out k hlt)
    have HA2 := Lib.hid (fun h2 => all_take_succ hlt HA.out h2)
    have HD := Lib.hid (show predB ps[k] = (nameB ps[k].name && decide (ps[k].params.length ≤ 6) && ps[k].params.all declB && isFormB ps[k].body) from rfl)
    clear HN HV HV2 HDP HFP hd1 hn1 HMC HDC
    generalize predB ps[k] = D at *
    generalize ps[k] = x at *
    obtain ⟨nm, pr, bo, ax⟩ := x
    simp only at d0 d1 d2 d3 d4 d5 d6 d7 HI HD HPD HPF hq1 hq2
    cases bo with
    | node o1 s1 n1 p1 ks1 =>
    simp only [nodeT, nodeW, Node.op, Node.name, Node.num, Node.pos, Node.kids] at d2 d3 d4 d5 d6 HPF
    have HCC := Lib.hid (fun (W : World) (hW : Below w.heap.size w W) => (⟨(hW.cell (p := ⟨bb, off + k * 8, none⟩) hlo).trans d0, (hW.cell (p := ⟨bb, off + k * 8 + 1, none⟩) hlo).trans d1, (hW.cell (p := ⟨bb, off + k * 8 + 2, none⟩) hlo).trans d2, (hW.cell (p := ⟨bb, off + k * 8 + 3, none⟩) hlo).trans d3, (hW.cell (p := ⟨bb, off + k * 8 + 4, none⟩) hlo).trans d4, (hW.cell (p := ⟨bb, off + k * 8 + 5, none⟩) hlo).trans d5, (hW.cell (p := ⟨bb, off + k * 8 + 6, none⟩) hlo).trans d6, (hW.cell (p := ⟨bb, off + k * 8 + 7, none⟩) hlo).trans d7⟩ :
     W.cell? ⟨bb, off + k * 8, none⟩ = some (.string ⟨nm.toArray⟩) ∧ W.cell? ⟨bb, off + k * 8 + 1, none⟩ = some (.slice A1 pr.length c1) ∧ W.cell? ⟨bb, off + k * 8 + 2, none⟩ = some (.string ⟨o1.toArray⟩) ∧ W.cell? ⟨bb, off + k * 8 + 3, none⟩ = some (.string ⟨s1.toArray⟩) ∧
     W.cell? ⟨bb, off + k * 8 + 4, none⟩ = some (.int .i64 n1) ∧ W.cell? ⟨bb, off + k * 8 + 5, none⟩ = some (.int .i64 p1) ∧ W.cell? ⟨bb, off + k * 8 + 6, none⟩ = some (.slice A2 ks1.length c2) ∧ W.cell? ⟨bb, off + k * 8 + 7, none⟩ = some (.int .i64 ax)))
    clear d0 d1 d2 d3 d4 d5 d6 d7
    obtain ⟨e0, e1, e2, e3, e4, e5, e6, e7⟩ := HCC.out _ (HW.out _ HB.out)
    obtain ⟨Lad, Lcd, Lap, Lcp, Lak, Lck⟩ := L
    simp only at hAp hl1 hl2 hl3 hl4 hl5 hl6 x0 x1 x6
    subst hAp
    have HB1 := Lib.hid (Below.refl (wr.heap.size + 1) (wr.alloc (boxQ nm A1 pr.length c1 o1 s1 n1 p1 A2 ks1.length c2 ax)))
    have HX8 := Lib.hid (fun W (hW : Below (wr.heap.size + 1) (wr.alloc (boxQ nm A1 pr.length c1 o1 s1 n1 p1 A2 ks1.length c2 ax)) W) => box8 hW)
    have HBW := Lib.hid (fun W (hW : Below (wr.heap.size + 1) (wr.alloc (boxQ nm A1 pr.length c1 o1 s1 n1 p1 A2 ks1.length c2 ax)) W) => HG.out _ _ HB.out (fresh_w hW))
    have HGW := Lib.hid (fun W W' (hW : Below (wr.heap.size + 1) (wr.alloc (boxQ nm A1 pr.length c1 o1 s1 n1 p1 A2 ks1.length c2 ax)) W) (hb : Below W.heap.size W W') => fresh_more hW hb)
    generalize nameB nm = N at *
    generalize pr.all declB = PD at *
    generalize isFormB (.node o1 s1 n1 p1 ks1) = PF at *
    have g1 : decide ((k : Int) < (ps.length : Int)) = true := decide_eq_true (by omega)
    cases N with
    | false =>
      have HF := Lib.hid (HV3.out (by rw [HD.out]; simp))
      clear HV3 HD HA2
      go_wp2_with (first
           | (
              go_at_call 64
              refine (HI.out _ (HW.out _ (HBW.out _ HB1.out))).mono ?_
              rintro e w2 ⟨rfl, hb⟩
              have HB2 := Lib.hid (HGW.out _ _ HB1.out hb)
              obtain ⟨f0, f1, f2, f3, f4, f5, f6, f7⟩ := HX8.out _ HB2.out
              clear hb)
           | (
              go_at_call 65
              refine (HPD.out _ (HW.out _ (HBW.out _ HB2.out))).mono ?_
              rintro e w3 ⟨rfl, hb⟩
              have HB3 := Lib.hid (HGW.out _ _ HB2.out hb)
              obtain ⟨i0, i1, i2, i3, i4, i5, i6, i7⟩ := HX8.out _ HB3.out
              clear hb)
           | (
              go_at_call 9
              refine (HPF.out _ (HW.out _ (HBW.out _ HB3.out))).mono ?_
              rintro e w4 ⟨rfl, hb⟩
              have HB4 := Lib.hid (HGW.out _ _ HB3.out hb)
              clear hb))
      all_goals
       go_ret
       exact ⟨congrArg (fun x : Bool => Ending.returned (.bool x)) HF.out, HW.out _ (HBW.out _ HB2.out)⟩
    | true =>
    by_cases h6 : pr.length ≤ 6
    · have g6 : decide ((6 : Int) < (pr.length : Int)) = false := decide_eq_false (by omega)
      cases PD with
      | false =>
        have HF := Lib.hid (HV3.out (by rw [HD.out]; simp))
        clear HV3 HD HA2
        go_wp2_with (first
             | (
                go_at_call 64
                refine (HI.out _ (HW.out _ (HBW.out _ HB1.out))).mono ?_
                rintro e w2 ⟨rfl, hb⟩
                have HB2 := Lib.hid (HGW.out _ _ HB1.out hb)
                obtain ⟨f0, f1, f2, f3, f4, f5, f6, f7⟩ := HX8.out _ HB2.out
                clear hb)
             | (
                go_at_call 65
                refine (HPD.out _ (HW.out _ (HBW.out _ HB2.out))).mono ?_
                rintro e w3 ⟨rfl, hb⟩
                have HB3 := Lib.hid (HGW.out _ _ HB2.out hb)
                obtain ⟨i0, i1, i2, i3, i4, i5, i6, i7⟩ := HX8.out _ HB3.out
                clear hb)
             | (
                go_at_call 9
                refine (HPF.out _ (HW.out _ (HBW.out _ HB3.out))).mono ?_
                rintro e w4 ⟨rfl, hb⟩
                have HB4 := Lib.hid (HGW.out _ _ HB3.out hb)
                clear hb))
        all_goals
         go_ret
         exact ⟨congrArg (fun x : Bool => Ending.returned (.bool x)) HF.out, HW.out _ (HBW.out _ HB3.out)⟩
      | true =>
      cases PF with
      | false =>
        have HF := Lib.hid (HV3.out (by rw [HD.out]; simp))
        clear HV3 HD HA2
        go_wp2_with (first
             | (
                go_at_call 64
                refine (HI.out _ (HW.out _ (HBW.out _ HB1.out))).mono ?_
                rintro e w2 ⟨rfl, hb⟩
                have HB2 := Lib.hid (HGW.out _ _ HB1.out hb)
                obtain ⟨f0, f1, f2, f3, f4, f5, f6, f7⟩ := HX8.out _ HB2.out
                clear hb)
             | (
                go_at_call 65
                refine (HPD.out _ (HW.out _ (HBW.out _ HB2.out))).mono ?_
                rintro e w3 ⟨rfl, hb⟩
                have HB3 := Lib.hid (HGW.out _ _ HB2.out hb)
                obtain ⟨i0, i1, i2, i3, i4, i5, i6, i7⟩ := HX8.out _ HB3.out
                clear hb)
             | (
                go_at_call 9
                refine (HPF.out _ (HW.out _ (HBW.out _ HB3.out))).mono ?_
                rintro e w4 ⟨rfl, hb⟩
                have HB4 := Lib.hid (HGW.out _ _ HB3.out hb)
                clear hb))
        all_goals
         go_ret
         exact ⟨congrArg (fun x : Bool => Ending.returned (.bool x)) HF.out, HW.out _ (HBW.out _ HB4.out)⟩
      | true =>
        have HF := Lib.hid (HA2.out (by rw [HD.out, decide_eq_true h6]; rfl))
        clear HV3 HD HA2
        go_wp2_with (first
     | (
        go_at_call 64
        refine (HI.out _ (HW.out _ (HBW.out _ HB1.out))).mono ?_
        rintro e w2 ⟨rfl, hb⟩
        have HB2 := Lib.hid (HGW.out _ _ HB1.out hb)
        obtain ⟨f0, f1, f2, f3, f4, f5, f6, f7⟩ := HX8.out _ HB2.out
        clear hb)
     | (
        go_at_call 65
        refine (HPD.out _ (HW.out _ (HBW.out _ HB2.out))).mono ?_
        rintro e w3 ⟨rfl, hb⟩
        have HB3 := Lib.hid (HGW.out _ _ HB2.out hb)
        obtain ⟨i0, i1, i2, i3, i4, i5, i6, i7⟩ := HX8.out _ HB3.out
        clear hb)
     | (
        go_at_call 9
        refine (HPF.out _ (HW.out _ (HBW.out _ HB3.out))).mono ?_
        rintro e w4 ⟨rfl, hb⟩
        have HB4 := Lib.hid (HGW.out _ _ HB3.out hb)
        clear hb))
        all_goals
         go_roundg (ps.length - (k + 1))
         case measure => have := HRr.out; omega
         case rel => exact ⟨k + 1, by omega, rfl, by go_num, HF, Lib.hid (HBW.out _ HB4.out)⟩
    · have g6 : decide ((6 : Int) < (pr.length : Int)) = true := decide_eq_true (by omega)
      have HF := Lib.hid (HV3.out (by rw [HD.out, decide_eq_false h6]; simp))
      clear HV3 HD HA2
      go_wp2_with (first
           | (
              go_at_call 64
              refine (HI.out _ (HW.out _ (HBW.out _ HB1.out))).mono ?_
              rintro e w2 ⟨rfl, hb⟩
              have HB2 := Lib.hid (HGW.out _ _ HB1.out hb)
              obtain ⟨f0, f1, f2, f3, f4, f5, f6, f7⟩ := HX8.out _ HB2.out
              clear hb)
           | (
              go_at_call 65
              refine (HPD.out _ (HW.out _ (HBW.out _ HB2.out))).mono ?_
              rintro e w3 ⟨rfl, hb⟩
              have HB3 := Lib.hid (HGW.out _ _ HB2.out hb)
              obtain ⟨i0, i1, i2, i3, i4, i5, i6, i7⟩ := HX8.out _ HB3.out
              clear hb)
           | (
              go_at_call 9
              refine (HPF.out _ (HW.out _ (HBW.out _ HB3.out))).mono ?_
              rintro e w4 ⟨rfl, hb⟩
              have HB4 := Lib.hid (HGW.out _ _ HB3.out hb)
              clear hb))
      all_goals
       go_ret
       exact ⟨congrArg (fun x : Bool => Ending.returned (.bool x)) HF.out, HW.out _ (HBW.out _ HB2.out)⟩
  · have g1 : decide ((k : Int) < (ps.length : Int)) = false := decide_eq_false (by omega)
    have HF := Lib.hid (HV.out (by rw [← HA.out, show k = ps.length by omega]))
    cases VD with
    | false =>
      clear HMC
      go_wp2_with (
       go_at_call 65
       refine (HDC.out _ (HW.out _ HB.out)).mono ?_
       rintro e w3 ⟨rfl, hb⟩
       have HB3 := Lib.hid (HG.out _ _ HB.out hb)
       clear hb)
      all_goals
       go_ret
       exact ⟨congrArg (fun x : Bool => Ending.returned (.bool x)) (by rw [← HF.out]; rfl), HW.out _ HB3.out⟩
    | true =>
      go_wp2_with (first
       | (
          go_at_call 65
          refine (HDC.out _ (HW.out _ HB.out)).mono ?_
          rintro e w3 ⟨rfl, hb⟩
          have HB3 := Lib.hid (HG.out _ _ HB.out hb)
          obtain ⟨y0, y1, y2, y3, y4, y5, y6⟩ := HX.out _ HB3.out
          clear hb)
       | (
          go_at_call 9
          refine (HMC.out _ (HW.out _ HB3.out)).mono ?_
          rintro e w4 ⟨rfl, hb⟩
          have HB4 := Lib.hid (HG.out _ _ HB3.out hb)
          clear hb))
      all_goals
       go_ret
       exact ⟨congrArg (fun x : Bool => Ending.returned (.bool x)) (by rw [← HF.out]; rfl), HW.out _ HB4.out⟩
set_option maxHeartbeats 4000000 in
theorem fine_any (ds : List DeclP) (ps : List PredP) (o s : List UInt8) (n q : Int) (ks : List Node) (L : ProgL) (w : World) (h : ProgAt w w.heap.size ⟨ds, ps, .node o s n q ks⟩ L) (hT : Tab8 w) :
  Calls Tryd.prog 16 #[progW ds.length ps.length o s n q ks.length L] w fun e w' => e = .returned (.bool (fineB ⟨ds, ps, .node o s n q ks⟩)) ∧ Below w.heap.size w w' := by
 have HP := Lib.hid (fun W (hW : Below w.heap.size w W) => rIs3_any ds ps o s n q ks L W (h.later hW hW.size) (Go.Proofs.Utf8Tabs_below hT hW))
 obtain ⟨hd, hp, hm⟩ := progAt_parts h
 clear h
 have HMC := Lib.hid (fun W (hW : Below w.heap.size w W) => rSize_any (.node o s n q ks) L.Ak L.ck W (hm.later hW hW.size))
 have HC := Lib.hid hp
 have HFP := Lib.hid (fun t1 A1 c1 (ht1 : NodeAt w w.heap.size t1 A1 c1) W (hW : Below w.heap.size w W) => rSize_any t1 A1 c1 W (ht1.later hW hW.size))
 have hl1 := hp.cap_
 have hl2 := hp.small
 have hl3 := hd.cap_
 have hl4 := hd.small
 have hl5 := hm.len
 obtain ⟨hl5, hl6, _⟩ := hl5
 clear hd hp hm hT
 have HV0 := Lib.hid (show fineB ⟨ds, ps, .node o s n q ks⟩ = (decide (ds.length ≤ 20) && decide (ps.length ≤ 10) && decide (nodes (.node o s n q ks) ≤ 150) && ps.all (fun x => decide (nodes x.body ≤ 100)) && progB ⟨ds, ps, .node o s n q ks⟩) from rfl)
 generalize fineB ⟨ds, ps, .node o s n q ks⟩ = V at *
 generalize progB ⟨ds, ps, .node o s n q ks⟩ = VP at *
 simp only [nodeT, nodeW, Node.op, Node.name, Node.num, Node.pos, Node.kids] at HMC
 generalize nodes (.node o s n q ks) = NM at *
 have HX := Lib.hid (fun W (hW : Below (w.heap.size + 1) (w.alloc (boxP ds.length ps.length o s n q ks.length L)) W) => box7 hW)
 have HW := Lib.hid (fun W (hW : Below (w.heap.size + 1) (w.alloc (boxP ds.length ps.length o s n q ks.length L)) W) => fresh_w hW)
 have HG := Lib.hid (fun W W' (hW : Below (w.heap.size + 1) (w.alloc (boxP ds.length ps.length o s n q ks.length L)) W) (hb : Below W.heap.size W W') => fresh_more hW hb)
 have HB0 := Lib.hid (Below.refl (w.heap.size + 1) (w.alloc (boxP ds.length ps.length o s n q ks.length L)))
 simp only [progW]
 by_cases h20 : ds.length ≤ 20
 · have g20 : decide ((20 : Int) < (ds.length : Int)) = false := decide_eq_false (by omega)
   rw [decide_eq_true h20] at HV0
   by_cases h10 : ps.length ≤ 10
   · have g10 : decide ((10 : Int) < (ps.length : Int)) = false := decide_eq_false (by omega)
     rw [decide_eq_true h10] at HV0
     by_cases h150 : NM ≤ 150
     · have g150 : decide ((150 : Int) < ((min NM 2001 : Nat) : Int)) = false := decide_eq_false (by omega)
       rw [decide_eq_true h150] at HV0
       have HV := Lib.hid (fun (hh : (ps.take ps.length).all (fun x => decide (nodes x.body ≤ 100)) = true) => (show VP = V by
        rw [List.take_length] at hh
        rw [HV0.out, hh]
        simp))
       have HV2 := Lib.hid (fun k (hk : k < ps.length) (hh : decide (nodes ps[k].body ≤ 100) = false) => (show false = V by
        rw [HV0.out, all_false_at (f := fun x : PredP => decide (nodes x.body ≤ 100)) hk hh]
        simp))
       clear HV0 h150 h20 h10
       generalize min NM 2001 = M at *
       go_enter Tryd.func16, Tryd.ntmps16
       go_wp2_with (
        go_at_call 8
        refine (HMC.out _ (HW.out _ HB0.out)).mono ?_
        rintro e w2 ⟨rfl, hb⟩
        have HB2 := Lib.hid (HG.out _ _ HB0.out hb)
        clear hb)
       go_loopg [3] ps.length (fun r i wr => ∃ k : Nat, k ≤ ps.length ∧ r = ps.length - k ∧ i = .int .i64 (k : Int) ∧ Hid ((ps.take k).all (fun x => decide (nodes x.body ≤ 100)) = true) ∧ Hid (Below (w.heap.size + 1) (w.alloc (boxP ds.length ps.length o s n q ks.length L)) wr))
       case atStart => exact ⟨0, Nat.zero_le _, rfl, rfl, Lib.hid rfl, HB2⟩
       case round =>
        obtain ⟨k, hk, hr, rfl, HA, HB⟩ := hrel
        have HRr := Lib.hid hr
        have hs1 := HB.out.size
        simp only [World.size_alloc] at hs1
        obtain ⟨x0, x1, x2, x3, x4, x5, x6⟩ := HX.out _ HB.out
        clear hr
        by_cases hlt : k < ps.length
        · obtain ⟨bb, off, A1, c1, A2, c2, hAp, hlo, ⟨d0, d1, d2, d3, d4, d5, d6, d7⟩, hd1, hn1⟩ := HC.out.at_ k hlt
          have HPF := Lib.hid (HFP.out _ _ _ hn1)
          have HV3 := Lib.hid (HV2.out k hlt)
          have HA2 := Lib.hid (fun h2 => all_take_succ (f := fun x : PredP => decide (nodes x.body ≤ 100)) hlt HA.out h2)
          clear HV HV2 HFP hd1 hn1 HMC HP
          generalize ps[k] = x at *
          obtain ⟨nm, pr, bo, ax⟩ := x
          simp only at d0 d1 d2 d3 d4 d5 d6 d7 HPF HV3 HA2
          generalize nodes bo = NB at *
          cases bo with
          | node o1 s1 n1 p1 ks1 =>
          simp only [nodeT, nodeW, Node.op, Node.name, Node.num, Node.pos, Node.kids] at d2 d3 d4 d5 d6 HPF
          have hWr := HW.out _ HB.out
          have e2 : wr.cell? ⟨bb, off + k * 8 + 2, none⟩ = some (.string ⟨o1.toArray⟩) := (hWr.cell (p := ⟨bb, off + k * 8 + 2, none⟩) hlo).trans d2
          have e3 : wr.cell? ⟨bb, off + k * 8 + 3, none⟩ = some (.string ⟨s1.toArray⟩) := (hWr.cell (p := ⟨bb, off + k * 8 + 3, none⟩) hlo).trans d3
          have e4 : wr.cell? ⟨bb, off + k * 8 + 4, none⟩ = some (.int .i64 n1) := (hWr.cell (p := ⟨bb, off + k * 8 + 4, none⟩) hlo).trans d4
          have e5 : wr.cell? ⟨bb, off + k * 8 + 5, none⟩ = some (.int .i64 p1) := (hWr.cell (p := ⟨bb, off + k * 8 + 5, none⟩) hlo).trans d5
          have e6 : wr.cell? ⟨bb, off + k * 8 + 6, none⟩ = some (.slice A2 ks1.length c2) := (hWr.cell (p := ⟨bb, off + k * 8 + 6, none⟩) hlo).trans d6
          clear d0 d1 d2 d3 d4 d5 d6 d7 hWr
          obtain ⟨Lad, Lcd, Lap, Lcp, Lak, Lck⟩ := L
          simp only at hAp hl1 hl2 hl3 hl4 hl5 hl6 x0 x1 x6
          subst hAp
          have g1 : decide ((k : Int) < (ps.length : Int)) = true := decide_eq_true (by omega)
          by_cases h100 : NB ≤ 100
          · have g100 : decide ((100 : Int) < ((min NB 2001 : Nat) : Int)) = false := decide_eq_false (by omega)
            have HF := Lib.hid (HA2.out (decide_eq_true h100))
            clear HV3 HA2 h100
            generalize min NB 2001 = M2 at *
            go_wp2_with (
             go_at_call 8
             refine (HPF.out _ (HW.out _ HB.out)).mono ?_
             rintro e w3 ⟨rfl, hb⟩
             have HB3 := Lib.hid (HG.out _ _ HB.out hb)
             clear hb)
            all_goals
             go_roundg (ps.length - (k + 1))
             case measure => have := HRr.out; omega
             case rel => exact ⟨k + 1, by omega, rfl, by go_num, HF, HB3⟩
          · have g100 : decide ((100 : Int) < ((min NB 2001 : Nat) : Int)) = true := decide_eq_true (by omega)
            have HF := Lib.hid (HV3.out (decide_eq_false h100))
            clear HV3 HA2 h100
            generalize min NB 2001 = M2 at *
            go_wp2_with (
             go_at_call 8
             refine (HPF.out _ (HW.out _ HB.out)).mono ?_
             rintro e w3 ⟨rfl, hb⟩
             have HB3 := Lib.hid (HG.out _ _ HB.out hb)
             clear hb)
            all_goals
             go_ret
             exact ⟨congrArg (fun x : Bool => Ending.returned (.bool x)) HF.out, HW.out _ HB3.out⟩
        · have g1 : decide ((k : Int) < (ps.length : Int)) = false := decide_eq_false (by omega)
          have HF := Lib.hid (HV.out (by rw [← HA.out, show k = ps.length by omega]))
          simp only [progW] at HP
          go_wp2_with (
           go_at_call 33
           refine (HP.out _ (HW.out _ HB.out)).mono ?_
           rintro e w3 ⟨rfl, hb⟩
           have HB3 := Lib.hid (HG.out _ _ HB.out hb)
           clear hb)
          all_goals
           go_ret
           exact ⟨congrArg (fun x : Bool => Ending.returned (.bool x)) HF.out, HW.out _ HB3.out⟩
     · have g150 : decide ((150 : Int) < ((min NM 2001 : Nat) : Int)) = true := decide_eq_true (by omega)
       rw [decide_eq_false h150] at HV0
       have HF := Lib.hid (show false = V by rw [HV0.out]; simp)
       clear HV0 h150 h20 h10 HP HFP
       generalize min NM 2001 = M at *
       go_enter Tryd.func16, Tryd.ntmps16
       go_wp2_with (
        go_at_call 8
        refine (HMC.out _ (HW.out _ HB0.out)).mono ?_
        rintro e w2 ⟨rfl, hb⟩
        have HB2 := Lib.hid (HG.out _ _ HB0.out hb)
        clear hb)
       all_goals
        go_ret
        exact ⟨congrArg (fun x : Bool => Ending.returned (.bool x)) HF.out, HW.out _ HB2.out⟩
   · have g10 : decide ((10 : Int) < (ps.length : Int)) = true := decide_eq_true (by omega)
     rw [decide_eq_false h10] at HV0
     have HF := Lib.hid (show false = V by rw [HV0.out]; simp)
     clear HV0 h20 h10 HP HFP HMC
     go_enter Tryd.func16, Tryd.ntmps16
     go_wp2_with fail
     go_ret
     exact ⟨congrArg (fun x : Bool => Ending.returned (.bool x)) HF.out, HW.out _ HB0.out⟩
 · have g20 : decide ((20 : Int) < (ds.length : Int)) = true := decide_eq_true (by omega)
   rw [decide_eq_false h20] at HV0
   have HF := Lib.hid (show false = V by rw [HV0.out]; simp)
   clear HV0 h20 HP HFP HMC
   go_enter Tryd.func16, Tryd.ntmps16
   go_wp2_with fail
   go_ret
   exact ⟨congrArg (fun x : Bool => Ending.returned (.bool x)) HF.out, HW.out _ HB0.out⟩
end Go.Proofs.YteikakoheibnjaaDoor
namespace Go.Proofs.YteikakoheibnjaaDoor
open Go Go.RowKit Go.Shelf

theorem size_bld : (Tryd.prog.info? 58).map (·.size) = some 2 := by kernel_rfl
theorem inf_byte : (Tryd.prog.info? 5).map (fun i => (i.zero, i.size, i.bytes)) = some (some (.int .u8 0), 1, 1) := by kernel_rfl
theorem lies_bld : liesAt Tryd.prog Tryd.prog.depth 58 (2 / Tryd.prog.cellsOf 58) 0 58 1 = true := by kernel_rfl
set_option maxHeartbeats 1000000 in
set_option maxRecDepth 100000 in
theorem copyCheck_used (b : Nat) (w : World) (h0 : w.cell? ⟨b, 0, none⟩ = some (.pointer (some ⟨b, 0, none⟩))) :
  Calls Tryd.prog 66 #[.pointer (some ⟨b, 0, none⟩)] w fun e w' => e = .returned (.tuple #[]) ∧ w' = w := by
 obtain ⟨j, hj, _⟩ := Option.map_eq_some_iff.1 size_bld
 go_enter Tryd.func66, Tryd.ntmps66
 go_wp2
 rw [Lib.run_neq_ptr_same w _ Tryd.underlying55 hj]
 go_wp2
 go_end0
 exact ⟨rfl, rfl⟩
set_option maxHeartbeats 1000000 in
set_option maxRecDepth 100000 in
theorem copyCheck_fresh (b : Nat) (w : World) (h0 : w.cell? ⟨b, 0, none⟩ = some (.pointer none)) (hsh : w.shape? b = some (58, 2)) (hfz : w.frozen? ⟨b, 0, none⟩ = false) :
  Calls Tryd.prog 66 #[.pointer (some ⟨b, 0, none⟩)] w fun e w' => e = .returned (.tuple #[]) ∧ w' = w.setCell ⟨b, 0, none⟩ (.pointer (some ⟨b, 0, none⟩)) := by
 obtain ⟨j, hj, hjs⟩ := Option.map_eq_some_iff.1 size_bld
 go_enter Tryd.func66, Tryd.ntmps66
 go_wp2
 rw [Lib.run_to_unsafe w ⟨b, 0, none⟩ Tryd.underlying55 Tryd.underlying116 hj (by rw [hjs]; decide) hsh (Nat.zero_lt_succ 1)]
 simp only [Result.andThen]
 rw [Oper.upon_value]
 go_wp2
 rw [run_callFunc_extern Tryd.func88 (by kernel_rfl) (by kernel_rfl) (by kernel_rfl) (e := Extern.AbiNoEscape.same) (by kernel_rfl)]
 rw [Lib.run_noEscape]
 simp only [Result.andThen]
 rw [Oper.upon_value]
 go_wp2
 rw [Lib.run_from_unsafe w ⟨b, 0, none⟩ Tryd.underlying116 Tryd.underlying55 hj hsh lies_bld]
 simp only [Result.andThen]
 rw [Oper.upon_value]
 go_wp2
 go_end0
 exact ⟨rfl, rfl⟩
theorem copyCheck_any (B b : Nat) (bs : List Value) (w : World) (h : Lib.IsBuilderF 58 5 B b bs w) :
  Calls Tryd.prog 66 #[.pointer (some ⟨b, 0, none⟩)] w fun e w' => e = .returned (.tuple #[]) ∧ (Lib.BuilderAtF 58 5 B b (.pointer (some ⟨b, 0, none⟩)) bs w' ∧ Below B w w' ∧ Lib.OthersKept 5 (some b) w w') := by
 rcases h with h | h
 · refine (copyCheck_fresh b w h.cell0 h.shape h.frozen0).mono ?_
   rintro e w' ⟨rfl, rfl⟩
   exact ⟨rfl, h.used _, (Below.refl B w).setCell (p := ⟨b, 0, none⟩) h.1 _, (Lib.OthersKept.refl _ _ w).setCell ⟨b, 0, none⟩ rfl _⟩
 · refine (copyCheck_used b w h.cell0).mono ?_
   rintro e w' ⟨rfl, rfl⟩
   exact ⟨rfl, h, Below.refl B _, Lib.OthersKept.refl _ _ _⟩
set_option maxHeartbeats 2000000 in
set_option maxRecDepth 100000 in
theorem writeString_any (B b : Nat) (bs : List Value) (s : ByteArray) (w : World) (h : Lib.IsBuilderF 58 5 B b bs w) (hlen : bs.length + s.size ≤ 140737488355328) (hBw : B ≤ w.heap.size) :
  Calls Tryd.prog 34 #[.pointer (some ⟨b, 0, none⟩), .string s] w fun e w' => e = .returned (.tuple #[.int .i64 s.size, .nilIface]) ∧ (Lib.BuilderAtF 58 5 B b (.pointer (some ⟨b, 0, none⟩)) (bs ++ Lib.strCells s) w' ∧ Below B w w' ∧ Lib.OthersKept 5 (some b) w w') := by
 obtain ⟨i0, hi, hz0, hz1, hz2⟩ := info_parts inf_byte
 go_enter Tryd.func34, Tryd.ntmps34
 go_wp2_with (go_at_call 66; refine (copyCheck_any B b bs _ h).mono ?_)
 rintro e w1 ⟨rfl, h1, hb1, hk1⟩
 obtain ⟨hB, v, hbk, hown, hne⟩ := h1
 have c0 : w1.cell? ⟨b, 0, none⟩ = some (.pointer (some ⟨b, 0, none⟩)) := by rw [Lib.cell_of_heap hbk]; rfl
 have c1 : w1.cell? ⟨b, 1, none⟩ = some v := by rw [Lib.cell_of_heap hbk]; rfl
 go_wp2_with (at_builtin; refine Lib.wpList_append_own_stringF _ rfl _ _ 56 9 rfl B 5 i0 Tryd.underlying56 Tryd.underlying9 hi hz0 hz1 hz2 _ _ _ rfl hown s rfl ?c3 ?c4 ?c5 ?_)
 case c3 => unfold maxLen; omega
 case c4 => omega
 case c5 => have := hb1.size; omega
 intro v' w2 hown' hgrow _
 have hlt : b < w1.heap.size := by
  rcases Nat.lt_or_ge b w1.heap.size with h' | h'
  · exact h'
  · simp [Array.getElem?_eq_none h'] at hbk
 have hb2 : w2.heap[b]? = some (.cells #[.pointer (some ⟨b, 0, none⟩), v] 58 (0, 0)) := by
  rw [hgrow.block b hlt (fun e => hne e.symm)]
  exact hbk
 have d0 : w2.cell? ⟨b, 0, none⟩ = some (.pointer (some ⟨b, 0, none⟩)) := by rw [Lib.cell_of_heap hb2]; rfl
 have d1 : w2.cell? ⟨b, 1, none⟩ = some v := by rw [Lib.cell_of_heap hb2]; rfl
 have f1 : w2.frozen? ⟨b, 1, none⟩ = false := Lib.frozen_of_heap hb2 1
 obtain ⟨ao, n', cap, rfl⟩ : ∃ ao n' cap, v' = .slice ao n' cap := by
  rcases hown'.2 with ⟨hv, _⟩ | ⟨g, cap, cur, fz, hv, _⟩
  · exact ⟨_, _, _, hv⟩
  · exact ⟨_, _, _, hv⟩
 go_wp2
 go_ret2
 refine ⟨rfl, ?_, ?_, (hk1.grown hgrow (Lib.ownsRowF_kind hown)).setCell ⟨b, 1, none⟩ rfl _⟩
 · exact Lib.BuilderAtF.put (T := 58) (e := 5) hB hb2 (bs' := bs ++ Lib.strCells s) (by simpa [Lib.strCells_length] using hown') (by decide)
 · exact (hb1.grown hgrow (by have := hb1.size; omega) (fun k hk => (hown.lt k hk).1)).setCell (p := ⟨b, 1, none⟩) hB _
theorem BuilderAtF_below {B b : Nat} {p : Value} {bs : List Value} {W W' : World} (h : Lib.BuilderAtF 58 5 B b p bs W) (hb : Below W.heap.size W W') : Lib.BuilderAtF 58 5 B b p bs W' := by
 have hlt := h.lt
 obtain ⟨hB, v, hv, hown, hne⟩ := h
 exact ⟨hB, v, (hb.block b hlt).trans hv, hown.kept (row := none) ⟨hb.os, hb.tape, hb.output, hb.size, fun k hk _ => hb.block k hk⟩ (Classical.em _), hne⟩
def BldAt (B b : Nat) (l : List UInt8) (w : World) : Prop := Lib.IsBuilderF 58 5 B b (Lib.byteCells l) w
theorem BldAt.below {B b : Nat} {l : List UInt8} {W W' : World} (h : BldAt B b l W) (hb : Below W.heap.size W W') : BldAt B b l W' :=
 h.elim (fun x => .inl (BuilderAtF_below x hb)) (fun x => .inr (BuilderAtF_below x hb))
theorem BldAt.alloc {B b : Nat} {l : List UInt8} {W : World} (h : BldAt B b l W) (o : Obj) : BldAt B b l (W.alloc o) := h.below ((Below.refl _ _).alloc (Nat.le_refl _) _)
theorem BldAt.fresh (w : World) : BldAt w.heap.size w.heap.size [] (w.alloc (.cells #[.pointer none, .slice none 0 0] 58)) := Lib.IsBuilderF.of (Lib.fresh_isBuilder 58 5 w)
theorem bld_write {B b : Nat} {l Y : List UInt8} {w : World} (h : BldAt B b l w) (hlen : l.length + Y.length ≤ 140737488355328) (hBw : B ≤ w.heap.size) :
  Calls Tryd.prog 34 #[.pointer (some ⟨b, 0, none⟩), .string ⟨Y.toArray⟩] w fun e w' => e = .returned (.tuple #[.int .i64 ((⟨Y.toArray⟩ : ByteArray).size), .nilIface]) ∧ BldAt B b (l ++ Y) w' ∧ Below B w w' ∧ Lib.OthersKept 5 (some b) w w' := by
 have hs : (⟨Y.toArray⟩ : ByteArray).size = Y.length := by show Y.toArray.size = _; simp
 refine (writeString_any B b _ _ w h (by rw [Lib.byteCells_length, hs]; exact hlen) hBw).mono ?_
 rintro e w' ⟨rfl, h1, h2, h3⟩
 refine ⟨rfl, ?_, h2, h3⟩
 unfold BldAt
 rw [Lib.byteCells_append]
 exact .inr h1
end Go.Proofs.YteikakoheibnjaaDoor
namespace Go.Proofs
open Go.Shelf
def Tryd.lays169_ren : Go.Shelf.Ren := ⟨fun | 169 => 37 | n => n, fun | 70 => 55 | 9 => 9 | 0 => 0 | 72 => 58 | 37 => 56 | 127 => 99 | 3 => 3 | 5 => 5 | n => n, fun | n => n⟩
theorem Tryd.lays169 : Go.Proofs.Lays.n169 Tryd.prog Tryd.lays169_ren := {
 mixed := by kernel_rfl
 f169 := Tryd.func37.trans (congrArg some (by kernel_rfl))
 t0 := Tryd.underlying0
 a0 := Tryd.isAgg0
 z0 := Tryd.sizeOf0
 v0 := Tryd.zeroValue0
 t3 := Tryd.underlying3
 a3 := Tryd.isAgg3
 z3 := Tryd.sizeOf3
 v3 := Tryd.zeroValue3
 t9 := Tryd.underlying9
 a9 := Tryd.isAgg9
 z9 := Tryd.sizeOf9
 v9 := Tryd.zeroValue9
 t37 := Tryd.underlying56
 a37 := Tryd.isAgg56
 z37 := Tryd.sizeOf56
 v37 := Tryd.zeroValue56
 t70 := Tryd.underlying55
 a70 := Tryd.isAgg55
 z70 := Tryd.sizeOf55
 v70 := Tryd.zeroValue55
 t72 := Tryd.underlying58
 a72 := Tryd.isAgg58
 z72 := Tryd.sizeOf58
 v72 := Tryd.zeroValue58
 t127 := Tryd.underlying99
 a127 := Tryd.isAgg99
 z127 := Tryd.sizeOf99
 v127 := Tryd.zeroValue99 }
theorem Tryd.Builder_Extra_169 : Builder.Extra Tryd.prog Tryd.lays169_ren := {
 sizeBuilder := by kernel_rfl
 liesBuilder := by kernel_rfl
 t5 := Tryd.underlying5
 a5 := Tryd.isAgg5
 z5 := Tryd.sizeOf5
 v5 := Tryd.zeroValue5
 infoByte := by kernel_rfl
 cellsByte := by kernel_rfl
 sizeByte := by kernel_rfl
 neB5 := by decide }
open Go.RowKit in
theorem Tryd.Builder_String_any_k (B b : Nat) (l : List UInt8) (w : World) (h : Lib.IsBuilderF 58 5 B b (Lib.byteCells l) w) (hBw : B ≤ w.heap.size) :
  Calls Tryd.prog 37 #[.pointer (some ⟨b, 0, none⟩)] w fun e w' => e = .returned (.string ⟨l.toArray⟩) ∧ (Lib.IsBuilderF 58 5 B b (Lib.byteCells l) w' ∧ Below B w w' ∧ Lib.OthersKept 5 (some b) w w') := Any.Builder_String_any_k Tryd.lays169 Tryd.Builder_Extra_169 B b l w h hBw
end Go.Proofs
