/- Parts of the proof: PAtom. -/
import Derived.Test.YteikakoheibnjaaDoorQ18
namespace Go.Proofs.YteikakoheibnjaaDoor
open Go Go.RowKit

def callB (l : List Tok) (s : PS) : Bool := decide ((nowP l s).kind = 1) && (decide ((l.getD (s.i + 1) ⟨4, [], 0, 0⟩).kind = 3) && decide ((l.getD (s.i + 1) ⟨4, [], 0, 0⟩).text = [40]))
theorem now_one {w : World} {q : Nat} {A : Option Addr} {c : Nat} {l : List Tok} {s : PS} (h : Ps w q A c l s) (hk : (nowP l s).kind = 1) : s.i + 1 < l.length := by
 have he : s.e = 0 := by
  by_cases he : s.e = 0
  · exact he
  · rw [now_err he] at hk
    simp at hk
 exact h.next_lt he (by rw [hk]; decide)
theorem atomP_eq (l : List Tok) (s : PS) : atomP l s = if callB l s = true then (.node nCall (nowP l s).text 0 (nowP l s).at_ (rowP l (termP l) [41] (nextP l (nextP l s))).1, (rowP l (termP l) [41] (nextP l (nextP l s))).2)
  else if (termP l s).2.e = 0 ∧ relP l (termP l s).2 ≠ [] then (.node (relP l (termP l s).2) [] 0 (nowP l (termP l s).2).at_ [(termP l s).1, (termP l (nextP l (termP l s).2)).1], (termP l (nextP l (termP l s).2)).2)
  else (.node nIs (termP l s).1.name 0 (nowP l s).at_ [], if (termP l s).1.op = nVar then (termP l s).2 else failP (termP l s).2 (nowP l s).at_ 2) := by
 unfold atomP callB
 simp only [Bool.and_eq_true, decide_eq_true_eq]
theorem relP_len (l : List Tok) (s : PS) : (relP l s).length ≤ 10 := by
 unfold relP
 repeat' split
 all_goals decide

set_option maxRecDepth 100000 in
set_option maxHeartbeats 8000000 in
theorem patom_any {w : World} {q : Nat} {A : Option Addr} {c : Nat} {l : List Tok} {s : PS} (h : Ps w q A c l s) :
  Calls Tryd.prog 150 #[.pointer (some ⟨q, 0, none⟩)] w (NPost w q A c l (atomP l s)) := by
 have HP0 := Lib.hid h
 have hq := h.qlt
 have hsm := h.now_small
 have HV := Lib.hid (atomP_eq l s)
 have HN := Lib.hid (fun W (hW : Ps W q A c l s) => pnow_any hW)
 have HKA := Lib.hid (now_one h)
 have HT1 := Lib.hid (fun hh : s.i + 1 < l.length => (getD_lt hh).symm)
 have HCB := Lib.hid (show callB l s = (decide ((nowP l s).kind = 1) && (decide ((l.getD (s.i + 1) ⟨4, [], 0, 0⟩).kind = 3) && decide ((l.getD (s.i + 1) ⟨4, [], 0, 0⟩).text = [40]))) from rfl)
 have HX1 := Lib.hid (fun W (hW : Ps W q A c l s) => pnext_any hW)
 have HX2 := Lib.hid (fun W (hW : Ps W q A c l (nextP l s)) => pnext_any hW)
 have HRO := Lib.hid (fun W (hW : Ps W q A c l (nextP l (nextP l s))) => prowTerm_any hW [41])
 have HI := Lib.hid (fun W (hW : Ps W q A c l s) => pterm_any hW)
 have HIT := Lib.hid (fun W s' (hW : Ps W q A c l s') => pterm_any hW)
 have HFAA := Lib.hid (fun W s' (hW : Ps W q A c l s') => pfail_any hW (nowP l s).at_ 2 hsm.2.2.2 (by decide))
 clear h
 generalize atomP l s = V at *
 generalize hcb : callB l s = cb at *
 clear hcb
 generalize l.getD (s.i + 1) ⟨4, [], 0, 0⟩ = t1 at *
 generalize nowP l s = t at *
 unfold tokV at HN
 go_enter Tryd.func150, Tryd.ntmps150
 go_upto_region 2 with (
    go_at_call 46
    have hgd := HP0
    clear hgd
    refine calls_at (fun W => Ps W q A c l s ∧ Kq q w W ∧ w.heap.size + 1 ≤ W.heap.size ∧ Blk W (w.heap.size) 24 zN) (fun W hW => HN.out W hW.1) ?_ ?_
    · refine ⟨?_, ?_, ?_, ?_⟩
      all_goals repeat' (first | (with_reducible first | exact HP0.out | exact HK0.out | exact HB0_0.out | exact Fr.refl _ _ | apply ps_far | apply Ps.alloc | apply Ps.drew | apply Fr.drew | apply blk_drew | apply kq_far | apply Fr.alloc | apply tokZ | apply nodZ0 | exact blk_new _ _ _ | apply blk_alloc | apply Blk.other) | omega | (simp; done) | (simp <;> omega))
    rintro W ⟨hp, hk, hlo, hb0⟩
    rintro e w1 ⟨rfl, hb⟩
    have hfr := Kq.of_below (q := q) hb
    have hp2 := hp.below hb
    have hsz := hfr.size
    have hmo1 : w.heap.size + 1 ≤ w1.heap.size := Nat.le_trans hlo hsz
    have hqs : q < w1.heap.size := hp2.qlt
    have hl0 := hb0.lt
    have ht0 : Blk w1 (w.heap.size) 24 zN := hfr.blk hb0 (by omega)
    have hl1_0 : w.heap.size < w1.heap.size := ht0.lt
    obtain ⟨r1_0_0, r1_0_1, r1_0_2, r1_0_3, r1_0_4⟩ := blk5 ht0
    obtain ⟨y1_0_0, y1_0_1, y1_0_2, y1_0_3, y1_0_4⟩ := blk5f ht0
    have HB0_1 := Lib.hid ht0
    have HP1 := Lib.hid hp2
    have HK1 := Lib.hid (hk.trans hfr)
    clear hp hk hp2 hfr hsz hlo hb0 hl0 ht0 hb)
 clear HN
 refine wp_named (fun W => Ps W q A c l s ∧ Kq q w W ∧ w1.heap.size + 1 ≤ W.heap.size ∧ Blk W (w.heap.size) 24 zN ∧ Blk W (w1.heap.size) 80 (tC t)) ?_ ?_
 · refine ⟨?_, ?_, ?_, ?_, ?_⟩
   all_goals repeat' (first | (with_reducible first | exact HP1.out | exact HK1.out | exact HB0_1.out | exact HB1_1.out | exact Fr.refl _ _ | apply ps_far | apply Ps.alloc | apply Ps.drew | apply Fr.drew | apply blk_drew | apply kq_far | apply Fr.alloc | apply tokZ | apply nodZ0 | exact blk_new _ _ _ | apply blk_alloc | apply Blk.other | apply nodex_far | apply nodex_alloc | apply nodex_drew) | omega | (simp; done) | (simp <;> omega))
 clear r1_0_0 r1_0_1 r1_0_2 r1_0_3 r1_0_4 y1_0_0 y1_0_1 y1_0_2 y1_0_3 y1_0_4 hl1_0
 rintro w2 ⟨hp2, hk2, hmo2, ht0, ht1⟩
 have hqs : q < w2.heap.size := hp2.qlt
 have hl2_0 : w.heap.size < w2.heap.size := ht0.lt
 obtain ⟨r2_0_0, r2_0_1, r2_0_2, r2_0_3, r2_0_4⟩ := blk5 ht0
 obtain ⟨y2_0_0, y2_0_1, y2_0_2, y2_0_3, y2_0_4⟩ := blk5f ht0
 have HB0_2 := Lib.hid ht0
 have hl2_1 : w1.heap.size < w2.heap.size := ht1.lt
 obtain ⟨r2_1_0, r2_1_1, r2_1_2, r2_1_3⟩ := blk4 ht1
 obtain ⟨y2_1_0, y2_1_1, y2_1_2, y2_1_3⟩ := blk4f ht1
 have HB1_2 := Lib.hid ht1
 have HP2 := Lib.hid hp2
 have HK2 := Lib.hid hk2
 clear hp2 hk2 ht0 ht1
 go_cut [41] from 9 to 41 (fun v wx => v = .bool cb ∧ Ps wx q A c l s ∧ Kq q w wx ∧ Blk wx w.heap.size 24 zN ∧ Blk wx w1.heap.size 80 (tC t) ∧ w1.heap.size + 1 ≤ wx.heap.size)
 case first =>
  clear HV
  have hm3 : w1.heap.size + 1 ≤ w2.heap.size := by omega
  have hend : ∀ n, Ps (w2.drewN n) q A c l s ∧ Kq q w (w2.drewN n) ∧ Blk (w2.drewN n) w.heap.size 24 zN ∧ Blk (w2.drewN n) w1.heap.size 80 (tC t) ∧ w1.heap.size + 1 ≤ (w2.drewN n).heap.size := fun n =>
   ⟨HP2.out.drewN n, HK2.out.drewN n, HB0_2.out, HB1_2.out, hm3⟩
  have HEND := Lib.hid hend
  clear hend
  by_cases hk : t.kind = 1
  · have hlt := HKA.out hk
    obtain ⟨g, eA, hg, u0, u1, u2, u3⟩ := HP2.out.toks (s.i + 1) hlt
    obtain ⟨c0, c1, c2, c3⟩ := HP2.out.cells
    have hl := HP2.out.len
    rw [HT1.out hlt] at u0 u1
    have g1 : ((t.kind : Int) == 1) = true := by rw [hk]; rfl
    have hw : IntKind.i64.wrap ((s.i : Int) + 1) = (s.i : Int) + 1 := IntWalk.i64_in _ (by omega)
    have hn : ((s.i : Int) + 1).toNat = s.i + 1 := by omega
    have h0 : (0 : Int) ≤ (s.i : Int) + 1 := by omega
    have h1 : (s.i : Int) + 1 < (l.length : Int) := by omega
    have HKK := Lib.hid hk
    clear u2 u3 c2 c3 hk hlt hg HT1 HKA
    subst eA
    by_cases hk3 : t1.kind = 3
    · have g3 : ((t1.kind : Int) == 3) = true := by rw [hk3]; rfl
      have HKK3 := Lib.hid hk3
      clear hk3
      by_cases hx : t1.text = [40]
      · have g4 : (t1.text == [40]) = true := by rw [hx]; rfl
        have HX := Lib.hid hx
        clear hx
        go_quiet (fail)
        all_goals
         go_wp2_with fail
         go_meet
         case rel => exact ⟨by rw [HCB.out, HKK.out, HKK3.out, HX.out]; rfl, HEND.out _⟩
      · have g4 : (t1.text == [40]) = false := by simpa using hx
        have HX := Lib.hid hx
        clear hx
        go_quiet (fail)
        all_goals
         go_wp2_with fail
         go_meet
         case rel => exact ⟨by rw [HCB.out, decide_eq_false HX.out, Bool.and_false, Bool.and_false], HEND.out _⟩
    · have g3 : ((t1.kind : Int) == 3) = false := by simp; omega
      have HKK3 := Lib.hid hk3
      clear hk3
      go_quiet (fail)
      all_goals
       go_wp2_with fail
       go_meet
       case rel => exact ⟨by rw [HCB.out, decide_eq_false HKK3.out, Bool.false_and, Bool.and_false], HEND.out _⟩
  · have g1 : ((t.kind : Int) == 1) = false := by simp; omega
    have HKK := Lib.hid hk
    clear hk HT1 HKA
    go_quiet (fail)
    all_goals
     go_wp2_with fail
     go_meet
     case rel => exact ⟨by rw [HCB.out, decide_eq_false HKK.out, Bool.false_and], HEND.out _⟩
 case rest =>
  obtain ⟨rfl, hp3, hk3, hb0, hb1, hlo3⟩ := hcut
  obtain ⟨w3, hw3⟩ : ∃ x, x = wc := ⟨_, rfl⟩
  subst hw3
  have hqs : q < w3.heap.size := hp3.qlt
  have hl3_0 : w.heap.size < w3.heap.size := hb0.lt
  have hl3_1 : w1.heap.size < w3.heap.size := hb1.lt
  obtain ⟨r3_0_0, r3_0_1, r3_0_2, r3_0_3, r3_0_4⟩ := blk5 hb0
  obtain ⟨y3_0_0, y3_0_1, y3_0_2, y3_0_3, y3_0_4⟩ := blk5f hb0
  obtain ⟨r3_1_0, r3_1_1, r3_1_2, r3_1_3⟩ := blk4 hb1
  obtain ⟨y3_1_0, y3_1_1, y3_1_2, y3_1_3⟩ := blk4f hb1
  have HP3 := Lib.hid hp3
  have HK3 := Lib.hid hk3
  have HB0_3 := Lib.hid hb0
  have HB1_3 := Lib.hid hb1
  clear hp3 hk3 hb0 hb1 r2_0_0 r2_0_1 r2_0_2 r2_0_3 r2_0_4 y2_0_0 y2_0_1 y2_0_2 y2_0_3 y2_0_4 r2_1_0 r2_1_1 r2_1_2 r2_1_3 y2_1_0 y2_1_1 y2_1_2 y2_1_3
  clear HT1 HKA HCB
  cases cb with
  | true =>
    have HR := Lib.hid (HV.out.trans (if_pos rfl))
    clear HV HI HIT HFAA
    generalize rowP l (termP l) [41] (nextP l (nextP l s)) = pr at *
    generalize nowP l (nextP l s) = tb at *
    generalize nextP l (nextP l s) = s5 at *
    generalize nextP l s = s4 at *
    obtain ⟨ks, s6⟩ := pr
    simp only at HR
    unfold KPost at HRO
    simp only at HRO
    unfold tokV at HX1 HX2
    go_upto_region 5 with (first
     | (
       go_at_call 72
       have hgd := HP4
       clear hgd
       refine calls_at (fun W => Ps W q A c l s4 ∧ Kq q w W ∧ w4.heap.size ≤ W.heap.size ∧ Blk W (w.heap.size) 24 zN ∧ Blk W (w1.heap.size) 80 (tC t)) (fun W hW => HX2.out W hW.1) ?_ ?_
       · refine ⟨?_, ?_, ?_, ?_, ?_⟩
         all_goals repeat' (first | (with_reducible first | exact HP4.out | exact HK4.out | exact HB0_4.out | exact HB1_4.out | exact Fr.refl _ _ | apply ps_far | apply Ps.alloc | apply Ps.drew | apply Fr.drew | apply blk_drew | apply kq_far | apply Fr.alloc | apply tokZ | apply nodZ0 | exact blk_new _ _ _ | apply blk_alloc | apply Blk.other) | omega | (simp; done) | (simp <;> omega))
       rintro W ⟨hp, hk, hlo, hb0, hb1⟩
       intro e w5 hpost
       obtain ⟨rfl, hp2, hfr⟩ := hpost
       have hsz := hfr.size
       have hmo5 : w4.heap.size ≤ w5.heap.size := Nat.le_trans hlo hsz
       have hqs : q < w5.heap.size := hp2.qlt
       have hl0 := hb0.lt
       have ht0 : Blk w5 (w.heap.size) 24 zN := hfr.blk hb0 (by omega)
       have hl5_0 : w.heap.size < w5.heap.size := ht0.lt
       obtain ⟨r5_0_0, r5_0_1, r5_0_2, r5_0_3, r5_0_4⟩ := blk5 ht0
       obtain ⟨y5_0_0, y5_0_1, y5_0_2, y5_0_3, y5_0_4⟩ := blk5f ht0
       have HB0_5 := Lib.hid ht0
       have hl1 := hb1.lt
       have ht1 : Blk w5 (w1.heap.size) 80 (tC t) := hfr.blk hb1 (by omega)
       have hl5_1 : w1.heap.size < w5.heap.size := ht1.lt
       obtain ⟨r5_1_0, r5_1_1, r5_1_2, r5_1_3⟩ := blk4 ht1
       obtain ⟨y5_1_0, y5_1_1, y5_1_2, y5_1_3⟩ := blk4f ht1
       have HB1_5 := Lib.hid ht1
       have HP5 := Lib.hid hp2
       have HK5 := Lib.hid (hk.trans hfr)
       clear hp hk hp2 hfr hsz hlo hb0 hl0 ht0 hb1 hl1 ht1
       clear r4_0_0 r4_0_1 r4_0_2 r4_0_3 r4_0_4 y4_0_0 y4_0_1 y4_0_2 y4_0_3 y4_0_4 hl4_0 r4_1_0 r4_1_1 r4_1_2 r4_1_3 y4_1_0 y4_1_1 y4_1_2 y4_1_3 hl4_1)
     | (
       go_at_call 72
       have hgd := HP3
       clear hgd
       refine calls_at (fun W => Ps W q A c l s ∧ Kq q w W ∧ w3.heap.size ≤ W.heap.size ∧ Blk W (w.heap.size) 24 zN ∧ Blk W (w1.heap.size) 80 (tC t)) (fun W hW => HX1.out W hW.1) ?_ ?_
       · refine ⟨?_, ?_, ?_, ?_, ?_⟩
         all_goals repeat' (first | (with_reducible first | exact HP3.out | exact HK3.out | exact HB0_3.out | exact HB1_3.out | exact Fr.refl _ _ | apply ps_far | apply Ps.alloc | apply Ps.drew | apply Fr.drew | apply blk_drew | apply kq_far | apply Fr.alloc | apply tokZ | apply nodZ0 | exact blk_new _ _ _ | apply blk_alloc | apply Blk.other) | omega | (simp; done) | (simp <;> omega))
       rintro W ⟨hp, hk, hlo, hb0, hb1⟩
       intro e w4 hpost
       obtain ⟨rfl, hp2, hfr⟩ := hpost
       have hsz := hfr.size
       have hmo4 : w3.heap.size ≤ w4.heap.size := Nat.le_trans hlo hsz
       have hqs : q < w4.heap.size := hp2.qlt
       have hl0 := hb0.lt
       have ht0 : Blk w4 (w.heap.size) 24 zN := hfr.blk hb0 (by omega)
       have hl4_0 : w.heap.size < w4.heap.size := ht0.lt
       obtain ⟨r4_0_0, r4_0_1, r4_0_2, r4_0_3, r4_0_4⟩ := blk5 ht0
       obtain ⟨y4_0_0, y4_0_1, y4_0_2, y4_0_3, y4_0_4⟩ := blk5f ht0
       have HB0_4 := Lib.hid ht0
       have hl1 := hb1.lt
       have ht1 : Blk w4 (w1.heap.size) 80 (tC t) := hfr.blk hb1 (by omega)
       have hl4_1 : w1.heap.size < w4.heap.size := ht1.lt
       obtain ⟨r4_1_0, r4_1_1, r4_1_2, r4_1_3⟩ := blk4 ht1
       obtain ⟨y4_1_0, y4_1_1, y4_1_2, y4_1_3⟩ := blk4f ht1
       have HB1_4 := Lib.hid ht1
       have HP4 := Lib.hid hp2
       have HK4 := Lib.hid (hk.trans hfr)
       clear hp hk hp2 hfr hsz hlo hb0 hl0 ht0 hb1 hl1 ht1
       clear r3_0_0 r3_0_1 r3_0_2 r3_0_3 r3_0_4 y3_0_0 y3_0_1 y3_0_2 y3_0_3 y3_0_4 r3_1_0 r3_1_1 r3_1_2 r3_1_3 y3_1_0 y3_1_1 y3_1_2 y3_1_3))
    have HC6 : Hid (Calls Tryd.prog 154 #[.pointer (some ⟨q, 0, none⟩), .string ⟨#[41]⟩, .bool false] w5.drew fun e w6 => ∃ A6 c6, e = .returned (.slice A6 ks.length c6) ∧ Blk w6 w1.heap.size 80 (tC t) ∧ Hid (Ps w6 q A c l s6) ∧ Hid (Kq q w w6) ∧ Hid (Blk w6 w.heap.size 24 zN) ∧ Hid (NodeF w6 w5.heap.size w6.heap.size (.node [] [] 0 0 ks) A6 c6) ∧ w5.heap.size ≤ w6.heap.size) := by
     refine Lib.hid ((HRO.out _ HP5.out.drew).mono ?_)
     intro e w6 hpost
     obtain ⟨A6, c6, rfl, hnn, hp6, hk6⟩ := hpost
     have hs6 : w5.heap.size ≤ w6.heap.size := hk6.size
     exact ⟨A6, c6, rfl, hk6.blk (blk_drew HB1_5.out) (by omega), Lib.hid hp6, Lib.hid (HK5.out.drew.trans hk6), Lib.hid (hk6.blk (blk_drew HB0_5.out) (by omega)), Lib.hid hnn, hs6⟩
    clear HX1 HX2 HRO
    go_region_held3 (fun W : World => W.cell? ⟨w1.heap.size, 1, none⟩ = some (.string ⟨t.text.toArray⟩) ∧ W.cell? ⟨w1.heap.size, 3, none⟩ = some (.int .i64 (t.at_ : Nat))) ((refine ⟨?_, ?_⟩ <;> repeat' (first | (with_reducible first | exact r5_1_1 | exact r5_1_3 | exact r6_1_1 | exact r6_1_3 | apply keepS | apply keepA | apply keepD) | omega))) ((
     go_at_call 154
     refine HC6.out.mono ?_
     rintro e w6 ⟨A6, c6, rfl, ht6, HP6, HK6, HB0_6, HNN6, hs6⟩
     obtain ⟨r6_1_0, r6_1_1, r6_1_2, r6_1_3⟩ := blk4 ht6
     obtain ⟨k70, k71, k72, k73, k74⟩ := blk5 HB0_6.out
     obtain ⟨z70, z71, z72, z73, z74⟩ := blk5f HB0_6.out
     have hb9 : w.heap.size < w6.heap.size := HB0_6.out.lt
     clear ht6))
    all_goals
     go_wp2_with fail
     refine bodyPost_ret (res_one (by rfl) _ _ w.heap.size #[.string ⟨nCall.toArray⟩, .string ⟨t.text.toArray⟩, .int .i64 0, .int .i64 (t.at_ : Nat), .slice A6 ks.length c6] rfl (nodZ0 HB0_6.out _ _ _ _ _) Tryd.underlying24 inf_node5) rfl ⟨A6, c6, by rw [HR.out]; rfl, ?_, ?_, ?_⟩
     · rw [HR.out]
       refine NodeS.dress (o := []) (s := []) (n := 0) (p := 0) ?_ (by decide) (by have := hsm.2.1; omega)
       refine nodef_wide (lo := w5.heap.size) (hi := w6.heap.size) ?_ (by omega) (by simp)
       repeat' (first | (with_reducible first | exact HNN6.out | apply nodef_far | apply nodef_drew) | omega)
     · rw [HR.out]
       exact ps5 HP6.out (by omega) _ _ _ _ _
     · exact kq5 HK6.out (by omega) _ _ _ _ _
  | false =>
    replace HV := Lib.hid (HV.out.trans (if_neg (by decide)))
    clear HX1 HX2 HRO
    generalize nextP l (nextP l s) = sdead at *
    generalize termP l s = r at *
    obtain ⟨⟨no, nn, nk, np, ns⟩, s2⟩ := r
    have HRE := Lib.hid (fun W (hW : Ps W q A c l s2) => prel_any hW)
    have HOL := Lib.hid (relP_len l s2)
    have HNX2 := Lib.hid (fun W (hW : Ps W q A c l s2) => pnext_any hW)
    have HI3 := Lib.hid (fun W (hW : Ps W q A c l (nextP l s2)) => HIT.out W (nextP l s2) hW)
    have HFA := Lib.hid (fun W (hW : Ps W q A c l s2) => HFAA.out W s2 hW)
    clear HIT HFAA
    simp only at HV
    generalize relP l s2 = op at *
    go_upto_region 8 with (first
     | (
       go_at_call 156
       have hgd := HP4
       clear hgd
       refine calls_at (fun W => Ps W q A c l s2 ∧ Kq q w W ∧ w4.heap.size + 1 ≤ W.heap.size ∧ Blk W (w.heap.size) 24 zN ∧ Blk W (w1.heap.size) 80 (tC t) ∧ Blk W (w4.heap.size) 24 (nC no nn nk np NA ns.length nc) ∧ NodeX W (w3.heap.size) (w4.heap.size) (w4.heap.size) (.node no nn nk np ns) NA nc) (fun W hW => HRE.out W hW.1) ?_ ?_
       · refine ⟨?_, ?_, ?_, ?_, ?_, ?_, ?_⟩
         all_goals repeat' (first | (with_reducible first | exact HP4.out | exact HK4.out | exact HB0_4.out | exact HB1_4.out | exact HB2_4.out | exact HNn_4.out | exact Fr.refl _ _ | apply ps_far | apply Ps.alloc | apply Ps.drew | apply Fr.drew | apply blk_drew | apply kq_far | apply Fr.alloc | apply tokZ | apply nodZ0 | exact blk_new _ _ _ | apply blk_alloc | apply Blk.other | apply nodex_far | apply nodex_alloc | apply nodex_drew) | omega | (simp; done) | (simp <;> omega))
       rintro W ⟨hp, hk, hlo, hb0, hb1, hb2, hxn⟩
       rintro e w5 ⟨rfl, hb⟩
       have hfr := Kq.of_below (q := q) hb
       have hp2 := hp.below hb
       have hsz := hfr.size
       have hmo5 : w4.heap.size + 1 ≤ w5.heap.size := Nat.le_trans hlo hsz
       have hqs : q < w5.heap.size := hp2.qlt
       have hl0 := hb0.lt
       have ht0 : Blk w5 (w.heap.size) 24 zN := hfr.blk hb0 (by omega)
       have hl5_0 : w.heap.size < w5.heap.size := ht0.lt
       obtain ⟨r5_0_0, r5_0_1, r5_0_2, r5_0_3, r5_0_4⟩ := blk5 ht0
       obtain ⟨y5_0_0, y5_0_1, y5_0_2, y5_0_3, y5_0_4⟩ := blk5f ht0
       have HB0_5 := Lib.hid ht0
       have hl1 := hb1.lt
       have ht1 : Blk w5 (w1.heap.size) 80 (tC t) := hfr.blk hb1 (by omega)
       have hl5_1 : w1.heap.size < w5.heap.size := ht1.lt
       obtain ⟨r5_1_0, r5_1_1, r5_1_2, r5_1_3⟩ := blk4 ht1
       obtain ⟨y5_1_0, y5_1_1, y5_1_2, y5_1_3⟩ := blk4f ht1
       have HB1_5 := Lib.hid ht1
       have hl2 := hb2.lt
       have ht2 : Blk w5 (w4.heap.size) 24 (nC no nn nk np NA ns.length nc) := hfr.blk hb2 (by omega)
       have hl5_2 : w4.heap.size < w5.heap.size := ht2.lt
       obtain ⟨r5_2_0, r5_2_1, r5_2_2, r5_2_3, r5_2_4⟩ := blk5 ht2
       obtain ⟨y5_2_0, y5_2_1, y5_2_2, y5_2_3, y5_2_4⟩ := blk5f ht2
       have HB2_5 := Lib.hid ht2
       have HNn_5 := Lib.hid (nodex_kq hxn hfr (by omega) (by omega))
       have HP5 := Lib.hid hp2
       have HK5 := Lib.hid (hk.trans hfr)
       have c2_5 := HP5.out.cells.2.2.1
       clear hp hk hp2 hfr hsz hlo hb0 hl0 ht0 hb1 hl1 ht1 hb2 hl2 ht2 hxn hb
       clear r4_0_0 r4_0_1 r4_0_2 r4_0_3 r4_0_4 y4_0_0 y4_0_1 y4_0_2 y4_0_3 y4_0_4 hl4_0 r4_1_0 r4_1_1 r4_1_2 r4_1_3 y4_1_0 y4_1_1 y4_1_2 y4_1_3 hl4_1)
     | (
       go_at_call 155
       have hgd := HP3
       clear hgd
       refine calls_at (fun W => Ps W q A c l s ∧ Kq q w W ∧ w3.heap.size ≤ W.heap.size ∧ Blk W (w.heap.size) 24 zN ∧ Blk W (w1.heap.size) 80 (tC t)) (fun W hW => HI.out W hW.1) ?_ ?_
       · refine ⟨?_, ?_, ?_, ?_, ?_⟩
         all_goals repeat' (first | (with_reducible first | exact HP3.out | exact HK3.out | exact HB0_3.out | exact HB1_3.out | exact Fr.refl _ _ | apply ps_far | apply Ps.alloc | apply Ps.drew | apply Fr.drew | apply blk_drew | apply kq_far | apply Fr.alloc | apply tokZ | apply nodZ0 | exact blk_new _ _ _ | apply blk_alloc | apply Blk.other) | omega | (simp; done) | (simp <;> omega))
       rintro W ⟨hp, hk, hlo, hb0, hb1⟩
       intro e w4 hpost
       obtain ⟨NA, nc, rfl, hnn, hp2, hfr⟩ := npost_open hpost
       have hsz := hfr.size
       have hmo4 : w3.heap.size ≤ w4.heap.size := Nat.le_trans hlo hsz
       have HNN4 := Lib.hid (show NodeF w4 (w3.heap.size) w4.heap.size _ NA nc from nodef_wide hnn hlo (Nat.le_refl _))
       have hqs : q < w4.heap.size := hp2.qlt
       have hl0 := hb0.lt
       have ht0 : Blk w4 (w.heap.size) 24 zN := hfr.blk hb0 (by omega)
       have hl4_0 : w.heap.size < w4.heap.size := ht0.lt
       obtain ⟨r4_0_0, r4_0_1, r4_0_2, r4_0_3, r4_0_4⟩ := blk5 ht0
       obtain ⟨y4_0_0, y4_0_1, y4_0_2, y4_0_3, y4_0_4⟩ := blk5f ht0
       have HB0_4 := Lib.hid ht0
       have hl1 := hb1.lt
       have ht1 : Blk w4 (w1.heap.size) 80 (tC t) := hfr.blk hb1 (by omega)
       have hl4_1 : w1.heap.size < w4.heap.size := ht1.lt
       obtain ⟨r4_1_0, r4_1_1, r4_1_2, r4_1_3⟩ := blk4 ht1
       obtain ⟨y4_1_0, y4_1_1, y4_1_2, y4_1_3⟩ := blk4f ht1
       have HB1_4 := Lib.hid ht1
       have HP4 := Lib.hid hp2
       have HK4 := Lib.hid (hk.trans hfr)
       have HNn_4 := Lib.hid (nodex_of (g := w4.heap.size) HNN4.out (Or.inr (Nat.le_refl _)))
       clear hp hk hp2 hfr hsz hlo hb0 hl0 ht0 hb1 hl1 ht1 hnn
       clear r3_0_0 r3_0_1 r3_0_2 r3_0_3 r3_0_4 y3_0_0 y3_0_1 y3_0_2 y3_0_3 y3_0_4 r3_1_0 r3_1_1 r3_1_2 r3_1_3 y3_1_0 y3_1_1 y3_1_2 y3_1_3))
    clear HRE
    by_cases he : s2.e = 0
    · by_cases ho : op = []
      · subst ho
        have g5 : ((s2.e : Int) == 0) = true := by rw [he]; rfl
        replace HV := Lib.hid (HV.out.trans (if_neg (by simp)))
        clear he HOL
        simp only [Node.name, Node.op] at HV
        by_cases hv : no = nVar
        · have HR := Lib.hid (HV.out.trans (congrArg (Prod.mk _) (if_pos hv)))
          have g7 : (!no == [118, 97, 114]) = false := by rw [hv]; rfl
          clear hv HV HFA HNX2 HI3
          go_wp2_with fail
          all_goals
           refine bodyPost_ret (res_one (by rfl) _ _ w.heap.size #[.string ⟨#[105, 115]⟩, .string ⟨nn.toArray⟩, .int .i64 0, .int .i64 (t.at_ : Nat), .slice none 0 0] rfl ?_ Tryd.underlying24 inf_node5) rfl ⟨none, 0, by rw [HR.out]; rfl, ?_, ?_, ?_⟩
           · repeat' (first | (with_reducible first | exact HP5.out | exact HK5.out | exact HB0_5.out | exact HB1_5.out | exact HB2_5.out | exact HNn_5.out | apply ps_far | apply Ps.alloc | apply Ps.drew | apply kq_far | apply Fr.alloc | apply Fr.drew | apply nodZ0 | exact blk_new _ _ _ | apply blk_drew | apply blk_alloc | apply Blk.other | apply nodex_far | apply nodex_alloc | apply nodex_drew) | omega | (simp; done) | (simp <;> omega))
           · rw [HR.out]
             exact NodeS.leaf _ _ _ _ _ _ (by decide) (NodeS.caps HNN4.out).2.1 _
           · rw [HR.out]
             repeat' (first | (with_reducible first | exact HP5.out | exact HK5.out | exact HB0_5.out | exact HB1_5.out | exact HB2_5.out | exact HNn_5.out | apply ps_far | apply Ps.alloc | apply Ps.drew | apply kq_far | apply Fr.alloc | apply Fr.drew | apply nodZ0 | exact blk_new _ _ _ | apply blk_drew | apply blk_alloc | apply Blk.other | apply nodex_far | apply nodex_alloc | apply nodex_drew) | omega | (simp; done) | (simp <;> omega))
           · repeat' (first | (with_reducible first | exact HP5.out | exact HK5.out | exact HB0_5.out | exact HB1_5.out | exact HB2_5.out | exact HNn_5.out | apply ps_far | apply Ps.alloc | apply Ps.drew | apply kq_far | apply Fr.alloc | apply Fr.drew | apply nodZ0 | exact blk_new _ _ _ | apply blk_drew | apply blk_alloc | apply Blk.other | apply nodex_far | apply nodex_alloc | apply nodex_drew) | omega | (simp; done) | (simp <;> omega))
        · have HR := Lib.hid (HV.out.trans (congrArg (Prod.mk _) (if_neg hv)))
          have g7 : (!no == [118, 97, 114]) = true := by have hv2 := hv; unfold nVar at hv2; simpa using hv2
          clear hv HV HNX2 HI3
          generalize failP s2 t.at_ 2 = s5 at *
          go_wp2_with (
             go_at_call 47
             have hgd := HP5
             clear hgd
             refine calls_at (fun W => Ps W q A c l s2 ∧ Kq q w W ∧ w5.heap.size ≤ W.heap.size ∧ Blk W (w.heap.size) 24 zN ∧ Blk W (w1.heap.size) 80 (tC t) ∧ Blk W (w4.heap.size) 24 (nC no nn nk np NA ns.length nc) ∧ NodeX W (w3.heap.size) (w4.heap.size) (w4.heap.size) (.node no nn nk np ns) NA nc) (fun W hW => HFA.out W hW.1) ?_ ?_
             · refine ⟨?_, ?_, ?_, ?_, ?_, ?_, ?_⟩
               all_goals repeat' (first | (with_reducible first | exact HP5.out | exact HK5.out | exact HB0_5.out | exact HB1_5.out | exact HB2_5.out | exact HNn_5.out | exact Fr.refl _ _ | apply ps_far | apply Ps.alloc | apply Ps.drew | apply Fr.drew | apply blk_drew | apply kq_far | apply Fr.alloc | apply tokZ | apply nodZ0 | exact blk_new _ _ _ | apply blk_alloc | apply Blk.other | apply nodex_far | apply nodex_alloc | apply nodex_drew) | omega | (simp; done) | (simp <;> omega))
             rintro W ⟨hp, hk, hlo, hb0, hb1, hb2, hxn⟩
             intro e w6 hpost
             obtain ⟨rfl, hp2, hfr⟩ := hpost
             have hsz := hfr.size
             have hmo6 : w5.heap.size ≤ w6.heap.size := Nat.le_trans hlo hsz
             have hqs : q < w6.heap.size := hp2.qlt
             have hl0 := hb0.lt
             have ht0 : Blk w6 (w.heap.size) 24 zN := hfr.blk hb0 (by omega)
             have hl6_0 : w.heap.size < w6.heap.size := ht0.lt
             obtain ⟨r6_0_0, r6_0_1, r6_0_2, r6_0_3, r6_0_4⟩ := blk5 ht0
             obtain ⟨y6_0_0, y6_0_1, y6_0_2, y6_0_3, y6_0_4⟩ := blk5f ht0
             have HB0_6 := Lib.hid ht0
             have hl1 := hb1.lt
             have ht1 : Blk w6 (w1.heap.size) 80 (tC t) := hfr.blk hb1 (by omega)
             have hl6_1 : w1.heap.size < w6.heap.size := ht1.lt
             obtain ⟨r6_1_0, r6_1_1, r6_1_2, r6_1_3⟩ := blk4 ht1
             obtain ⟨y6_1_0, y6_1_1, y6_1_2, y6_1_3⟩ := blk4f ht1
             have HB1_6 := Lib.hid ht1
             have hl2 := hb2.lt
             have ht2 : Blk w6 (w4.heap.size) 24 (nC no nn nk np NA ns.length nc) := hfr.blk hb2 (by omega)
             have hl6_2 : w4.heap.size < w6.heap.size := ht2.lt
             obtain ⟨r6_2_0, r6_2_1, r6_2_2, r6_2_3, r6_2_4⟩ := blk5 ht2
             obtain ⟨y6_2_0, y6_2_1, y6_2_2, y6_2_3, y6_2_4⟩ := blk5f ht2
             have HB2_6 := Lib.hid ht2
             have HNn_6 := Lib.hid (nodex_kq hxn hfr (by omega) (by omega))
             have HP6 := Lib.hid hp2
             have HK6 := Lib.hid (hk.trans hfr)
             clear hp hk hp2 hfr hsz hlo hb0 hl0 ht0 hb1 hl1 ht1 hb2 hl2 ht2 hxn
             clear r5_0_0 r5_0_1 r5_0_2 r5_0_3 r5_0_4 y5_0_0 y5_0_1 y5_0_2 y5_0_3 y5_0_4 hl5_0 r5_1_0 r5_1_1 r5_1_2 r5_1_3 y5_1_0 y5_1_1 y5_1_2 y5_1_3 hl5_1 r5_2_0 r5_2_1 r5_2_2 r5_2_3 r5_2_4 y5_2_0 y5_2_1 y5_2_2 y5_2_3 y5_2_4 hl5_2)
          all_goals
           refine bodyPost_ret (res_one (by rfl) _ _ w.heap.size #[.string ⟨#[105, 115]⟩, .string ⟨nn.toArray⟩, .int .i64 0, .int .i64 (t.at_ : Nat), .slice none 0 0] rfl ?_ Tryd.underlying24 inf_node5) rfl ⟨none, 0, by rw [HR.out]; rfl, ?_, ?_, ?_⟩
           · repeat' (first | (with_reducible first | exact HP6.out | exact HK6.out | exact HB0_6.out | exact HB1_6.out | exact HB2_6.out | exact HNn_6.out | apply ps_far | apply Ps.alloc | apply Ps.drew | apply kq_far | apply Fr.alloc | apply Fr.drew | apply nodZ0 | exact blk_new _ _ _ | apply blk_drew | apply blk_alloc | apply Blk.other | apply nodex_far | apply nodex_alloc | apply nodex_drew) | omega | (simp; done) | (simp <;> omega))
           · rw [HR.out]
             exact NodeS.leaf _ _ _ _ _ _ (by decide) (NodeS.caps HNN4.out).2.1 _
           · rw [HR.out]
             repeat' (first | (with_reducible first | exact HP6.out | exact HK6.out | exact HB0_6.out | exact HB1_6.out | exact HB2_6.out | exact HNn_6.out | apply ps_far | apply Ps.alloc | apply Ps.drew | apply kq_far | apply Fr.alloc | apply Fr.drew | apply nodZ0 | exact blk_new _ _ _ | apply blk_drew | apply blk_alloc | apply Blk.other | apply nodex_far | apply nodex_alloc | apply nodex_drew) | omega | (simp; done) | (simp <;> omega))
           · repeat' (first | (with_reducible first | exact HP6.out | exact HK6.out | exact HB0_6.out | exact HB1_6.out | exact HB2_6.out | exact HNn_6.out | apply ps_far | apply Ps.alloc | apply Ps.drew | apply kq_far | apply Fr.alloc | apply Fr.drew | apply nodZ0 | exact blk_new _ _ _ | apply blk_drew | apply blk_alloc | apply Blk.other | apply nodex_far | apply nodex_alloc | apply nodex_drew) | omega | (simp; done) | (simp <;> omega))
      · have g5 : ((s2.e : Int) == 0) = true := by rw [he]; rfl
        have g6 : (!op == []) = true := by simpa using ho
        have g6b : op.isEmpty = false := by simpa using ho
        have HR := Lib.hid (HV.out.trans (if_pos ⟨he, ho⟩))
        clear he ho HV HFA
        generalize hpr : termP l (nextP l s2) = pr at *
        clear hpr
        generalize nextP l s2 = s5 at *
        generalize nowP l s2 = u at *
        obtain ⟨⟨po, pn, pk, pp, ps⟩, s6⟩ := pr
        simp only at HR
        unfold tokV at HNX2
        go_upto_region 10 with (first
         | (
             go_at_call 72
             have hgd := HP5
             clear hgd
             refine calls_at (fun W => Ps W q A c l s2 ∧ Kq q w W ∧ w5.heap.size ≤ W.heap.size ∧ Blk W (w.heap.size) 24 zN ∧ Blk W (w1.heap.size) 80 (tC t) ∧ Blk W (w4.heap.size) 24 (nC no nn nk np NA ns.length nc) ∧ NodeX W (w3.heap.size) (w4.heap.size) (w4.heap.size) (.node no nn nk np ns) NA nc) (fun W hW => HNX2.out W hW.1) ?_ ?_
             · refine ⟨?_, ?_, ?_, ?_, ?_, ?_, ?_⟩
               all_goals repeat' (first | (with_reducible first | exact HP5.out | exact HK5.out | exact HB0_5.out | exact HB1_5.out | exact HB2_5.out | exact HNn_5.out | exact Fr.refl _ _ | apply ps_far | apply Ps.alloc | apply Ps.drew | apply Fr.drew | apply blk_drew | apply kq_far | apply Fr.alloc | apply tokZ | apply nodZ0 | exact blk_new _ _ _ | apply blk_alloc | apply Blk.other | apply nodex_far | apply nodex_alloc | apply nodex_drew) | omega | (simp; done) | (simp <;> omega))
             rintro W ⟨hp, hk, hlo, hb0, hb1, hb2, hxn⟩
             intro e w6 hpost
             obtain ⟨rfl, hp2, hfr⟩ := hpost
             have hsz := hfr.size
             have hmo6 : w5.heap.size ≤ w6.heap.size := Nat.le_trans hlo hsz
             have hqs : q < w6.heap.size := hp2.qlt
             have hl0 := hb0.lt
             have ht0 : Blk w6 (w.heap.size) 24 zN := hfr.blk hb0 (by omega)
             have hl6_0 : w.heap.size < w6.heap.size := ht0.lt
             obtain ⟨r6_0_0, r6_0_1, r6_0_2, r6_0_3, r6_0_4⟩ := blk5 ht0
             obtain ⟨y6_0_0, y6_0_1, y6_0_2, y6_0_3, y6_0_4⟩ := blk5f ht0
             have HB0_6 := Lib.hid ht0
             have hl1 := hb1.lt
             have ht1 : Blk w6 (w1.heap.size) 80 (tC t) := hfr.blk hb1 (by omega)
             have hl6_1 : w1.heap.size < w6.heap.size := ht1.lt
             obtain ⟨r6_1_0, r6_1_1, r6_1_2, r6_1_3⟩ := blk4 ht1
             obtain ⟨y6_1_0, y6_1_1, y6_1_2, y6_1_3⟩ := blk4f ht1
             have HB1_6 := Lib.hid ht1
             have hl2 := hb2.lt
             have ht2 : Blk w6 (w4.heap.size) 24 (nC no nn nk np NA ns.length nc) := hfr.blk hb2 (by omega)
             have hl6_2 : w4.heap.size < w6.heap.size := ht2.lt
             obtain ⟨r6_2_0, r6_2_1, r6_2_2, r6_2_3, r6_2_4⟩ := blk5 ht2
             obtain ⟨y6_2_0, y6_2_1, y6_2_2, y6_2_3, y6_2_4⟩ := blk5f ht2
             have HB2_6 := Lib.hid ht2
             have HNn_6 := Lib.hid (nodex_kq hxn hfr (by omega) (by omega))
             have HP6 := Lib.hid hp2
             have HK6 := Lib.hid (hk.trans hfr)
             clear hp hk hp2 hfr hsz hlo hb0 hl0 ht0 hb1 hl1 ht1 hb2 hl2 ht2 hxn
             clear r5_0_0 r5_0_1 r5_0_2 r5_0_3 r5_0_4 y5_0_0 y5_0_1 y5_0_2 y5_0_3 y5_0_4 hl5_0 r5_1_0 r5_1_1 r5_1_2 r5_1_3 y5_1_0 y5_1_1 y5_1_2 y5_1_3 hl5_1 r5_2_0 r5_2_1 r5_2_2 r5_2_3 r5_2_4 y5_2_0 y5_2_1 y5_2_2 y5_2_3 y5_2_4 hl5_2))
        refine wp_named (fun W => Ps W q A c l s5 ∧ Kq q w W ∧ w6.heap.size + 1 ≤ W.heap.size ∧ Blk W (w.heap.size) 24 zN ∧ Blk W (w1.heap.size) 80 (tC t) ∧ Blk W (w4.heap.size) 24 (nC no nn nk np NA ns.length nc) ∧ Blk W (w6.heap.size) 80 (tC u) ∧ NodeX W (w3.heap.size) (w4.heap.size) (w4.heap.size) (.node no nn nk np ns) NA nc) ?_ ?_
        · refine ⟨?_, ?_, ?_, ?_, ?_, ?_, ?_, ?_⟩
          all_goals repeat' (first | (with_reducible first | exact HP6.out | exact HK6.out | exact HB0_6.out | exact HB1_6.out | exact HB2_6.out | exact HB3_6.out | exact HNn_6.out | exact Fr.refl _ _ | apply ps_far | apply Ps.alloc | apply Ps.drew | apply Fr.drew | apply blk_drew | apply kq_far | apply Fr.alloc | apply tokZ | apply nodZ0 | exact blk_new _ _ _ | apply blk_alloc | apply Blk.other | apply nodex_far | apply nodex_alloc | apply nodex_drew) | omega | (simp; done) | (simp <;> omega))
        clear r6_0_0 r6_0_1 r6_0_2 r6_0_3 r6_0_4 y6_0_0 y6_0_1 y6_0_2 y6_0_3 y6_0_4 hl6_0 r6_1_0 r6_1_1 r6_1_2 r6_1_3 y6_1_0 y6_1_1 y6_1_2 y6_1_3 hl6_1 r6_2_0 r6_2_1 r6_2_2 r6_2_3 r6_2_4 y6_2_0 y6_2_1 y6_2_2 y6_2_3 y6_2_4 hl6_2
        rintro w7 ⟨hp2, hk2, hmo7, ht0, ht1, ht2, ht3, hxn⟩
        have hqs : q < w7.heap.size := hp2.qlt
        have hl7_0 : w.heap.size < w7.heap.size := ht0.lt
        obtain ⟨r7_0_0, r7_0_1, r7_0_2, r7_0_3, r7_0_4⟩ := blk5 ht0
        obtain ⟨y7_0_0, y7_0_1, y7_0_2, y7_0_3, y7_0_4⟩ := blk5f ht0
        have HB0_7 := Lib.hid ht0
        have hl7_1 : w1.heap.size < w7.heap.size := ht1.lt
        obtain ⟨r7_1_0, r7_1_1, r7_1_2, r7_1_3⟩ := blk4 ht1
        obtain ⟨y7_1_0, y7_1_1, y7_1_2, y7_1_3⟩ := blk4f ht1
        have HB1_7 := Lib.hid ht1
        have hl7_2 : w4.heap.size < w7.heap.size := ht2.lt
        obtain ⟨r7_2_0, r7_2_1, r7_2_2, r7_2_3, r7_2_4⟩ := blk5 ht2
        obtain ⟨y7_2_0, y7_2_1, y7_2_2, y7_2_3, y7_2_4⟩ := blk5f ht2
        have HB2_7 := Lib.hid ht2
        have hl7_3 : w6.heap.size < w7.heap.size := ht3.lt
        obtain ⟨r7_3_0, r7_3_1, r7_3_2, r7_3_3⟩ := blk4 ht3
        obtain ⟨y7_3_0, y7_3_1, y7_3_2, y7_3_3⟩ := blk4f ht3
        have HB3_7 := Lib.hid ht3
        have HNn_7 := Lib.hid hxn
        have HP7 := Lib.hid hp2
        have HK7 := Lib.hid hk2
        clear hp2 hk2 ht0 ht1 ht2 ht3 hxn
        have hw4 : w4.heap.size < w7.heap.size := HB2_7.out.lt
        have hw6 : w6.heap.size < w7.heap.size := HB3_7.out.lt
        have HC6 : Hid (Calls Tryd.prog 155 #[.pointer (some ⟨q, 0, none⟩)] w7.drew fun e w9 => ∃ A6 c6, e = .returned (.agg #[.string ⟨po.toArray⟩, .string ⟨pn.toArray⟩, .int .i64 pk, .int .i64 pp, .slice A6 ps.length c6]) ∧ Blk w9 w6.heap.size 80 (tC u) ∧ Fold w w9 q w.heap.size w4.heap.size w3.heap.size w5.heap.size A c l s6 no nn nk np ns NA nc (.node po pn pk pp ps) A6 c6) := by
         refine Lib.hid ((HI3.out _ HP7.out.drew).mono ?_)
         intro e w9 hpost
         obtain ⟨A6, c6, rfl, hnn, hp6, hk6⟩ := npost_open hpost
         have hs6 : w7.heap.size ≤ w9.heap.size := hk6.size
         refine ⟨A6, c6, rfl, hk6.blk (blk_drew HB3_7.out) (by omega), hp6, HK7.out.drew.trans hk6, hk6.blk (blk_drew HB0_7.out) (by omega), hk6.blk (blk_drew HB2_7.out) (by omega), nodex_wide (nodex_kq (nodex_drew HNn_7.out) hk6 (by omega) (by show w4.heap.size ≤ w7.heap.size; omega)) (Nat.le_refl _) (by omega), ?_, by omega⟩
         exact nodex_wide (nodex_of hnn (Or.inl (by show w4.heap.size < w7.heap.size; omega))) (by show w3.heap.size ≤ w7.heap.size; omega) (Nat.le_refl _)
        clear HI HI3 HNX2
        go_region_held3 (fun W : World => W.cell? ⟨w6.heap.size, 3, none⟩ = some (.int .i64 (u.at_ : Nat)) ∧ W.cell? ⟨w4.heap.size, 0, none⟩ = some (.string ⟨no.toArray⟩) ∧ W.cell? ⟨w4.heap.size, 1, none⟩ = some (.string ⟨nn.toArray⟩) ∧ W.cell? ⟨w4.heap.size, 2, none⟩ = some (.int .i64 nk) ∧ W.cell? ⟨w4.heap.size, 3, none⟩ = some (.int .i64 np) ∧ W.cell? ⟨w4.heap.size, 4, none⟩ = some (.slice NA ns.length nc)) ((refine ⟨?_, ?_, ?_, ?_, ?_, ?_⟩ <;> repeat' (first | (with_reducible first | exact r7_3_3 | exact r7_2_0 | exact r7_2_1 | exact r7_2_2 | exact r7_2_3 | exact r7_2_4 | exact k6t | exact k60 | exact k61 | exact k62 | exact k63 | exact k64 | apply keepS | apply keepA | apply keepD) | omega))) ((
         go_at_call 155
         refine HC6.out.mono ?_
         rintro e w9 ⟨A6, c6, rfl, ht6, hF6⟩
         obtain ⟨k60, k61, k62, k63, k64⟩ := blk5 hF6.box
         obtain ⟨z60, z61, z62, z63, z64⟩ := blk5f hF6.box
         obtain ⟨k70, k71, k72, k73, k74⟩ := blk5 hF6.res
         obtain ⟨z70, z71, z72, z73, z74⟩ := blk5f hF6.res
         have k6t := (blk4 ht6).2.2.2
         have HF6 := Lib.hid hF6
         have hb6 : w4.heap.size < w9.heap.size := hF6.box.lt
         have hb9 : w.heap.size < w9.heap.size := hF6.res.lt
         have hb7 : w6.heap.size < w9.heap.size := ht6.lt
         clear ht6 hF6))
        all_goals
         go_wp2_with fail
         have hop : op.length ≤ 140737488355328 := by have := HOL.out; omega
         refine bodyPost_ret (res_one (by rfl) _ _ w.heap.size #[.string ⟨op.toArray⟩, .string ⟨#[]⟩, .int .i64 0, .int .i64 (u.at_ : Nat), .slice (some ⟨w9.heap.size, 0, none⟩) 2 2] rfl (fold_res HF6.out op hop _ _ rfl).2.2.1 Tryd.underlying24 inf_node5) rfl ⟨some ⟨w9.heap.size, 0, none⟩, 2, by rw [HR.out]; rfl, ?_, ?_, ?_⟩
         · rw [HR.out]
           exact (fold_res HF6.out op hop _ _ rfl).2.2.2
         · rw [HR.out]
           exact (fold_res HF6.out op hop _ _ rfl).1
         · exact (fold_res HF6.out op hop _ _ rfl).2.1
    · have g5 : ((s2.e : Int) == 0) = false := by simp; omega
      replace HV := Lib.hid (HV.out.trans (if_neg (fun hh => he hh.1)))
      clear he HOL
      simp only [Node.name, Node.op] at HV
      by_cases hv : no = nVar
      · have HR := Lib.hid (HV.out.trans (congrArg (Prod.mk _) (if_pos hv)))
        have g7 : (!no == [118, 97, 114]) = false := by rw [hv]; rfl
        clear hv HV HFA HNX2 HI3
        go_wp2_with fail
        all_goals
         refine bodyPost_ret (res_one (by rfl) _ _ w.heap.size #[.string ⟨#[105, 115]⟩, .string ⟨nn.toArray⟩, .int .i64 0, .int .i64 (t.at_ : Nat), .slice none 0 0] rfl ?_ Tryd.underlying24 inf_node5) rfl ⟨none, 0, by rw [HR.out]; rfl, ?_, ?_, ?_⟩
         · repeat' (first | (with_reducible first | exact HP5.out | exact HK5.out | exact HB0_5.out | exact HB1_5.out | exact HB2_5.out | exact HNn_5.out | apply ps_far | apply Ps.alloc | apply Ps.drew | apply kq_far | apply Fr.alloc | apply Fr.drew | apply nodZ0 | exact blk_new _ _ _ | apply blk_drew | apply blk_alloc | apply Blk.other | apply nodex_far | apply nodex_alloc | apply nodex_drew) | omega | (simp; done) | (simp <;> omega))
         · rw [HR.out]
           exact NodeS.leaf _ _ _ _ _ _ (by decide) (NodeS.caps HNN4.out).2.1 _
         · rw [HR.out]
           repeat' (first | (with_reducible first | exact HP5.out | exact HK5.out | exact HB0_5.out | exact HB1_5.out | exact HB2_5.out | exact HNn_5.out | apply ps_far | apply Ps.alloc | apply Ps.drew | apply kq_far | apply Fr.alloc | apply Fr.drew | apply nodZ0 | exact blk_new _ _ _ | apply blk_drew | apply blk_alloc | apply Blk.other | apply nodex_far | apply nodex_alloc | apply nodex_drew) | omega | (simp; done) | (simp <;> omega))
         · repeat' (first | (with_reducible first | exact HP5.out | exact HK5.out | exact HB0_5.out | exact HB1_5.out | exact HB2_5.out | exact HNn_5.out | apply ps_far | apply Ps.alloc | apply Ps.drew | apply kq_far | apply Fr.alloc | apply Fr.drew | apply nodZ0 | exact blk_new _ _ _ | apply blk_drew | apply blk_alloc | apply Blk.other | apply nodex_far | apply nodex_alloc | apply nodex_drew) | omega | (simp; done) | (simp <;> omega))
      · have HR := Lib.hid (HV.out.trans (congrArg (Prod.mk _) (if_neg hv)))
        have g7 : (!no == [118, 97, 114]) = true := by have hv2 := hv; unfold nVar at hv2; simpa using hv2
        clear hv HV HNX2 HI3
        generalize failP s2 t.at_ 2 = s5 at *
        go_wp2_with (
           go_at_call 47
           have hgd := HP5
           clear hgd
           refine calls_at (fun W => Ps W q A c l s2 ∧ Kq q w W ∧ w5.heap.size ≤ W.heap.size ∧ Blk W (w.heap.size) 24 zN ∧ Blk W (w1.heap.size) 80 (tC t) ∧ Blk W (w4.heap.size) 24 (nC no nn nk np NA ns.length nc) ∧ NodeX W (w3.heap.size) (w4.heap.size) (w4.heap.size) (.node no nn nk np ns) NA nc) (fun W hW => HFA.out W hW.1) ?_ ?_
           · refine ⟨?_, ?_, ?_, ?_, ?_, ?_, ?_⟩
             all_goals repeat' (first | (with_reducible first | exact HP5.out | exact HK5.out | exact HB0_5.out | exact HB1_5.out | exact HB2_5.out | exact HNn_5.out | exact Fr.refl _ _ | apply ps_far | apply Ps.alloc | apply Ps.drew | apply Fr.drew | apply blk_drew | apply kq_far | apply Fr.alloc | apply tokZ | apply nodZ0 | exact blk_new _ _ _ | apply blk_alloc | apply Blk.other | apply nodex_far | apply nodex_alloc | apply nodex_drew) | omega | (simp; done) | (simp <;> omega))
           rintro W ⟨hp, hk, hlo, hb0, hb1, hb2, hxn⟩
           intro e w6 hpost
           obtain ⟨rfl, hp2, hfr⟩ := hpost
           have hsz := hfr.size
           have hmo6 : w5.heap.size ≤ w6.heap.size := Nat.le_trans hlo hsz
           have hqs : q < w6.heap.size := hp2.qlt
           have hl0 := hb0.lt
           have ht0 : Blk w6 (w.heap.size) 24 zN := hfr.blk hb0 (by omega)
           have hl6_0 : w.heap.size < w6.heap.size := ht0.lt
           obtain ⟨r6_0_0, r6_0_1, r6_0_2, r6_0_3, r6_0_4⟩ := blk5 ht0
           obtain ⟨y6_0_0, y6_0_1, y6_0_2, y6_0_3, y6_0_4⟩ := blk5f ht0
           have HB0_6 := Lib.hid ht0
           have hl1 := hb1.lt
           have ht1 : Blk w6 (w1.heap.size) 80 (tC t) := hfr.blk hb1 (by omega)
           have hl6_1 : w1.heap.size < w6.heap.size := ht1.lt
           obtain ⟨r6_1_0, r6_1_1, r6_1_2, r6_1_3⟩ := blk4 ht1
           obtain ⟨y6_1_0, y6_1_1, y6_1_2, y6_1_3⟩ := blk4f ht1
           have HB1_6 := Lib.hid ht1
           have hl2 := hb2.lt
           have ht2 : Blk w6 (w4.heap.size) 24 (nC no nn nk np NA ns.length nc) := hfr.blk hb2 (by omega)
           have hl6_2 : w4.heap.size < w6.heap.size := ht2.lt
           obtain ⟨r6_2_0, r6_2_1, r6_2_2, r6_2_3, r6_2_4⟩ := blk5 ht2
           obtain ⟨y6_2_0, y6_2_1, y6_2_2, y6_2_3, y6_2_4⟩ := blk5f ht2
           have HB2_6 := Lib.hid ht2
           have HNn_6 := Lib.hid (nodex_kq hxn hfr (by omega) (by omega))
           have HP6 := Lib.hid hp2
           have HK6 := Lib.hid (hk.trans hfr)
           clear hp hk hp2 hfr hsz hlo hb0 hl0 ht0 hb1 hl1 ht1 hb2 hl2 ht2 hxn
           clear r5_0_0 r5_0_1 r5_0_2 r5_0_3 r5_0_4 y5_0_0 y5_0_1 y5_0_2 y5_0_3 y5_0_4 hl5_0 r5_1_0 r5_1_1 r5_1_2 r5_1_3 y5_1_0 y5_1_1 y5_1_2 y5_1_3 hl5_1 r5_2_0 r5_2_1 r5_2_2 r5_2_3 r5_2_4 y5_2_0 y5_2_1 y5_2_2 y5_2_3 y5_2_4 hl5_2)
        all_goals
         refine bodyPost_ret (res_one (by rfl) _ _ w.heap.size #[.string ⟨#[105, 115]⟩, .string ⟨nn.toArray⟩, .int .i64 0, .int .i64 (t.at_ : Nat), .slice none 0 0] rfl ?_ Tryd.underlying24 inf_node5) rfl ⟨none, 0, by rw [HR.out]; rfl, ?_, ?_, ?_⟩
         · repeat' (first | (with_reducible first | exact HP6.out | exact HK6.out | exact HB0_6.out | exact HB1_6.out | exact HB2_6.out | exact HNn_6.out | apply ps_far | apply Ps.alloc | apply Ps.drew | apply kq_far | apply Fr.alloc | apply Fr.drew | apply nodZ0 | exact blk_new _ _ _ | apply blk_drew | apply blk_alloc | apply Blk.other | apply nodex_far | apply nodex_alloc | apply nodex_drew) | omega | (simp; done) | (simp <;> omega))
         · rw [HR.out]
           exact NodeS.leaf _ _ _ _ _ _ (by decide) (NodeS.caps HNN4.out).2.1 _
         · rw [HR.out]
           repeat' (first | (with_reducible first | exact HP6.out | exact HK6.out | exact HB0_6.out | exact HB1_6.out | exact HB2_6.out | exact HNn_6.out | apply ps_far | apply Ps.alloc | apply Ps.drew | apply kq_far | apply Fr.alloc | apply Fr.drew | apply nodZ0 | exact blk_new _ _ _ | apply blk_drew | apply blk_alloc | apply Blk.other | apply nodex_far | apply nodex_alloc | apply nodex_drew) | omega | (simp; done) | (simp <;> omega))
         · repeat' (first | (with_reducible first | exact HP6.out | exact HK6.out | exact HB0_6.out | exact HB1_6.out | exact HB2_6.out | exact HNn_6.out | apply ps_far | apply Ps.alloc | apply Ps.drew | apply kq_far | apply Fr.alloc | apply Fr.drew | apply nodZ0 | exact blk_new _ _ _ | apply blk_drew | apply blk_alloc | apply Blk.other | apply nodex_far | apply nodex_alloc | apply nodex_drew) | omega | (simp; done) | (simp <;> omega))
end Go.Proofs.YteikakoheibnjaaDoor
