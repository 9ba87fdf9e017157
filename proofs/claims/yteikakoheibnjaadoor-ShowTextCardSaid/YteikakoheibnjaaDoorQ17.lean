/- Parts of the proof: PRel, PLeft. -/
import Derived.Test.YteikakoheibnjaaDoorQ16
namespace Go.Proofs.YteikakoheibnjaaDoor
open Go Go.RowKit

theorem blk7 {W : World} {g : Nat} {t : TypeId} {c0 c1 c2 c3 c4 c5 c6 : Value} (h : Blk W g t #[c0, c1, c2, c3, c4, c5, c6]) : W.cell? ⟨g, 0, none⟩ = some c0 ∧ W.cell? ⟨g, 1, none⟩ = some c1 ∧ W.cell? ⟨g, 2, none⟩ = some c2 ∧ W.cell? ⟨g, 3, none⟩ = some c3 ∧ W.cell? ⟨g, 4, none⟩ = some c4 ∧ W.cell? ⟨g, 5, none⟩ = some c5 ∧ W.cell? ⟨g, 6, none⟩ = some c6 :=
 ⟨h.cell 0, h.cell 1, h.cell 2, h.cell 3, h.cell 4, h.cell 5, h.cell 6⟩
theorem relP_eq (l : List Tok) (s : PS) : relP l s = if isW l s [61] then nEq else if isW l s [126, 61] then nNe else if isW l s [60] then nLt else if isW l s [60, 61] then nLe else if isW l s nIn then nIn else if isW l s nNotin then nNotin else if isW l s nSub then nSub else [] := rfl
set_option maxRecDepth 100000 in
set_option maxHeartbeats 4000000 in
theorem prel_any {w : World} {q : Nat} {A : Option Addr} {c : Nat} {l : List Tok} {s : PS} (h : Ps w q A c l s) :
  Calls Tryd.prog 156 #[.pointer (some ⟨q, 0, none⟩)] w fun e w' => e = .returned (.string ⟨(relP l s).toArray⟩) ∧ Below w.heap.size w w' := by
 have HP := Lib.hid h
 have HV := Lib.hid (relP_eq l s)
 have HI0 := Lib.hid (fun W (hW : Ps W q A c l s) => pis_any hW [61])
 have HI1 := Lib.hid (fun W (hW : Ps W q A c l s) => pis_any hW [126, 61])
 have HI2 := Lib.hid (fun W (hW : Ps W q A c l s) => pis_any hW [60])
 have HI3 := Lib.hid (fun W (hW : Ps W q A c l s) => pis_any hW [60, 61])
 have HI4 := Lib.hid (fun W (hW : Ps W q A c l s) => pis_any hW nIn)
 have HI5 := Lib.hid (fun W (hW : Ps W q A c l s) => pis_any hW nNotin)
 have HI6 := Lib.hid (fun W (hW : Ps W q A c l s) => pis_any hW nSub)
 clear h
 generalize relP l s = V at *
 generalize isW l s [61] = b0 at *
 generalize isW l s [126, 61] = b1 at *
 generalize isW l s [60] = b2 at *
 generalize isW l s [60, 61] = b3 at *
 generalize isW l s nIn = b4 at *
 generalize isW l s nNotin = b5 at *
 generalize isW l s nSub = b6 at *
 go_enter Tryd.func156, Tryd.ntmps156
 go_wp2_with fail
 go_loopg [5] 7 (fun r i wr => ∃ k : Nat, k ≤ 7 ∧ r = 7 - k ∧ i = .int .i64 (k : Int) ∧ Hid ((0 < k → b0 = false) ∧ (1 < k → b1 = false) ∧ (2 < k → b2 = false) ∧ (3 < k → b3 = false) ∧ (4 < k → b4 = false) ∧ (5 < k → b5 = false) ∧ (6 < k → b6 = false)) ∧ Hid (Below w.heap.size w wr) ∧ Hid (Blk wr w.heap.size 9 #[.string ⟨#[61]⟩, .string ⟨#[126, 61]⟩, .string ⟨#[60]⟩, .string ⟨#[60, 61]⟩, .string ⟨#[105, 110]⟩, .string ⟨#[110, 111, 116, 105, 110]⟩, .string ⟨#[115, 117, 98]⟩]) ∧ Hid (Blk wr (w.heap.size + 1) 9 #[.string ⟨#[101, 113]⟩, .string ⟨#[110, 101]⟩, .string ⟨#[108, 116]⟩, .string ⟨#[108, 101]⟩, .string ⟨#[105, 110]⟩, .string ⟨#[110, 111, 116, 105, 110]⟩, .string ⟨#[115, 117, 98]⟩]))
 case atStart =>
  refine ⟨0, by omega, rfl, rfl, Lib.hid ⟨fun h => absurd h (by omega), fun h => absurd h (by omega), fun h => absurd h (by omega), fun h => absurd h (by omega), fun h => absurd h (by omega), fun h => absurd h (by omega), fun h => absurd h (by omega)⟩, Lib.hid (((Below.refl _ _).alloc (Nat.le_refl _) _).alloc (by simp) _), Lib.hid ?_, Lib.hid ?_⟩
  · exact blk_alloc (blk_new _ _ _) _
  · exact blk_new_at (by simp)
 case round =>
  obtain ⟨k, hk, hr, rfl, HN, HB, HS, HO⟩ := hrel
  have HRr := Lib.hid hr
  have hs1 := HB.out.size
  have HPr := Lib.hid (HP.out.below HB.out)
  obtain ⟨d0, d1, d2, d3, d4, d5, d6⟩ := blk7 HS.out
  obtain ⟨o0 , o1 , o2 , o3 , o4 , o5 , o6⟩ := blk7 HO.out
  clear hr
  have h8 : k = 0 ∨ k = 1 ∨ k = 2 ∨ k = 3 ∨ k = 4 ∨ k = 5 ∨ k = 6 ∨ k = 7 := by omega
  rcases h8 with rfl | rfl | rfl | rfl | rfl | rfl | rfl | rfl
  · cases b0 with
    | true =>
      have HF := Lib.hid (show V = nEq by rw [HV.out]; simp)
      clear HV
      go_wp2_with (
       go_at_call 40
       refine (HI0.out _ HPr.out).mono ?_
       rintro e w2 ⟨rfl, hb⟩
       have HB2 := Lib.hid (HB.out.trans (hb.mono hs1))
       have HS2 := Lib.hid ((hb.block w.heap.size HS.out.lt).trans HS.out)
       have HO2 := Lib.hid ((hb.block (w.heap.size + 1) HO.out.lt).trans HO.out)
       obtain ⟨m0, m1, m2, m3, m4, m5, m6⟩ := blk7 (show Blk w2 (w.heap.size + 1) 9 #[.string ⟨#[101, 113]⟩, .string ⟨#[110, 101]⟩, .string ⟨#[108, 116]⟩, .string ⟨#[108, 101]⟩, .string ⟨#[105, 110]⟩, .string ⟨#[110, 111, 116, 105, 110]⟩, .string ⟨#[115, 117, 98]⟩] from HO2.out)
       clear hb)
      all_goals
       go_ret
       rw [HF.out]
       exact ⟨rfl, HB2.out⟩
    | false =>
      go_wp2_with (
       go_at_call 40
       refine (HI0.out _ HPr.out).mono ?_
       rintro e w2 ⟨rfl, hb⟩
       have HB2 := Lib.hid (HB.out.trans (hb.mono hs1))
       have HS2 := Lib.hid ((hb.block w.heap.size HS.out.lt).trans HS.out)
       have HO2 := Lib.hid ((hb.block (w.heap.size + 1) HO.out.lt).trans HO.out)
       obtain ⟨m0, m1, m2, m3, m4, m5, m6⟩ := blk7 (show Blk w2 (w.heap.size + 1) 9 #[.string ⟨#[101, 113]⟩, .string ⟨#[110, 101]⟩, .string ⟨#[108, 116]⟩, .string ⟨#[108, 101]⟩, .string ⟨#[105, 110]⟩, .string ⟨#[110, 111, 116, 105, 110]⟩, .string ⟨#[115, 117, 98]⟩] from HO2.out)
       clear hb)
      all_goals
       go_roundg (7 - 1)
       case measure => have := HRr.out; omega
       case rel => exact ⟨1, by omega, rfl, by rfl, Lib.hid ⟨by simp, fun h => absurd h (by omega), fun h => absurd h (by omega), fun h => absurd h (by omega), fun h => absurd h (by omega), fun h => absurd h (by omega), fun h => absurd h (by omega)⟩, HB2, HS2, HO2⟩
  · cases b1 with
    | true =>
      have HF := Lib.hid (show V = nNe by rw [HV.out, HN.out.1 (by omega)]; simp)
      clear HV
      go_wp2_with (
       go_at_call 40
       refine (HI1.out _ HPr.out).mono ?_
       rintro e w2 ⟨rfl, hb⟩
       have HB2 := Lib.hid (HB.out.trans (hb.mono hs1))
       have HS2 := Lib.hid ((hb.block w.heap.size HS.out.lt).trans HS.out)
       have HO2 := Lib.hid ((hb.block (w.heap.size + 1) HO.out.lt).trans HO.out)
       obtain ⟨m0, m1, m2, m3, m4, m5, m6⟩ := blk7 (show Blk w2 (w.heap.size + 1) 9 #[.string ⟨#[101, 113]⟩, .string ⟨#[110, 101]⟩, .string ⟨#[108, 116]⟩, .string ⟨#[108, 101]⟩, .string ⟨#[105, 110]⟩, .string ⟨#[110, 111, 116, 105, 110]⟩, .string ⟨#[115, 117, 98]⟩] from HO2.out)
       clear hb)
      all_goals
       go_ret
       rw [HF.out]
       exact ⟨rfl, HB2.out⟩
    | false =>
      go_wp2_with (
       go_at_call 40
       refine (HI1.out _ HPr.out).mono ?_
       rintro e w2 ⟨rfl, hb⟩
       have HB2 := Lib.hid (HB.out.trans (hb.mono hs1))
       have HS2 := Lib.hid ((hb.block w.heap.size HS.out.lt).trans HS.out)
       have HO2 := Lib.hid ((hb.block (w.heap.size + 1) HO.out.lt).trans HO.out)
       obtain ⟨m0, m1, m2, m3, m4, m5, m6⟩ := blk7 (show Blk w2 (w.heap.size + 1) 9 #[.string ⟨#[101, 113]⟩, .string ⟨#[110, 101]⟩, .string ⟨#[108, 116]⟩, .string ⟨#[108, 101]⟩, .string ⟨#[105, 110]⟩, .string ⟨#[110, 111, 116, 105, 110]⟩, .string ⟨#[115, 117, 98]⟩] from HO2.out)
       clear hb)
      all_goals
       go_roundg (7 - 2)
       case measure => have := HRr.out; omega
       case rel => exact ⟨2, by omega, rfl, by rfl, Lib.hid ⟨fun _ => HN.out.1 (by omega), by simp, fun h => absurd h (by omega), fun h => absurd h (by omega), fun h => absurd h (by omega), fun h => absurd h (by omega), fun h => absurd h (by omega)⟩, HB2, HS2, HO2⟩
  · cases b2 with
    | true =>
      have HF := Lib.hid (show V = nLt by rw [HV.out, HN.out.1 (by omega), HN.out.2.1 (by omega)]; simp)
      clear HV
      go_wp2_with (
       go_at_call 40
       refine (HI2.out _ HPr.out).mono ?_
       rintro e w2 ⟨rfl, hb⟩
       have HB2 := Lib.hid (HB.out.trans (hb.mono hs1))
       have HS2 := Lib.hid ((hb.block w.heap.size HS.out.lt).trans HS.out)
       have HO2 := Lib.hid ((hb.block (w.heap.size + 1) HO.out.lt).trans HO.out)
       obtain ⟨m0, m1, m2, m3, m4, m5, m6⟩ := blk7 (show Blk w2 (w.heap.size + 1) 9 #[.string ⟨#[101, 113]⟩, .string ⟨#[110, 101]⟩, .string ⟨#[108, 116]⟩, .string ⟨#[108, 101]⟩, .string ⟨#[105, 110]⟩, .string ⟨#[110, 111, 116, 105, 110]⟩, .string ⟨#[115, 117, 98]⟩] from HO2.out)
       clear hb)
      all_goals
       go_ret
       rw [HF.out]
       exact ⟨rfl, HB2.out⟩
    | false =>
      go_wp2_with (
       go_at_call 40
       refine (HI2.out _ HPr.out).mono ?_
       rintro e w2 ⟨rfl, hb⟩
       have HB2 := Lib.hid (HB.out.trans (hb.mono hs1))
       have HS2 := Lib.hid ((hb.block w.heap.size HS.out.lt).trans HS.out)
       have HO2 := Lib.hid ((hb.block (w.heap.size + 1) HO.out.lt).trans HO.out)
       obtain ⟨m0, m1, m2, m3, m4, m5, m6⟩ := blk7 (show Blk w2 (w.heap.size + 1) 9 #[.string ⟨#[101, 113]⟩, .string ⟨#[110, 101]⟩, .string ⟨#[108, 116]⟩, .string ⟨#[108, 101]⟩, .string ⟨#[105, 110]⟩, .string ⟨#[110, 111, 116, 105, 110]⟩, .string ⟨#[115, 117, 98]⟩] from HO2.out)
       clear hb)
      all_goals
       go_roundg (7 - 3)
       case measure => have := HRr.out; omega
       case rel => exact ⟨3, by omega, rfl, by rfl, Lib.hid ⟨fun _ => HN.out.1 (by omega), fun _ => HN.out.2.1 (by omega), by simp, fun h => absurd h (by omega), fun h => absurd h (by omega), fun h => absurd h (by omega), fun h => absurd h (by omega)⟩, HB2, HS2, HO2⟩
  · cases b3 with
    | true =>
      have HF := Lib.hid (show V = nLe by rw [HV.out, HN.out.1 (by omega), HN.out.2.1 (by omega), HN.out.2.2.1 (by omega)]; simp)
      clear HV
      go_wp2_with (
       go_at_call 40
       refine (HI3.out _ HPr.out).mono ?_
       rintro e w2 ⟨rfl, hb⟩
       have HB2 := Lib.hid (HB.out.trans (hb.mono hs1))
       have HS2 := Lib.hid ((hb.block w.heap.size HS.out.lt).trans HS.out)
       have HO2 := Lib.hid ((hb.block (w.heap.size + 1) HO.out.lt).trans HO.out)
       obtain ⟨m0, m1, m2, m3, m4, m5, m6⟩ := blk7 (show Blk w2 (w.heap.size + 1) 9 #[.string ⟨#[101, 113]⟩, .string ⟨#[110, 101]⟩, .string ⟨#[108, 116]⟩, .string ⟨#[108, 101]⟩, .string ⟨#[105, 110]⟩, .string ⟨#[110, 111, 116, 105, 110]⟩, .string ⟨#[115, 117, 98]⟩] from HO2.out)
       clear hb)
      all_goals
       go_ret
       rw [HF.out]
       exact ⟨rfl, HB2.out⟩
    | false =>
      go_wp2_with (
       go_at_call 40
       refine (HI3.out _ HPr.out).mono ?_
       rintro e w2 ⟨rfl, hb⟩
       have HB2 := Lib.hid (HB.out.trans (hb.mono hs1))
       have HS2 := Lib.hid ((hb.block w.heap.size HS.out.lt).trans HS.out)
       have HO2 := Lib.hid ((hb.block (w.heap.size + 1) HO.out.lt).trans HO.out)
       obtain ⟨m0, m1, m2, m3, m4, m5, m6⟩ := blk7 (show Blk w2 (w.heap.size + 1) 9 #[.string ⟨#[101, 113]⟩, .string ⟨#[110, 101]⟩, .string ⟨#[108, 116]⟩, .string ⟨#[108, 101]⟩, .string ⟨#[105, 110]⟩, .string ⟨#[110, 111, 116, 105, 110]⟩, .string ⟨#[115, 117, 98]⟩] from HO2.out)
       clear hb)
      all_goals
       go_roundg (7 - 4)
       case measure => have := HRr.out; omega
       case rel => exact ⟨4, by omega, rfl, by rfl, Lib.hid ⟨fun _ => HN.out.1 (by omega), fun _ => HN.out.2.1 (by omega), fun _ => HN.out.2.2.1 (by omega), by simp, fun h => absurd h (by omega), fun h => absurd h (by omega), fun h => absurd h (by omega)⟩, HB2, HS2, HO2⟩
  · cases b4 with
    | true =>
      have HF := Lib.hid (show V = nIn by rw [HV.out, HN.out.1 (by omega), HN.out.2.1 (by omega), HN.out.2.2.1 (by omega), HN.out.2.2.2.1 (by omega)]; simp)
      clear HV
      go_wp2_with (
       go_at_call 40
       refine (HI4.out _ HPr.out).mono ?_
       rintro e w2 ⟨rfl, hb⟩
       have HB2 := Lib.hid (HB.out.trans (hb.mono hs1))
       have HS2 := Lib.hid ((hb.block w.heap.size HS.out.lt).trans HS.out)
       have HO2 := Lib.hid ((hb.block (w.heap.size + 1) HO.out.lt).trans HO.out)
       obtain ⟨m0, m1, m2, m3, m4, m5, m6⟩ := blk7 (show Blk w2 (w.heap.size + 1) 9 #[.string ⟨#[101, 113]⟩, .string ⟨#[110, 101]⟩, .string ⟨#[108, 116]⟩, .string ⟨#[108, 101]⟩, .string ⟨#[105, 110]⟩, .string ⟨#[110, 111, 116, 105, 110]⟩, .string ⟨#[115, 117, 98]⟩] from HO2.out)
       clear hb)
      all_goals
       go_ret
       rw [HF.out]
       exact ⟨rfl, HB2.out⟩
    | false =>
      go_wp2_with (
       go_at_call 40
       refine (HI4.out _ HPr.out).mono ?_
       rintro e w2 ⟨rfl, hb⟩
       have HB2 := Lib.hid (HB.out.trans (hb.mono hs1))
       have HS2 := Lib.hid ((hb.block w.heap.size HS.out.lt).trans HS.out)
       have HO2 := Lib.hid ((hb.block (w.heap.size + 1) HO.out.lt).trans HO.out)
       obtain ⟨m0, m1, m2, m3, m4, m5, m6⟩ := blk7 (show Blk w2 (w.heap.size + 1) 9 #[.string ⟨#[101, 113]⟩, .string ⟨#[110, 101]⟩, .string ⟨#[108, 116]⟩, .string ⟨#[108, 101]⟩, .string ⟨#[105, 110]⟩, .string ⟨#[110, 111, 116, 105, 110]⟩, .string ⟨#[115, 117, 98]⟩] from HO2.out)
       clear hb)
      all_goals
       go_roundg (7 - 5)
       case measure => have := HRr.out; omega
       case rel => exact ⟨5, by omega, rfl, by rfl, Lib.hid ⟨fun _ => HN.out.1 (by omega), fun _ => HN.out.2.1 (by omega), fun _ => HN.out.2.2.1 (by omega), fun _ => HN.out.2.2.2.1 (by omega), by simp, fun h => absurd h (by omega), fun h => absurd h (by omega)⟩, HB2, HS2, HO2⟩
  · cases b5 with
    | true =>
      have HF := Lib.hid (show V = nNotin by rw [HV.out, HN.out.1 (by omega), HN.out.2.1 (by omega), HN.out.2.2.1 (by omega), HN.out.2.2.2.1 (by omega), HN.out.2.2.2.2.1 (by omega)]; simp)
      clear HV
      go_wp2_with (
       go_at_call 40
       refine (HI5.out _ HPr.out).mono ?_
       rintro e w2 ⟨rfl, hb⟩
       have HB2 := Lib.hid (HB.out.trans (hb.mono hs1))
       have HS2 := Lib.hid ((hb.block w.heap.size HS.out.lt).trans HS.out)
       have HO2 := Lib.hid ((hb.block (w.heap.size + 1) HO.out.lt).trans HO.out)
       obtain ⟨m0, m1, m2, m3, m4, m5, m6⟩ := blk7 (show Blk w2 (w.heap.size + 1) 9 #[.string ⟨#[101, 113]⟩, .string ⟨#[110, 101]⟩, .string ⟨#[108, 116]⟩, .string ⟨#[108, 101]⟩, .string ⟨#[105, 110]⟩, .string ⟨#[110, 111, 116, 105, 110]⟩, .string ⟨#[115, 117, 98]⟩] from HO2.out)
       clear hb)
      all_goals
       go_ret
       rw [HF.out]
       exact ⟨rfl, HB2.out⟩
    | false =>
      go_wp2_with (
       go_at_call 40
       refine (HI5.out _ HPr.out).mono ?_
       rintro e w2 ⟨rfl, hb⟩
       have HB2 := Lib.hid (HB.out.trans (hb.mono hs1))
       have HS2 := Lib.hid ((hb.block w.heap.size HS.out.lt).trans HS.out)
       have HO2 := Lib.hid ((hb.block (w.heap.size + 1) HO.out.lt).trans HO.out)
       obtain ⟨m0, m1, m2, m3, m4, m5, m6⟩ := blk7 (show Blk w2 (w.heap.size + 1) 9 #[.string ⟨#[101, 113]⟩, .string ⟨#[110, 101]⟩, .string ⟨#[108, 116]⟩, .string ⟨#[108, 101]⟩, .string ⟨#[105, 110]⟩, .string ⟨#[110, 111, 116, 105, 110]⟩, .string ⟨#[115, 117, 98]⟩] from HO2.out)
       clear hb)
      all_goals
       go_roundg (7 - 6)
       case measure => have := HRr.out; omega
       case rel => exact ⟨6, by omega, rfl, by rfl, Lib.hid ⟨fun _ => HN.out.1 (by omega), fun _ => HN.out.2.1 (by omega), fun _ => HN.out.2.2.1 (by omega), fun _ => HN.out.2.2.2.1 (by omega), fun _ => HN.out.2.2.2.2.1 (by omega), by simp, fun h => absurd h (by omega)⟩, HB2, HS2, HO2⟩
  · cases b6 with
    | true =>
      have HF := Lib.hid (show V = nSub by rw [HV.out, HN.out.1 (by omega), HN.out.2.1 (by omega), HN.out.2.2.1 (by omega), HN.out.2.2.2.1 (by omega), HN.out.2.2.2.2.1 (by omega), HN.out.2.2.2.2.2.1 (by omega)]; simp)
      clear HV
      go_wp2_with (
       go_at_call 40
       refine (HI6.out _ HPr.out).mono ?_
       rintro e w2 ⟨rfl, hb⟩
       have HB2 := Lib.hid (HB.out.trans (hb.mono hs1))
       have HS2 := Lib.hid ((hb.block w.heap.size HS.out.lt).trans HS.out)
       have HO2 := Lib.hid ((hb.block (w.heap.size + 1) HO.out.lt).trans HO.out)
       obtain ⟨m0, m1, m2, m3, m4, m5, m6⟩ := blk7 (show Blk w2 (w.heap.size + 1) 9 #[.string ⟨#[101, 113]⟩, .string ⟨#[110, 101]⟩, .string ⟨#[108, 116]⟩, .string ⟨#[108, 101]⟩, .string ⟨#[105, 110]⟩, .string ⟨#[110, 111, 116, 105, 110]⟩, .string ⟨#[115, 117, 98]⟩] from HO2.out)
       clear hb)
      all_goals
       go_ret
       rw [HF.out]
       exact ⟨rfl, HB2.out⟩
    | false =>
      go_wp2_with (
       go_at_call 40
       refine (HI6.out _ HPr.out).mono ?_
       rintro e w2 ⟨rfl, hb⟩
       have HB2 := Lib.hid (HB.out.trans (hb.mono hs1))
       have HS2 := Lib.hid ((hb.block w.heap.size HS.out.lt).trans HS.out)
       have HO2 := Lib.hid ((hb.block (w.heap.size + 1) HO.out.lt).trans HO.out)
       obtain ⟨m0, m1, m2, m3, m4, m5, m6⟩ := blk7 (show Blk w2 (w.heap.size + 1) 9 #[.string ⟨#[101, 113]⟩, .string ⟨#[110, 101]⟩, .string ⟨#[108, 116]⟩, .string ⟨#[108, 101]⟩, .string ⟨#[105, 110]⟩, .string ⟨#[110, 111, 116, 105, 110]⟩, .string ⟨#[115, 117, 98]⟩] from HO2.out)
       clear hb)
      all_goals
       go_roundg (7 - 7)
       case measure => have := HRr.out; omega
       case rel => exact ⟨7, by omega, rfl, by rfl, Lib.hid ⟨fun _ => HN.out.1 (by omega), fun _ => HN.out.2.1 (by omega), fun _ => HN.out.2.2.1 (by omega), fun _ => HN.out.2.2.2.1 (by omega), fun _ => HN.out.2.2.2.2.1 (by omega), fun _ => HN.out.2.2.2.2.2.1 (by omega), by simp⟩, HB2, HS2, HO2⟩
  · have HF := Lib.hid (show V = [] by rw [HV.out, HN.out.1 (by omega), HN.out.2.1 (by omega), HN.out.2.2.1 (by omega), HN.out.2.2.2.1 (by omega), HN.out.2.2.2.2.1 (by omega), HN.out.2.2.2.2.2.1 (by omega), HN.out.2.2.2.2.2.2 (by omega)]; rfl)
    go_wp2_with fail
    go_ret
    rw [HF.out]
    exact ⟨rfl, HB.out⟩
end Go.Proofs.YteikakoheibnjaaDoor
namespace Go.Proofs.YteikakoheibnjaaDoor
open Go Go.RowKit

theorem leftF_step (l : List Tok) (g : PS → Node × PS) (x op : List UInt8) (f : Nat) (n : Node) (s : PS) : leftF l g x op (f + 1) n s = if isW l s x = true then leftF l g x op f (.node op [] 0 (nowP l s).at_ [n, (g (nextP l s)).1]) (g (nextP l s)).2 else (n, s) := rfl
theorem leftP_eq (l : List Tok) (g : PS → Node × PS) (x op : List UInt8) (s : PS) : leftP l g x op s = leftF l g x op (l.length + 1) (g s).1 (g s).2 := rfl
def NLaw (f : FuncId) (l : List Tok) (d : Nat) (u : PS → Node × PS) : Prop := ∀ (W : World) (q : Nat) (A : Option Addr) (c : Nat) (s : PS), Ps W q A c l s → Calls Tryd.prog f #[.pointer (some ⟨q, 0, none⟩), .int .i64 (d : Nat)] W (NPost W q A c l (u s))

set_option maxRecDepth 100000 in
set_option maxHeartbeats 8000000 in
theorem pand_any {l : List Tok} {d : Nat} {u : PS → Node × PS} (HU : NLaw 139 l d u) (hu : ∀ s, s.i ≤ (u s).2.i) : NLaw 119 l d (leftP l u [38] nAnd) := by
 intro w q A c s h
 have HP0 := Lib.hid h
 have hq := h.qlt
 have HI := Lib.hid HU
 have HIS := Lib.hid (fun W s' (hW : Ps W q A c l s') => pis_any hW [38])
 have HNX := Lib.hid (fun W s' (hW : Ps W q A c l s') => pnext_any hW)
 have HADV := Lib.hid hu
 have HV := Lib.hid (leftP_eq l u [38] nAnd s)
 clear h HU hu
 generalize leftP l u [38] nAnd s = V at *
 have HI1 := Lib.hid (fun W (hW : Ps W q A c l s) => HI.out W q A c s hW)
 generalize hr : u s = r at *
 clear hr
 obtain ⟨⟨ro, rn, rk, rp, rs⟩, s1⟩ := r
 simp only at HV
 go_enter Tryd.func119, Tryd.ntmps119
 go_upto_region 2 with (
    go_at_call 139
    refine calls_at (fun W => Ps W q A c l s ∧ Kq q w W ∧ w.heap.size + 1 ≤ W.heap.size ∧ Blk W (w.heap.size) 24 zN) (fun W hW => HI1.out W hW.1) ?_ ?_
    · refine ⟨?_, ?_, ?_, ?_⟩
      all_goals repeat' (first | (with_reducible first | exact HP0.out | exact HK0.out | exact HB0_0.out | exact Fr.refl _ _ | apply ps_far | apply Ps.alloc | apply Ps.drew | apply Fr.drew | apply blk_drew | apply kq_far | apply Fr.alloc | apply tokZ | apply nodZ0 | exact blk_new _ _ _ | apply blk_alloc | apply Blk.other) | omega | (simp; done) | (simp <;> omega))
    rintro W ⟨hp, hk, hlo, hb0⟩
    intro e w1 hpost
    obtain ⟨A1, c1, rfl, hnn, hp2, hfr⟩ := npost_open hpost
    have hsz := hfr.size
    have hmo1 : w.heap.size + 1 ≤ w1.heap.size := Nat.le_trans hlo hsz
    have HNN1 := Lib.hid (show NodeF w1 (w.heap.size + 1) w1.heap.size _ A1 c1 from nodef_wide hnn hlo (Nat.le_refl _))
    have hqs : q < w1.heap.size := hp2.qlt
    have hl0 := hb0.lt
    have ht0 : Blk w1 (w.heap.size) 24 zN := hfr.blk hb0 (by omega)
    have hl1_0 : w.heap.size < w1.heap.size := ht0.lt
    obtain ⟨r1_0_0, r1_0_1, r1_0_2, r1_0_3, r1_0_4⟩ := blk5 ht0
    obtain ⟨y1_0_0, y1_0_1, y1_0_2, y1_0_3, y1_0_4⟩ := blk5f ht0
    have HB0_1 := Lib.hid ht0
    have HP1 := Lib.hid hp2
    have HK1 := Lib.hid (hk.trans hfr)
    clear hp hk hp2 hfr hsz hlo hb0 hl0 ht0 hnn)
 go_loopg [] (l.length + 2) (fun g wr => ∃ (f : Nat) (no nn : List UInt8) (nk np : Int) (ns : List Node) (NA : Option Addr) (nc : Nat) (s2 : PS), f ≤ l.length + 1 ∧ g = f + 1 ∧ l.length < f + s2.i + 1 ∧ Hid (V = leftF l u [38] nAnd f (.node no nn nk np ns) s2) ∧ Hid (Ps wr q A c l s2) ∧ Hid (Kq q w wr) ∧
  Hid (Blk wr w.heap.size 24 zN) ∧ Hid (Blk wr w1.heap.size 24 (nC no nn nk np NA ns.length nc)) ∧ Hid (NodeX wr (w.heap.size + 1) wr.heap.size w1.heap.size (.node no nn nk np ns) NA nc))
 case atStart =>
  refine ⟨l.length + 1, ro, rn, rk, rp, rs, A1, c1, s1, Nat.le_refl _, rfl, by omega, HV, Lib.hid ?_, Lib.hid ?_, Lib.hid ?_, Lib.hid ?_, Lib.hid ?_⟩
  · repeat' (first | (with_reducible first | exact HP1.out | exact HK1.out | exact HB0_1.out | apply ps_far | apply Ps.alloc | apply Ps.drew | apply kq_far | apply Fr.alloc | apply Fr.drew | apply nodZ0 | exact blk_new _ _ _ | apply blk_drew | apply blk_alloc | apply Blk.other | apply nodex_far | apply nodex_alloc | apply nodex_drew) | omega | (simp; done) | (simp <;> omega))
  · repeat' (first | (with_reducible first | exact HP1.out | exact HK1.out | exact HB0_1.out | apply ps_far | apply Ps.alloc | apply Ps.drew | apply kq_far | apply Fr.alloc | apply Fr.drew | apply nodZ0 | exact blk_new _ _ _ | apply blk_drew | apply blk_alloc | apply Blk.other | apply nodex_far | apply nodex_alloc | apply nodex_drew) | omega | (simp; done) | (simp <;> omega))
  · repeat' (first | (with_reducible first | exact HP1.out | exact HK1.out | exact HB0_1.out | apply ps_far | apply Ps.alloc | apply Ps.drew | apply kq_far | apply Fr.alloc | apply Fr.drew | apply nodZ0 | exact blk_new _ _ _ | apply blk_drew | apply blk_alloc | apply Blk.other | apply nodex_far | apply nodex_alloc | apply nodex_drew) | omega | (simp; done) | (simp <;> omega))
  · repeat' (first | (with_reducible first | exact HP1.out | exact HK1.out | exact HB0_1.out | apply ps_far | apply Ps.alloc | apply Ps.drew | apply kq_far | apply Fr.alloc | apply Fr.drew | apply nodZ0 | exact blk_new _ _ _ | apply blk_drew | apply blk_alloc | apply Blk.other | apply nodex_far | apply nodex_alloc | apply nodex_drew) | omega | (simp; done) | (simp <;> omega))
  · refine nodex_wide (lo := w.heap.size + 1) (hi := w1.heap.size) (nodex_of ?_ (Or.inr (Nat.le_refl _))) (Nat.le_refl _) (by simp)
    exact nodef_alloc (nodef_wide HNN1.out (by omega) (Nat.le_refl _)) (Nat.le_refl _) _
 case round =>
  obtain ⟨f, no, nn, nk, np, ns, NA, nc, s2, hf1, hg, hfs, HR, HP2, HK2, HB0_2, HB1_2, HNn_2⟩ := hrel
  obtain ⟨w2, hw2⟩ : ∃ x, x = wr := ⟨_, rfl⟩
  subst hw2
  have HG := Lib.hid hg
  clear hg HV
  have hi2 := HP2.out.lt
  have hl2_0 := HB0_2.out.lt
  have hl2_1 := HB1_2.out.lt
  obtain ⟨r2_0_0, r2_0_1, r2_0_2, r2_0_3, r2_0_4⟩ := blk5 HB0_2.out
  obtain ⟨y2_0_0, y2_0_1, y2_0_2, y2_0_3, y2_0_4⟩ := blk5f HB0_2.out
  obtain ⟨r2_1_0, r2_1_1, r2_1_2, r2_1_3, r2_1_4⟩ := blk5 HB1_2.out
  obtain ⟨y2_1_0, y2_1_1, y2_1_2, y2_1_3, y2_1_4⟩ := blk5f HB1_2.out
  obtain ⟨f, rfl⟩ : ∃ k, f = k + 1 := ⟨f - 1, by omega⟩
  clear HI1
  rw [leftF_step] at HR
  have HNX2 := Lib.hid (fun W (hW : Ps W q A c l s2) => HNX.out W s2 hW)
  have HIS2 := Lib.hid (fun W (hW : Ps W q A c l s2) => HIS.out W s2 hW)
  have hup : isW l s2 [38] = true → s2.i + 1 ≤ (u (nextP l s2)).2.i := fun hh => by
   have h1 := HADV.out (nextP l s2)
   have h2 := isW_next hh
   omega
  clear HNX HIS HADV
  have HI3 := Lib.hid (fun W (hW : Ps W q A c l (nextP l s2)) => HI.out W q A c (nextP l s2) hW)
  clear HI
  generalize u (nextP l s2) = pr at *
  generalize nextP l s2 = s3 at *
  generalize nowP l s2 = t at *
  generalize isW l s2 [38] = b at *
  obtain ⟨⟨po, pn, pk, pp, ps⟩, s4⟩ := pr
  simp only at HR hup
  unfold tokV at HNX2
  cases b with
  | false =>
    replace HR := Lib.hid (HR.out.trans (if_neg (by decide)))
    clear hup
    go_wp2_with (first
   | (
     go_at_call 40
     refine calls_at (fun W => Ps W q A c l s2 ∧ Kq q w W ∧ w2.heap.size ≤ W.heap.size ∧ Blk W (w.heap.size) 24 zN ∧ Blk W (w1.heap.size) 24 (nC no nn nk np NA ns.length nc) ∧ NodeX W (w.heap.size + 1) (w2.heap.size) (w1.heap.size) (.node no nn nk np ns) NA nc) (fun W hW => HIS2.out W hW.1) ?_ ?_
     · refine ⟨?_, ?_, ?_, ?_, ?_, ?_⟩
       all_goals repeat' (first | (with_reducible first | exact HP2.out | exact HK2.out | exact HB0_2.out | exact HB1_2.out | exact HNn_2.out | exact Fr.refl _ _ | apply ps_far | apply Ps.alloc | apply Ps.drew | apply Fr.drew | apply blk_drew | apply kq_far | apply Fr.alloc | apply tokZ | apply nodZ0 | exact blk_new _ _ _ | apply blk_alloc | apply Blk.other | apply nodex_far | apply nodex_alloc | apply nodex_drew) | omega | (simp; done) | (simp <;> omega))
     rintro W ⟨hp, hk, hlo, hb0, hb1, hxn⟩
     rintro e w3 ⟨rfl, hb⟩
     have hfr := Kq.of_below (q := q) hb
     have hp2 := hp.below hb
     have hsz := hfr.size
     have hmo3 : w2.heap.size ≤ w3.heap.size := Nat.le_trans hlo hsz
     have hqs : q < w3.heap.size := hp2.qlt
     have hl0 := hb0.lt
     have ht0 : Blk w3 (w.heap.size) 24 zN := hfr.blk hb0 (by omega)
     have hl3_0 : w.heap.size < w3.heap.size := ht0.lt
     obtain ⟨r3_0_0, r3_0_1, r3_0_2, r3_0_3, r3_0_4⟩ := blk5 ht0
     obtain ⟨y3_0_0, y3_0_1, y3_0_2, y3_0_3, y3_0_4⟩ := blk5f ht0
     have HB0_3 := Lib.hid ht0
     have hl1 := hb1.lt
     have ht1 : Blk w3 (w1.heap.size) 24 (nC no nn nk np NA ns.length nc) := hfr.blk hb1 (by omega)
     have hl3_1 : w1.heap.size < w3.heap.size := ht1.lt
     obtain ⟨r3_1_0, r3_1_1, r3_1_2, r3_1_3, r3_1_4⟩ := blk5 ht1
     obtain ⟨y3_1_0, y3_1_1, y3_1_2, y3_1_3, y3_1_4⟩ := blk5f ht1
     have HB1_3 := Lib.hid ht1
     have HNn_3 := Lib.hid (nodex_kq hxn hfr (by omega) (by omega))
     have HP3 := Lib.hid hp2
     have HK3 := Lib.hid (hk.trans hfr)
     clear hp hk hp2 hfr hsz hlo hb0 hl0 ht0 hb1 hl1 ht1 hxn hb
     clear r2_0_0 r2_0_1 r2_0_2 r2_0_3 r2_0_4 y2_0_0 y2_0_1 y2_0_2 y2_0_3 y2_0_4 r2_1_0 r2_1_1 r2_1_2 r2_1_3 r2_1_4 y2_1_0 y2_1_1 y2_1_2 y2_1_3 y2_1_4))
    all_goals
     refine bodyPost_ret (res_one (by rfl) _ _ w.heap.size #[.string ⟨no.toArray⟩, .string ⟨nn.toArray⟩, .int .i64 nk, .int .i64 np, .slice NA ns.length nc] rfl ?_ Tryd.underlying24 inf_node5) rfl ⟨NA, nc, by rw [HR.out]; rfl, ?_, ?_, ?_⟩
     · repeat' (first | (with_reducible first | exact HP3.out | exact HK3.out | exact HB0_3.out | exact HB1_3.out | exact HNn_3.out | apply ps_far | apply Ps.alloc | apply Ps.drew | apply kq_far | apply Fr.alloc | apply Fr.drew | apply nodZ0 | exact blk_new _ _ _ | apply blk_drew | apply blk_alloc | apply Blk.other | apply nodex_far | apply nodex_alloc | apply nodex_drew) | omega | (simp; done) | (simp <;> omega))
     · rw [HR.out]
       refine nodef_of (g := w1.heap.size) (nodex_wide (lo := w.heap.size + 1) (hi := w2.heap.size) ?_ (by omega) (by simp <;> omega))
       repeat' (first | (with_reducible first | exact HP3.out | exact HK3.out | exact HB0_3.out | exact HB1_3.out | exact HNn_3.out | apply ps_far | apply Ps.alloc | apply Ps.drew | apply kq_far | apply Fr.alloc | apply Fr.drew | apply nodZ0 | exact blk_new _ _ _ | apply blk_drew | apply blk_alloc | apply Blk.other | apply nodex_far | apply nodex_alloc | apply nodex_drew) | omega | (simp; done) | (simp <;> omega))
     · rw [HR.out]
       repeat' (first | (with_reducible first | exact HP3.out | exact HK3.out | exact HB0_3.out | exact HB1_3.out | exact HNn_3.out | apply ps_far | apply Ps.alloc | apply Ps.drew | apply kq_far | apply Fr.alloc | apply Fr.drew | apply nodZ0 | exact blk_new _ _ _ | apply blk_drew | apply blk_alloc | apply Blk.other | apply nodex_far | apply nodex_alloc | apply nodex_drew) | omega | (simp; done) | (simp <;> omega))
     · repeat' (first | (with_reducible first | exact HP3.out | exact HK3.out | exact HB0_3.out | exact HB1_3.out | exact HNn_3.out | apply ps_far | apply Ps.alloc | apply Ps.drew | apply kq_far | apply Fr.alloc | apply Fr.drew | apply nodZ0 | exact blk_new _ _ _ | apply blk_drew | apply blk_alloc | apply Blk.other | apply nodex_far | apply nodex_alloc | apply nodex_drew) | omega | (simp; done) | (simp <;> omega))
  | true =>
    replace HR := Lib.hid (HR.out.trans (if_pos rfl))
    have hup2 := hup rfl
    clear hup
    go_upto_region 4 with (first
     | (
    go_at_call 40
    refine calls_at (fun W => Ps W q A c l s2 ∧ Kq q w W ∧ w2.heap.size ≤ W.heap.size ∧ Blk W (w.heap.size) 24 zN ∧ Blk W (w1.heap.size) 24 (nC no nn nk np NA ns.length nc) ∧ NodeX W (w.heap.size + 1) (w2.heap.size) (w1.heap.size) (.node no nn nk np ns) NA nc) (fun W hW => HIS2.out W hW.1) ?_ ?_
    · refine ⟨?_, ?_, ?_, ?_, ?_, ?_⟩
      all_goals repeat' (first | (with_reducible first | exact HP2.out | exact HK2.out | exact HB0_2.out | exact HB1_2.out | exact HNn_2.out | exact Fr.refl _ _ | apply ps_far | apply Ps.alloc | apply Ps.drew | apply Fr.drew | apply blk_drew | apply kq_far | apply Fr.alloc | apply tokZ | apply nodZ0 | exact blk_new _ _ _ | apply blk_alloc | apply Blk.other | apply nodex_far | apply nodex_alloc | apply nodex_drew) | omega | (simp; done) | (simp <;> omega))
    rintro W ⟨hp, hk, hlo, hb0, hb1, hxn⟩
    rintro e w3 ⟨rfl, hb⟩
    have hfr := Kq.of_below (q := q) hb
    have hp2 := hp.below hb
    have hsz := hfr.size
    have hmo3 : w2.heap.size ≤ w3.heap.size := Nat.le_trans hlo hsz
    have hqs : q < w3.heap.size := hp2.qlt
    have hl0 := hb0.lt
    have ht0 : Blk w3 (w.heap.size) 24 zN := hfr.blk hb0 (by omega)
    have hl3_0 : w.heap.size < w3.heap.size := ht0.lt
    obtain ⟨r3_0_0, r3_0_1, r3_0_2, r3_0_3, r3_0_4⟩ := blk5 ht0
    obtain ⟨y3_0_0, y3_0_1, y3_0_2, y3_0_3, y3_0_4⟩ := blk5f ht0
    have HB0_3 := Lib.hid ht0
    have hl1 := hb1.lt
    have ht1 : Blk w3 (w1.heap.size) 24 (nC no nn nk np NA ns.length nc) := hfr.blk hb1 (by omega)
    have hl3_1 : w1.heap.size < w3.heap.size := ht1.lt
    obtain ⟨r3_1_0, r3_1_1, r3_1_2, r3_1_3, r3_1_4⟩ := blk5 ht1
    obtain ⟨y3_1_0, y3_1_1, y3_1_2, y3_1_3, y3_1_4⟩ := blk5f ht1
    have HB1_3 := Lib.hid ht1
    have HNn_3 := Lib.hid (nodex_kq hxn hfr (by omega) (by omega))
    have HP3 := Lib.hid hp2
    have HK3 := Lib.hid (hk.trans hfr)
    clear hp hk hp2 hfr hsz hlo hb0 hl0 ht0 hb1 hl1 ht1 hxn hb
    clear r2_0_0 r2_0_1 r2_0_2 r2_0_3 r2_0_4 y2_0_0 y2_0_1 y2_0_2 y2_0_3 y2_0_4 r2_1_0 r2_1_1 r2_1_2 r2_1_3 r2_1_4 y2_1_0 y2_1_1 y2_1_2 y2_1_3 y2_1_4)
     | (
    go_at_call 72
    refine calls_at (fun W => Ps W q A c l s2 ∧ Kq q w W ∧ w3.heap.size ≤ W.heap.size ∧ Blk W (w.heap.size) 24 zN ∧ Blk W (w1.heap.size) 24 (nC no nn nk np NA ns.length nc) ∧ NodeX W (w.heap.size + 1) (w2.heap.size) (w1.heap.size) (.node no nn nk np ns) NA nc) (fun W hW => HNX2.out W hW.1) ?_ ?_
    · refine ⟨?_, ?_, ?_, ?_, ?_, ?_⟩
      all_goals repeat' (first | (with_reducible first | exact HP3.out | exact HK3.out | exact HB0_3.out | exact HB1_3.out | exact HNn_3.out | exact Fr.refl _ _ | apply ps_far | apply Ps.alloc | apply Ps.drew | apply Fr.drew | apply blk_drew | apply kq_far | apply Fr.alloc | apply tokZ | apply nodZ0 | exact blk_new _ _ _ | apply blk_alloc | apply Blk.other | apply nodex_far | apply nodex_alloc | apply nodex_drew) | omega | (simp; done) | (simp <;> omega))
    rintro W ⟨hp, hk, hlo, hb0, hb1, hxn⟩
    intro e w4 hpost
    obtain ⟨rfl, hp2, hfr⟩ := hpost
    have hsz := hfr.size
    have hmo4 : w3.heap.size ≤ w4.heap.size := Nat.le_trans hlo hsz
    have hqs : q < w4.heap.size := hp2.qlt
    have hl0 := hb0.lt
    have ht0 : Blk w4 (w.heap.size) 24 zN := hfr.blk hb0 (by omega)
    have hl4_0 : w.heap.size < w4.heap.size := ht0.lt
    obtain ⟨r4_0_0, r4_0_1, r4_0_2, r4_0_3, r4_0_4⟩ := blk5 ht0
    obtain ⟨y4_0_0, y4_0_1, y4_0_2, y4_0_3, y4_0_4⟩ := blk5f ht0
    have HB0_4 := Lib.hid ht0
    have hl1 := hb1.lt
    have ht1 : Blk w4 (w1.heap.size) 24 (nC no nn nk np NA ns.length nc) := hfr.blk hb1 (by omega)
    have hl4_1 : w1.heap.size < w4.heap.size := ht1.lt
    obtain ⟨r4_1_0, r4_1_1, r4_1_2, r4_1_3, r4_1_4⟩ := blk5 ht1
    obtain ⟨y4_1_0, y4_1_1, y4_1_2, y4_1_3, y4_1_4⟩ := blk5f ht1
    have HB1_4 := Lib.hid ht1
    have HNn_4 := Lib.hid (nodex_kq hxn hfr (by omega) (by omega))
    have HP4 := Lib.hid hp2
    have HK4 := Lib.hid (hk.trans hfr)
    clear hp hk hp2 hfr hsz hlo hb0 hl0 ht0 hb1 hl1 ht1 hxn
    clear r3_0_0 r3_0_1 r3_0_2 r3_0_3 r3_0_4 y3_0_0 y3_0_1 y3_0_2 y3_0_3 y3_0_4 hl3_0 r3_1_0 r3_1_1 r3_1_2 r3_1_3 r3_1_4 y3_1_0 y3_1_1 y3_1_2 y3_1_3 y3_1_4 hl3_1))
    refine wp_named (fun W => Ps W q A c l s3 ∧ Kq q w W ∧ w4.heap.size + 1 ≤ W.heap.size ∧ Blk W (w.heap.size) 24 zN ∧ Blk W (w1.heap.size) 24 (nC no nn nk np NA ns.length nc) ∧ Blk W (w4.heap.size) 80 (tC t) ∧ NodeX W (w.heap.size + 1) (w2.heap.size) (w1.heap.size) (.node no nn nk np ns) NA nc) ?_ ?_
    · refine ⟨?_, ?_, ?_, ?_, ?_, ?_, ?_⟩
      all_goals repeat' (first | (with_reducible first | exact HP4.out | exact HK4.out | exact HB0_4.out | exact HB1_4.out | exact HB2_4.out | exact HNn_4.out | exact Fr.refl _ _ | apply ps_far | apply Ps.alloc | apply Ps.drew | apply Fr.drew | apply blk_drew | apply kq_far | apply Fr.alloc | apply tokZ | apply nodZ0 | exact blk_new _ _ _ | apply blk_alloc | apply Blk.other | apply nodex_far | apply nodex_alloc | apply nodex_drew) | omega | (simp; done) | (simp <;> omega))
    clear r4_0_0 r4_0_1 r4_0_2 r4_0_3 r4_0_4 y4_0_0 y4_0_1 y4_0_2 y4_0_3 y4_0_4 hl4_0 r4_1_0 r4_1_1 r4_1_2 r4_1_3 r4_1_4 y4_1_0 y4_1_1 y4_1_2 y4_1_3 y4_1_4 hl4_1
    rintro w5 ⟨hp2, hk2, hmo5, ht0, ht1, ht2, hxn⟩
    have hqs : q < w5.heap.size := hp2.qlt
    have hl5_0 : w.heap.size < w5.heap.size := ht0.lt
    obtain ⟨r5_0_0, r5_0_1, r5_0_2, r5_0_3, r5_0_4⟩ := blk5 ht0
    obtain ⟨y5_0_0, y5_0_1, y5_0_2, y5_0_3, y5_0_4⟩ := blk5f ht0
    have HB0_5 := Lib.hid ht0
    have hl5_1 : w1.heap.size < w5.heap.size := ht1.lt
    obtain ⟨r5_1_0, r5_1_1, r5_1_2, r5_1_3, r5_1_4⟩ := blk5 ht1
    obtain ⟨y5_1_0, y5_1_1, y5_1_2, y5_1_3, y5_1_4⟩ := blk5f ht1
    have HB1_5 := Lib.hid ht1
    have hl5_2 : w4.heap.size < w5.heap.size := ht2.lt
    obtain ⟨r5_2_0, r5_2_1, r5_2_2, r5_2_3⟩ := blk4 ht2
    obtain ⟨y5_2_0, y5_2_1, y5_2_2, y5_2_3⟩ := blk4f ht2
    have HB2_5 := Lib.hid ht2
    have HNn_5 := Lib.hid hxn
    have HP5 := Lib.hid hp2
    have HK5 := Lib.hid hk2
    clear hp2 hk2 ht0 ht1 ht2 hxn
    have HC6 : Hid (Calls Tryd.prog 139 #[.pointer (some ⟨q, 0, none⟩), .int .i64 (d : Nat)] w5.drew fun e w6 => ∃ A6 c6, e = .returned (.agg #[.string ⟨po.toArray⟩, .string ⟨pn.toArray⟩, .int .i64 pk, .int .i64 pp, .slice A6 ps.length c6]) ∧ Blk w6 w4.heap.size 80 (tC t) ∧ Fold w w6 q w.heap.size w1.heap.size (w.heap.size + 1) w2.heap.size A c l s4 no nn nk np ns NA nc (.node po pn pk pp ps) A6 c6) := by
     refine Lib.hid ((HI3.out _ HP5.out.drew).mono ?_)
     intro e w6 hpost
     obtain ⟨A6, c6, rfl, hnn, hp6, hk6⟩ := npost_open hpost
     have hs6 : w5.heap.size ≤ w6.heap.size := hk6.size
     refine ⟨A6, c6, rfl, hk6.blk (blk_drew HB2_5.out) (by omega), hp6, HK5.out.drew.trans hk6, hk6.blk (blk_drew HB0_5.out) (by omega), hk6.blk (blk_drew HB1_5.out) (by omega), nodex_kq (nodex_drew HNn_5.out) hk6 (by omega) (by show w2.heap.size ≤ w5.heap.size; omega), ?_, by omega⟩
     exact nodex_wide (nodex_of hnn (Or.inl (by show w1.heap.size < w5.heap.size; omega))) (by show w.heap.size + 1 ≤ w5.heap.size; omega) (Nat.le_refl _)
    clear HI3 HNX2 HIS2
    go_region_with (
     go_at_call 139
     refine HC6.out.mono ?_
     rintro e w6 ⟨A6, c6, rfl, ht6, hF6⟩
     obtain ⟨k60, k61, k62, k63, k64⟩ := blk5 hF6.box
     obtain ⟨z60, z61, z62, z63, z64⟩ := blk5f hF6.box
     obtain ⟨k70, k71, k72, k73, k74⟩ := blk5 hF6.res
     obtain ⟨z70, z71, z72, z73, z74⟩ := blk5f hF6.res
     have k6t := (blk4 ht6).2.2.2
     have HF6 := Lib.hid hF6
     have hb6 : w1.heap.size < w6.heap.size := hF6.box.lt
     have hb7 : w4.heap.size < w6.heap.size := ht6.lt
     have hb8 : ¬ w4.heap.size = w6.heap.size := by omega
     clear ht6 hF6)
    all_goals
     go_wp2_with fail
     go_roundg (f + 1)
     case measure => have := HG.out; omega
     case rel => exact ⟨f, nAnd, [], 0, (t.at_ : Nat), [.node no nn nk np ns, .node po pn pk pp ps], some ⟨w6.heap.size, 0, none⟩, 2, s4, by omega, rfl, by omega, HR, fold_end HF6.out nAnd (by decide) _ _ rfl⟩

set_option maxRecDepth 100000 in
set_option maxHeartbeats 8000000 in
theorem por_any {l : List Tok} {d : Nat} {u : PS → Node × PS} (HU : NLaw 119 l d u) (hu : ∀ s, s.i ≤ (u s).2.i) : NLaw 96 l d (leftP l u [124] nOr) := by
 intro w q A c s h
 have HP0 := Lib.hid h
 have hq := h.qlt
 have HI := Lib.hid HU
 have HIS := Lib.hid (fun W s' (hW : Ps W q A c l s') => pis_any hW [124])
 have HNX := Lib.hid (fun W s' (hW : Ps W q A c l s') => pnext_any hW)
 have HADV := Lib.hid hu
 have HV := Lib.hid (leftP_eq l u [124] nOr s)
 clear h HU hu
 generalize leftP l u [124] nOr s = V at *
 have HI1 := Lib.hid (fun W (hW : Ps W q A c l s) => HI.out W q A c s hW)
 generalize hr : u s = r at *
 clear hr
 obtain ⟨⟨ro, rn, rk, rp, rs⟩, s1⟩ := r
 simp only at HV
 go_enter Tryd.func96, Tryd.ntmps96
 go_upto_region 2 with (
    go_at_call 119
    refine calls_at (fun W => Ps W q A c l s ∧ Kq q w W ∧ w.heap.size + 1 ≤ W.heap.size ∧ Blk W (w.heap.size) 24 zN) (fun W hW => HI1.out W hW.1) ?_ ?_
    · refine ⟨?_, ?_, ?_, ?_⟩
      all_goals repeat' (first | (with_reducible first | exact HP0.out | exact HK0.out | exact HB0_0.out | exact Fr.refl _ _ | apply ps_far | apply Ps.alloc | apply Ps.drew | apply Fr.drew | apply blk_drew | apply kq_far | apply Fr.alloc | apply tokZ | apply nodZ0 | exact blk_new _ _ _ | apply blk_alloc | apply Blk.other) | omega | (simp; done) | (simp <;> omega))
    rintro W ⟨hp, hk, hlo, hb0⟩
    intro e w1 hpost
    obtain ⟨A1, c1, rfl, hnn, hp2, hfr⟩ := npost_open hpost
    have hsz := hfr.size
    have hmo1 : w.heap.size + 1 ≤ w1.heap.size := Nat.le_trans hlo hsz
    have HNN1 := Lib.hid (show NodeF w1 (w.heap.size + 1) w1.heap.size _ A1 c1 from nodef_wide hnn hlo (Nat.le_refl _))
    have hqs : q < w1.heap.size := hp2.qlt
    have hl0 := hb0.lt
    have ht0 : Blk w1 (w.heap.size) 24 zN := hfr.blk hb0 (by omega)
    have hl1_0 : w.heap.size < w1.heap.size := ht0.lt
    obtain ⟨r1_0_0, r1_0_1, r1_0_2, r1_0_3, r1_0_4⟩ := blk5 ht0
    obtain ⟨y1_0_0, y1_0_1, y1_0_2, y1_0_3, y1_0_4⟩ := blk5f ht0
    have HB0_1 := Lib.hid ht0
    have HP1 := Lib.hid hp2
    have HK1 := Lib.hid (hk.trans hfr)
    clear hp hk hp2 hfr hsz hlo hb0 hl0 ht0 hnn)
 go_loopg [] (l.length + 2) (fun g wr => ∃ (f : Nat) (no nn : List UInt8) (nk np : Int) (ns : List Node) (NA : Option Addr) (nc : Nat) (s2 : PS), f ≤ l.length + 1 ∧ g = f + 1 ∧ l.length < f + s2.i + 1 ∧ Hid (V = leftF l u [124] nOr f (.node no nn nk np ns) s2) ∧ Hid (Ps wr q A c l s2) ∧ Hid (Kq q w wr) ∧
  Hid (Blk wr w.heap.size 24 zN) ∧ Hid (Blk wr w1.heap.size 24 (nC no nn nk np NA ns.length nc)) ∧ Hid (NodeX wr (w.heap.size + 1) wr.heap.size w1.heap.size (.node no nn nk np ns) NA nc))
 case atStart =>
  refine ⟨l.length + 1, ro, rn, rk, rp, rs, A1, c1, s1, Nat.le_refl _, rfl, by omega, HV, Lib.hid ?_, Lib.hid ?_, Lib.hid ?_, Lib.hid ?_, Lib.hid ?_⟩
  · repeat' (first | (with_reducible first | exact HP1.out | exact HK1.out | exact HB0_1.out | apply ps_far | apply Ps.alloc | apply Ps.drew | apply kq_far | apply Fr.alloc | apply Fr.drew | apply nodZ0 | exact blk_new _ _ _ | apply blk_drew | apply blk_alloc | apply Blk.other | apply nodex_far | apply nodex_alloc | apply nodex_drew) | omega | (simp; done) | (simp <;> omega))
  · repeat' (first | (with_reducible first | exact HP1.out | exact HK1.out | exact HB0_1.out | apply ps_far | apply Ps.alloc | apply Ps.drew | apply kq_far | apply Fr.alloc | apply Fr.drew | apply nodZ0 | exact blk_new _ _ _ | apply blk_drew | apply blk_alloc | apply Blk.other | apply nodex_far | apply nodex_alloc | apply nodex_drew) | omega | (simp; done) | (simp <;> omega))
  · repeat' (first | (with_reducible first | exact HP1.out | exact HK1.out | exact HB0_1.out | apply ps_far | apply Ps.alloc | apply Ps.drew | apply kq_far | apply Fr.alloc | apply Fr.drew | apply nodZ0 | exact blk_new _ _ _ | apply blk_drew | apply blk_alloc | apply Blk.other | apply nodex_far | apply nodex_alloc | apply nodex_drew) | omega | (simp; done) | (simp <;> omega))
  · repeat' (first | (with_reducible first | exact HP1.out | exact HK1.out | exact HB0_1.out | apply ps_far | apply Ps.alloc | apply Ps.drew | apply kq_far | apply Fr.alloc | apply Fr.drew | apply nodZ0 | exact blk_new _ _ _ | apply blk_drew | apply blk_alloc | apply Blk.other | apply nodex_far | apply nodex_alloc | apply nodex_drew) | omega | (simp; done) | (simp <;> omega))
  · refine nodex_wide (lo := w.heap.size + 1) (hi := w1.heap.size) (nodex_of ?_ (Or.inr (Nat.le_refl _))) (Nat.le_refl _) (by simp)
    exact nodef_alloc (nodef_wide HNN1.out (by omega) (Nat.le_refl _)) (Nat.le_refl _) _
 case round =>
  obtain ⟨f, no, nn, nk, np, ns, NA, nc, s2, hf1, hg, hfs, HR, HP2, HK2, HB0_2, HB1_2, HNn_2⟩ := hrel
  obtain ⟨w2, hw2⟩ : ∃ x, x = wr := ⟨_, rfl⟩
  subst hw2
  have HG := Lib.hid hg
  clear hg HV
  have hi2 := HP2.out.lt
  have hl2_0 := HB0_2.out.lt
  have hl2_1 := HB1_2.out.lt
  obtain ⟨r2_0_0, r2_0_1, r2_0_2, r2_0_3, r2_0_4⟩ := blk5 HB0_2.out
  obtain ⟨y2_0_0, y2_0_1, y2_0_2, y2_0_3, y2_0_4⟩ := blk5f HB0_2.out
  obtain ⟨r2_1_0, r2_1_1, r2_1_2, r2_1_3, r2_1_4⟩ := blk5 HB1_2.out
  obtain ⟨y2_1_0, y2_1_1, y2_1_2, y2_1_3, y2_1_4⟩ := blk5f HB1_2.out
  obtain ⟨f, rfl⟩ : ∃ k, f = k + 1 := ⟨f - 1, by omega⟩
  clear HI1
  rw [leftF_step] at HR
  have HNX2 := Lib.hid (fun W (hW : Ps W q A c l s2) => HNX.out W s2 hW)
  have HIS2 := Lib.hid (fun W (hW : Ps W q A c l s2) => HIS.out W s2 hW)
  have hup : isW l s2 [124] = true → s2.i + 1 ≤ (u (nextP l s2)).2.i := fun hh => by
   have h1 := HADV.out (nextP l s2)
   have h2 := isW_next hh
   omega
  clear HNX HIS HADV
  have HI3 := Lib.hid (fun W (hW : Ps W q A c l (nextP l s2)) => HI.out W q A c (nextP l s2) hW)
  clear HI
  generalize u (nextP l s2) = pr at *
  generalize nextP l s2 = s3 at *
  generalize nowP l s2 = t at *
  generalize isW l s2 [124] = b at *
  obtain ⟨⟨po, pn, pk, pp, ps⟩, s4⟩ := pr
  simp only at HR hup
  unfold tokV at HNX2
  cases b with
  | false =>
    replace HR := Lib.hid (HR.out.trans (if_neg (by decide)))
    clear hup
    go_wp2_with (first
   | (
     go_at_call 40
     refine calls_at (fun W => Ps W q A c l s2 ∧ Kq q w W ∧ w2.heap.size ≤ W.heap.size ∧ Blk W (w.heap.size) 24 zN ∧ Blk W (w1.heap.size) 24 (nC no nn nk np NA ns.length nc) ∧ NodeX W (w.heap.size + 1) (w2.heap.size) (w1.heap.size) (.node no nn nk np ns) NA nc) (fun W hW => HIS2.out W hW.1) ?_ ?_
     · refine ⟨?_, ?_, ?_, ?_, ?_, ?_⟩
       all_goals repeat' (first | (with_reducible first | exact HP2.out | exact HK2.out | exact HB0_2.out | exact HB1_2.out | exact HNn_2.out | exact Fr.refl _ _ | apply ps_far | apply Ps.alloc | apply Ps.drew | apply Fr.drew | apply blk_drew | apply kq_far | apply Fr.alloc | apply tokZ | apply nodZ0 | exact blk_new _ _ _ | apply blk_alloc | apply Blk.other | apply nodex_far | apply nodex_alloc | apply nodex_drew) | omega | (simp; done) | (simp <;> omega))
     rintro W ⟨hp, hk, hlo, hb0, hb1, hxn⟩
     rintro e w3 ⟨rfl, hb⟩
     have hfr := Kq.of_below (q := q) hb
     have hp2 := hp.below hb
     have hsz := hfr.size
     have hmo3 : w2.heap.size ≤ w3.heap.size := Nat.le_trans hlo hsz
     have hqs : q < w3.heap.size := hp2.qlt
     have hl0 := hb0.lt
     have ht0 : Blk w3 (w.heap.size) 24 zN := hfr.blk hb0 (by omega)
     have hl3_0 : w.heap.size < w3.heap.size := ht0.lt
     obtain ⟨r3_0_0, r3_0_1, r3_0_2, r3_0_3, r3_0_4⟩ := blk5 ht0
     obtain ⟨y3_0_0, y3_0_1, y3_0_2, y3_0_3, y3_0_4⟩ := blk5f ht0
     have HB0_3 := Lib.hid ht0
     have hl1 := hb1.lt
     have ht1 : Blk w3 (w1.heap.size) 24 (nC no nn nk np NA ns.length nc) := hfr.blk hb1 (by omega)
     have hl3_1 : w1.heap.size < w3.heap.size := ht1.lt
     obtain ⟨r3_1_0, r3_1_1, r3_1_2, r3_1_3, r3_1_4⟩ := blk5 ht1
     obtain ⟨y3_1_0, y3_1_1, y3_1_2, y3_1_3, y3_1_4⟩ := blk5f ht1
     have HB1_3 := Lib.hid ht1
     have HNn_3 := Lib.hid (nodex_kq hxn hfr (by omega) (by omega))
     have HP3 := Lib.hid hp2
     have HK3 := Lib.hid (hk.trans hfr)
     clear hp hk hp2 hfr hsz hlo hb0 hl0 ht0 hb1 hl1 ht1 hxn hb
     clear r2_0_0 r2_0_1 r2_0_2 r2_0_3 r2_0_4 y2_0_0 y2_0_1 y2_0_2 y2_0_3 y2_0_4 r2_1_0 r2_1_1 r2_1_2 r2_1_3 r2_1_4 y2_1_0 y2_1_1 y2_1_2 y2_1_3 y2_1_4))
    all_goals
     refine bodyPost_ret (res_one (by rfl) _ _ w.heap.size #[.string ⟨no.toArray⟩, .string ⟨nn.toArray⟩, .int .i64 nk, .int .i64 np, .slice NA ns.length nc] rfl ?_ Tryd.underlying24 inf_node5) rfl ⟨NA, nc, by rw [HR.out]; rfl, ?_, ?_, ?_⟩
     · repeat' (first | (with_reducible first | exact HP3.out | exact HK3.out | exact HB0_3.out | exact HB1_3.out | exact HNn_3.out | apply ps_far | apply Ps.alloc | apply Ps.drew | apply kq_far | apply Fr.alloc | apply Fr.drew | apply nodZ0 | exact blk_new _ _ _ | apply blk_drew | apply blk_alloc | apply Blk.other | apply nodex_far | apply nodex_alloc | apply nodex_drew) | omega | (simp; done) | (simp <;> omega))
     · rw [HR.out]
       refine nodef_of (g := w1.heap.size) (nodex_wide (lo := w.heap.size + 1) (hi := w2.heap.size) ?_ (by omega) (by simp <;> omega))
       repeat' (first | (with_reducible first | exact HP3.out | exact HK3.out | exact HB0_3.out | exact HB1_3.out | exact HNn_3.out | apply ps_far | apply Ps.alloc | apply Ps.drew | apply kq_far | apply Fr.alloc | apply Fr.drew | apply nodZ0 | exact blk_new _ _ _ | apply blk_drew | apply blk_alloc | apply Blk.other | apply nodex_far | apply nodex_alloc | apply nodex_drew) | omega | (simp; done) | (simp <;> omega))
     · rw [HR.out]
       repeat' (first | (with_reducible first | exact HP3.out | exact HK3.out | exact HB0_3.out | exact HB1_3.out | exact HNn_3.out | apply ps_far | apply Ps.alloc | apply Ps.drew | apply kq_far | apply Fr.alloc | apply Fr.drew | apply nodZ0 | exact blk_new _ _ _ | apply blk_drew | apply blk_alloc | apply Blk.other | apply nodex_far | apply nodex_alloc | apply nodex_drew) | omega | (simp; done) | (simp <;> omega))
     · repeat' (first | (with_reducible first | exact HP3.out | exact HK3.out | exact HB0_3.out | exact HB1_3.out | exact HNn_3.out | apply ps_far | apply Ps.alloc | apply Ps.drew | apply kq_far | apply Fr.alloc | apply Fr.drew | apply nodZ0 | exact blk_new _ _ _ | apply blk_drew | apply blk_alloc | apply Blk.other | apply nodex_far | apply nodex_alloc | apply nodex_drew) | omega | (simp; done) | (simp <;> omega))
  | true =>
    replace HR := Lib.hid (HR.out.trans (if_pos rfl))
    have hup2 := hup rfl
    clear hup
    go_upto_region 4 with (first
     | (
    go_at_call 40
    refine calls_at (fun W => Ps W q A c l s2 ∧ Kq q w W ∧ w2.heap.size ≤ W.heap.size ∧ Blk W (w.heap.size) 24 zN ∧ Blk W (w1.heap.size) 24 (nC no nn nk np NA ns.length nc) ∧ NodeX W (w.heap.size + 1) (w2.heap.size) (w1.heap.size) (.node no nn nk np ns) NA nc) (fun W hW => HIS2.out W hW.1) ?_ ?_
    · refine ⟨?_, ?_, ?_, ?_, ?_, ?_⟩
      all_goals repeat' (first | (with_reducible first | exact HP2.out | exact HK2.out | exact HB0_2.out | exact HB1_2.out | exact HNn_2.out | exact Fr.refl _ _ | apply ps_far | apply Ps.alloc | apply Ps.drew | apply Fr.drew | apply blk_drew | apply kq_far | apply Fr.alloc | apply tokZ | apply nodZ0 | exact blk_new _ _ _ | apply blk_alloc | apply Blk.other | apply nodex_far | apply nodex_alloc | apply nodex_drew) | omega | (simp; done) | (simp <;> omega))
    rintro W ⟨hp, hk, hlo, hb0, hb1, hxn⟩
    rintro e w3 ⟨rfl, hb⟩
    have hfr := Kq.of_below (q := q) hb
    have hp2 := hp.below hb
    have hsz := hfr.size
    have hmo3 : w2.heap.size ≤ w3.heap.size := Nat.le_trans hlo hsz
    have hqs : q < w3.heap.size := hp2.qlt
    have hl0 := hb0.lt
    have ht0 : Blk w3 (w.heap.size) 24 zN := hfr.blk hb0 (by omega)
    have hl3_0 : w.heap.size < w3.heap.size := ht0.lt
    obtain ⟨r3_0_0, r3_0_1, r3_0_2, r3_0_3, r3_0_4⟩ := blk5 ht0
    obtain ⟨y3_0_0, y3_0_1, y3_0_2, y3_0_3, y3_0_4⟩ := blk5f ht0
    have HB0_3 := Lib.hid ht0
    have hl1 := hb1.lt
    have ht1 : Blk w3 (w1.heap.size) 24 (nC no nn nk np NA ns.length nc) := hfr.blk hb1 (by omega)
    have hl3_1 : w1.heap.size < w3.heap.size := ht1.lt
    obtain ⟨r3_1_0, r3_1_1, r3_1_2, r3_1_3, r3_1_4⟩ := blk5 ht1
    obtain ⟨y3_1_0, y3_1_1, y3_1_2, y3_1_3, y3_1_4⟩ := blk5f ht1
    have HB1_3 := Lib.hid ht1
    have HNn_3 := Lib.hid (nodex_kq hxn hfr (by omega) (by omega))
    have HP3 := Lib.hid hp2
    have HK3 := Lib.hid (hk.trans hfr)
    clear hp hk hp2 hfr hsz hlo hb0 hl0 ht0 hb1 hl1 ht1 hxn hb
    clear r2_0_0 r2_0_1 r2_0_2 r2_0_3 r2_0_4 y2_0_0 y2_0_1 y2_0_2 y2_0_3 y2_0_4 r2_1_0 r2_1_1 r2_1_2 r2_1_3 r2_1_4 y2_1_0 y2_1_1 y2_1_2 y2_1_3 y2_1_4)
     | (
    go_at_call 72
    refine calls_at (fun W => Ps W q A c l s2 ∧ Kq q w W ∧ w3.heap.size ≤ W.heap.size ∧ Blk W (w.heap.size) 24 zN ∧ Blk W (w1.heap.size) 24 (nC no nn nk np NA ns.length nc) ∧ NodeX W (w.heap.size + 1) (w2.heap.size) (w1.heap.size) (.node no nn nk np ns) NA nc) (fun W hW => HNX2.out W hW.1) ?_ ?_
    · refine ⟨?_, ?_, ?_, ?_, ?_, ?_⟩
      all_goals repeat' (first | (with_reducible first | exact HP3.out | exact HK3.out | exact HB0_3.out | exact HB1_3.out | exact HNn_3.out | exact Fr.refl _ _ | apply ps_far | apply Ps.alloc | apply Ps.drew | apply Fr.drew | apply blk_drew | apply kq_far | apply Fr.alloc | apply tokZ | apply nodZ0 | exact blk_new _ _ _ | apply blk_alloc | apply Blk.other | apply nodex_far | apply nodex_alloc | apply nodex_drew) | omega | (simp; done) | (simp <;> omega))
    rintro W ⟨hp, hk, hlo, hb0, hb1, hxn⟩
    intro e w4 hpost
    obtain ⟨rfl, hp2, hfr⟩ := hpost
    have hsz := hfr.size
    have hmo4 : w3.heap.size ≤ w4.heap.size := Nat.le_trans hlo hsz
    have hqs : q < w4.heap.size := hp2.qlt
    have hl0 := hb0.lt
    have ht0 : Blk w4 (w.heap.size) 24 zN := hfr.blk hb0 (by omega)
    have hl4_0 : w.heap.size < w4.heap.size := ht0.lt
    obtain ⟨r4_0_0, r4_0_1, r4_0_2, r4_0_3, r4_0_4⟩ := blk5 ht0
    obtain ⟨y4_0_0, y4_0_1, y4_0_2, y4_0_3, y4_0_4⟩ := blk5f ht0
    have HB0_4 := Lib.hid ht0
    have hl1 := hb1.lt
    have ht1 : Blk w4 (w1.heap.size) 24 (nC no nn nk np NA ns.length nc) := hfr.blk hb1 (by omega)
    have hl4_1 : w1.heap.size < w4.heap.size := ht1.lt
    obtain ⟨r4_1_0, r4_1_1, r4_1_2, r4_1_3, r4_1_4⟩ := blk5 ht1
    obtain ⟨y4_1_0, y4_1_1, y4_1_2, y4_1_3, y4_1_4⟩ := blk5f ht1
    have HB1_4 := Lib.hid ht1
    have HNn_4 := Lib.hid (nodex_kq hxn hfr (by omega) (by omega))
    have HP4 := Lib.hid hp2
    have HK4 := Lib.hid (hk.trans hfr)
    clear hp hk hp2 hfr hsz hlo hb0 hl0 ht0 hb1 hl1 ht1 hxn
    clear r3_0_0 r3_0_1 r3_0_2 r3_0_3 r3_0_4 y3_0_0 y3_0_1 y3_0_2 y3_0_3 y3_0_4 hl3_0 r3_1_0 r3_1_1 r3_1_2 r3_1_3 r3_1_4 y3_1_0 y3_1_1 y3_1_2 y3_1_3 y3_1_4 hl3_1))
    refine wp_named (fun W => Ps W q A c l s3 ∧ Kq q w W ∧ w4.heap.size + 1 ≤ W.heap.size ∧ Blk W (w.heap.size) 24 zN ∧ Blk W (w1.heap.size) 24 (nC no nn nk np NA ns.length nc) ∧ Blk W (w4.heap.size) 80 (tC t) ∧ NodeX W (w.heap.size + 1) (w2.heap.size) (w1.heap.size) (.node no nn nk np ns) NA nc) ?_ ?_
    · refine ⟨?_, ?_, ?_, ?_, ?_, ?_, ?_⟩
      all_goals repeat' (first | (with_reducible first | exact HP4.out | exact HK4.out | exact HB0_4.out | exact HB1_4.out | exact HB2_4.out | exact HNn_4.out | exact Fr.refl _ _ | apply ps_far | apply Ps.alloc | apply Ps.drew | apply Fr.drew | apply blk_drew | apply kq_far | apply Fr.alloc | apply tokZ | apply nodZ0 | exact blk_new _ _ _ | apply blk_alloc | apply Blk.other | apply nodex_far | apply nodex_alloc | apply nodex_drew) | omega | (simp; done) | (simp <;> omega))
    clear r4_0_0 r4_0_1 r4_0_2 r4_0_3 r4_0_4 y4_0_0 y4_0_1 y4_0_2 y4_0_3 y4_0_4 hl4_0 r4_1_0 r4_1_1 r4_1_2 r4_1_3 r4_1_4 y4_1_0 y4_1_1 y4_1_2 y4_1_3 y4_1_4 hl4_1
    rintro w5 ⟨hp2, hk2, hmo5, ht0, ht1, ht2, hxn⟩
    have hqs : q < w5.heap.size := hp2.qlt
    have hl5_0 : w.heap.size < w5.heap.size := ht0.lt
    obtain ⟨r5_0_0, r5_0_1, r5_0_2, r5_0_3, r5_0_4⟩ := blk5 ht0
    obtain ⟨y5_0_0, y5_0_1, y5_0_2, y5_0_3, y5_0_4⟩ := blk5f ht0
    have HB0_5 := Lib.hid ht0
    have hl5_1 : w1.heap.size < w5.heap.size := ht1.lt
    obtain ⟨r5_1_0, r5_1_1, r5_1_2, r5_1_3, r5_1_4⟩ := blk5 ht1
    obtain ⟨y5_1_0, y5_1_1, y5_1_2, y5_1_3, y5_1_4⟩ := blk5f ht1
    have HB1_5 := Lib.hid ht1
    have hl5_2 : w4.heap.size < w5.heap.size := ht2.lt
    obtain ⟨r5_2_0, r5_2_1, r5_2_2, r5_2_3⟩ := blk4 ht2
    obtain ⟨y5_2_0, y5_2_1, y5_2_2, y5_2_3⟩ := blk4f ht2
    have HB2_5 := Lib.hid ht2
    have HNn_5 := Lib.hid hxn
    have HP5 := Lib.hid hp2
    have HK5 := Lib.hid hk2
    clear hp2 hk2 ht0 ht1 ht2 hxn
    have HC6 : Hid (Calls Tryd.prog 119 #[.pointer (some ⟨q, 0, none⟩), .int .i64 (d : Nat)] w5.drew fun e w6 => ∃ A6 c6, e = .returned (.agg #[.string ⟨po.toArray⟩, .string ⟨pn.toArray⟩, .int .i64 pk, .int .i64 pp, .slice A6 ps.length c6]) ∧ Blk w6 w4.heap.size 80 (tC t) ∧ Fold w w6 q w.heap.size w1.heap.size (w.heap.size + 1) w2.heap.size A c l s4 no nn nk np ns NA nc (.node po pn pk pp ps) A6 c6) := by
     refine Lib.hid ((HI3.out _ HP5.out.drew).mono ?_)
     intro e w6 hpost
     obtain ⟨A6, c6, rfl, hnn, hp6, hk6⟩ := npost_open hpost
     have hs6 : w5.heap.size ≤ w6.heap.size := hk6.size
     refine ⟨A6, c6, rfl, hk6.blk (blk_drew HB2_5.out) (by omega), hp6, HK5.out.drew.trans hk6, hk6.blk (blk_drew HB0_5.out) (by omega), hk6.blk (blk_drew HB1_5.out) (by omega), nodex_kq (nodex_drew HNn_5.out) hk6 (by omega) (by show w2.heap.size ≤ w5.heap.size; omega), ?_, by omega⟩
     exact nodex_wide (nodex_of hnn (Or.inl (by show w1.heap.size < w5.heap.size; omega))) (by show w.heap.size + 1 ≤ w5.heap.size; omega) (Nat.le_refl _)
    clear HI3 HNX2 HIS2
    go_region_with (
     go_at_call 119
     refine HC6.out.mono ?_
     rintro e w6 ⟨A6, c6, rfl, ht6, hF6⟩
     obtain ⟨k60, k61, k62, k63, k64⟩ := blk5 hF6.box
     obtain ⟨z60, z61, z62, z63, z64⟩ := blk5f hF6.box
     obtain ⟨k70, k71, k72, k73, k74⟩ := blk5 hF6.res
     obtain ⟨z70, z71, z72, z73, z74⟩ := blk5f hF6.res
     have k6t := (blk4 ht6).2.2.2
     have HF6 := Lib.hid hF6
     have hb6 : w1.heap.size < w6.heap.size := hF6.box.lt
     have hb7 : w4.heap.size < w6.heap.size := ht6.lt
     have hb8 : ¬ w4.heap.size = w6.heap.size := by omega
     clear ht6 hF6)
    all_goals
     go_wp2_with fail
     go_roundg (f + 1)
     case measure => have := HG.out; omega
     case rel => exact ⟨f, nOr, [], 0, (t.at_ : Nat), [.node no nn nk np ns, .node po pn pk pp ps], some ⟨w6.heap.size, 0, none⟩, 2, s4, by omega, rfl, by omega, HR, fold_end HF6.out nOr (by decide) _ _ rfl⟩
end Go.Proofs.YteikakoheibnjaaDoor
