/- Parts of the proof: TKnown, LawOdd. -/
import Derived.Test.YteikakoheibnjaaDoorM28
import Derived.Test.YteikakoheibnjaaDoorM34
namespace Go.Proofs.YteikakoheibnjaaDoor
open Go Go.RowKit

theorem read_limit : readP [108, 105, 109, 105, 116, 10] = (⟨5, 0, 0, [], []⟩, true) := by
  have h := readOk_text (r := ⟨5, 0, 0, [], []⟩) (by decide)
  exact h
theorem text_limit : textP ⟨5, 0, 0, [], []⟩ = [108, 105, 109, 105, 116, 10] := by decide
set_option maxRecDepth 100000 in
set_option maxHeartbeats 4000000 in
theorem tknown_any {w : World} (hT : TTab w) : Calls Tryd.prog 22 #[] w fun e w' => e = .returned (.bool true) ∧ Below w.heap.size w w' := by
  have HRD := Lib.hid (show Calls Tryd.prog 21 #[.string ⟨#[108, 105, 109, 105, 116, 10]⟩] w (fun e w' => ∃ Am cm Ac cc, e = .returned (.tuple #[.agg #[.int .i64 5, .int .i64 0, .int .i64 0, .slice Am 0 cm, .slice Ac 0 cc], .bool true]) ∧ Below w.heap.size w w') by
    refine (tReadR_any (s := [108, 105, 109, 105, 116, 10]) (by decide) hT).mono ?_
    rintro e w' ⟨L, he, hb, _⟩
    rw [read_limit] at he
    exact ⟨L.Am, L.cm, L.Ac, L.cc, he, hb⟩)
  have HTX := Lib.hid (fun W (hb : Below w.heap.size w W) => (show Calls Tryd.prog 56 #[.agg #[.int .i64 5, .int .i64 0, .int .i64 0, .slice none 0 0, .slice none 0 0]] W (fun e w' => e = .returned (.string ⟨#[108, 105, 109, 105, 116, 10]⟩) ∧ Below W.heap.size W w') by
    have h0 : ValsAt W W.heap.size none 0 [] := ⟨Nat.le_refl _, Nat.zero_le _, fun v hv => absurd hv (by simp), fun k hk => absurd hk (by simp)⟩
    have := ttext_any (w := W) (r := ⟨5, 0, 0, [], []⟩) (L := ⟨none, 0, none, 0⟩) ⟨h0, h0⟩ (hT.below hb)
    rw [text_limit] at this
    exact this))
  clear hT
  go_enter Tryd.func22, Tryd.ntmps22
  go_wp2_with (first
    | (
      go_at_call 21
      refine HRD.out.mono ?_
      rintro e w2 ⟨Am, cm, Ac, cc, rfl, hb2⟩
      have HB2 := Lib.hid hb2
      clear hb2)
    | (
      go_at_call 56
      refine (HTX.out _ (HB2.out.alloc HB2.out.size _)).mono ?_
      rintro e w4 ⟨rfl, hb4⟩
      have c0 := vbox_at hb4 0 _ rfl
      have HB4 := Lib.hid ((HB2.out.alloc HB2.out.size _).trans (hb4.mono (by have := HB2.out.size; simp; omega)))
      clear hb4))
  go_ret
  exact ⟨rfl, HB4.out⟩
end Go.Proofs.YteikakoheibnjaaDoor
namespace Go.Proofs.YteikakoheibnjaaDoor
open Go Go.RowKit

def oddL : List (List UInt8) := [[], [108, 105, 109, 105, 116], [118, 97, 108, 105, 100, 10], [118, 97, 108, 105, 100, 10, 109, 111, 100, 101, 108, 10, 120, 32, 61, 32, 48, 51, 10], [117, 110, 115, 97, 116, 10, 109, 111, 100, 101, 108, 10], [118, 97, 108, 105, 100, 10, 109, 111, 100, 101, 108, 10, 120, 61, 51, 10], [118, 97, 108, 105, 100, 10, 109, 111, 100, 101, 108, 10, 120, 32, 61, 32, 123, 51, 44, 52, 125, 10], [118, 97, 108, 105, 100, 10, 109, 111, 100, 101, 108, 10, 120, 32, 61, 32, 123, 52, 44, 32, 51, 125, 10], [118, 97, 108, 105, 100, 10, 109, 111, 100, 101, 108, 10, 101, 120, 49, 32, 61, 32, 51, 10], [114, 101, 102, 117, 115, 101, 100, 32, 48, 32, 52, 10], [114, 101, 102, 117, 115, 101, 100, 32, 57, 32, 52, 10], [114, 101, 102, 117, 115, 101, 100, 32, 50, 32, 50, 48, 48, 49, 10], [99, 111, 110, 116, 105, 110, 103, 101, 110, 116, 10, 109, 111, 100, 101, 108, 10], [118, 97, 108, 105, 100, 10, 109, 111, 100, 101, 108, 10, 120, 32, 61, 32, 49, 48, 48, 48, 10], [108, 105, 109, 105, 116, 10, 109, 111, 100, 101, 108, 10], [118, 97, 108, 105, 100, 10, 109, 111, 100, 101, 108, 10, 120, 32, 61, 32, 109, 97, 121, 98, 101, 10]]
def goodL : List UInt8 := [99, 111, 110, 116, 105, 110, 103, 101, 110, 116, 10, 109, 111, 100, 101, 108, 10, 120, 32, 61, 32, 51, 10, 88, 32, 61, 32, 123, 48, 44, 32, 49, 50, 125, 10, 99, 111, 117, 110, 116, 101, 114, 10, 112, 32, 61, 32, 102, 97, 108, 115, 101, 10]
set_option maxRecDepth 100000 in
theorem odd_no : (oddL.all fun s => !(readP s).2) = true := by decide +kernel
set_option maxRecDepth 100000 in
theorem good_yes : (readP goodL).2 = true := by decide +kernel
theorem odd_small : (oddL.all fun s => decide (s.length ≤ 100)) = true := by decide +kernel
theorem readP_nope {s : List UInt8} (h : (readP s).2 = false) : readP s = (zeroR, false) := by
  unfold readP at h ⊢
  by_cases hr : readOk s = true
  · rw [if_pos hr] at h
    cases h
  · rw [if_neg hr]
set_option maxRecDepth 100000 in
set_option maxHeartbeats 8000000 in
theorem lawOdd_any (way : Int) {w : World} (hT : TTab w) : Calls Tryd.prog 7 #[.int .i64 way] w fun e w' => e = .returned (.bool true) ∧ Below w.heap.size w w' := by
  have HBK := Lib.hid (lblkNew w 9 (strVs oddL).toArray)
  have HB1 := Lib.hid ((Below.refl w.heap.size w).alloc (Nat.le_refl _) (.cells (strVs oddL).toArray 9))
  by_cases h0 : way < 0
  · have g1 : decide (way < 0) = true := decide_eq_true h0
    clear HBK
    go_enter Tryd.func7, Tryd.ntmps7
    go_wp2_with fail
    go_ret
    exact ⟨rfl, HB1.out⟩
  have g1 : decide (way < 0) = false := decide_eq_false h0
  by_cases h16 : 16 ≤ way
  · have g2 : decide (16 ≤ way) = true := decide_eq_true h16
    clear HBK
    go_enter Tryd.func7, Tryd.ntmps7
    go_wp2_with fail
    go_ret
    exact ⟨rfl, HB1.out⟩
  have g2 : decide (16 ≤ way) = false := decide_eq_false h16
  obtain ⟨k, rfl⟩ : ∃ k : Nat, way = (k : Int) := ⟨way.toNat, by omega⟩
  have hk : k < oddL.length := by show k < 16; omega
  have hno : (readP oddL[k]).2 = false := by
    have := List.all_eq_true.1 odd_no oddL[k] (List.getElem_mem hk)
    simpa using this
  have hsm : oddL[k].length ≤ 100 := by
    have := List.all_eq_true.1 odd_small oddL[k] (List.getElem_mem hk)
    simpa using this
  have c0 : (w.alloc (.cells (strVs oddL).toArray 9)).cell? ⟨w.heap.size, k, none⟩ = some (.string ⟨oddL[k].toArray⟩) := by
    rw [HBK.out.cell k]
    unfold strVs
    rw [List.getElem?_toArray, List.getElem?_map, List.getElem?_eq_getElem hk]
    rfl
  have HR1 := Lib.hid (fun W (hb : Below w.heap.size w W) => (show Calls Tryd.prog 21 #[.string ⟨oddL[k].toArray⟩] W (fun e w' => ∃ Am cm Ac cc, e = .returned (.tuple #[.agg #[.int .i64 0, .int .i64 0, .int .i64 0, .slice Am 0 cm, .slice Ac 0 cc], .bool false]) ∧ Below W.heap.size W w') by
    refine (tReadR_any (s := oddL[k]) (by omega) (hT.below hb)).mono ?_
    rintro e w' ⟨L, he, hb2, _⟩
    rw [readP_nope hno] at he
    exact ⟨L.Am, L.cm, L.Ac, L.cc, he, hb2⟩))
  have HR2 := Lib.hid (fun W (hb : Below w.heap.size w W) => (show Calls Tryd.prog 21 #[.string ⟨#[99, 111, 110, 116, 105, 110, 103, 101, 110, 116, 10, 109, 111, 100, 101, 108, 10, 120, 32, 61, 32, 51, 10, 88, 32, 61, 32, 123, 48, 44, 32, 49, 50, 125, 10, 99, 111, 117, 110, 116, 101, 114, 10, 112, 32, 61, 32, 102, 97, 108, 115, 101, 10]⟩] W (fun e w' => ∃ (t er ap : Int) (Am : Option Addr) (lm cm : Nat) (Ac : Option Addr) (lc cc : Nat), e = .returned (.tuple #[.agg #[.int .i64 t, .int .i64 er, .int .i64 ap, .slice Am lm cm, .slice Ac lc cc], .bool true]) ∧ Below W.heap.size W w') by
    refine (tReadR_any (s := goodL) (by decide) (hT.below hb)).mono ?_
    rintro e w' ⟨L, he, hb2, _⟩
    rw [good_yes] at he
    exact ⟨_, _, _, L.Am, _, L.cm, L.Ac, _, L.cc, he, hb2⟩))
  have HKN := Lib.hid (fun W (hb : Below w.heap.size w W) => tknown_any (hT.below hb))
  have hk0 : (0 : Int) ≤ (k : Int) := Int.natCast_nonneg _
  have hk1 : (k : Int) < 16 := by omega
  have hk2 : k < 16 := by omega
  clear hno hsm hT h0 h16
  generalize oddL[k] = x at *
  go_enter Tryd.func7, Tryd.ntmps7
  go_upto_region 2 with fail
  refine wp_named (fun W => Below w.heap.size w W ∧ W.cell? ⟨w.heap.size, k, none⟩ = some (.string ⟨x.toArray⟩)) ⟨HB1.out, c0⟩ ?_
  rintro W1 ⟨hb1, c1⟩
  have HBW := Lib.hid hb1
  clear hb1 c0 HB1 HBK
  go_wp2_with (first
    | (
      have hgd := HB3
      clear hgd
      go_at_call 22
      refine (HKN.out _ (HB3.out.alloc HB3.out.size _)).mono ?_
      rintro e w4 ⟨rfl, hb4⟩
      have HB4 := Lib.hid ((HB3.out.alloc HB3.out.size _).trans (hb4.mono (by have := HB3.out.size; simp; omega)))
      clear hb4)
    | (
      have hgd := HB2
      clear hgd
      go_at_call 21
      refine (HR2.out _ (HB2.out.alloc HB2.out.size _)).mono ?_
      rintro e w3 ⟨t, er, ap, Am2, lm, cm2, Ac2, lc, cc2, rfl, hb3⟩
      have HB3 := Lib.hid ((HB2.out.alloc HB2.out.size _).trans (hb3.mono (by have := HB2.out.size; simp; omega)))
      clear hb3)
    | (
      go_at_call 21
      refine (HR1.out _ HBW.out).mono ?_
      rintro e w2 ⟨Am, cm, Ac, cc, rfl, hb2⟩
      have HB2 := Lib.hid (HBW.out.trans (hb2.mono HBW.out.size))
      clear hb2))
  go_ret
  exact ⟨rfl, HB4.out⟩
end Go.Proofs.YteikakoheibnjaaDoor
