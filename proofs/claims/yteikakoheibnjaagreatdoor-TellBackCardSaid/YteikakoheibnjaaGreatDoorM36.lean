/- Parts of the proof: TKnown, Long, LawT. -/
import Derived.Deep.CutRange
import Derived.Test.YteikakoheibnjaaGreatDoorM24
import Derived.Test.YteikakoheibnjaaGreatDoorM27
import Derived.Test.YteikakoheibnjaaGreatDoorM33
import Derived.Test.YteikakoheibnjaaGreatDoorM34
import Derived.Test.YteikakoheibnjaaGreatDoorM35
import Derived.Test.YteikakoheibnjaaGreatDoorM5
namespace Go.Proofs.YteikakoheibnjaaGreatDoor
open Go Go.RowKit

theorem read_limit : readP [108, 105, 109, 105, 116, 10] = (⟨5, 0, 0, [], []⟩, true) := by
  have h := readOk_text (r := ⟨5, 0, 0, [], []⟩) (by decide)
  exact h
theorem text_limit : textP ⟨5, 0, 0, [], []⟩ = [108, 105, 109, 105, 116, 10] := by decide
set_option maxRecDepth 100000 in
set_option maxHeartbeats 4000000 in
theorem tknown_any {w : World} (hT : TTab w) : Calls Tryz.prog 12 #[] w fun e w' => e = .returned (.bool true) ∧ Below w.heap.size w w' := by
  have HRD := Lib.hid (show Calls Tryz.prog 13 #[.string ⟨#[108, 105, 109, 105, 116, 10]⟩] w (fun e w' => ∃ Am cm Ac cc, e = .returned (.tuple #[.agg #[.int .i64 5, .int .i64 0, .int .i64 0, .slice Am 0 cm, .slice Ac 0 cc], .bool true]) ∧ Below w.heap.size w w') by
    refine (tReadR_any (s := [108, 105, 109, 105, 116, 10]) (by decide) hT).mono ?_
    rintro e w' ⟨L, he, hb, _⟩
    rw [read_limit] at he
    exact ⟨L.Am, L.cm, L.Ac, L.cc, he, hb⟩)
  have HTX := Lib.hid (fun W (hb : Below w.heap.size w W) => (show Calls Tryz.prog 10 #[.agg #[.int .i64 5, .int .i64 0, .int .i64 0, .slice none 0 0, .slice none 0 0]] W (fun e w' => e = .returned (.string ⟨#[108, 105, 109, 105, 116, 10]⟩) ∧ Below W.heap.size W w') by
    have h0 : ValsAt W W.heap.size none 0 [] := ⟨Nat.le_refl _, Nat.zero_le _, fun v hv => absurd hv (by simp), fun k hk => absurd hk (by simp)⟩
    have := ttext_any (w := W) (r := ⟨5, 0, 0, [], []⟩) (L := ⟨none, 0, none, 0⟩) ⟨h0, h0⟩ (hT.below hb)
    rw [text_limit] at this
    exact this))
  clear hT
  go_enter Tryz.func12, Tryz.ntmps12
  go_wp2_with (first
    | (
      go_at_call 13
      refine HRD.out.mono ?_
      rintro e w2 ⟨Am, cm, Ac, cc, rfl, hb2⟩
      have HB2 := Lib.hid hb2
      clear hb2)
    | (
      go_at_call 10
      refine (HTX.out _ (HB2.out.alloc HB2.out.size _)).mono ?_
      rintro e w4 ⟨rfl, hb4⟩
      have c0 := vbox_at hb4 0 _ rfl
      have HB4 := Lib.hid ((HB2.out.alloc HB2.out.size _).trans (hb4.mono (by have := HB2.out.size; simp; omega)))
      clear hb4))
  go_ret
  exact ⟨rfl, HB4.out⟩
end Go.Proofs.YteikakoheibnjaaGreatDoor
namespace Go.Proofs.YteikakoheibnjaaGreatDoor
open Go Go.RowKit

theorem vals_cells {w W : World} {B : Nat} {A : Option Addr} {c : Nat} {vs : List ValP} (h : ValsAt w B A c vs) (hk : ∀ p : Addr, p.block < B → W.cell? p = w.cell? p) (k : Nat) (hl : k < vs.length) :
    ∃ (b off : Nat) (A1 : Option Addr) (c1 sl : Nat) (S : ByteArray), A = some ⟨b, off, none⟩ ∧ W.cell? ⟨b, off + k * 3, none⟩ = some (.string S) ∧ W.cell? ⟨b, off + k * 3 + 2, none⟩ = some (.slice A1 sl c1) := by
  obtain ⟨b, off, A1, c1, e, _, d0, _, d2, _⟩ := (h.keep hk).at_ k hl
  exact ⟨b, off, A1, c1, _, _, e, d0, d2⟩
set_option maxRecDepth 100000 in
set_option maxHeartbeats 4000000 in
theorem long_any {w : World} {r : ResP} {L : ResL} (h : ResAt w w.heap.size r L) : Calls Tryz.prog 7 #[resT r L] w fun e w' => ∃ b, e = .returned (.bool b) ∧ Below w.heap.size w w' := by
  show Calls Tryz.prog 7 #[resW r.tag r.err r.at_ r.model.length r.counter.length L] w _
  have hs1 := h.model.small
  have hs2 := h.counter.small
  have HB := Lib.hid (((Below.refl w.heap.size w).alloc (Nat.le_refl _) (boxR r.tag r.err r.at_ r.model.length r.counter.length L)))
  have b3 : (w.alloc (boxR r.tag r.err r.at_ r.model.length r.counter.length L)).cell? ⟨w.heap.size, 3, none⟩ = some (.slice L.Am r.model.length L.cm) := vbox_at (Below.refl _ _) 3 _ rfl
  have b4 : (w.alloc (boxR r.tag r.err r.at_ r.model.length r.counter.length L)).cell? ⟨w.heap.size, 4, none⟩ = some (.slice L.Ac r.counter.length L.cc) := vbox_at (Below.refl _ _) 4 _ rfl
  have HM := Lib.hid (fun k hk => vals_cells h.model (fun p hp => HB.out.cell (p := p) hp) k hk)
  have HC := Lib.hid (fun k hk => vals_cells h.counter (fun p hp => HB.out.cell (p := p) hp) k hk)
  clear h
  generalize r.model.length = lm at *
  generalize r.counter.length = lc at *
  generalize r.tag = t at *
  generalize r.err = er at *
  generalize r.at_ = ap at *
  obtain ⟨Am, cm, Ac, cc⟩ := L
  dsimp only at b3 b4 HB HM HC
  go_enter Tryz.func7, Tryz.ntmps7
  go_wp2_with fail
  go_loopg [3] lm (fun q v wr => ∃ k : Nat, k ≤ lm ∧ q = lm - k ∧ v = .int .i64 (k : Int) ∧ w.alloc (boxR t er ap lm lc ⟨Am, cm, Ac, cc⟩) = wr)
  case atStart => exact ⟨0, Nat.zero_le _, rfl, rfl, rfl⟩
  case round =>
    obtain ⟨k, hk, hq, rfl, rfl⟩ := hrel
    have HQ := Lib.hid hq
    clear hq
    by_cases hlt : k < lm
    · have g1 : decide ((k : Int) < (lm : Int)) = true := decide_eq_true (by omega)
      have g1' : decide (k < lm) = true := decide_eq_true hlt
      by_cases h10 : k < 10
      · have g2 : decide ((k : Int) < 10) = true := decide_eq_true (by omega)
        have g2' : decide (k < 10) = true := decide_eq_true h10
        obtain ⟨bb, off, A1, c1, sl, S, rfl, d0, d2⟩ := HM.out k hlt
        have hp0 : (0 : Int) ≤ (k : Int) := by omega
        have hp1 : (k : Int) < (lm : Int) := by omega
        by_cases hs : 100 < sl
        · have g3 : decide ((100 : Int) < (sl : Int)) = true := decide_eq_true (by omega)
          have g3' : decide (100 < sl) = true := decide_eq_true hs
          go_wp2_with fail
          go_ret
          exact ⟨true, rfl, HB.out⟩
        · have g3 : decide ((100 : Int) < (sl : Int)) = false := decide_eq_false (by omega)
          have g3' : decide (100 < sl) = false := decide_eq_false hs
          by_cases hn : 50 < S.size
          · have g4 : decide ((50 : Int) < (S.size : Int)) = true := decide_eq_true (by omega)
            have g4' : decide (50 < S.size) = true := decide_eq_true hn
            go_wp2_with fail
            go_ret
            exact ⟨true, rfl, HB.out⟩
          · have g4 : decide ((50 : Int) < (S.size : Int)) = false := decide_eq_false (by omega)
            have g4' : decide (50 < S.size) = false := decide_eq_false hn
            go_wp2_with fail
            go_roundg (lm - (k + 1))
            case measure => have := HQ.out; omega
            case rel => exact ⟨k + 1, by omega, rfl, by go_num, rfl⟩
      · have g2 : decide ((k : Int) < 10) = false := decide_eq_false (by omega)
        have g2' : decide (k < 10) = false := decide_eq_false h10
        go_wp2_with fail
        go_loopg [4] lc (fun q v wr => ∃ k : Nat, k ≤ lc ∧ q = lc - k ∧ v = .int .i64 (k : Int) ∧ w.alloc (boxR t er ap lm lc ⟨Am, cm, Ac, cc⟩) = wr)
        case atStart => exact ⟨0, Nat.zero_le _, rfl, rfl, rfl⟩
        case round =>
          obtain ⟨k, hk, hq, rfl, rfl⟩ := hrel
          have HQ := Lib.hid hq
          clear hq
          by_cases hlt : k < lc
          · have g1 : decide ((k : Int) < (lc : Int)) = true := decide_eq_true (by omega)
            have g1' : decide (k < lc) = true := decide_eq_true hlt
            by_cases h10 : k < 10
            · have g2 : decide ((k : Int) < 10) = true := decide_eq_true (by omega)
              have g2' : decide (k < 10) = true := decide_eq_true h10
              obtain ⟨bb, off, A1, c1, sl, S, rfl, d0, d2⟩ := HC.out k hlt
              have hp0 : (0 : Int) ≤ (k : Int) := by omega
              have hp1 : (k : Int) < (lc : Int) := by omega
              by_cases hs : 100 < sl
              · have g3 : decide ((100 : Int) < (sl : Int)) = true := decide_eq_true (by omega)
                have g3' : decide (100 < sl) = true := decide_eq_true hs
                go_wp2_with fail
                go_ret
                exact ⟨true, rfl, HB.out⟩
              · have g3 : decide ((100 : Int) < (sl : Int)) = false := decide_eq_false (by omega)
                have g3' : decide (100 < sl) = false := decide_eq_false hs
                by_cases hn : 50 < S.size
                · have g4 : decide ((50 : Int) < (S.size : Int)) = true := decide_eq_true (by omega)
                  have g4' : decide (50 < S.size) = true := decide_eq_true hn
                  go_wp2_with fail
                  go_ret
                  exact ⟨true, rfl, HB.out⟩
                · have g4 : decide ((50 : Int) < (S.size : Int)) = false := decide_eq_false (by omega)
                  have g4' : decide (50 < S.size) = false := decide_eq_false hn
                  go_wp2_with fail
                  go_roundg (lc - (k + 1))
                  case measure => have := HQ.out; omega
                  case rel => exact ⟨k + 1, by omega, rfl, by go_num, rfl⟩
            · have g2 : decide ((k : Int) < 10) = false := decide_eq_false (by omega)
              have g2' : decide (k < 10) = false := decide_eq_false h10
              by_cases n1 : 9 < lm
              · have e1 : decide ((9 : Int) < (lm : Int)) = true := decide_eq_true (by omega)
                have e1' : decide (9 < lm) = true := decide_eq_true n1
                go_wp2_with fail
                go_ret
                exact ⟨_, rfl, HB.out⟩
              · have e1 : decide ((9 : Int) < (lm : Int)) = false := decide_eq_false (by omega)
                have e1' : decide (9 < lm) = false := decide_eq_false n1
                by_cases n2 : 9 < lc
                · have e2 : decide ((9 : Int) < (lc : Int)) = true := decide_eq_true (by omega)
                  have e2' : decide (9 < lc) = true := decide_eq_true n2
                  first
                    | (exfalso; omega)
                    | (go_wp2_with fail
                       go_ret
                       exact ⟨_, rfl, HB.out⟩)
                · have e2 : decide ((9 : Int) < (lc : Int)) = false := decide_eq_false (by omega)
                  have e2' : decide (9 < lc) = false := decide_eq_false n2
                  first
                    | (exfalso; omega)
                    | (go_wp2_with fail
                       go_ret
                       exact ⟨_, rfl, HB.out⟩)
          · have g1 : decide ((k : Int) < (lc : Int)) = false := decide_eq_false (by omega)
            have g1' : decide (k < lc) = false := decide_eq_false hlt
            by_cases n1 : 9 < lm
            · have e1 : decide ((9 : Int) < (lm : Int)) = true := decide_eq_true (by omega)
              have e1' : decide (9 < lm) = true := decide_eq_true n1
              go_wp2_with fail
              go_ret
              exact ⟨_, rfl, HB.out⟩
            · have e1 : decide ((9 : Int) < (lm : Int)) = false := decide_eq_false (by omega)
              have e1' : decide (9 < lm) = false := decide_eq_false n1
              by_cases n2 : 9 < lc
              · have e2 : decide ((9 : Int) < (lc : Int)) = true := decide_eq_true (by omega)
                have e2' : decide (9 < lc) = true := decide_eq_true n2
                first
                  | (exfalso; omega)
                  | (go_wp2_with fail
                     go_ret
                     exact ⟨_, rfl, HB.out⟩)
              · have e2 : decide ((9 : Int) < (lc : Int)) = false := decide_eq_false (by omega)
                have e2' : decide (9 < lc) = false := decide_eq_false n2
                first
                  | (exfalso; omega)
                  | (go_wp2_with fail
                     go_ret
                     exact ⟨_, rfl, HB.out⟩)
    · have g1 : decide ((k : Int) < (lm : Int)) = false := decide_eq_false (by omega)
      have g1' : decide (k < lm) = false := decide_eq_false hlt
      go_wp2_with fail
      go_loopg [4] lc (fun q v wr => ∃ k : Nat, k ≤ lc ∧ q = lc - k ∧ v = .int .i64 (k : Int) ∧ w.alloc (boxR t er ap lm lc ⟨Am, cm, Ac, cc⟩) = wr)
      case atStart => exact ⟨0, Nat.zero_le _, rfl, rfl, rfl⟩
      case round =>
        obtain ⟨k, hk, hq, rfl, rfl⟩ := hrel
        have HQ := Lib.hid hq
        clear hq
        by_cases hlt : k < lc
        · have g1 : decide ((k : Int) < (lc : Int)) = true := decide_eq_true (by omega)
          have g1' : decide (k < lc) = true := decide_eq_true hlt
          by_cases h10 : k < 10
          · have g2 : decide ((k : Int) < 10) = true := decide_eq_true (by omega)
            have g2' : decide (k < 10) = true := decide_eq_true h10
            obtain ⟨bb, off, A1, c1, sl, S, rfl, d0, d2⟩ := HC.out k hlt
            have hp0 : (0 : Int) ≤ (k : Int) := by omega
            have hp1 : (k : Int) < (lc : Int) := by omega
            by_cases hs : 100 < sl
            · have g3 : decide ((100 : Int) < (sl : Int)) = true := decide_eq_true (by omega)
              have g3' : decide (100 < sl) = true := decide_eq_true hs
              go_wp2_with fail
              go_ret
              exact ⟨true, rfl, HB.out⟩
            · have g3 : decide ((100 : Int) < (sl : Int)) = false := decide_eq_false (by omega)
              have g3' : decide (100 < sl) = false := decide_eq_false hs
              by_cases hn : 50 < S.size
              · have g4 : decide ((50 : Int) < (S.size : Int)) = true := decide_eq_true (by omega)
                have g4' : decide (50 < S.size) = true := decide_eq_true hn
                go_wp2_with fail
                go_ret
                exact ⟨true, rfl, HB.out⟩
              · have g4 : decide ((50 : Int) < (S.size : Int)) = false := decide_eq_false (by omega)
                have g4' : decide (50 < S.size) = false := decide_eq_false hn
                go_wp2_with fail
                go_roundg (lc - (k + 1))
                case measure => have := HQ.out; omega
                case rel => exact ⟨k + 1, by omega, rfl, by go_num, rfl⟩
          · have g2 : decide ((k : Int) < 10) = false := decide_eq_false (by omega)
            have g2' : decide (k < 10) = false := decide_eq_false h10
            by_cases n1 : 9 < lm
            · have e1 : decide ((9 : Int) < (lm : Int)) = true := decide_eq_true (by omega)
              have e1' : decide (9 < lm) = true := decide_eq_true n1
              go_wp2_with fail
              go_ret
              exact ⟨_, rfl, HB.out⟩
            · have e1 : decide ((9 : Int) < (lm : Int)) = false := decide_eq_false (by omega)
              have e1' : decide (9 < lm) = false := decide_eq_false n1
              by_cases n2 : 9 < lc
              · have e2 : decide ((9 : Int) < (lc : Int)) = true := decide_eq_true (by omega)
                have e2' : decide (9 < lc) = true := decide_eq_true n2
                first
                  | (exfalso; omega)
                  | (go_wp2_with fail
                     go_ret
                     exact ⟨_, rfl, HB.out⟩)
              · have e2 : decide ((9 : Int) < (lc : Int)) = false := decide_eq_false (by omega)
                have e2' : decide (9 < lc) = false := decide_eq_false n2
                first
                  | (exfalso; omega)
                  | (go_wp2_with fail
                     go_ret
                     exact ⟨_, rfl, HB.out⟩)
        · have g1 : decide ((k : Int) < (lc : Int)) = false := decide_eq_false (by omega)
          have g1' : decide (k < lc) = false := decide_eq_false hlt
          by_cases n1 : 9 < lm
          · have e1 : decide ((9 : Int) < (lm : Int)) = true := decide_eq_true (by omega)
            have e1' : decide (9 < lm) = true := decide_eq_true n1
            go_wp2_with fail
            go_ret
            exact ⟨_, rfl, HB.out⟩
          · have e1 : decide ((9 : Int) < (lm : Int)) = false := decide_eq_false (by omega)
            have e1' : decide (9 < lm) = false := decide_eq_false n1
            by_cases n2 : 9 < lc
            · have e2 : decide ((9 : Int) < (lc : Int)) = true := decide_eq_true (by omega)
              have e2' : decide (9 < lc) = true := decide_eq_true n2
              first
                | (exfalso; omega)
                | (go_wp2_with fail
                   go_ret
                   exact ⟨_, rfl, HB.out⟩)
            · have e2 : decide ((9 : Int) < (lc : Int)) = false := decide_eq_false (by omega)
              have e2' : decide (9 < lc) = false := decide_eq_false n2
              first
                | (exfalso; omega)
                | (go_wp2_with fail
                   go_ret
                   exact ⟨_, rfl, HB.out⟩)
end Go.Proofs.YteikakoheibnjaaGreatDoor
namespace Go.Proofs.YteikakoheibnjaaGreatDoor
open Go Go.RowKit

set_option maxRecDepth 100000 in
set_option maxHeartbeats 8000000 in
theorem lawTexts_any {w : World} {r : ResP} {L : ResL} (h : ResAt w w.heap.size r L) (hT : TTab w) :
    Calls Tryz.prog 3 #[resT r L] w fun e w' => e = .returned (.bool true) ∧ Below w.heap.size w w' := by
  show Calls Tryz.prog 3 #[resW r.tag r.err r.at_ r.model.length r.counter.length L] w _
  have HLG := Lib.hid (fun W (hb : Below w.heap.size w W) => (show Calls Tryz.prog 7 #[resW r.tag r.err r.at_ r.model.length r.counter.length L] W _ from long_any (h.later hb hb.size)))
  have HIS := Lib.hid (fun W (hb : Below w.heap.size w W) => (show Calls Tryz.prog 8 #[resW r.tag r.err r.at_ r.model.length r.counter.length L] W _ from tis_any (h.later hb hb.size)))
  have HRI := Lib.hid (fun W (hb : Below w.heap.size w W) => (show Calls Tryz.prog 9 #[resW r.tag r.err r.at_ r.model.length r.counter.length L] W _ from ris_any (h.later hb hb.size) (hT.below hb).t8))
  have HTX := Lib.hid (fun W (hb : Below w.heap.size w W) => (show Calls Tryz.prog 10 #[resW r.tag r.err r.at_ r.model.length r.counter.length L] W _ from ttext_any (h.later hb hb.size) (hT.below hb)))
  have HRT := Lib.hid (fun W (hb : Below w.heap.size w W) => (show Calls Tryz.prog 11 #[resW r.tag r.err r.at_ r.model.length r.counter.length L] W _ from rtext_any (h.later hb hb.size) (hT.below hb).t8))
  have HKN := Lib.hid (fun W (hb : Below w.heap.size w W) => tknown_any (hT.below hb))
  have HB0 := Lib.hid ((Below.refl w.heap.size w).alloc (Nat.le_refl _) (boxR r.tag r.err r.at_ r.model.length r.counter.length L))
  have HX0 := Lib.hid (lblkNew w 25 #[.int .i64 r.tag, .int .i64 r.err, .int .i64 r.at_, .slice L.Am r.model.length L.cm, .slice L.Ac r.counter.length L.cc])
  clear h hT
  generalize isB r = V at *
  generalize textP r = TX at *
  generalize r.model.length = lm at *
  generalize r.counter.length = lc at *
  generalize r.tag = t at *
  generalize r.err = er at *
  generalize r.at_ = ap at *
  have hV : (V == V) = true := by simp
  have hTX : (TX == TX) = true := by simp
  go_enter Tryz.func3, Tryz.ntmps3
  go_upto_region 3 with (
    go_at_call 7
    refine (HLG.out _ HB0.out).mono ?_
    rintro q w1 ⟨b, rfl, hb1⟩
    have HX1 := Lib.hid (HX0.out.later hb1)
    obtain ⟨x0, x1, x2, x3, x4⟩ := lblk5 HX1.out
    have HB1 := Lib.hid (HB0.out.trans (hb1.mono HB0.out.size))
    clear hb1)
  · go_ret
    exact ⟨rfl, HB1.out⟩
  · go_region_held3 (fun W : World => W.cell? ⟨w.heap.size, 0, none⟩ = some (.int .i64 t) ∧ W.cell? ⟨w.heap.size, 1, none⟩ = some (.int .i64 er) ∧ W.cell? ⟨w.heap.size, 2, none⟩ = some (.int .i64 ap) ∧ W.cell? ⟨w.heap.size, 3, none⟩ = some (.slice L.Am lm L.cm) ∧ W.cell? ⟨w.heap.size, 4, none⟩ = some (.slice L.Ac lc L.cc)) ((refine ⟨?_, ?_, ?_, ?_, ?_⟩) <;> repeat' (first | (with_reducible exact e0) | (with_reducible exact e1) | (with_reducible exact e2) | (with_reducible exact e3) | (with_reducible exact e4) | (with_reducible exact d0) | (with_reducible exact d1) | (with_reducible exact d2) | (with_reducible exact d3) | (with_reducible exact d4) | (with_reducible exact c0) | (with_reducible exact c1) | (with_reducible exact c2) | (with_reducible exact c3) | (with_reducible exact c4) | (with_reducible exact b0) | (with_reducible exact b1) | (with_reducible exact b2) | (with_reducible exact b3) | (with_reducible exact b4) | (with_reducible exact a0) | (with_reducible exact a1) | (with_reducible exact a2) | (with_reducible exact a3) | (with_reducible exact a4) | (with_reducible exact x0) | (with_reducible exact x1) | (with_reducible exact x2) | (with_reducible exact x3) | (with_reducible exact x4) | (with_reducible refine lkeepD ?_) | omega)) ((first
      | (
        have hgd := HBd
        clear hgd
        go_at_call 12
        refine (HKN.out _ HBd.out).mono ?_
        rintro q we ⟨rfl, hbe⟩
        have HXe := Lib.hid (Blk.later HXd.out hbe)
        obtain ⟨e0, e1, e2, e3, e4⟩ := lblk5 HXe.out
        have HBe := Lib.hid (HBd.out.trans (hbe.mono HBd.out.size))
        clear hbe)
      | (
        have hgd := HBc
        clear hgd
        go_at_call 11
        refine (HRT.out _ HBc.out).mono ?_
        rintro q wd ⟨rfl, hbd⟩
        have HXd := Lib.hid (Blk.later HXc.out hbd)
        obtain ⟨d0, d1, d2, d3, d4⟩ := lblk5 HXd.out
        have HBd := Lib.hid (HBc.out.trans (hbd.mono HBc.out.size))
        clear hbd)
      | (
        have hgd := HBb
        clear hgd
        go_at_call 10
        refine (HTX.out _ HBb.out).mono ?_
        rintro q wc ⟨rfl, hbc⟩
        have HXc := Lib.hid (Blk.later HXb.out hbc)
        obtain ⟨c0, c1, c2, c3, c4⟩ := lblk5 HXc.out
        have HBc := Lib.hid (HBb.out.trans (hbc.mono HBb.out.size))
        clear hbc)
      | (
        have hgd := HBa
        clear hgd
        go_at_call 9
        refine (HRI.out _ HBa.out).mono ?_
        rintro q wb ⟨rfl, hbb⟩
        have HXb := Lib.hid (Blk.later HXa.out hbb)
        obtain ⟨b0, b1, b2, b3, b4⟩ := lblk5 HXb.out
        have HBb := Lib.hid (HBa.out.trans (hbb.mono HBa.out.size))
        clear hbb)
      | (
        go_at_call 8
        refine (HIS.out _ HB1.out.drew).mono ?_
        rintro q wa ⟨rfl, hba⟩
        have HXa := Lib.hid (Blk.later (lblkD HX1.out) hba)
        obtain ⟨a0, a1, a2, a3, a4⟩ := lblk5 HXa.out
        have HBa := Lib.hid (HB1.out.drew.trans (hba.mono HB1.out.size))
        clear hba)))
    all_goals
      go_wp2_with fail
      go_ret
      exact ⟨rfl, HBe.out⟩
end Go.Proofs.YteikakoheibnjaaGreatDoor
