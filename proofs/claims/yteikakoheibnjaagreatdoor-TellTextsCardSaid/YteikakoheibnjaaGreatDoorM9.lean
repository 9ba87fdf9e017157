/- Parts of the proof: Skip. -/
import Derived.Laws.ResultCell
import Derived.Laws.Rows
import Derived.Test.YteikakoheibnjaaGreatDoorM8
namespace Go.Proofs.YteikakoheibnjaaGreatDoor
open Go Go.RowKit

theorem class_zero {w : World} {B q : Nat} {S : ByteArray} {R : List Ru} {A : Option Addr} {c : Nat} {bad : Int} {i : Nat} (h : Rd w B q S R A c bad i) (hi : i ≤ 2000) :
    Calls Tryz.prog 107 #[.pointer (some ⟨q, 0, none⟩), .int .i64 0] w fun e w' => e = .returned (.int .i64 (clsAt R i)) ∧ ∃ n, w' = w.drewN n := class_any h 0 hi (by omega)
theorem rdis_zero {w : World} {B q : Nat} {S : ByteArray} {R : List Ru} {A : Option Addr} {c : Nat} {bad : Int} {i : Nat} (h : Rd w B q S R A c bad i) (x : Nat) (hi : i ≤ 2000) :
    Calls Tryz.prog 108 #[.pointer (some ⟨q, 0, none⟩), .int .i64 0, .int .i32 x] w fun e w' => e = .returned (.bool (isAt R i x)) ∧ ∃ n, w' = w.drewN n := rdis_any h 0 x hi (by omega)
theorem rdat_zero {w : World} {B q : Nat} {S : ByteArray} {R : List Ru} {A : Option Addr} {c : Nat} {bad : Int} {i : Nat} (h : Rd w B q S R A c bad i) (hi : i ≤ 2000) :
    Calls Tryz.prog 87 #[.pointer (some ⟨q, 0, none⟩), .int .i64 0] w fun e w' => e = .returned (.int .i64 (atAt R S.size i : Nat)) ∧ ∃ n, w' = w.drewN n := rdat_any h 0 hi (by omega)

theorem sk_end {R : List Ru} {j : Nat} (h : ¬ j < R.length) (b : Bool) : skipM b (R.drop j) = 0 := by
  rw [List.drop_eq_nil_of_le (by omega)]
  cases b <;> rfl
theorem sk_space {R : List Ru} {j : Nat} (h : j < R.length) (hc : cls R[j].1 = 3) : skipM false (R.drop j) = skipM false (R.drop (j + 1)) + 1 := by
  rw [List.drop_eq_getElem_cons h]
  conv => lhs; unfold skipM
  rw [if_pos hc]
theorem sk_hash {R : List Ru} {j : Nat} (h : j < R.length) (hc : R[j].1 = 35) : skipM false (R.drop j) = skipM true (R.drop (j + 1)) + 1 := by
  rw [List.drop_eq_getElem_cons h]
  conv => lhs; unfold skipM
  rw [if_neg (by rw [hc]; decide), if_pos hc]
theorem sk_else {R : List Ru} {j : Nat} (h : j < R.length) (h1 : ¬ cls R[j].1 = 3) (h2 : ¬ R[j].1 = 35) : skipM false (R.drop j) = 0 := by
  rw [List.drop_eq_getElem_cons h]
  unfold skipM
  rw [if_neg h1, if_neg h2]
theorem sk_nl {R : List Ru} {j : Nat} (h : j < R.length) (hc : R[j].1 = 10) : skipM true (R.drop j) = skipM false (R.drop j) := by
  rw [sk_space h (by rw [hc]; decide), List.drop_eq_getElem_cons h]
  conv => lhs; unfold skipM
  rw [if_pos hc]
theorem sk_in {R : List Ru} {j : Nat} (h : j < R.length) (hc : ¬ R[j].1 = 10) : skipM true (R.drop j) = skipM true (R.drop (j + 1)) + 1 := by
  rw [List.drop_eq_getElem_cons h]
  conv => lhs; unfold skipM
  rw [if_neg hc]

/-- What a reading step leaves: only the reader's own block has turned. -/
def Left (w : World) (B q : Nat) (S : ByteArray) (R : List Ru) (A : Option Addr) (c : Nat) (bad : Int) (i : Nat) (w' : World) : Prop := Fr (fun b => b = q) w w' ∧ Rd w' B q S R A c bad i
theorem Left.drewN {w W : World} {B q : Nat} {S : ByteArray} {R : List Ru} {A : Option Addr} {c : Nat} {bad : Int} {i : Nat} (h : Left w B q S R A c bad i W) (n : Nat) : Left w B q S R A c bad i (W.drewN n) := ⟨h.1.drewN n, h.2.drewN n⟩
theorem Left.inc {w W : World} {B q : Nat} {S : ByteArray} {R : List Ru} {A : Option Addr} {c : Nat} {bad : Int} {i : Nat} (h : Left w B q S R A c bad i W) : Left w B q S R A c bad (i + 1) (W.setCell ⟨q, 3, none⟩ (.int .i64 ((i : Int) + 1))) :=
  ⟨h.1.setCell (.inl rfl) _, h.2.set_ (i + 1)⟩
theorem Left.far {w W : World} {B q : Nat} {S : ByteArray} {R : List Ru} {A : Option Addr} {c : Nat} {bad : Int} {i : Nat} (h : Left w B q S R A c bad i W) {p : Addr} (hB : B ≤ w.heap.size) (hp : w.heap.size ≤ p.block) (u : Value) : Left w B q S R A c bad i (W.setCell p u) :=
  ⟨h.1.setCell (.inr hp) _, h.2.far (Nat.le_trans hB hp) _⟩
theorem Left.alloc {w W : World} {B q : Nat} {S : ByteArray} {R : List Ru} {A : Option Addr} {c : Nat} {bad : Int} {i : Nat} (h : Left w B q S R A c bad i W) (o : Obj) : Left w B q S R A c bad i (W.alloc o) := ⟨h.1.alloc o, h.2.alloc o⟩
theorem Left.below {w W W' : World} {B q : Nat} {S : ByteArray} {R : List Ru} {A : Option Addr} {c : Nat} {bad : Int} {i : Nat} (h : Left w B q S R A c bad i W) (hb : Below W.heap.size W W') : Left w B q S R A c bad i W' :=
  ⟨h.1.trans ((Fr.of_below hb).mono fun k hk hs => absurd hs (by omega)), h.2.below hb⟩
theorem Left.to {w W : World} {B q : Nat} {S : ByteArray} {R : List Ru} {A : Option Addr} {c : Nat} {bad : Int} {i : Nat} (h : Left w B q S R A c bad i W) (k : Nat) (v : Int) (hv : v = (k : Nat)) : Left w B q S R A c bad k (W.setCell ⟨q, 3, none⟩ (.int .i64 v)) := by
  subst hv
  exact ⟨h.1.setCell (.inl rfl) _, h.2.set_ k⟩
theorem Left.refl {w : World} {B q : Nat} {S : ByteArray} {R : List Ru} {A : Option Addr} {c : Nat} {bad : Int} {i : Nat} (h : Rd w B q S R A c bad i) : Left w B q S R A c bad i w := ⟨Fr.refl _ _, h⟩
theorem Blk.other {w : World} {g : Nat} {t : TypeId} {cs : Array Value} (h : Blk w g t cs) {p : Addr} (hp : p.block ≠ g) (u : Value) : Blk (w.setCell p u) g t cs := (Below.heap_setCell w p u g (Ne.symm hp)).trans h
theorem tok4 {w : World} {g : Nat} {t : TypeId} {x0 x1 x2 x3 : Value} (h : Blk w g t #[x0, x1, x2, x3]) (y0 y1 y2 y3 : Value) :
    Blk ((((w.setCell ⟨g, 0, none⟩ y0).setCell ⟨g, 1, none⟩ y1).setCell ⟨g, 2, none⟩ y2).setCell ⟨g, 3, none⟩ y3) g t #[y0, y1, y2, y3] := by
  have := (((h.set_ 0 y0).set_ 1 y1).set_ 2 y2).set_ 3 y3
  simpa using this
theorem res_tok {fn : Func} {p u : Tmp} (h : fn.results = #[.cell p 78, .tmp u]) (tmps : Array Value) (w : World) (g : Nat) (cs : Array Value) (hp : tmps.getD p undef = .pointer (some ⟨g, 0, none⟩)) (hg : Blk w g 78 cs) (hc : cs.size = 4) :
    (results fn tmps).run Tryz.prog w = .ok (.tuple #[.agg cs, tmps.getD u undef]) w := by
  have hi : (Tryz.prog.info? 78).map (·.size) = some cs.size := by rw [hc]; kernel_rfl
  rw [results_cell_tmp h, hp]
  simp [asAddr, run_loadVar_row w g 78 78 cs (0, 0) _ hg Tryz.underlying78 rfl hi, Result.andThen]
/-- A token as a value. -/
def tokV (t : Tok) : Value := .agg #[.int .i64 t.kind, .string ⟨t.text.toArray⟩, .int .i64 t.n, .int .i64 t.at_]
/-- What a token's reading hands back. -/
def TokPost (w : World) (B q : Nat) (S : ByteArray) (R : List Ru) (A : Option Addr) (c : Nat) (bad : Int) (i : Nat) (e : Ending) (w' : World) : Prop :=
  (∃ t n, tokR (posn R i) (R.drop i) = some (t, n) ∧ e = .returned (.tuple #[tokV t, .bool true]) ∧ Left w B q S R A c bad (i + n) w') ∨
  (tokR (posn R i) (R.drop i) = none ∧ ∃ t j, e = .returned (.tuple #[tokV t, .bool false]) ∧ Left w B q S R A c bad j w')
set_option maxHeartbeats 4000000 in
theorem skip_any {w : World} {B q : Nat} {S : ByteArray} {R : List Ru} {A : Option Addr} {c : Nat} {bad : Int} {i : Nat} (h : Rd w B q S R A c bad i) (hi : i ≤ R.length) :
    Calls Tryz.prog 86 #[.pointer (some ⟨q, 0, none⟩)] w fun e w' => e = .returned (.tuple #[]) ∧ Left w B q S R A c bad (i + skipM false (R.drop i)) w' := by
  have hl := h.len
  have HR0 := Lib.hid h
  clear h
  go_enter Tryz.func86, Tryz.ntmps86
  go_wp2_with fail
  go_loopg [] (R.length - i) (fun g wr => ∃ j : Nat, j ≤ R.length ∧ g = R.length - j ∧ Hid (i + skipM false (R.drop i) = j + skipM false (R.drop j)) ∧ Hid (Left w B q S R A c bad j wr))
  case atStart => exact ⟨i, hi, rfl, Lib.hid rfl, Lib.hid ⟨Fr.refl _ _, HR0.out⟩⟩
  case round =>
    obtain ⟨j, hj, hg, HE, HL⟩ := hrel
    have HG := Lib.hid hg
    have hj2 : j ≤ 2000 := by omega
    obtain ⟨c0, c1, c2, c3⟩ := HL.out.2.cells
    have f3 := HL.out.2.blk.frozen 3
    clear hg
    have HCL := Lib.hid (fun W (hW : Rd W B q S R A c bad j) => class_zero hW hj2)
    have HIS := Lib.hid (fun W (hW : Rd W B q S R A c bad j) => rdis_zero hW 35 hj2)
    by_cases hlt : j < R.length
    · by_cases hsp : cls R[j].1 = 3
      · have h35 : ¬ R[j].1 = 35 := by intro e; rw [e] at hsp; revert hsp; decide
        rw [show clsAt R j = 3 by unfold clsAt; rw [dif_pos hlt, hsp]; rfl] at HCL
        rw [show isAt R j 35 = false by unfold isAt; rw [dif_pos hlt]; exact beq_false_of_ne h35] at HIS
        have HS := Lib.hid (sk_space hlt hsp)
        clear hsp h35
        go_wp2_with (first
        | (
          go_at_call 107
          first
          | refine (HCL.out _ (HL.out.2)).mono ?_
          | refine (HCL.out _ (HL.out.2.drewN _)).mono ?_
          rintro e w2 ⟨rfl, n1, rfl⟩)
        | (
          go_at_call 108
          first
          | refine (HIS.out _ (HL.out.2.drewN _)).mono ?_
          | refine (HIS.out _ (HL.out.2)).mono ?_
          rintro e w3 ⟨rfl, n2, rfl⟩))
        refine wp_loop_rounds 1 ?_
        rw [rounds_succ]
        go_wp2_with fail
        go_quiet (fail)
        go_wp2_with fail
        go_roundg (R.length - (j + 1))
        case measure => have := HG.out; omega
        case rel => exact ⟨j + 1, by omega, rfl, Lib.hid (by rw [HE.out, HS.out]; omega), Lib.hid (by repeat' (first | exact HL.out | refine Left.drewN ?_ _ | refine Left.inc ?_))⟩
      · by_cases h35 : R[j].1 = 35
        · rw [show clsAt R j = 4 by unfold clsAt; rw [dif_pos hlt, h35]; decide] at HCL
          rw [show isAt R j 35 = true by unfold isAt; rw [dif_pos hlt, h35]; rfl] at HIS
          have HS := Lib.hid (sk_hash hlt h35)
          clear hsp h35
          go_wp2_with (first
          | (
            go_at_call 107
            first
            | refine (HCL.out _ (HL.out.2)).mono ?_
            | refine (HCL.out _ (HL.out.2.drewN _)).mono ?_
            rintro e w2 ⟨rfl, n1, rfl⟩)
          | (
            go_at_call 108
            first
            | refine (HIS.out _ (HL.out.2.drewN _)).mono ?_
            | refine (HIS.out _ (HL.out.2)).mono ?_
            rintro e w3 ⟨rfl, n2, rfl⟩))
          go_loopg [] (R.length - (j + 1)) (fun g2 wi => ∃ k : Nat, k ≤ R.length ∧ j + 1 ≤ k ∧ g2 = R.length - k ∧ Hid (i + skipM false (R.drop i) = k + skipM true (R.drop k)) ∧ Hid (Left w B q S R A c bad k wi))
          case atStart => exact ⟨j + 1, by omega, Nat.le_refl _, rfl, Lib.hid (by rw [HE.out, HS.out]; omega), Lib.hid (by repeat' (first | exact HL.out | refine Left.drewN ?_ _ | refine Left.inc ?_))⟩
          case round =>
            obtain ⟨k, hk, hjk, hg2, HE2, HL2⟩ := hrel
            have HG2 := Lib.hid hg2
            have hk2 : k ≤ 2000 := by omega
            obtain ⟨d0, d1, d2, d3⟩ := HL2.out.2.cells
            have e3 := HL2.out.2.blk.frozen 3
            clear hg2
            have HNL := Lib.hid (fun W (hW : Rd W B q S R A c bad k) => rdis_zero hW 10 hk2)
            by_cases hlt2 : k < R.length
            · have t1 : decide ((k : Int) < (R.length : Int)) = true := decide_eq_true (by omega)
              by_cases h10 : R[k].1 = 10
              · rw [show isAt R k 10 = true by unfold isAt; rw [dif_pos hlt2, h10]; rfl] at HNL
                have HS2 := Lib.hid (sk_nl hlt2 h10)
                clear h10
                go_wp2_with fail
                go_quiet ((go_at_call 108; exact Calls.quiet_of (HNL.out _ (HL2.out.2.drewN _))))
                go_wp2_with fail
                go_roundg (R.length - k)
                case measure => have := HG.out; omega
                case rel => exact ⟨k, hk, rfl, Lib.hid (by rw [HE2.out, HS2.out]), Lib.hid (by repeat' (first | exact HL2.out | refine Left.drewN ?_ _))⟩
              · rw [show isAt R k 10 = false by unfold isAt; rw [dif_pos hlt2]; exact beq_false_of_ne h10] at HNL
                have HS2 := Lib.hid (sk_in hlt2 h10)
                clear h10
                go_wp2_with fail
                go_quiet ((go_at_call 108; exact Calls.quiet_of (HNL.out _ (HL2.out.2.drewN _))))
                go_wp2_with fail
                go_roundg (R.length - (k + 1))
                case measure => have := HG2.out; omega
                case rel => exact ⟨k + 1, by omega, by omega, rfl, Lib.hid (by rw [HE2.out, HS2.out]; omega), Lib.hid (by repeat' (first | exact HL2.out | refine Left.drewN ?_ _ | refine Left.inc ?_))⟩
            · have t1 : decide ((k : Int) < (R.length : Int)) = false := decide_eq_false (by omega)
              go_wp2_with fail
              go_quiet (fail)
              go_wp2_with fail
              go_roundg (R.length - k)
              case measure => have := HG.out; omega
              case rel => exact ⟨k, hk, rfl, Lib.hid (by rw [HE2.out, sk_end hlt2, sk_end hlt2]), Lib.hid (by repeat' (first | exact HL2.out | refine Left.drewN ?_ _))⟩
        · have HV := Lib.hid (show clsAt R j = (cls R[j].1 : Nat) by unfold clsAt; rw [dif_pos hlt])
          rw [show isAt R j 35 = false by unfold isAt; rw [dif_pos hlt]; exact beq_false_of_ne h35] at HIS
          have HS := Lib.hid (sk_else hlt hsp h35)
          have gv : (clsAt R j == 3) = false := by rw [HV.out]; simp; omega
          clear hsp h35
          generalize clsAt R j = V at *
          go_wp2_with (first
          | (
            go_at_call 107
            first
            | refine (HCL.out _ (HL.out.2)).mono ?_
            | refine (HCL.out _ (HL.out.2.drewN _)).mono ?_
            rintro e w2 ⟨rfl, n1, rfl⟩)
          | (
            go_at_call 108
            first
            | refine (HIS.out _ (HL.out.2.drewN _)).mono ?_
            | refine (HIS.out _ (HL.out.2)).mono ?_
            rintro e w3 ⟨rfl, n2, rfl⟩))
          go_end0
          exact ⟨rfl, by
            rw [HE.out, HS.out]
            repeat' (first | exact HL.out | refine Left.drewN ?_ _)⟩
    · rw [show clsAt R j = -1 by unfold clsAt; rw [dif_neg hlt]] at HCL
      rw [show isAt R j 35 = false by unfold isAt; rw [dif_neg hlt]] at HIS
      have HS := Lib.hid (sk_end hlt false)
      go_wp2_with (first
        | (
          go_at_call 107
          first
          | refine (HCL.out _ (HL.out.2)).mono ?_
          | refine (HCL.out _ (HL.out.2.drewN _)).mono ?_
          rintro e w2 ⟨rfl, n1, rfl⟩)
        | (
          go_at_call 108
          first
          | refine (HIS.out _ (HL.out.2.drewN _)).mono ?_
          | refine (HIS.out _ (HL.out.2)).mono ?_
          rintro e w3 ⟨rfl, n2, rfl⟩))
      go_end0
      exact ⟨rfl, by
        rw [HE.out, HS.out]
        repeat' (first | exact HL.out | refine Left.drewN ?_ _)⟩
end Go.Proofs.YteikakoheibnjaaGreatDoor
