/- Parts of the proof: Skip, Word, Name, Number. -/
import Derived.Test.YteikakoheibnjaaDoorQ1
import Derived.Deep.CutRange
import Derived.Deep.RegionHeld3
import Derived.Laws.ResultCell
import Derived.Laws.Rows
import Derived.StillTailTactics
namespace Go.Proofs.YteikakoheibnjaaDoor
open Go Go.RowKit

theorem class_zero {w : World} {B q : Nat} {S : ByteArray} {R : List Ru} {A : Option Addr} {c : Nat} {bad : Int} {i : Nat} (h : Rd w B q S R A c bad i) (hi : i ≤ 2000) :
  Calls Tryd.prog 91 #[.pointer (some ⟨q, 0, none⟩), .int .i64 0] w fun e w' => e = .returned (.int .i64 (clsAt R i)) ∧ ∃ n, w' = w.drewN n := class_any h 0 hi (by omega)
theorem rdis_zero {w : World} {B q : Nat} {S : ByteArray} {R : List Ru} {A : Option Addr} {c : Nat} {bad : Int} {i : Nat} (h : Rd w B q S R A c bad i) (x : Nat) (hi : i ≤ 2000) :
  Calls Tryd.prog 92 #[.pointer (some ⟨q, 0, none⟩), .int .i64 0, .int .i32 x] w fun e w' => e = .returned (.bool (isAt R i x)) ∧ ∃ n, w' = w.drewN n := rdis_any h 0 x hi (by omega)
theorem rdat_zero {w : World} {B q : Nat} {S : ByteArray} {R : List Ru} {A : Option Addr} {c : Nat} {bad : Int} {i : Nat} (h : Rd w B q S R A c bad i) (hi : i ≤ 2000) :
  Calls Tryd.prog 70 #[.pointer (some ⟨q, 0, none⟩), .int .i64 0] w fun e w' => e = .returned (.int .i64 (atAt R S.size i : Nat)) ∧ ∃ n, w' = w.drewN n := rdat_any h 0 hi (by omega)

theorem sk_end {R : List Ru} {j : Nat} (h : ¬ j < R.length) (b : Bool) : skipM b (R.drop j) = 0 := by
 rw [List.drop_eq_nil_of_le (by omega)]
 cases b <;> rfl
theorem sk_space {R : List Ru} {j : Nat} (h : j < R.length) (hc : cls R[j].1 = 3) : skipM false (R.drop j) = skipM false (R.drop (j + 1)) + 1 := by
 rw [List.drop_eq_getElem_cons h]
 conv => lhs; unfold skipM
 rw [if_pos hc]
theorem sk_hash {R : List Ru} {j : Nat} (h : j < R.length) (hc : R[j].1 = 35) : skipM false (R.drop j) = skipM true (R.drop (j + 1)) + 1 := by
 rw [List.drop_eq_getElem_cons h]
 conv => lhs; unfold skipM
 rw [if_neg (by rw [hc]; decide), if_pos hc]
theorem sk_else {R : List Ru} {j : Nat} (h : j < R.length) (h1 : ¬ cls R[j].1 = 3) (h2 : ¬ R[j].1 = 35) : skipM false (R.drop j) = 0 := by
 rw [List.drop_eq_getElem_cons h]
 unfold skipM
 rw [if_neg h1, if_neg h2]
theorem sk_nl {R : List Ru} {j : Nat} (h : j < R.length) (hc : R[j].1 = 10) : skipM true (R.drop j) = skipM false (R.drop j) := by
 rw [sk_space h (by rw [hc]; decide), List.drop_eq_getElem_cons h]
 conv => lhs; unfold skipM
 rw [if_pos hc]
theorem sk_in {R : List Ru} {j : Nat} (h : j < R.length) (hc : ¬ R[j].1 = 10) : skipM true (R.drop j) = skipM true (R.drop (j + 1)) + 1 := by
 rw [List.drop_eq_getElem_cons h]
 conv => lhs; unfold skipM
 rw [if_neg hc]

def Left (w : World) (B q : Nat) (S : ByteArray) (R : List Ru) (A : Option Addr) (c : Nat) (bad : Int) (i : Nat) (w' : World) : Prop := Fr (fun b => b = q) w w' ∧ Rd w' B q S R A c bad i
theorem Left.drewN {w W : World} {B q : Nat} {S : ByteArray} {R : List Ru} {A : Option Addr} {c : Nat} {bad : Int} {i : Nat} (h : Left w B q S R A c bad i W) (n : Nat) : Left w B q S R A c bad i (W.drewN n) := ⟨h.1.drewN n, h.2.drewN n⟩
theorem Left.inc {w W : World} {B q : Nat} {S : ByteArray} {R : List Ru} {A : Option Addr} {c : Nat} {bad : Int} {i : Nat} (h : Left w B q S R A c bad i W) : Left w B q S R A c bad (i + 1) (W.setCell ⟨q, 3, none⟩ (.int .i64 ((i : Int) + 1))) :=
 ⟨h.1.setCell (.inl rfl) _, h.2.set_ (i + 1)⟩
theorem Left.far {w W : World} {B q : Nat} {S : ByteArray} {R : List Ru} {A : Option Addr} {c : Nat} {bad : Int} {i : Nat} (h : Left w B q S R A c bad i W) {p : Addr} (hB : B ≤ w.heap.size) (hp : w.heap.size ≤ p.block) (u : Value) : Left w B q S R A c bad i (W.setCell p u) :=
 ⟨h.1.setCell (.inr hp) _, h.2.far (Nat.le_trans hB hp) _⟩
theorem Left.alloc {w W : World} {B q : Nat} {S : ByteArray} {R : List Ru} {A : Option Addr} {c : Nat} {bad : Int} {i : Nat} (h : Left w B q S R A c bad i W) (o : Obj) : Left w B q S R A c bad i (W.alloc o) := ⟨h.1.alloc o, h.2.alloc o⟩
theorem Left.below {w W W' : World} {B q : Nat} {S : ByteArray} {R : List Ru} {A : Option Addr} {c : Nat} {bad : Int} {i : Nat} (h : Left w B q S R A c bad i W) (hb : Below W.heap.size W W') : Left w B q S R A c bad i W' :=
 ⟨h.1.trans ((Fr.of_below hb).mono fun k hk hs => absurd hs (by omega)), h.2.below hb⟩
theorem Left.to {w W : World} {B q : Nat} {S : ByteArray} {R : List Ru} {A : Option Addr} {c : Nat} {bad : Int} {i : Nat} (h : Left w B q S R A c bad i W) (k : Nat) (v : Int) (hv : v = (k : Nat)) : Left w B q S R A c bad k (W.setCell ⟨q, 3, none⟩ (.int .i64 v)) := by
 subst hv
 exact ⟨h.1.setCell (.inl rfl) _, h.2.set_ k⟩
theorem Left.refl {w : World} {B q : Nat} {S : ByteArray} {R : List Ru} {A : Option Addr} {c : Nat} {bad : Int} {i : Nat} (h : Rd w B q S R A c bad i) : Left w B q S R A c bad i w := ⟨Fr.refl _ _, h⟩
theorem Blk.other {w : World} {g : Nat} {t : TypeId} {cs : Array Value} (h : Blk w g t cs) {p : Addr} (hp : p.block ≠ g) (u : Value) : Blk (w.setCell p u) g t cs := (Below.heap_setCell w p u g (Ne.symm hp)).trans h
theorem tok4 {w : World} {g : Nat} {t : TypeId} {x0 x1 x2 x3 : Value} (h : Blk w g t #[x0, x1, x2, x3]) (y0 y1 y2 y3 : Value) :
  Blk ((((w.setCell ⟨g, 0, none⟩ y0).setCell ⟨g, 1, none⟩ y1).setCell ⟨g, 2, none⟩ y2).setCell ⟨g, 3, none⟩ y3) g t #[y0, y1, y2, y3] := by
 have := (((h.set_ 0 y0).set_ 1 y1).set_ 2 y2).set_ 3 y3
 simpa using this
theorem res_tok {fn : Func} {p u : Tmp} (h : fn.results = #[.cell p 80, .tmp u]) (tmps : Array Value) (w : World) (g : Nat) (cs : Array Value) (hp : tmps.getD p undef = .pointer (some ⟨g, 0, none⟩)) (hg : Blk w g 80 cs) (hc : cs.size = 4) :
  (results fn tmps).run Tryd.prog w = .ok (.tuple #[.agg cs, tmps.getD u undef]) w := by
 have hi : (Tryd.prog.info? 80).map (·.size) = some cs.size := by rw [hc]; kernel_rfl
 rw [results_cell_tmp h, hp]
 simp [asAddr, run_loadVar_row w g 80 80 cs (0, 0) _ hg Tryd.underlying80 rfl hi, Result.andThen]
def tokV (t : Tok) : Value := .agg #[.int .i64 t.kind, .string ⟨t.text.toArray⟩, .int .i64 t.n, .int .i64 t.at_]
def TokPost (w : World) (B q : Nat) (S : ByteArray) (R : List Ru) (A : Option Addr) (c : Nat) (bad : Int) (i : Nat) (e : Ending) (w' : World) : Prop :=
 (∃ t n, tokR (posn R i) (R.drop i) = some (t, n) ∧ e = .returned (.tuple #[tokV t, .bool true]) ∧ Left w B q S R A c bad (i + n) w') ∨
 (tokR (posn R i) (R.drop i) = none ∧ ∃ t j, e = .returned (.tuple #[tokV t, .bool false]) ∧ Left w B q S R A c bad j w')
set_option maxHeartbeats 4000000 in
theorem skip_any {w : World} {B q : Nat} {S : ByteArray} {R : List Ru} {A : Option Addr} {c : Nat} {bad : Int} {i : Nat} (h : Rd w B q S R A c bad i) (hi : i ≤ R.length) :
  Calls Tryd.prog 69 #[.pointer (some ⟨q, 0, none⟩)] w fun e w' => e = .returned (.tuple #[]) ∧ Left w B q S R A c bad (i + skipM false (R.drop i)) w' := by
 have hl := h.len
 have HR0 := Lib.hid h
 clear h
 go_enter Tryd.func69, Tryd.ntmps69
 go_wp2_with fail
 go_loopg [] (R.length - i) (fun g wr => ∃ j : Nat, j ≤ R.length ∧ g = R.length - j ∧ Hid (i + skipM false (R.drop i) = j + skipM false (R.drop j)) ∧ Hid (Left w B q S R A c bad j wr))
 case atStart => exact ⟨i, hi, rfl, Lib.hid rfl, Lib.hid ⟨Fr.refl _ _, HR0.out⟩⟩
 case round =>
  obtain ⟨j, hj, hg, HE, HL⟩ := hrel
  have HG := Lib.hid hg
  have hj2 : j ≤ 2000 := by omega
  obtain ⟨c0, c1, c2, c3⟩ := HL.out.2.cells
  have f3 := HL.out.2.blk.frozen 3
  clear hg
  have HCL := Lib.hid (fun W (hW : Rd W B q S R A c bad j) => class_zero hW hj2)
  have HIS := Lib.hid (fun W (hW : Rd W B q S R A c bad j) => rdis_zero hW 35 hj2)
  by_cases hlt : j < R.length
  · by_cases hsp : cls R[j].1 = 3
    · have h35 : ¬ R[j].1 = 35 := by intro e; rw [e] at hsp; revert hsp; decide
      rw [show clsAt R j = 3 by unfold clsAt; rw [dif_pos hlt, hsp]; rfl] at HCL
      rw [show isAt R j 35 = false by unfold isAt; rw [dif_pos hlt]; exact beq_false_of_ne h35] at HIS
      have HS := Lib.hid (sk_space hlt hsp)
      clear hsp h35
      go_wp2_with (first
    | (
      go_at_call 91
      first
      | refine (HCL.out _ (HL.out.2)).mono ?_
      | refine (HCL.out _ (HL.out.2.drewN _)).mono ?_
      rintro e w2 ⟨rfl, n1, rfl⟩)
    | (
      go_at_call 92
      first
      | refine (HIS.out _ (HL.out.2.drewN _)).mono ?_
      | refine (HIS.out _ (HL.out.2)).mono ?_
      rintro e w3 ⟨rfl, n2, rfl⟩))
      refine wp_loop_rounds 1 ?_
      rw [rounds_succ]
      go_wp2_with fail
      go_quiet (fail)
      go_wp2_with fail
      go_roundg (R.length - (j + 1))
      case measure => have := HG.out; omega
      case rel => exact ⟨j + 1, by omega, rfl, Lib.hid (by rw [HE.out, HS.out]; omega), Lib.hid (by repeat' (first | exact HL.out | refine Left.drewN ?_ _ | refine Left.inc ?_))⟩
    · by_cases h35 : R[j].1 = 35
      · rw [show clsAt R j = 4 by unfold clsAt; rw [dif_pos hlt, h35]; decide] at HCL
        rw [show isAt R j 35 = true by unfold isAt; rw [dif_pos hlt, h35]; rfl] at HIS
        have HS := Lib.hid (sk_hash hlt h35)
        clear hsp h35
        go_wp2_with (first
     | (
       go_at_call 91
       first
       | refine (HCL.out _ (HL.out.2)).mono ?_
       | refine (HCL.out _ (HL.out.2.drewN _)).mono ?_
       rintro e w2 ⟨rfl, n1, rfl⟩)
     | (
       go_at_call 92
       first
       | refine (HIS.out _ (HL.out.2.drewN _)).mono ?_
       | refine (HIS.out _ (HL.out.2)).mono ?_
       rintro e w3 ⟨rfl, n2, rfl⟩))
        go_loopg [] (R.length - (j + 1)) (fun g2 wi => ∃ k : Nat, k ≤ R.length ∧ j + 1 ≤ k ∧ g2 = R.length - k ∧ Hid (i + skipM false (R.drop i) = k + skipM true (R.drop k)) ∧ Hid (Left w B q S R A c bad k wi))
        case atStart => exact ⟨j + 1, by omega, Nat.le_refl _, rfl, Lib.hid (by rw [HE.out, HS.out]; omega), Lib.hid (by repeat' (first | exact HL.out | refine Left.drewN ?_ _ | refine Left.inc ?_))⟩
        case round =>
         obtain ⟨k, hk, hjk, hg2, HE2, HL2⟩ := hrel
         have HG2 := Lib.hid hg2
         have hk2 : k ≤ 2000 := by omega
         obtain ⟨d0, d1, d2, d3⟩ := HL2.out.2.cells
         have e3 := HL2.out.2.blk.frozen 3
         clear hg2
         have HNL := Lib.hid (fun W (hW : Rd W B q S R A c bad k) => rdis_zero hW 10 hk2)
         by_cases hlt2 : k < R.length
         · have t1 : decide ((k : Int) < (R.length : Int)) = true := decide_eq_true (by omega)
           by_cases h10 : R[k].1 = 10
           · rw [show isAt R k 10 = true by unfold isAt; rw [dif_pos hlt2, h10]; rfl] at HNL
             have HS2 := Lib.hid (sk_nl hlt2 h10)
             clear h10
             go_wp2_with fail
             go_quiet ((go_at_call 92; exact Calls.quiet_of (HNL.out _ (HL2.out.2.drewN _))))
             go_wp2_with fail
             go_roundg (R.length - k)
             case measure => have := HG.out; omega
             case rel => exact ⟨k, hk, rfl, Lib.hid (by rw [HE2.out, HS2.out]), Lib.hid (by repeat' (first | exact HL2.out | refine Left.drewN ?_ _))⟩
           · rw [show isAt R k 10 = false by unfold isAt; rw [dif_pos hlt2]; exact beq_false_of_ne h10] at HNL
             have HS2 := Lib.hid (sk_in hlt2 h10)
             clear h10
             go_wp2_with fail
             go_quiet ((go_at_call 92; exact Calls.quiet_of (HNL.out _ (HL2.out.2.drewN _))))
             go_wp2_with fail
             go_roundg (R.length - (k + 1))
             case measure => have := HG2.out; omega
             case rel => exact ⟨k + 1, by omega, by omega, rfl, Lib.hid (by rw [HE2.out, HS2.out]; omega), Lib.hid (by repeat' (first | exact HL2.out | refine Left.drewN ?_ _ | refine Left.inc ?_))⟩
         · have t1 : decide ((k : Int) < (R.length : Int)) = false := decide_eq_false (by omega)
           go_wp2_with fail
           go_quiet (fail)
           go_wp2_with fail
           go_roundg (R.length - k)
           case measure => have := HG.out; omega
           case rel => exact ⟨k, hk, rfl, Lib.hid (by rw [HE2.out, sk_end hlt2, sk_end hlt2]), Lib.hid (by repeat' (first | exact HL2.out | refine Left.drewN ?_ _))⟩
      · have HV := Lib.hid (show clsAt R j = (cls R[j].1 : Nat) by unfold clsAt; rw [dif_pos hlt])
        rw [show isAt R j 35 = false by unfold isAt; rw [dif_pos hlt]; exact beq_false_of_ne h35] at HIS
        have HS := Lib.hid (sk_else hlt hsp h35)
        have gv : (clsAt R j == 3) = false := by rw [HV.out]; simp; omega
        clear hsp h35
        generalize clsAt R j = V at *
        go_wp2_with (first
     | (
       go_at_call 91
       first
       | refine (HCL.out _ (HL.out.2)).mono ?_
       | refine (HCL.out _ (HL.out.2.drewN _)).mono ?_
       rintro e w2 ⟨rfl, n1, rfl⟩)
     | (
       go_at_call 92
       first
       | refine (HIS.out _ (HL.out.2.drewN _)).mono ?_
       | refine (HIS.out _ (HL.out.2)).mono ?_
       rintro e w3 ⟨rfl, n2, rfl⟩))
        go_end0
        exact ⟨rfl, by
         rw [HE.out, HS.out]
         repeat' (first | exact HL.out | refine Left.drewN ?_ _)⟩
  · rw [show clsAt R j = -1 by unfold clsAt; rw [dif_neg hlt]] at HCL
    rw [show isAt R j 35 = false by unfold isAt; rw [dif_neg hlt]] at HIS
    have HS := Lib.hid (sk_end hlt false)
    go_wp2_with (first
     | (
       go_at_call 91
       first
       | refine (HCL.out _ (HL.out.2)).mono ?_
       | refine (HCL.out _ (HL.out.2.drewN _)).mono ?_
       rintro e w2 ⟨rfl, n1, rfl⟩)
     | (
       go_at_call 92
       first
       | refine (HIS.out _ (HL.out.2.drewN _)).mono ?_
       | refine (HIS.out _ (HL.out.2)).mono ?_
       rintro e w3 ⟨rfl, n2, rfl⟩))
    go_end0
    exact ⟨rfl, by
     rw [HE.out, HS.out]
     repeat' (first | exact HL.out | refine Left.drewN ?_ _)⟩
end Go.Proofs.YteikakoheibnjaaDoor
namespace Go.Proofs.YteikakoheibnjaaDoor
open Go Go.RowKit

def strVs (l : List (List UInt8)) : List Value := l.map fun x => .string ⟨x.toArray⟩
theorem strVs_at (l : List (List UInt8)) (k : Nat) (hk : k < l.length) : (strVs l)[k]? = some (.string ⟨(l[k]).toArray⟩) := by simp [strVs, hk]
theorem words_any (w : World) : Calls Tryd.prog 138 #[] w fun e w' => e = .returned (.slice (some ⟨w.heap.size, 0, none⟩) 17 17) ∧ w' = w.alloc (.cells (strVs wordL).toArray 9) := by
 go_enter Tryd.func138, Tryd.ntmps138
 go_wp2_with fail
 go_ret
 exact ⟨rfl, rfl⟩
set_option maxHeartbeats 1000000 in
theorem word_any (l : List UInt8) (w : World) : Calls Tryd.prog 118 #[.string ⟨l.toArray⟩] w fun e w' => e = .returned (.bool (decide (l ∈ wordL))) ∧ Below w.heap.size w w' := by
 have HB := Lib.hid ((Below.refl w.heap.size w).alloc (Nat.le_refl _) (.cells (strVs wordL).toArray 9))
 have HC := Lib.hid (fun k (hk : k < wordL.length) => (show (w.alloc (.cells (strVs wordL).toArray 9)).cell? ⟨w.heap.size, k, none⟩ = some (.string ⟨(wordL[k]).toArray⟩) by
  rw [cell_of_row (w.alloc (.cells (strVs wordL).toArray 9)) w.heap.size k _ 9 (0, 0) (heap_alloc_new w _), List.getElem?_toArray]
  exact strVs_at wordL k hk))
 have HW := Lib.hid (fun W => words_any W)
 have h17 : wordL.length = 17 := rfl
 have HL := Lib.hid h17
 clear h17
 go_enter Tryd.func118, Tryd.ntmps118
 go_wp2_with (
  go_at_call 138
  refine (HW.out _).mono ?_
  rintro e w2 ⟨rfl, rfl⟩)
 generalize w.alloc (.cells (strVs wordL).toArray 9) = W at *
 go_loopg [4] 17 (fun g i wr => ∃ k : Nat, k ≤ 17 ∧ g = 17 - k ∧ i = .int .i64 (k : Int) ∧ Hid (¬ l ∈ wordL.take k) ∧ wr = W)
 case atStart => exact ⟨0, Nat.zero_le _, rfl, rfl, Lib.hid (by simp), rfl⟩
 case round =>
  obtain ⟨k, hk, hg, rfl, HN, rfl⟩ := hrel
  have HG := Lib.hid hg
  clear hg
  by_cases hlt : k < 17
  · have hkl : k < wordL.length := by rw [HL.out]; exact hlt
    have c0 := HC.out k hkl
    have HT := Lib.hid (List.take_succ_eq_append_getElem hkl)
    have HM := Lib.hid (List.getElem_mem hkl)
    generalize wordL[k]'hkl = x at *
    have g1 : decide ((k : Int) < 17) = true := decide_eq_true (by omega)
    by_cases hx : x = l
    · have HF := Lib.hid (show true = decide (l ∈ wordL) by rw [← hx]; exact (decide_eq_true HM.out).symm)
      have g2 : (x == l) = true := by rw [hx]; exact beq_self_eq_true _
      clear hx
      go_wp2_with fail
      go_ret
      exact ⟨congrArg (fun x : Bool => Ending.returned (.bool x)) HF.out, HB.out⟩
    · have g2 : (x == l) = false := beq_false_of_ne hx
      have HX := Lib.hid hx
      clear hx
      go_wp2_with fail
      go_roundg (17 - (k + 1))
      case measure => have := HG.out; omega
      case rel => exact ⟨k + 1, by omega, rfl, by go_num, Lib.hid (by
       rw [HT.out, List.mem_append, List.mem_singleton]
       rintro (h | h)
       · exact HN.out h
       · exact HX.out h.symm), rfl⟩
  · have g1 : decide ((k : Int) < 17) = false := decide_eq_false (by omega)
    have HF := Lib.hid (show false = decide (l ∈ wordL) by
     symm
     rw [decide_eq_false_iff_not]
     have := HN.out
     rw [List.take_of_length_le (by rw [HL.out]; omega)] at this
     exact this)
    go_wp2_with fail
    go_ret
    exact ⟨congrArg (fun x : Bool => Ending.returned (.bool x)) HF.out, HB.out⟩
end Go.Proofs.YteikakoheibnjaaDoor
namespace Go.Proofs.YteikakoheibnjaaDoor
open Go Go.RowKit

theorem bcell {W w1 : World} (hb : Below W.heap.size W w1) : (∀ b o, b < W.heap.size → w1.cell? ⟨b, o, none⟩ = W.cell? ⟨b, o, none⟩) ∧ (∀ b o, b < W.heap.size → w1.frozen? ⟨b, o, none⟩ = W.frozen? ⟨b, o, none⟩) :=
 ⟨fun b o h => hb.cell (p := ⟨b, o, none⟩) h, fun b o h => hb.frozen (p := ⟨b, o, none⟩) h⟩
def Src (S : ByteArray) (R : List Ru) (bad : Int) : Prop := ∃ rest, S.data.toList = flat R ++ rest ∧ ((bad = -1 ∧ rest = []) ∨ bad = ((flat R).length : Nat))
theorem BlkN (w : World) (cs : Array Value) (o : Obj) (n : Nat) : Blk (((w.alloc (.cells cs 80)).alloc o).drewN n) w.heap.size 80 cs :=
 (Below.heap_alloc (w.alloc (.cells cs 80)) o w.heap.size (by simp)).trans (heap_alloc_new w _)
theorem posn_le (R : List Ru) (i j : Nat) (h : i ≤ j) : posn R i ≤ posn R j := by
 unfold posn
 obtain ⟨d, rfl⟩ := Nat.exists_eq_add_of_le h
 rw [List.take_add, flat_app, List.length_append]
 omega
theorem posn_all (R : List Ru) (i : Nat) : posn R i ≤ (flat R).length := by
 have := posn_le R i (max i R.length) (by omega)
 unfold posn at this ⊢
 rw [List.take_of_length_le (l := R) (i := max i R.length) (by omega)] at this
 exact this
theorem src_size {S : ByteArray} {R : List Ru} {bad : Int} (h : Src S R bad) : (flat R).length ≤ S.size ∧ (bad = -1 → S.size = (flat R).length) := by
 obtain ⟨rest, e, hb⟩ := h
 have hs : S.size = (flat R).length + rest.length := by
  rw [← List.length_append, ← e, Array.length_toList]
  rfl
 refine ⟨by omega, fun hb1 => ?_⟩
 rcases hb with ⟨_, hr⟩ | hb
 · rw [hr] at hs
   simpa using hs
 · omega
theorem drop_flat (R : List Ru) (i : Nat) : (flat R).drop (posn R i) = flat (R.drop i) := by
 have h : flat R = flat (R.take i) ++ flat (R.drop i) := by rw [← flat_app, List.take_append_drop]
 unfold posn
 rw [h, List.drop_left]
theorem src_text {S : ByteArray} {R : List Ru} {bad : Int} (h : Src S R bad) (i n : Nat) : S.extract (posn R i) (posn R (i + n)) = ⟨(flat ((R.drop i).take n)).toArray⟩ := by
 obtain ⟨rest, e, _⟩ := h
 refine bytes_of ?_
 rw [Lib.extract_data, e]
 have h1 := posn_all R i
 have h2 : posn R (i + n) - posn R i = (flat ((R.drop i).take n)).length := by
  unfold posn
  rw [List.take_add, flat_app, List.length_append]
  omega
 rw [List.drop_append_of_le_length h1, drop_flat, h2]
 have h3 : flat (R.drop i) = flat ((R.drop i).take n) ++ flat ((R.drop i).drop n) := by rw [← flat_app, List.take_append_drop]
 rw [h3, List.append_assoc, List.take_left']
 rfl
theorem nameLen_drop {R : List Ru} {i : Nat} (h : i < R.length) : nameLen (R.drop i) = ((R.drop (i + 1)).takeWhile more).length + 1 := by
 rw [List.drop_eq_getElem_cons h]
 rfl
theorem tw_more {R : List Ru} {j : Nat} (h : j < R.length) (hm : more R[j] = true) : ((R.drop j).takeWhile more).length = ((R.drop (j + 1)).takeWhile more).length + 1 := by
 rw [List.drop_eq_getElem_cons h, List.takeWhile_cons, if_pos hm]
 rfl
theorem tw_stop {R : List Ru} {j : Nat} (h : ∀ hj : j < R.length, more (R[j]'hj) = false) : ((R.drop j).takeWhile more).length = 0 := by
 by_cases hj : j < R.length
 · rw [List.drop_eq_getElem_cons hj, List.takeWhile_cons, if_neg (by rw [h hj]; decide)]
   rfl
 · rw [List.drop_eq_nil_of_le (by omega)]
   rfl
theorem cls_39 : cls 39 = 4 := by decide
theorem inf_tok : (Tryd.prog.info? 80).map (fun i => (i.zero, i.size, i.bytes)) = some (some (.agg #[.int .i64 0, .string ⟨#[]⟩, .int .i64 0, .int .i64 0]), 4, 40) := by kernel_rfl

theorem name_post {w w' : World} {B q : Nat} {S : ByteArray} {R : List Ru} {A : Option Addr} {c : Nat} {bad : Int} {i N : Nat} {b : Bool} {k : Nat} {p : Nat} {X : ByteArray} (hi : i < R.length) (hc : cls R[i].1 = 1) (hN : nameLen (R.drop i) = N) (hp : posn R i = p)
  (hX : X = ⟨(flat ((R.drop i).take N)).toArray⟩) (hk : k = if flat ((R.drop i).take N) ∈ wordL then 3 else 1) (hb : b = decide (N ≤ 12)) (hL : Left w B q S R A c bad (i + N) w') :
  TokPost w B q S R A c bad i (.returned (.tuple #[.agg #[.int .i64 k, .string X, .int .i64 0, .int .i64 p], .bool b])) w' := by
 subst hN hp hX hk hb
 have e : R.drop i = R[i] :: R.drop (i + 1) := List.drop_eq_getElem_cons hi
 unfold TokPost
 have ht : tokR (posn R i) (R.drop i) = if nameLen (R.drop i) ≤ 12 then some (⟨if flat ((R.drop i).take (nameLen (R.drop i))) ∈ wordL then 3 else 1, flat ((R.drop i).take (nameLen (R.drop i))), 0, posn R i⟩, nameLen (R.drop i)) else none := by
  rw [e]
  unfold tokR
  exact if_pos hc
 by_cases h12 : nameLen (R.drop i) ≤ 12
 · rw [if_pos h12] at ht
   exact Or.inl ⟨_, _, ht, by rw [decide_eq_true h12]; rfl, hL⟩
 · rw [if_neg h12] at ht
   exact Or.inr ⟨ht, ⟨if flat ((R.drop i).take (nameLen (R.drop i))) ∈ wordL then 3 else 1, flat ((R.drop i).take (nameLen (R.drop i))), 0, posn R i⟩, _, by rw [decide_eq_false h12]; rfl, hL⟩
set_option maxRecDepth 100000 in
set_option maxHeartbeats 8000000 in
theorem name_any {w : World} {B q : Nat} {S : ByteArray} {R : List Ru} {A : Option Addr} {c : Nat} {bad : Int} {i : Nat} (h : Rd w B q S R A c bad i) (hs : Src S R bad) (hi : i < R.length) (hc : cls R[i].1 = 1) (_hS : S.size ≤ 2000) (hBw : B ≤ w.heap.size) :
  Calls Tryd.prog 93 #[.pointer (some ⟨q, 0, none⟩)] w (TokPost w B q S R A c bad i) := by
 have hl := h.len
 have hql := h.blk.lt
 obtain ⟨c0, c1, c2, c3⟩ := h.cells
 have f3 := h.blk.frozen 3
 have HR0 := Lib.hid h
 have HSR := Lib.hid hs
 have HNL := Lib.hid (nameLen_drop hi)
 have HC0 := Lib.hid hc
 clear h hs hc
 generalize hN : nameLen (R.drop i) = N at *
 have HNN := Lib.hid hN
 clear hN
 go_enter Tryd.func93, Tryd.ntmps93
 go_wp2_with fail
 go_loopg [4] (R.length - i) (fun g nv wr => ∃ n m : Nat, i + n ≤ R.length ∧ g = R.length - (i + n) ∧ nv = .int .i64 (n : Int) ∧ Hid (n = 0 ∨ N = n + ((R.drop (i + n)).takeWhile more).length) ∧ wr = (w.alloc (.cells #[.int .i64 0, .string ⟨#[]⟩, .int .i64 0, .int .i64 0] 80)).drewN m)
 case atStart => exact ⟨0, 0, by omega, rfl, rfl, Lib.hid (Or.inl rfl), rfl⟩
 case round =>
  obtain ⟨n, m, hn, hg, rfl, HN, rfl⟩ := hrel
  have HG := Lib.hid hg
  have hi2 : i ≤ 2000 := by omega
  have hn2 : n ≤ 2000 := by omega
  clear hg
  have HCL := Lib.hid (fun W (hW : Rd W B q S R A c bad i) => class_any hW n hi2 hn2)
  have HIS := Lib.hid (fun W (hW : Rd W B q S R A c bad i) => rdis_any hW n 39 hi2 hn2)
  have HRW := Lib.hid (fun k => (HR0.out.alloc (.cells #[.int .i64 0, .string ⟨#[]⟩, .int .i64 0, .int .i64 0] 80)).drewN k)
  by_cases hlt : i + n < R.length
  · by_cases hm : more R[i + n] = true
    · have HT := Lib.hid (tw_more hlt hm)
      have hcv : clsAt R (i + n) = (cls R[i + n].1 : Nat) := by unfold clsAt; rw [dif_pos hlt]
      have hiv : isAt R (i + n) 39 = (R[i + n].1 == 39) := by unfold isAt; rw [dif_pos hlt]
      rw [hcv] at HCL
      rw [hiv] at HIS
      clear hcv hiv
      by_cases h1 : cls R[i + n].1 = 1
      · rw [h1] at HCL
        clear hm h1
        go_wp2_with (first
         | (
           go_at_call 91
           refine (HCL.out _ (HRW.out _)).mono ?_
           rintro e w2 ⟨rfl, n1, rfl⟩
           try simp only [World.drewN_drewN])
         | (
           go_at_call 92
           refine (HIS.out _ (HRW.out _)).mono ?_
           rintro e w3 ⟨rfl, n2, rfl⟩
           try simp only [World.drewN_drewN]))
        go_roundg (R.length - (i + (n + 1)))
        case measure => have := HG.out; omega
        case rel => exact ⟨n + 1, _, by omega, rfl, by go_num, Lib.hid (Or.inr (by
          rcases HN.out with h0 | h0
          · subst h0
            rw [HNL.out, Nat.zero_add]
            omega
          · rw [h0, HT.out, show i + (n + 1) = i + n + 1 by omega]
            omega)), rfl⟩
      · have hn0 : ¬ n = 0 := by rintro rfl; exact h1 HC0.out
        have gn : decide ((0 : Int) < (n : Int)) = true := decide_eq_true (by omega)
        have gn2 : decide (0 < n) = true := decide_eq_true (by omega)
        by_cases h2 : cls R[i + n].1 = 2
        · rw [h2] at HCL
          clear hm h1 h2 hn0
          go_wp2_with (first
           | (
             go_at_call 91
             refine (HCL.out _ (HRW.out _)).mono ?_
             rintro e w2 ⟨rfl, n1, rfl⟩
             try simp only [World.drewN_drewN])
           | (
             go_at_call 92
             refine (HIS.out _ (HRW.out _)).mono ?_
             rintro e w3 ⟨rfl, n2, rfl⟩
             try simp only [World.drewN_drewN]))
          go_roundg (R.length - (i + (n + 1)))
          case measure => have := HG.out; omega
          case rel => exact ⟨n + 1, _, by omega, rfl, by go_num, Lib.hid (Or.inr (by
            rcases HN.out with h0 | h0
            · subst h0
              rw [HNL.out, Nat.zero_add]
              omega
            · rw [h0, HT.out, show i + (n + 1) = i + n + 1 by omega]
              omega)), rfl⟩
        · have h3 : R[i + n].1 = 39 := by
           unfold more at hm
           simp only [Bool.or_eq_true, beq_iff_eq] at hm
           rcases hm with (hm | hm) | hm
           · exact absurd hm h1
           · exact absurd hm h2
           · exact hm
          rw [h3, cls_39] at HCL
          rw [h3] at HIS
          clear hm h1 h2 h3 hn0
          go_wp2_with (first
           | (
             go_at_call 91
             refine (HCL.out _ (HRW.out _)).mono ?_
             rintro e w2 ⟨rfl, n1, rfl⟩
             try simp only [World.drewN_drewN])
           | (
             go_at_call 92
             refine (HIS.out _ (HRW.out _)).mono ?_
             rintro e w3 ⟨rfl, n2, rfl⟩
             try simp only [World.drewN_drewN]))
          go_roundg (R.length - (i + (n + 1)))
          case measure => have := HG.out; omega
          case rel => exact ⟨n + 1, _, by omega, rfl, by go_num, Lib.hid (Or.inr (by
            rcases HN.out with h0 | h0
            · subst h0
              rw [HNL.out, Nat.zero_add]
              omega
            · rw [h0, HT.out, show i + (n + 1) = i + n + 1 by omega]
              omega)), rfl⟩
    · have hm0 : more R[i + n] = false := by simpa using hm
      have hn0 : ¬ n = 0 := by
       rintro rfl
       unfold more at hm0
       rw [show R[i + 0] = R[i] from rfl, HC0.out] at hm0
       simp at hm0
      obtain rfl : N = n := by
       rcases HN.out with h0 | h0
       · exact absurd h0 hn0
       · rw [h0, tw_stop (fun hj => hm0)]
         rfl
      unfold more at hm0
      simp only [Bool.or_eq_false_iff, beq_eq_false_iff_ne] at hm0
      obtain ⟨⟨k1, k2⟩, k3⟩ := hm0
      rw [show clsAt R (i + N) = (cls R[i + N].1 : Nat) by unfold clsAt; rw [dif_pos hlt]] at HCL
      rw [show isAt R (i + N) 39 = false by unfold isAt; rw [dif_pos hlt]; exact beq_false_of_ne k3] at HIS
      have gv1 : ((cls R[i + N].1 : Int) == 1) = false := by simp; omega
      have gv2 : ((cls R[i + N].1 : Int) == 2) = false := by simp; omega
      have gn : decide ((0 : Int) < (N : Int)) = true := decide_eq_true (by omega)
      have gn2 : decide (0 < N) = true := decide_eq_true (by omega)
      clear k1 k2 k3 hm hn0 HN
      generalize cls R[i + N].1 = V at *
      have HAT0 := Lib.hid (fun W (hW : Rd W B q S R A c bad i) => rdat_zero hW hi2)
      have HATn := Lib.hid (fun W (hW : Rd W B q S R A c bad i) => rdat_any hW N hi2 hn2)
      rw [show atAt R S.size i = posn R i by unfold atAt; rw [if_pos hi]] at HAT0
      rw [show atAt R S.size (i + N) = posn R (i + N) by unfold atAt; rw [if_pos hlt]] at HATn
      have g6 : decide ((R.length : Int) ≤ (i : Int) + (N : Int)) = false := decide_eq_false (by omega)
      have hp1 := posn_le R i (i + N) (by omega)
      have hp2 : posn R (i + N) ≤ S.size := Nat.le_trans (posn_all R (i + N)) (src_size HSR.out).1
      have HTX := Lib.hid (src_text HSR.out i N)
      have HWD := Lib.hid (fun W => word_any (flat ((R.drop i).take N)) W)
      rw [← HTX.out] at HWD
      have HV := Lib.hid (show decide ((N : Int) ≤ 12) = decide (N ≤ 12) by rw [decide_eq_decide]; omega)
      clear hlt
      generalize posn R (i + N) = E at *
      generalize hPP : posn R i = p at *
      have HPP := Lib.hid hPP
      clear hPP
      generalize hTT : flat ((R.drop i).take N) = T at *
      have HTT := Lib.hid hTT
      clear hTT
      have hpi : (p : Int) ≤ (E : Int) := by omega
      have hei : (E : Int) ≤ (S.size : Int) := by omega
      go_upto_region 8 with (first
       | (
         go_at_call 91
         refine (HCL.out _ (HRW.out _)).mono ?_
         rintro e w2 ⟨rfl, n1, rfl⟩
         try simp only [World.drewN_drewN])
       | (
         go_at_call 92
         refine (HIS.out _ (HRW.out _)).mono ?_
         rintro e w3 ⟨rfl, n2, rfl⟩
         try simp only [World.drewN_drewN])
       | (
         go_at_call_of 70 (Value.int IntKind.i64 0)
         refine (HAT0.out _ (HRW.out _)).mono ?_
         rintro e w2 ⟨rfl, n3, rfl⟩
         try simp only [World.drewN_drewN])
       | (
         go_at_call 70
         refine (HATn.out _ (((HR0.out.alloc _).alloc _).drewN _)).mono ?_
         rintro e w2 ⟨rfl, n4, rfl⟩
         try simp only [World.drewN_drewN]))
      go_quiet (fail)
      go_upto_region 8 with fail
      go_region_held3 (fun W => W.cell? ⟨q, 0, none⟩ = some (.string S) ∧ W.cell? ⟨w.heap.size + 1, 3, none⟩ = some (.int .i64 (p : Nat))) (first | go_keep | (refine ⟨?_, ?_⟩ <;> (rw [World.cell?_setCell_other _ _ _ _ (by simp <;> omega)]; go_keep))) (fail)
      by_cases hw : T ∈ wordL
      · rw [decide_eq_true hw] at HWD
        go_wp2_with (
         go_at_call 118
         refine (HWD.out _).mono ?_
         rintro e w9 ⟨rfl, hb9⟩
         have HB9 := Lib.hid hb9
         have HT9 := Lib.hid (show Blk w9 w.heap.size 80 #[.int .i64 0, .string ⟨#[]⟩, .int .i64 0, .int .i64 0] from (Fr.of_below hb9).blk (Blk.other (Blk.other (BlkN w _ _ _) (by simp) _) (by simp <;> omega) _) (by simp <;> omega))
         obtain ⟨hc9, hf9⟩ := bcell hb9
         have hz9 : w.heap.size + 1 < w9.heap.size := by have := hb9.size; simp at this; omega
         clear hb9)
        refine bodyPost_ret (res_tok (by rfl) _ _ w.heap.size #[.int .i64 3, .string (S.extract p E), .int .i64 0, .int .i64 (p : Nat)] rfl (tok4 (Blk.other HT9.out (by simp <;> omega) _) _ _ _ _) rfl) rfl ?_
        exact name_post (k := 3) hi HC0.out HNN.out HPP.out (HTX.out.trans (by rw [HTT.out])) (by rw [HTT.out]; rw [if_pos hw]) HV.out (by repeat' (first | (with_reducible first | exact Left.refl HR0.out | refine Left.to (i := i) ?_ _ _ ?_ | apply Left.drewN | apply Left.alloc | refine Left.far ?_ hBw ?_ _ | refine Left.below ?_ HB9.out | exact HB9.out) | omega | (simp <;> omega)))
      · rw [decide_eq_false hw] at HWD
        go_wp2_with (
         go_at_call 118
         refine (HWD.out _).mono ?_
         rintro e w9 ⟨rfl, hb9⟩
         have HB9 := Lib.hid hb9
         have HT9 := Lib.hid (show Blk w9 w.heap.size 80 #[.int .i64 0, .string ⟨#[]⟩, .int .i64 0, .int .i64 0] from (Fr.of_below hb9).blk (Blk.other (Blk.other (BlkN w _ _ _) (by simp) _) (by simp <;> omega) _) (by simp <;> omega))
         obtain ⟨hc9, hf9⟩ := bcell hb9
         have hz9 : w.heap.size + 1 < w9.heap.size := by have := hb9.size; simp at this; omega
         clear hb9)
        refine bodyPost_ret (res_tok (by rfl) _ _ w.heap.size #[.int .i64 1, .string (S.extract p E), .int .i64 0, .int .i64 (p : Nat)] rfl (tok4 (HT9.out) _ _ _ _) rfl) rfl ?_
        exact name_post (k := 1) hi HC0.out HNN.out HPP.out (HTX.out.trans (by rw [HTT.out])) (by rw [HTT.out]; rw [if_neg hw]) HV.out (by repeat' (first | (with_reducible first | exact Left.refl HR0.out | refine Left.to (i := i) ?_ _ _ ?_ | apply Left.drewN | apply Left.alloc | refine Left.far ?_ hBw ?_ _ | refine Left.below ?_ HB9.out | exact HB9.out) | omega | (simp <;> omega)))
  · have hn0 : ¬ n = 0 := by rintro rfl; exact hlt hi
    obtain rfl : N = n := by
     rcases HN.out with h0 | h0
     · exact absurd h0 hn0
     · rw [h0, tw_stop (fun hj => absurd hj hlt)]
       rfl
    rw [show clsAt R (i + N) = -1 by unfold clsAt; rw [dif_neg hlt]] at HCL
    rw [show isAt R (i + N) 39 = false by unfold isAt; rw [dif_neg hlt]] at HIS
    have gn : decide ((0 : Int) < (N : Int)) = true := decide_eq_true (by omega)
    have gn2 : decide (0 < N) = true := decide_eq_true (by omega)
    have hend : posn R (i + N) = (flat R).length := by unfold posn; rw [List.take_of_length_le (by omega)]
    clear hn0 HN
    have HSR2 := HSR.out
    obtain ⟨rest, hsrc, hbb⟩ := HSR2
    have hbb2 : bad = -1 ∨ bad = ((flat R).length : Nat) := by
     rcases hbb with h | h
     · exact Or.inl h.1
     · exact Or.inr h
    clear hbb hsrc
    rcases hbb2 with hbad | hbad
    · have gz : True := trivial
      have HAT0 := Lib.hid (fun W (hW : Rd W B q S R A c bad i) => rdat_zero hW hi2)
      have HATn := Lib.hid (fun W (hW : Rd W B q S R A c bad i) => rdat_any hW N hi2 hn2)
      rw [show atAt R S.size i = posn R i by unfold atAt; rw [if_pos hi]] at HAT0
      rw [show atAt R S.size (i + N) = posn R (i + N) by unfold atAt; rw [if_neg hlt, hend]; exact (src_size HSR.out).2 hbad] at HATn
      have g6 : decide ((R.length : Int) ≤ (i : Int) + (N : Int)) = true := decide_eq_true (by omega)
      have g7 : decide (0 ≤ bad) = false := decide_eq_false (by omega)
      have hp1 := posn_le R i (i + N) (by omega)
      have hp2 : posn R (i + N) ≤ S.size := Nat.le_trans (posn_all R (i + N)) (src_size HSR.out).1
      have HTX := Lib.hid (src_text HSR.out i N)
      have HWD := Lib.hid (fun W => word_any (flat ((R.drop i).take N)) W)
      rw [← HTX.out] at HWD
      have HV := Lib.hid (show decide ((N : Int) ≤ 12) = decide (N ≤ 12) by rw [decide_eq_decide]; omega)
      clear hlt hbad hend
      generalize posn R (i + N) = E at *
      generalize hPP : posn R i = p at *
      have HPP := Lib.hid hPP
      clear hPP
      generalize hTT : flat ((R.drop i).take N) = T at *
      have HTT := Lib.hid hTT
      clear hTT
      have hpi : (p : Int) ≤ (E : Int) := by omega
      have hei : (E : Int) ≤ (S.size : Int) := by omega
      go_upto_region 8 with (first
       | (
         go_at_call 91
         refine (HCL.out _ (HRW.out _)).mono ?_
         rintro e w2 ⟨rfl, n1, rfl⟩
         try simp only [World.drewN_drewN])
       | (
         go_at_call 92
         refine (HIS.out _ (HRW.out _)).mono ?_
         rintro e w3 ⟨rfl, n2, rfl⟩
         try simp only [World.drewN_drewN])
       | (
         go_at_call_of 70 (Value.int IntKind.i64 0)
         refine (HAT0.out _ (HRW.out _)).mono ?_
         rintro e w2 ⟨rfl, n3, rfl⟩
         try simp only [World.drewN_drewN])
       | (
         go_at_call 70
         refine (HATn.out _ (((HR0.out.alloc _).alloc _).drewN _)).mono ?_
         rintro e w2 ⟨rfl, n4, rfl⟩
         try simp only [World.drewN_drewN]))
      go_quiet (fail)
      go_upto_region 8 with fail
      go_region_held3 (fun W => W.cell? ⟨q, 0, none⟩ = some (.string S) ∧ W.cell? ⟨w.heap.size + 1, 3, none⟩ = some (.int .i64 (p : Nat))) (first | go_keep | (refine ⟨?_, ?_⟩ <;> (rw [World.cell?_setCell_other _ _ _ _ (by simp <;> omega)]; go_keep))) (fail)
      by_cases hw : T ∈ wordL
      · rw [decide_eq_true hw] at HWD
        go_wp2_with (
         go_at_call 118
         refine (HWD.out _).mono ?_
         rintro e w9 ⟨rfl, hb9⟩
         have HB9 := Lib.hid hb9
         have HT9 := Lib.hid (show Blk w9 w.heap.size 80 #[.int .i64 0, .string ⟨#[]⟩, .int .i64 0, .int .i64 0] from (Fr.of_below hb9).blk (Blk.other (Blk.other (BlkN w _ _ _) (by simp) _) (by simp <;> omega) _) (by simp <;> omega))
         obtain ⟨hc9, hf9⟩ := bcell hb9
         have hz9 : w.heap.size + 1 < w9.heap.size := by have := hb9.size; simp at this; omega
         clear hb9)
        refine bodyPost_ret (res_tok (by rfl) _ _ w.heap.size #[.int .i64 3, .string (S.extract p E), .int .i64 0, .int .i64 (p : Nat)] rfl (tok4 (Blk.other HT9.out (by simp <;> omega) _) _ _ _ _) rfl) rfl ?_
        exact name_post (k := 3) hi HC0.out HNN.out HPP.out (HTX.out.trans (by rw [HTT.out])) (by rw [HTT.out]; rw [if_pos hw]) HV.out (by repeat' (first | (with_reducible first | exact Left.refl HR0.out | refine Left.to (i := i) ?_ _ _ ?_ | apply Left.drewN | apply Left.alloc | refine Left.far ?_ hBw ?_ _ | refine Left.below ?_ HB9.out | exact HB9.out) | omega | (simp <;> omega)))
      · rw [decide_eq_false hw] at HWD
        go_wp2_with (
         go_at_call 118
         refine (HWD.out _).mono ?_
         rintro e w9 ⟨rfl, hb9⟩
         have HB9 := Lib.hid hb9
         have HT9 := Lib.hid (show Blk w9 w.heap.size 80 #[.int .i64 0, .string ⟨#[]⟩, .int .i64 0, .int .i64 0] from (Fr.of_below hb9).blk (Blk.other (Blk.other (BlkN w _ _ _) (by simp) _) (by simp <;> omega) _) (by simp <;> omega))
         obtain ⟨hc9, hf9⟩ := bcell hb9
         have hz9 : w.heap.size + 1 < w9.heap.size := by have := hb9.size; simp at this; omega
         clear hb9)
        refine bodyPost_ret (res_tok (by rfl) _ _ w.heap.size #[.int .i64 1, .string (S.extract p E), .int .i64 0, .int .i64 (p : Nat)] rfl (tok4 (HT9.out) _ _ _ _) rfl) rfl ?_
        exact name_post (k := 1) hi HC0.out HNN.out HPP.out (HTX.out.trans (by rw [HTT.out])) (by rw [HTT.out]; rw [if_neg hw]) HV.out (by repeat' (first | (with_reducible first | exact Left.refl HR0.out | refine Left.to (i := i) ?_ _ _ ?_ | apply Left.drewN | apply Left.alloc | refine Left.far ?_ hBw ?_ _ | refine Left.below ?_ HB9.out | exact HB9.out) | omega | (simp <;> omega)))
    · have gz : True := trivial
      have HAT0 := Lib.hid (fun W (hW : Rd W B q S R A c bad i) => rdat_zero hW hi2)
      have HATn := Lib.hid (fun W (hW : Rd W B q S R A c bad i) => rdat_any hW N hi2 hn2)
      rw [show atAt R S.size i = posn R i by unfold atAt; rw [if_pos hi]] at HAT0

      have g6 : decide ((R.length : Int) ≤ (i : Int) + (N : Int)) = true := decide_eq_true (by omega)
      have g7 : decide (0 ≤ bad) = true := decide_eq_true (by omega)
      rw [show bad = ((posn R (i + N) : Nat) : Int) by rw [hend]; exact hbad] at c2
      have hp1 := posn_le R i (i + N) (by omega)
      have hp2 : posn R (i + N) ≤ S.size := Nat.le_trans (posn_all R (i + N)) (src_size HSR.out).1
      have HTX := Lib.hid (src_text HSR.out i N)
      have HWD := Lib.hid (fun W => word_any (flat ((R.drop i).take N)) W)
      rw [← HTX.out] at HWD
      have HV := Lib.hid (show decide ((N : Int) ≤ 12) = decide (N ≤ 12) by rw [decide_eq_decide]; omega)
      clear hlt hbad hend
      generalize posn R (i + N) = E at *
      generalize hPP : posn R i = p at *
      have HPP := Lib.hid hPP
      clear hPP
      generalize hTT : flat ((R.drop i).take N) = T at *
      have HTT := Lib.hid hTT
      clear hTT
      have hpi : (p : Int) ≤ (E : Int) := by omega
      have hei : (E : Int) ≤ (S.size : Int) := by omega
      go_upto_region 8 with (first
       | (
         go_at_call 91
         refine (HCL.out _ (HRW.out _)).mono ?_
         rintro e w2 ⟨rfl, n1, rfl⟩
         try simp only [World.drewN_drewN])
       | (
         go_at_call 92
         refine (HIS.out _ (HRW.out _)).mono ?_
         rintro e w3 ⟨rfl, n2, rfl⟩
         try simp only [World.drewN_drewN])
       | (
         go_at_call_of 70 (Value.int IntKind.i64 0)
         refine (HAT0.out _ (HRW.out _)).mono ?_
         rintro e w2 ⟨rfl, n3, rfl⟩
         try simp only [World.drewN_drewN])
       | (
         go_at_call 70
         refine (HATn.out _ (((HR0.out.alloc _).alloc _).drewN _)).mono ?_
         rintro e w2 ⟨rfl, n4, rfl⟩
         try simp only [World.drewN_drewN]))
      go_quiet (fail)
      go_upto_region 8 with fail
      go_region_held3 (fun W => W.cell? ⟨q, 0, none⟩ = some (.string S) ∧ W.cell? ⟨w.heap.size + 1, 3, none⟩ = some (.int .i64 (p : Nat))) (first | go_keep | (refine ⟨?_, ?_⟩ <;> (rw [World.cell?_setCell_other _ _ _ _ (by simp <;> omega)]; go_keep))) (fail)
      by_cases hw : T ∈ wordL
      · rw [decide_eq_true hw] at HWD
        go_wp2_with (
         go_at_call 118
         refine (HWD.out _).mono ?_
         rintro e w9 ⟨rfl, hb9⟩
         have HB9 := Lib.hid hb9
         have HT9 := Lib.hid (show Blk w9 w.heap.size 80 #[.int .i64 0, .string ⟨#[]⟩, .int .i64 0, .int .i64 0] from (Fr.of_below hb9).blk (Blk.other (Blk.other (BlkN w _ _ _) (by simp) _) (by simp <;> omega) _) (by simp <;> omega))
         obtain ⟨hc9, hf9⟩ := bcell hb9
         have hz9 : w.heap.size + 1 < w9.heap.size := by have := hb9.size; simp at this; omega
         clear hb9)
        refine bodyPost_ret (res_tok (by rfl) _ _ w.heap.size #[.int .i64 3, .string (S.extract p E), .int .i64 0, .int .i64 (p : Nat)] rfl (tok4 (Blk.other HT9.out (by simp <;> omega) _) _ _ _ _) rfl) rfl ?_
        exact name_post (k := 3) hi HC0.out HNN.out HPP.out (HTX.out.trans (by rw [HTT.out])) (by rw [HTT.out]; rw [if_pos hw]) HV.out (by repeat' (first | (with_reducible first | exact Left.refl HR0.out | refine Left.to (i := i) ?_ _ _ ?_ | apply Left.drewN | apply Left.alloc | refine Left.far ?_ hBw ?_ _ | refine Left.below ?_ HB9.out | exact HB9.out) | omega | (simp <;> omega)))
      · rw [decide_eq_false hw] at HWD
        go_wp2_with (
         go_at_call 118
         refine (HWD.out _).mono ?_
         rintro e w9 ⟨rfl, hb9⟩
         have HB9 := Lib.hid hb9
         have HT9 := Lib.hid (show Blk w9 w.heap.size 80 #[.int .i64 0, .string ⟨#[]⟩, .int .i64 0, .int .i64 0] from (Fr.of_below hb9).blk (Blk.other (Blk.other (BlkN w _ _ _) (by simp) _) (by simp <;> omega) _) (by simp <;> omega))
         obtain ⟨hc9, hf9⟩ := bcell hb9
         have hz9 : w.heap.size + 1 < w9.heap.size := by have := hb9.size; simp at this; omega
         clear hb9)
        refine bodyPost_ret (res_tok (by rfl) _ _ w.heap.size #[.int .i64 1, .string (S.extract p E), .int .i64 0, .int .i64 (p : Nat)] rfl (tok4 (HT9.out) _ _ _ _) rfl) rfl ?_
        exact name_post (k := 1) hi HC0.out HNN.out HPP.out (HTX.out.trans (by rw [HTT.out])) (by rw [HTT.out]; rw [if_neg hw]) HV.out (by repeat' (first | (with_reducible first | exact Left.refl HR0.out | refine Left.to (i := i) ?_ _ _ ?_ | apply Left.drewN | apply Left.alloc | refine Left.far ?_ hBw ?_ _ | refine Left.below ?_ HB9.out | exact HB9.out) | omega | (simp <;> omega)))
end Go.Proofs.YteikakoheibnjaaDoor
namespace Go.Proofs.YteikakoheibnjaaDoor
open Go Go.RowKit

theorem tw_dig {R : List Ru} {j : Nat} (h : j < R.length) (hm : digit R[j] = true) : ((R.drop j).takeWhile digit).length = ((R.drop (j + 1)).takeWhile digit).length + 1 := by
 rw [List.drop_eq_getElem_cons h, List.takeWhile_cons, if_pos hm]
 rfl
theorem tw_dstop {R : List Ru} {j : Nat} (h : ∀ hj : j < R.length, digit (R[j]'hj) = false) : ((R.drop j).takeWhile digit).length = 0 := by
 by_cases hj : j < R.length
 · rw [List.drop_eq_getElem_cons hj, List.takeWhile_cons, if_neg (by rw [h hj]; decide)]
   rfl
 · rw [List.drop_eq_nil_of_le (by omega)]
   rfl
theorem tw_take {α : Type} (p : α → Bool) : ∀ l : List α, l.takeWhile p = l.take (l.takeWhile p).length
 | [] => rfl
 | x :: r => by
   rw [List.takeWhile_cons]
   split
   · have := tw_take p r
     simp only [List.length_cons, List.take_succ_cons]
     rw [← this]
   · rfl
theorem numVal_snoc (l : List Ru) (r : Ru) : numVal (l ++ [r]) = numStep (numVal l) r := by
 unfold numVal
 rw [List.foldl_append]
 rfl
theorem numVal_le (l : List Ru) : numVal l ≤ 1000 := by
 rcases List.eq_nil_or_concat l with rfl | ⟨l', r, rfl⟩
 · decide
 · rw [List.concat_eq_append, numVal_snoc]
   unfold numStep
   omega
theorem cls_digit {r : Nat} (h : cls r = 2) : 48 ≤ r ∧ r ≤ 57 := by
 unfold cls at h
 split at h
 · cases h
 · split at h
   · next h2 => exact h2
   · split at h
     · cases h
     · split at h <;> cases h
theorem number_post {w w' : World} {B q : Nat} {S : ByteArray} {R : List Ru} {A : Option Addr} {c : Nat} {bad : Int} {i D v p : Nat} {b : Bool} (hi : i < R.length) (hc : cls R[i].1 = 2) (hD : ((R.drop i).takeWhile digit).length = D) (hp : posn R i = p)
  (hv : v = numVal ((R.drop i).take D)) (hb : b = (decide (v ≤ 99) && !(decide (R[i].1 = 48) && decide (1 < D)))) (hL : Left w B q S R A c bad (i + D) w') :
  TokPost w B q S R A c bad i (.returned (.tuple #[.agg #[.int .i64 2, .string ⟨#[]⟩, .int .i64 v, .int .i64 p], .bool b])) w' := by
 subst hD hp
 rw [← tw_take] at hv
 subst hv
 have e : R.drop i = R[i] :: R.drop (i + 1) := List.drop_eq_getElem_cons hi
 have ht : tokR (posn R i) (R.drop i) = if numVal ((R.drop i).takeWhile digit) ≤ 99 ∧ ¬ (R[i].1 = 48 ∧ 1 < ((R.drop i).takeWhile digit).length) then some (⟨2, [], numVal ((R.drop i).takeWhile digit), posn R i⟩, ((R.drop i).takeWhile digit).length) else none := by
  rw [e]
  unfold tokR
  exact (if_neg (by rw [hc]; decide)).trans (if_pos hc)
 unfold TokPost
 by_cases h12 : numVal ((R.drop i).takeWhile digit) ≤ 99 ∧ ¬ (R[i].1 = 48 ∧ 1 < ((R.drop i).takeWhile digit).length)
 · rw [if_pos h12] at ht
   refine Or.inl ⟨_, _, ht, ?_, hL⟩
   have : b = true := by
    rw [hb, decide_eq_true h12.1, ← Bool.not_eq_false]
    intro h
    simp only [Bool.true_and, Bool.not_eq_false', Bool.and_eq_true, decide_eq_true_eq] at h
    exact h12.2 h
   rw [this]
   rfl
 · rw [if_neg h12] at ht
   refine Or.inr ⟨ht, ⟨2, [], numVal ((R.drop i).takeWhile digit), posn R i⟩, _, ?_, hL⟩
   have : b = false := by
    rw [hb, ← Bool.not_eq_true]
    intro h
    simp only [Bool.and_eq_true, decide_eq_true_eq, Bool.not_eq_true', Bool.and_eq_false_iff, decide_eq_false_iff_not] at h
    refine h12 ⟨h.1, ?_⟩
    rintro ⟨x, y⟩
    rcases h.2 with h | h
    · exact h x
    · exact h y
   rw [this]
   rfl

theorem BlkL (w : World) (cs : Array Value) (o : Obj) (n : Nat) : Blk (((w.alloc o).alloc (.cells cs 80)).drewN n) (w.heap.size + 1) 80 cs := by
 have := heap_alloc_new (w.alloc o) (.cells cs 80)
 rw [World.size_alloc] at this
 exact this
theorem Left.drew_ {w W : World} {B q : Nat} {S : ByteArray} {R : List Ru} {A : Option Addr} {c : Nat} {bad : Int} {i : Nat} (h : Left w B q S R A c bad i W) : Left w B q S R A c bad i W.drew := h.drewN 1
set_option maxRecDepth 100000 in
set_option maxHeartbeats 8000000 in
theorem number_any {w : World} {B q : Nat} {S : ByteArray} {R : List Ru} {A : Option Addr} {c : Nat} {bad : Int} {i : Nat} (h : Rd w B q S R A c bad i) (hi : i < R.length) (hc : cls R[i].1 = 2) (hBw : B ≤ w.heap.size) :
  Calls Tryd.prog 94 #[.pointer (some ⟨q, 0, none⟩)] w (TokPost w B q S R A c bad i) := by
 have hl := h.len
 have hql := h.blk.lt
 have hqB := h.qlt
 have HR0 := Lib.hid h
 have HC0 := Lib.hid hc
 have hi2 : i ≤ 2000 := by omega
 have HAT0 := Lib.hid (fun W (hW : Rd W B q S R A c bad i) => rdat_zero hW hi2)
 rw [show atAt R S.size i = posn R i by unfold atAt; rw [if_pos hi]] at HAT0
 have HIS0 := Lib.hid (fun W (hW : Rd W B q S R A c bad i) => rdis_zero hW 48 hi2)
 rw [show isAt R i 48 = decide (R[i].1 = 48) by unfold isAt; rw [dif_pos hi]; rw [Bool.eq_iff_iff, beq_iff_eq, decide_eq_true_eq]] at HIS0
 have HD0 := Lib.hid (rfl : ((R.drop i).takeWhile digit).length = ((R.drop i).takeWhile digit).length)
 have hDle : ((R.drop i).takeWhile digit).length ≤ R.length - i := by have := takeWhile_le digit (R.drop i); simp at this; omega
 clear h hc
 generalize hD : ((R.drop i).takeWhile digit).length = D at *
 have HDD := Lib.hid hD
 clear hD HD0
 generalize hPP : posn R i = p at *
 have HPP := Lib.hid hPP
 clear hPP
 generalize hZ : decide (R[i].1 = 48) = z at *
 have HZ := Lib.hid hZ
 clear hZ
 go_enter Tryd.func94, Tryd.ntmps94
 go_wp2_with (first
  | (
    go_at_call 70
    refine (HAT0.out _ (HR0.out.alloc _)).mono ?_
    rintro e w2 ⟨rfl, n3, rfl⟩
    try simp only)
  | (
    go_at_call 92
    refine (HIS0.out _ (((HR0.out.alloc _).alloc _).drewN _)).mono ?_
    rintro e w2 ⟨rfl, n4, rfl⟩
    try simp only [World.drewN_drewN]))
 cases z
 all_goals
  go_loopg [6] D (fun g nv wr => ∃ n : Nat, n ≤ D ∧ g = D - n ∧ nv = .int .i64 (n : Int) ∧ Hid (D = n + ((R.drop (i + n)).takeWhile digit).length) ∧ Hid (Left w B q S R A c bad i wr) ∧
   Hid (Blk wr (w.heap.size + 1) 80 #[.int .i64 2, .string ⟨#[]⟩, .int .i64 (numVal ((R.drop i).take n) : Nat), .int .i64 (p : Nat)]) ∧ Hid (Blk wr w.heap.size 80 #[.int .i64 0, .string ⟨#[]⟩, .int .i64 0, .int .i64 0]) ∧ w.heap.size + 1 < wr.heap.size)
  case atStart => exact ⟨0, Nat.zero_le _, rfl, rfl, Lib.hid (by rw [Nat.zero_add]; exact HDD.out.symm), Lib.hid (by repeat' (first | (with_reducible first | exact Left.refl HR0.out | exact HL.out | refine Left.to (i := i) ?_ _ _ ?_ | apply Left.drewN | apply Left.drew_ | apply Left.alloc | refine Left.far ?_ hBw ?_ _) | omega | (simp <;> omega))), Lib.hid (BlkL w _ _ _), Lib.hid (BlkN w _ _ _), by simp⟩
  case round =>
   obtain ⟨n, hn, hg, rfl, HN, HL, HT1, HT0, hsz⟩ := hrel
   have HG := Lib.hid hg
   clear hg
   have hn2 : n ≤ 2000 := by omega
   have hNV := numVal_le ((R.drop i).take n)
   have HCL := Lib.hid (fun W (hW : Rd W B q S R A c bad i) => class_any hW n hi2 hn2)
   by_cases hlt : n < D
   · have hj : i + n < R.length := by omega
     have hdg : digit R[i + n] = true := by
      cases e : digit R[i + n] with
      | true => rfl
      | false =>
        have h1 := HN.out
        rw [tw_dstop (fun _ => e)] at h1
        omega
     have HT := Lib.hid (tw_dig hj hdg)
     have h2 : cls R[i + n].1 = 2 := by unfold digit at hdg; exact eq_of_beq hdg
     rw [show clsAt R (i + n) = 2 by unfold clsAt; rw [dif_pos hj, h2]; rfl] at HCL
     obtain ⟨hr1, hr2⟩ := cls_digit h2
     have HV := Lib.hid (show numVal ((R.drop i).take (n + 1)) = numStep (numVal ((R.drop i).take n)) R[i + n] by
      rw [List.take_succ_eq_append_getElem (by simp; omega), numVal_snoc]
      simp)
     unfold numStep at HV
     obtain ⟨g, ea, hg, _, h5, h6⟩ := HL.out.2.runes _ hj
     clear hdg h2
     subst ea
     generalize numVal ((R.drop i).take n) = v at *
     generalize R[i + n].1 = r at *
     have hp0 : (0 : Int) ≤ (i : Int) + (n : Int) := by omega
     have hp1 : (i : Int) + (n : Int) < (R.length : Int) := by omega
     go_wp2_with (
      go_at_call 91
      refine (HCL.out _ HL.out.2).mono ?_
      rintro e w2 ⟨rfl, n1, rfl⟩)
     generalize hW : wr.drewN n1 = W1
     have h5' : W1.cell? ⟨g, (i + n) * 2, none⟩ = some (.int .i32 (r : Nat)) := by rw [← hW]; exact h5
     have hW1 : Blk W1 (w.heap.size + 1) 80 #[.int .i64 2, .string ⟨#[]⟩, .int .i64 (v : Nat), .int .i64 (p : Nat)] := by rw [← hW]; exact HT1.out
     have hW0 : Blk W1 w.heap.size 80 #[.int .i64 0, .string ⟨#[]⟩, .int .i64 0, .int .i64 0] := by rw [← hW]; exact HT0.out
     have hLW : Left w B q S R (some ⟨g, 0, none⟩) c bad i W1 := by rw [← hW]; exact HL.out.drewN n1
     have hszW : w.heap.size + 1 < W1.heap.size := by rw [← hW]; exact hsz
     obtain ⟨c0, c1, c2, c3⟩ := hLW.2.cells
     have f3 := hLW.2.blk.frozen 3
     have d2 := hW1.cell 2
     have e2 := hW1.frozen 2
     simp only [List.getElem?_toArray, List.getElem?_cons_zero, List.getElem?_cons_succ] at d2
     have HW1 := Lib.hid hW1
     have HW0 := Lib.hid hW0
     have HLW := Lib.hid hLW
     clear hW hW1 hW0 hLW
     clear h5 h6
     have q1 : IntKind.i64.wrap (10 * (v : Int)) = 10 * (v : Int) := IntWalk.i64_in _ ⟨by omega, by omega⟩
     have q2 : IntKind.i64.wrap ((i : Int) + (n : Int)) = (i : Int) + (n : Int) := IntWalk.i64_in _ ⟨by omega, by omega⟩
     have q3 : IntKind.i32.wrap ((r : Int) - 48) = (r : Int) - 48 := IntWalk.i32_in _ ⟨by omega, by omega⟩
     have q4 : IntKind.i64.wrap ((r : Int) - 48) = (r : Int) - 48 := IntWalk.i64_in _ ⟨by omega, by omega⟩
     have q5 : IntKind.i64.wrap (10 * (v : Int) + ((r : Int) - 48)) = 10 * (v : Int) + ((r : Int) - 48) := IntWalk.i64_in _ ⟨by omega, by omega⟩
     have q6 : ((i : Int) + (n : Int)).toNat = i + n := by omega
     go_still_tail 21, (by kernel_rfl)
     clear q1 q2 q3 q4 q5 q6
     change wpList _ _ _ _ _ W1.drew
     go_wp2_with fail
     go_roundg (D - (n + 1))
     case measure => have := HG.out; omega
     case rel =>
      refine ⟨n + 1, by omega, rfl, by go_num, Lib.hid (by rw [HN.out, HT.out, show i + (n + 1) = i + n + 1 by omega]; omega), Lib.hid (by repeat' (first | (with_reducible first | exact HLW.out | apply Left.drew_ | refine Left.far ?_ hBw ?_ _) | omega | (simp <;> omega))), Lib.hid ?_, Lib.hid ?_, by simpa [World.setCell] using hszW⟩
      · rw [HV.out]
        have e : (((min (10 * v + (r - 48)) 1000 : Nat) : Nat) : Int) = min (10 * (v : Int) + ((r : Int) - 48)) 1000 := by omega
        rw [e]
        have := HW1.out.set_ 2 (.int .i64 (min (10 * (v : Int) + ((r : Int) - 48)) 1000))
        show Blk (W1.setCell _ _) _ _ _
        simpa using this
      · exact Blk.other (show Blk W1.drew w.heap.size 80 _ from HW0.out) (by simp) _
   · obtain rfl : n = D := by omega
     have hcv : ((clsAt R (i + n)) == 2) = false := by
      unfold clsAt
      split
      · next hj =>
        rw [beq_eq_false_iff_ne]
        intro e
        have h1 := HN.out
        rw [tw_dig hj (by unfold digit; rw [beq_iff_eq]; omega)] at h1
        omega
      · rfl
     have HNV := Lib.hid (show numVal ((R.drop i).take n) = numVal ((R.drop i).take n) from rfl)
     generalize hvv : numVal ((R.drop i).take n) = v at *
     have HVV := Lib.hid hvv
     clear hvv HNV
     generalize clsAt R (i + n) = V at *
     obtain ⟨c0, c1, c2, c3⟩ := HL.out.2.cells
     have f3 := HL.out.2.blk.frozen 3
     have d0 := HT1.out.cell 0
     have d1 := HT1.out.cell 1
     have d2 := HT1.out.cell 2
     have d3 := HT1.out.cell 3
     have r0 := HT0.out.cell 0
     have r1 := HT0.out.cell 1
     have r2 := HT0.out.cell 2
     have r3 := HT0.out.cell 3
     have s0 := HT0.out.frozen 0
     have s1 := HT0.out.frozen 1
     have s2 := HT0.out.frozen 2
     have s3 := HT0.out.frozen 3
     simp only [List.getElem?_toArray, List.getElem?_cons_zero, List.getElem?_cons_succ] at d0 d1 d2 d3 r0 r1 r2 r3
     have HE := Lib.hid (show decide ((1 : Int) < (n : Int)) = decide (1 < n) by rw [decide_eq_decide]; omega)
     by_cases hv : v ≤ 99
     · have gv : decide ((v : Int) ≤ 99) = true := decide_eq_true (by omega)
       go_wp2_with (
        go_at_call 91
        refine (HCL.out _ HL.out.2).mono ?_
        rintro e w2 ⟨rfl, n1, rfl⟩)
       refine bodyPost_ret (res_tok (by rfl) _ _ w.heap.size #[.int .i64 2, .string ⟨#[]⟩, .int .i64 (v : Nat), .int .i64 (p : Nat)] rfl (tok4 (Blk.other (show Blk (wr.drewN n1) w.heap.size 80 _ from HT0.out) (by simp <;> omega) _) _ _ _ _) rfl) rfl ?_
       exact number_post (D := n) (v := v) hi HC0.out HDD.out HPP.out HVV.out.symm (by rw [HZ.out, decide_eq_true hv]; first | rfl | (simp; done) | (rw [← HE.out]; simp)) (by repeat' (first | (with_reducible first | exact HL.out | refine Left.to (i := i) ?_ _ _ ?_ | apply Left.drewN | refine Left.far ?_ hBw ?_ _) | omega | (simp <;> omega)))
     · have gv : decide ((v : Int) ≤ 99) = false := decide_eq_false (by omega)
       go_wp2_with (
        go_at_call 91
        refine (HCL.out _ HL.out.2).mono ?_
        rintro e w2 ⟨rfl, n1, rfl⟩)
       refine bodyPost_ret (res_tok (by rfl) _ _ w.heap.size #[.int .i64 2, .string ⟨#[]⟩, .int .i64 (v : Nat), .int .i64 (p : Nat)] rfl (tok4 (Blk.other (show Blk (wr.drewN n1) w.heap.size 80 _ from HT0.out) (by simp <;> omega) _) _ _ _ _) rfl) rfl ?_
       exact number_post (D := n) (v := v) hi HC0.out HDD.out HPP.out HVV.out.symm (by rw [HZ.out, decide_eq_false hv]; first | rfl | (simp; done) | (rw [← HE.out]; simp)) (by repeat' (first | (with_reducible first | exact HL.out | refine Left.to (i := i) ?_ _ _ ?_ | apply Left.drewN | refine Left.far ?_ hBw ?_ _) | omega | (simp <;> omega)))
end Go.Proofs.YteikakoheibnjaaDoor
