/- The walks over core.is and core.Is. -/
import Derived.Test.YtcgjacaemblnmaaDoorFields
import Derived.Test.YtcgjacaemblnmaaDoorAnyK
namespace Go.Proofs.YtcgjacaemblnmaaDoor
open Go Go.RowKit

theorem isL_any (ks : List Core) (n : Int) : isL ks n = !(ks.any fun k => !isB k n) := by
  induction ks with
  | nil => simp [isL]
  | cons x r ih => simp [isL, ih]
theorem fb_ex {a b c m n : Int} {ks : List Core} (h : fieldsB (.node oEx a b c m ks) n = true) : n < 6 := by
  unfold fieldsB at h
  split at h
  · cases h
  · simp [Core.op] at h
    exact h.2.2

/-- The closure of core.is: it says whether a kid may NOT be. -/
theorem cl51 (k : Core) (n : Int) (_hn0 : 0 ≤ n) (_hn1 : n ≤ 6) (hI : ∀ (A : Option Addr) (cap : Nat) (W : World), CoreAt W W.heap.size k A cap →
      Calls Tryd.prog 40 #[coreW k.op k.va k.vb k.vc k.vn k.kids.length A cap, .int .i64 n] W fun e w' => e = .returned (.bool (isB k n)) ∧ Below W.heap.size W w')
    (A : Option Addr) (cap : Nat) (w : World) (q : Nat) (h : CoreAt w w.heap.size k A cap) (hq : w.cell? ⟨q, 0, none⟩ = some (.int .i64 n)) :
    Calls Tryd.prog 51 #[coreW k.op k.va k.vb k.vc k.vn k.kids.length A cap, .pointer (some ⟨q, 0, none⟩)] w fun e w' => e = .returned (.bool (!isB k n)) ∧ Below w.heap.size w w' := by
  have HI := Lib.hid hI
  have HC := Lib.hid h
  clear h hI
  cases k with
  | node o a b c m ks =>
    simp only [coreW, Core.op, Core.va, Core.vb, Core.vc, Core.vn, Core.kids] at HI ⊢
    generalize isB (.node o a b c m ks) n = B at *
    have hqa := (World.cell?_alloc_lt w (.cells #[.string ⟨o.toArray⟩, .int .i64 a, .int .i64 b, .int .i64 c, .int .i64 m, .slice A ks.length cap] 24) ⟨q, 0, none⟩ (World.block_lt_of_cell? _ _ hq)).trans hq
    go_enter Tryd.func51, Tryd.ntmps51
    go_wp2_with (
      go_at_call 40
      refine (HI.out _ _ _ (HC.out.later ((Below.refl _ _).alloc (Nat.le_refl _) _) (by simp))).mono ?_
      rintro e w2 ⟨rfl, hb2⟩)
    go_ret
    exact ⟨rfl, ((Below.refl w.heap.size w).alloc (Nat.le_refl _) _).trans (hb2.mono (by simp))⟩

set_option maxHeartbeats 1000000 in
theorem is_any : ∀ (t : Core) (A : Option Addr) (cap : Nat) (n : Int) (w : World), CoreAt w w.heap.size t A cap → 0 ≤ n → n ≤ 6 →
    Calls Tryd.prog 40 #[coreW t.op t.va t.vb t.vc t.vn t.kids.length A cap, .int .i64 n] w fun e w' => e = .returned (.bool (isB t n)) ∧ Below w.heap.size w w' := by
  intro t
  induction t using Core.ind with
  | h o a b c m ks ih =>
    intro A cap n w h hn0 hn1
    have HC := Lib.hid h
    have IH := Lib.hid ih
    have HFL := Lib.hid (fun W hW => fields_any (.node o a b c m ks) A cap n W hW hn0 hn1)
    clear h ih
    simp only [coreW, Core.op, Core.va, Core.vb, Core.vc, Core.vn, Core.kids] at HFL ⊢
    cases hf : fieldsB (.node o a b c m ks) n with
    | false =>
      rw [hf] at HFL
      have HB := Lib.hid (show isB (.node o a b c m ks) n = false by rw [isB, hf]; rfl)
      generalize isB (.node o a b c m ks) n = B at *
      go_enter Tryd.func40, Tryd.ntmps40
      go_wp2_with (
        go_at_call 50
        refine (HFL.out _ (HC.out.later (((Below.refl _ _).alloc (Nat.le_refl _) _).alloc (by simp) _) (by simp <;> omega))).mono ?_
        rintro e w2 ⟨rfl, hb2⟩
        have q0 := (hb2.cell (p := ⟨w.heap.size, 0, none⟩) (by simp <;> omega)).trans (by go_keep : _ = some (.string ⟨o.toArray⟩))
        have q5 := (hb2.cell (p := ⟨w.heap.size, 5, none⟩) (by simp <;> omega)).trans (by go_keep : _ = some (.slice A ks.length cap))
        have qn := (hb2.cell (p := ⟨w.heap.size + 1, 0, none⟩) (by simp <;> omega)).trans (by go_keep : _ = some (.int .i64 n))
        have qf := (hb2.frozen (p := ⟨w.heap.size + 1, 0, none⟩) (by simp <;> omega)).trans (by simp : _ = false)
        have HB2 := Lib.hid ((((Below.refl w.heap.size w).alloc (Nat.le_refl _) (.cells #[.string ⟨o.toArray⟩, .int .i64 a, .int .i64 b, .int .i64 c, .int .i64 m, .slice A ks.length cap] 24)).alloc (by simp) (.cells #[.int .i64 n] 3)).trans (hb2.mono (by simp <;> omega)))
        clear hb2)
      go_ret
      exact ⟨congrArg (fun x : Bool => Ending.returned (.bool x)) HB.out.symm, HB2.out⟩
    | true =>
      rw [hf] at HFL
      by_cases hE : o = [101, 120]
      · subst hE
        have hn6 : n < 6 := fb_ex hf
        have HB := Lib.hid (show isB (.node [101, 120] a b c m ks) n = !(ks.any fun k => !isB k (n + 1)) by rw [isB, hf, ← isL_any]; rfl)
        generalize isB (.node [101, 120] a b c m ks) n = B at *
        go_enter Tryd.func40, Tryd.ntmps40
        go_wp2_with (first
          | (
            go_at_call 50
            refine (HFL.out _ (HC.out.later (((Below.refl _ _).alloc (Nat.le_refl _) _).alloc (by simp) _) (by simp <;> omega))).mono ?_
            rintro e w2 ⟨rfl, hb2⟩
            have q0 := (hb2.cell (p := ⟨w.heap.size, 0, none⟩) (by simp <;> omega)).trans (by go_keep : _ = some (.string ⟨#[101, 120]⟩))
            have q5 := (hb2.cell (p := ⟨w.heap.size, 5, none⟩) (by simp <;> omega)).trans (by go_keep : _ = some (.slice A ks.length cap))
            have qn := (hb2.cell (p := ⟨w.heap.size + 1, 0, none⟩) (by simp <;> omega)).trans (by go_keep : _ = some (.int .i64 n))
            have qf := (hb2.frozen (p := ⟨w.heap.size + 1, 0, none⟩) (by simp <;> omega)).trans (by simp : _ = false)
            have HB2 := Lib.hid ((((Below.refl w.heap.size w).alloc (Nat.le_refl _) (.cells #[.string ⟨#[101, 120]⟩, .int .i64 a, .int .i64 b, .int .i64 c, .int .i64 m, .slice A ks.length cap] 24)).alloc (by simp) (.cells #[.int .i64 n] 3)).trans (hb2.mono (by simp <;> omega)))
            clear hb2)
          | (
            go_at_call 31
            refine (contains51 (fun k => !isB k (n + 1)) [101, 120] a b c m ks A cap (w.heap.size + 1) (.int .i64 (n + 1)) _ (HC.out.later (HB2.out.setCell (by simp) _) (by have := HB2.out.size; simp <;> omega)) (World.cell?_setCell_same _ _ _ qn) (fun k hk A cap W hW hq => cl51 k _ (by omega) (by omega) (fun A cap W hW => IH.out k hk A cap _ W hW (by omega) (by omega)) A cap W _ hW hq)).mono ?_
            rintro e w3 ⟨rfl, hb3⟩
            have HB3 := Lib.hid ((HB2.out.setCell (by simp) _).trans (hb3.mono (by have := HB2.out.size; simp <;> omega)) : Below w.heap.size w w3)
            clear hb3))
        go_ret
        exact ⟨congrArg (fun x : Bool => Ending.returned (.bool x)) HB.out.symm, HB3.out⟩
      · have HB := Lib.hid (show isB (.node o a b c m ks) n = !(ks.any fun k => !isB k n) by
          rw [isB, hf, ← isL_any, under, if_neg (show ¬ o = oEx from hE)]; rfl)
        have gE1 : (o == [101, 120]) = false := beq_false_of_ne hE
        generalize isB (.node o a b c m ks) n = B at *
        go_enter Tryd.func40, Tryd.ntmps40
        go_wp2_with (first
          | (
            go_at_call 50
            refine (HFL.out _ (HC.out.later (((Below.refl _ _).alloc (Nat.le_refl _) _).alloc (by simp) _) (by simp <;> omega))).mono ?_
            rintro e w2 ⟨rfl, hb2⟩
            have q0 := (hb2.cell (p := ⟨w.heap.size, 0, none⟩) (by simp <;> omega)).trans (by go_keep : _ = some (.string ⟨o.toArray⟩))
            have q5 := (hb2.cell (p := ⟨w.heap.size, 5, none⟩) (by simp <;> omega)).trans (by go_keep : _ = some (.slice A ks.length cap))
            have qn := (hb2.cell (p := ⟨w.heap.size + 1, 0, none⟩) (by simp <;> omega)).trans (by go_keep : _ = some (.int .i64 n))
            have qf := (hb2.frozen (p := ⟨w.heap.size + 1, 0, none⟩) (by simp <;> omega)).trans (by simp : _ = false)
            have HB2 := Lib.hid ((((Below.refl w.heap.size w).alloc (Nat.le_refl _) (.cells #[.string ⟨o.toArray⟩, .int .i64 a, .int .i64 b, .int .i64 c, .int .i64 m, .slice A ks.length cap] 24)).alloc (by simp) (.cells #[.int .i64 n] 3)).trans (hb2.mono (by simp <;> omega)))
            clear hb2)
          | (
            go_at_call 31
            refine (contains51 (fun k => !isB k n) o a b c m ks A cap (w.heap.size + 1) (.int .i64 n) _ (HC.out.later HB2.out (by have := HB2.out.size; simp <;> omega)) qn (fun k hk A cap W hW hq => cl51 k _ (by omega) (by omega) (fun A cap W hW => IH.out k hk A cap _ W hW (by omega) (by omega)) A cap W _ hW hq)).mono ?_
            rintro e w3 ⟨rfl, hb3⟩
            have HB3 := Lib.hid (HB2.out.trans (hb3.mono (by have := HB2.out.size; simp <;> omega)) : Below w.heap.size w w3)
            clear hb3))
        go_ret
        exact ⟨congrArg (fun x : Bool => Ending.returned (.bool x)) HB.out.symm, HB3.out⟩

theorem box_kept {w w2 : World} {x0 x1 x2 x3 x4 x5 : Value} (hb : Below (w.alloc (.cells #[x0, x1, x2, x3, x4, x5] 24)).heap.size (w.alloc (.cells #[x0, x1, x2, x3, x4, x5] 24)) w2) :
    w2.cell? ⟨w.heap.size, 0, none⟩ = some x0 ∧ w2.cell? ⟨w.heap.size, 1, none⟩ = some x1 ∧ w2.cell? ⟨w.heap.size, 2, none⟩ = some x2 ∧ w2.cell? ⟨w.heap.size, 3, none⟩ = some x3 ∧ w2.cell? ⟨w.heap.size, 4, none⟩ = some x4 ∧ w2.cell? ⟨w.heap.size, 5, none⟩ = some x5 := by
  refine ⟨(hb.cell (by simp)).trans (by simp), (hb.cell (by simp)).trans (by simp), (hb.cell (by simp)).trans (by simp), (hb.cell (by simp)).trans (by simp), (hb.cell (by simp)).trans (by simp), (hb.cell (by simp)).trans (by simp)⟩

set_option maxHeartbeats 1000000 in
theorem Is_any (t : Core) (A : Option Addr) (cap : Nat) (n : Int) (w : World) (h : CoreAt w w.heap.size t A cap) :
    Calls Tryd.prog 22 #[coreW t.op t.va t.vb t.vc t.vn t.kids.length A cap, .int .i64 n] w fun e w' => e = .returned (.bool (isTop t n)) ∧ Below w.heap.size w w' := by
  have HC := Lib.hid h
  have HZ := Lib.hid (fun W hW => Size_any t A cap W hW)
  have HI := Lib.hid (fun W hW h1 h2 => is_any t A cap n W hW h1 h2)
  clear h
  cases t with
  | node o a b c m ks =>
    simp only [coreW, Core.op, Core.va, Core.vb, Core.vc, Core.vn, Core.kids] at HZ HI ⊢
    have HT := Lib.hid (show isTop (.node o a b c m ks) n = (decide (0 ≤ n) && decide (n ≤ 6) && decide (nodes (.node o a b c m ks) ≤ 2000) && isB (.node o a b c m ks) n) from rfl)
    generalize isTop (.node o a b c m ks) n = R at *
    generalize hnn : nodes (.node o a b c m ks) = N at *
    generalize isB (.node o a b c m ks) n = I at *
    have HB1 := Lib.hid ((Below.refl w.heap.size w).alloc (Nat.le_refl _) (.cells #[.string ⟨o.toArray⟩, .int .i64 a, .int .i64 b, .int .i64 c, .int .i64 m, .slice A ks.length cap] 24))
    by_cases h0 : 0 ≤ n
    · have g0 : decide (0 ≤ n) = true := decide_eq_true h0
      by_cases h6 : n ≤ 6
      · have g6 : decide (n ≤ 6) = true := decide_eq_true h6
        by_cases hz : N ≤ 2000
        · have HR := Lib.hid (show R = I by rw [HT.out, decide_eq_true h0, decide_eq_true h6, decide_eq_true hz]; rfl)
          have hmn : min N 2001 = N := by omega
          rw [hmn] at HZ
          go_enter Tryd.func22, Tryd.ntmps22
          go_wp2_with (first
            | (
              go_at_call 39
              refine (HZ.out _ (HC.out.later HB1.out (by simp))).mono ?_
              rintro e w2 ⟨rfl, hb2⟩
              obtain ⟨q0, q1, q2, q3, q4, q5⟩ := box_kept hb2
              have HB2 := Lib.hid (HB1.out.trans (hb2.mono (by simp)))
              clear hb2)
            | (
              go_at_call 40
              refine (HI.out _ (HC.out.later HB2.out HB2.out.size) (by omega) (by omega)).mono ?_
              rintro e w3 ⟨rfl, hb3⟩
              have HB3 := Lib.hid (HB2.out.trans (hb3.mono HB2.out.size))
              clear hb3))
          go_ret
          exact ⟨congrArg (fun x : Bool => Ending.returned (.bool x)) HR.out.symm, HB3.out⟩
        · have HR := Lib.hid (show R = false by rw [HT.out, decide_eq_false hz]; simp)
          have hmn : min N 2001 = 2001 := by omega
          rw [hmn] at HZ
          go_enter Tryd.func22, Tryd.ntmps22
          go_wp2_with (
            go_at_call 39
            refine (HZ.out _ (HC.out.later HB1.out (by simp))).mono ?_
            rintro e w2 ⟨rfl, hb2⟩
            have HB2 := Lib.hid (HB1.out.trans (hb2.mono (by simp)))
            clear hb2)
          go_ret
          exact ⟨congrArg (fun x : Bool => Ending.returned (.bool x)) HR.out.symm, HB2.out⟩
      · have g6 : decide (n ≤ 6) = false := decide_eq_false h6
        have HR := Lib.hid (show R = false by rw [HT.out, g6]; simp)
        go_enter Tryd.func22, Tryd.ntmps22
        go_wp2_with fail
        go_ret
        exact ⟨congrArg (fun x : Bool => Ending.returned (.bool x)) HR.out.symm, HB1.out⟩
    · have g0 : decide (0 ≤ n) = false := decide_eq_false h0
      have HR := Lib.hid (show R = false by rw [HT.out, g0]; simp)
      go_enter Tryd.func22, Tryd.ntmps22
      go_wp2_with fail
      go_ret
      exact ⟨congrArg (fun x : Bool => Ending.returned (.bool x)) HR.out.symm, HB1.out⟩
end Go.Proofs.YtcgjacaemblnmaaDoor
