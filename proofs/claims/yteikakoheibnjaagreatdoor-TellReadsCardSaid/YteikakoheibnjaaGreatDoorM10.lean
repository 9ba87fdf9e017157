/- Parts of the proof: LReader. -/
import Derived.Test.YteikakoheibnjaaGreatDoorM7
import Derived.Test.YteikakoheibnjaaGreatDoorM9
namespace Go.Proofs.YteikakoheibnjaaGreatDoor
open Go Go.RowKit

/-- Block q is a lexer: the text S, its runes R, i of them read. -/
structure Lxr (w : World) (B q : Nat) (S : ByteArray) (R : List Ru) (A : Option Addr) (c : Nat) (bad : Int) (i : Nat) : Prop where
  blk : Blk w q 106 #[.string S, .slice A R.length c, .int .i64 bad, .int .i64 i]
  runes : ∀ j (h : j < R.length), ∃ g, A = some ⟨g, 0, none⟩ ∧ g ≠ q ∧ g < B ∧ w.cell? ⟨g, j * 2, none⟩ = some (.int .i32 (R[j].1 : Nat)) ∧ w.cell? ⟨g, j * 2 + 1, none⟩ = some (.int .i64 (posn R j : Nat))
  qlt : q < B
  small : ∀ r ∈ R, r.1 < 2097152
  len : R.length ≤ 2000
  size : S.size ≤ 2000
  fin : (posn R R.length : Int) = if 0 ≤ bad then bad else (S.size : Int)
section
variable {w w' : World} {B q : Nat} {S : ByteArray} {R : List Ru} {A : Option Addr} {c : Nat} {bad : Int} {i : Nat}
theorem Lxr.drewN (h : Lxr w B q S R A c bad i) (n : Nat) : Lxr (w.drewN n) B q S R A c bad i := ⟨h.blk, h.runes, h.qlt, h.small, h.len, h.size, h.fin⟩
theorem Lxr.cells (h : Lxr w B q S R A c bad i) : w.cell? ⟨q, 0, none⟩ = some (.string S) ∧ w.cell? ⟨q, 1, none⟩ = some (.slice A R.length c) ∧ w.cell? ⟨q, 2, none⟩ = some (.int .i64 bad) ∧ w.cell? ⟨q, 3, none⟩ = some (.int .i64 i) :=
  ⟨h.blk.cell 0, h.blk.cell 1, h.blk.cell 2, h.blk.cell 3⟩
theorem Lxr.alloc (h : Lxr w B q S R A c bad i) (o : Obj) : Lxr (w.alloc o) B q S R A c bad i :=
  ⟨(Below.heap_alloc w o q h.blk.lt).trans h.blk, fun j hj => by
    obtain ⟨g, e, hg, hgB, h1, h2⟩ := h.runes j hj
    exact ⟨g, e, hg, hgB, by rw [World.cell?_alloc_lt _ _ _ (World.block_lt_of_cell? _ _ h1)]; exact h1, by rw [World.cell?_alloc_lt _ _ _ (World.block_lt_of_cell? _ _ h2)]; exact h2⟩, h.qlt, h.small, h.len, h.size, h.fin⟩
theorem Lxr.below (h : Lxr w B q S R A c bad i) (hb : Below w.heap.size w w') : Lxr w' B q S R A c bad i :=
  ⟨(hb.block q h.blk.lt).trans h.blk, fun j hj => by
    obtain ⟨g, e, hg, hgB, h1, h2⟩ := h.runes j hj
    exact ⟨g, e, hg, hgB, (hb.cell (World.block_lt_of_cell? _ _ h1)).trans h1, (hb.cell (World.block_lt_of_cell? _ _ h2)).trans h2⟩, h.qlt, h.small, h.len, h.size, h.fin⟩
theorem Lxr.set_ (h : Lxr w B q S R A c bad i) (k : Nat) : Lxr (w.setCell ⟨q, 3, none⟩ (.int .i64 (k : Nat))) B q S R A c bad k :=
  ⟨h.blk.set_ 3 _, fun j hj => by
    obtain ⟨g, e, hg, hgB, h1, h2⟩ := h.runes j hj
    exact ⟨g, e, hg, hgB, (World.cell?_setCell_other _ _ _ _ (by simp <;> omega)).trans h1, (World.cell?_setCell_other _ _ _ _ (by simp <;> omega)).trans h2⟩, h.qlt, h.small, h.len, h.size, h.fin⟩
theorem Lxr.far (h : Lxr w B q S R A c bad i) {p : Addr} (hp : B ≤ p.block) (u : Value) : Lxr (w.setCell p u) B q S R A c bad i :=
  ⟨(Below.heap_setCell w p u q (by have := h.qlt; omega)).trans h.blk, fun j hj => by
    obtain ⟨g, e, hg, hgB, h1, h2⟩ := h.runes j hj
    exact ⟨g, e, hg, hgB, (World.cell?_setCell_other _ _ _ _ (by rintro rfl; simp at hp; omega)).trans h1, (World.cell?_setCell_other _ _ _ _ (by rintro rfl; simp at hp; omega)).trans h2⟩, h.qlt, h.small, h.len, h.size, h.fin⟩
end

/-- What a reading step leaves: only the lexer's own block has turned. -/
def LLeft (w : World) (B q : Nat) (S : ByteArray) (R : List Ru) (A : Option Addr) (c : Nat) (bad : Int) (i : Nat) (w' : World) : Prop := Fr (fun b => b = q) w w' ∧ Lxr w' B q S R A c bad i
theorem LLeft.drewN {w W : World} {B q : Nat} {S : ByteArray} {R : List Ru} {A : Option Addr} {c : Nat} {bad : Int} {i : Nat} (h : LLeft w B q S R A c bad i W) (n : Nat) : LLeft w B q S R A c bad i (W.drewN n) := ⟨h.1.drewN n, h.2.drewN n⟩
theorem LLeft.inc {w W : World} {B q : Nat} {S : ByteArray} {R : List Ru} {A : Option Addr} {c : Nat} {bad : Int} {i : Nat} (h : LLeft w B q S R A c bad i W) : LLeft w B q S R A c bad (i + 1) (W.setCell ⟨q, 3, none⟩ (.int .i64 ((i : Int) + 1))) :=
  ⟨h.1.setCell (.inl rfl) _, h.2.set_ (i + 1)⟩
theorem LLeft.far {w W : World} {B q : Nat} {S : ByteArray} {R : List Ru} {A : Option Addr} {c : Nat} {bad : Int} {i : Nat} (h : LLeft w B q S R A c bad i W) {p : Addr} (hB : B ≤ w.heap.size) (hp : w.heap.size ≤ p.block) (u : Value) : LLeft w B q S R A c bad i (W.setCell p u) :=
  ⟨h.1.setCell (.inr hp) _, h.2.far (Nat.le_trans hB hp) _⟩
theorem LLeft.alloc {w W : World} {B q : Nat} {S : ByteArray} {R : List Ru} {A : Option Addr} {c : Nat} {bad : Int} {i : Nat} (h : LLeft w B q S R A c bad i W) (o : Obj) : LLeft w B q S R A c bad i (W.alloc o) := ⟨h.1.alloc o, h.2.alloc o⟩
theorem LLeft.below {w W W' : World} {B q : Nat} {S : ByteArray} {R : List Ru} {A : Option Addr} {c : Nat} {bad : Int} {i : Nat} (h : LLeft w B q S R A c bad i W) (hb : Below W.heap.size W W') : LLeft w B q S R A c bad i W' :=
  ⟨h.1.trans ((Fr.of_below hb).mono fun k hk hs => absurd hs (by omega)), h.2.below hb⟩
theorem LLeft.to {w W : World} {B q : Nat} {S : ByteArray} {R : List Ru} {A : Option Addr} {c : Nat} {bad : Int} {i : Nat} (h : LLeft w B q S R A c bad i W) (k : Nat) (v : Int) (hv : v = (k : Nat)) : LLeft w B q S R A c bad k (W.setCell ⟨q, 3, none⟩ (.int .i64 v)) := by
  subst hv
  exact ⟨h.1.setCell (.inl rfl) _, h.2.set_ k⟩
theorem LLeft.refl {w : World} {B q : Nat} {S : ByteArray} {R : List Ru} {A : Option Addr} {c : Nat} {bad : Int} {i : Nat} (h : Lxr w B q S R A c bad i) : LLeft w B q S R A c bad i w := ⟨Fr.refl _ _, h⟩
theorem LLeft.trans {w W W' : World} {B q : Nat} {S : ByteArray} {R : List Ru} {A : Option Addr} {c : Nat} {bad : Int} {i j : Nat} (h : LLeft w B q S R A c bad i W) (h2 : LLeft W B q S R A c bad j W') : LLeft w B q S R A c bad j W' := ⟨h.1.trans h2.1, h2.2⟩
def moreAt (R : List Ru) (j : Nat) : Bool := if h : j < R.length then more R[j] else false
set_option maxHeartbeats 1000000 in
theorem lclassof_any {w : World} {B q : Nat} {S : ByteArray} {R : List Ru} {A : Option Addr} {c : Nat} {bad : Int} {i : Nat} (h : Lxr w B q S R A c bad i) (hi : i ≤ 2000) :
    Calls Tryz.prog 102 #[.pointer (some ⟨q, 0, none⟩)] w fun e w' => e = .returned (.int .i64 (clsAt R i)) ∧ ∃ n, w' = w.drewN n := by
  obtain ⟨c0, c1, c2, c3⟩ := h.cells
  have hl := h.len
  by_cases hj : i < R.length
  · obtain ⟨g, e, hg, _, h1, h2⟩ := h.runes _ hj
    have HV := Lib.hid (show (cls R[i].1 : Int) = clsAt R i by unfold clsAt; rw [dif_pos hj])
    have HC := Lib.hid (fun W => lcls_any R[i].1 W)
    subst e
    generalize clsAt R i = V at *
    generalize R[i].1 = r at *
    have g1 : decide ((R.length : Int) ≤ (i : Int)) = false := decide_eq_false (by omega)
    have hp0 : (0 : Int) ≤ (i : Int) := by omega
    have hp1 : (i : Int) < (R.length : Int) := by omega
    clear h
    go_enter Tryz.func102, Tryz.ntmps102
    go_wp2_with fail
    go_quiet (fail)
    go_wp2_with fail
    go_quiet ((go_at_call 118; exact quiet_add_same (HC.out _)))
    go_wp2_with fail
    go_ret
    exact ⟨congrArg (fun x : Int => Ending.returned (.int .i64 x)) HV.out, _, drew2 _ _ _⟩
  · have HV := Lib.hid (show -1 = clsAt R i by unfold clsAt; rw [dif_neg hj])
    generalize clsAt R i = V at *
    have g1 : decide ((R.length : Int) ≤ (i : Int)) = true := decide_eq_true (by omega)
    clear h
    go_enter Tryz.func102, Tryz.ntmps102
    go_wp2_with fail
    go_quiet (fail)
    go_wp2_with fail
    go_ret
    exact ⟨congrArg (fun x : Int => Ending.returned (.int .i64 x)) HV.out, _, rfl⟩
set_option maxHeartbeats 1000000 in
theorem lat_any {w : World} {B q : Nat} {S : ByteArray} {R : List Ru} {A : Option Addr} {c : Nat} {bad : Int} {i : Nat} (h : Lxr w B q S R A c bad i) (hi : i ≤ R.length) :
    Calls Tryz.prog 83 #[.pointer (some ⟨q, 0, none⟩)] w fun e w' => e = .returned (.int .i64 (posn R i : Nat)) ∧ ∃ n, w' = w.drewN n := by
  obtain ⟨c0, c1, c2, c3⟩ := h.cells
  have hl := h.len
  have hz := h.size
  by_cases hj : i < R.length
  · obtain ⟨g, e, hg, _, h1, h2⟩ := h.runes _ hj
    subst e
    generalize posn R i = r at *
    have g1 : decide ((i : Int) < (R.length : Int)) = true := decide_eq_true (by omega)
    have hp0 : (0 : Int) ≤ (i : Int) := by omega
    have hp1 : (i : Int) < (R.length : Int) := by omega
    clear h
    go_enter Tryz.func83, Tryz.ntmps83
    go_wp2_with fail
    go_quiet (fail)
    go_wp2_with fail
    go_quiet (fail)
    go_wp2_with fail
    go_ret
    exact ⟨rfl, _, drew2 _ _ _⟩
  · have e : i = R.length := by omega
    have HF := Lib.hid h.fin
    subst e
    have g1 : decide ((R.length : Int) < (R.length : Int)) = false := decide_eq_false (by omega)
    generalize (posn R R.length : Int) = V at *
    clear h
    by_cases hb : 0 ≤ bad
    · have HV := Lib.hid (show bad = V by rw [HF.out, if_pos hb])
      have g2 : decide (0 ≤ bad) = true := decide_eq_true hb
      clear HF
      go_enter Tryz.func83, Tryz.ntmps83
      go_wp2_with fail
      go_quiet (fail)
      go_wp2_with fail
      go_ret
      exact ⟨congrArg (fun x : Int => Ending.returned (.int .i64 x)) HV.out, _, rfl⟩
    · have HV := Lib.hid (show (S.size : Int) = V by rw [HF.out, if_neg hb])
      have g2 : decide (0 ≤ bad) = false := decide_eq_false hb
      clear HF
      go_enter Tryz.func83, Tryz.ntmps83
      go_wp2_with fail
      go_quiet (fail)
      go_wp2_with fail
      go_ret
      exact ⟨congrArg (fun x : Int => Ending.returned (.int .i64 x)) HV.out, _, rfl⟩
theorem more_cls {R : List Ru} {j : Nat} : moreAt R j = (clsAt R j == 1 || (clsAt R j == 2 || (clsAt R j == 4 && isAt R j 39))) := by
  unfold moreAt clsAt isAt more
  by_cases h : j < R.length
  · rw [dif_pos h, dif_pos h, dif_pos h]
    by_cases h9 : R[j].1 = 39
    · rw [h9]; decide
    · rw [beq_false_of_ne h9, Bool.and_false, Bool.or_false, Bool.or_false, Bool.eq_iff_iff]
      simp
      omega
  · rw [dif_neg h, dif_neg h, dif_neg h]
    rfl
set_option maxHeartbeats 2000000 in
theorem lmore_any {w : World} {B q : Nat} {S : ByteArray} {R : List Ru} {A : Option Addr} {c : Nat} {bad : Int} {i : Nat} (h : Lxr w B q S R A c bad i) (hi : i ≤ R.length) :
    Calls Tryz.prog 119 #[.pointer (some ⟨q, 0, none⟩)] w fun e w' => e = .returned (.bool (moreAt R i)) ∧ ∃ n, w' = w.drewN n := by
  obtain ⟨c0, c1, c2, c3⟩ := h.cells
  have hl := h.len
  have HC := Lib.hid (lclassof_any h (by omega))
  have HV := Lib.hid (more_cls (R := R) (j := i))
  generalize moreAt R i = V at *
  have hc4 : clsAt R i = 4 → ∃ hj : i < R.length, True := by
    intro h4
    refine ⟨?_, trivial⟩
    unfold clsAt at h4
    split at h4
    · assumption
    · omega
  by_cases h4 : clsAt R i = 4
  · obtain ⟨hj, _⟩ := hc4 h4
    obtain ⟨g, e, hg, _, k1, k2⟩ := h.runes _ hj
    have HI : isAt R i 39 = ((R[i].1 : Int) == 39) := by
      unfold isAt
      rw [dif_pos hj, Bool.eq_iff_iff, beq_iff_eq, beq_iff_eq]
      omega
    rw [h4, HI] at HV
    rw [h4] at HC
    subst e
    generalize R[i].1 = r at *
    have HW := Lib.hid (show ((r : Int) == 39) = V from HV.out.symm)
    have hp0 : (0 : Int) ≤ (i : Int) := by omega
    have hp1 : (i : Int) < (R.length : Int) := by omega
    clear h HV hc4 h4 HI
    go_enter Tryz.func119, Tryz.ntmps119
    go_wp2_with (
      go_at_call 102
      refine HC.out.mono ?_
      rintro e w2 ⟨rfl, n1, rfl⟩)
    go_quiet (fail)
    go_wp2_with fail
    go_ret
    exact ⟨congrArg (fun x : Bool => Ending.returned (.bool x)) HW.out, _, drew2 _ _ _⟩
  · have g4 : (clsAt R i == 4) = false := by simp [h4]
    rw [g4] at HV
    generalize clsAt R i = v at *
    clear h hc4 h4
    by_cases h1 : v = 1
    · subst h1
      have HW := Lib.hid (show true = V from HV.out.symm)
      clear HV
      go_enter Tryz.func119, Tryz.ntmps119
      go_wp2_with (
        go_at_call 102
        refine HC.out.mono ?_
        rintro e w2 ⟨rfl, n1, rfl⟩)
      go_quiet (fail)
      go_wp2_with fail
      go_ret
      exact ⟨congrArg (fun x : Bool => Ending.returned (.bool x)) HW.out, _, drew2 _ _ _⟩
    · have g1 : (v == 1) = false := by simp [h1]
      by_cases h2 : v = 2
      · subst h2
        have HW := Lib.hid (show true = V from HV.out.symm)
        clear HV
        go_enter Tryz.func119, Tryz.ntmps119
        go_wp2_with (
          go_at_call 102
          refine HC.out.mono ?_
          rintro e w2 ⟨rfl, n1, rfl⟩)
        go_quiet (fail)
        go_wp2_with fail
        go_ret
        exact ⟨congrArg (fun x : Bool => Ending.returned (.bool x)) HW.out, _, drew2 _ _ _⟩
      · have g2 : (v == 2) = false := by simp [h2]
        rw [g1, g2] at HV
        have HW := Lib.hid (show false = V from HV.out.symm)
        clear HV h1 h2
        go_enter Tryz.func119, Tryz.ntmps119
        go_wp2_with (
          go_at_call 102
          refine HC.out.mono ?_
          rintro e w2 ⟨rfl, n1, rfl⟩)
        go_quiet (fail)
        go_wp2_with fail
        go_ret
        exact ⟨congrArg (fun x : Bool => Ending.returned (.bool x)) HW.out, _, drew2 _ _ _⟩
end Go.Proofs.YteikakoheibnjaaGreatDoor
