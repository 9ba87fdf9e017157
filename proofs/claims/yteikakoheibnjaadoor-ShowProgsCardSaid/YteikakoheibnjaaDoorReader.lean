/- The walks over the reading methods of sibylref2.reader: class, is, at. -/
import Derived.Test.YteikakoheibnjaaDoorEach
import Derived.Deep.QuietTactic
import Derived.BigQuiet
namespace Go.Proofs.YteikakoheibnjaaDoor
open Go Go.RowKit

theorem quiet_add_same {P : Program} {f : FuncId} {args : Array Value} {w : World} {a n : Nat} {v : Value}
    (h : Calls P f args (w.drewN (a + n)) fun e w' => e = .returned v ∧ w' = w.drewN (a + n)) :
    Calls P f args (w.drewN (a + n)) fun e w'' => e = .returned v ∧ ∃ m, w'' = w.drewN (a + m) :=
  h.mono fun _ _ ⟨he, hm⟩ => ⟨he, n, hm⟩
theorem quiet_add {P : Program} {f : FuncId} {args : Array Value} {w : World} {a n : Nat} {v : Value}
    (h : Calls P f args (w.drewN (a + n)) fun e w' => e = .returned v ∧ ∃ m, w' = (w.drewN (a + n)).drewN m) :
    Calls P f args (w.drewN (a + n)) fun e w'' => e = .returned v ∧ ∃ m, w'' = w.drewN (a + m) :=
  h.mono fun _ _ ⟨he, m, hm⟩ => ⟨he, n + m, by rw [hm, World.drewN_drewN, Nat.add_assoc]⟩

theorem drew2 (w : World) (a b : Nat) : (w.drewN a).drewN b = w.drewN (a + b) := by rw [World.drewN_drewN]
/-- Where a rune begins. -/
def posn (R : List Ru) (j : Nat) : Nat := (flat (R.take j)).length
/-- The class of a rune; -1: there is none. -/
def clsAt (R : List Ru) (j : Nat) : Int := if h : j < R.length then (cls R[j].1 : Nat) else -1
def isAt (R : List Ru) (j c : Nat) : Bool := if h : j < R.length then R[j].1 == c else false
def atAt (R : List Ru) (n j : Nat) : Nat := if j < R.length then posn R j else n
/-- Block q is a reader: the text S, its runes R, i of them read. -/
structure Rd (w : World) (B q : Nat) (S : ByteArray) (R : List Ru) (A : Option Addr) (c : Nat) (bad : Int) (i : Nat) : Prop where
  blk : Blk w q 103 #[.string S, .slice A R.length c, .int .i64 bad, .int .i64 i]
  runes : ∀ j (h : j < R.length), ∃ g, A = some ⟨g, 0, none⟩ ∧ g ≠ q ∧ g < B ∧ w.cell? ⟨g, j * 2, none⟩ = some (.int .i32 (R[j].1 : Nat)) ∧ w.cell? ⟨g, j * 2 + 1, none⟩ = some (.int .i64 (posn R j : Nat))
  qlt : q < B
  small : ∀ r ∈ R, r.1 < 2097152
  len : R.length ≤ 2000
section
variable {w w' : World} {B q : Nat} {S : ByteArray} {R : List Ru} {A : Option Addr} {c : Nat} {bad : Int} {i : Nat}
theorem Rd.drewN (h : Rd w B q S R A c bad i) (n : Nat) : Rd (w.drewN n) B q S R A c bad i := ⟨h.blk, h.runes, h.qlt, h.small, h.len⟩
theorem Rd.cells (h : Rd w B q S R A c bad i) : w.cell? ⟨q, 0, none⟩ = some (.string S) ∧ w.cell? ⟨q, 1, none⟩ = some (.slice A R.length c) ∧ w.cell? ⟨q, 2, none⟩ = some (.int .i64 bad) ∧ w.cell? ⟨q, 3, none⟩ = some (.int .i64 i) :=
  ⟨h.blk.cell 0, h.blk.cell 1, h.blk.cell 2, h.blk.cell 3⟩
theorem Rd.alloc (h : Rd w B q S R A c bad i) (o : Obj) : Rd (w.alloc o) B q S R A c bad i :=
  ⟨(Below.heap_alloc w o q h.blk.lt).trans h.blk, fun j hj => by
    obtain ⟨g, e, hg, hgB, h1, h2⟩ := h.runes j hj
    exact ⟨g, e, hg, hgB, by rw [World.cell?_alloc_lt _ _ _ (World.block_lt_of_cell? _ _ h1)]; exact h1, by rw [World.cell?_alloc_lt _ _ _ (World.block_lt_of_cell? _ _ h2)]; exact h2⟩, h.qlt, h.small, h.len⟩
theorem Rd.below (h : Rd w B q S R A c bad i) (hb : Below w.heap.size w w') : Rd w' B q S R A c bad i :=
  ⟨(hb.block q h.blk.lt).trans h.blk, fun j hj => by
    obtain ⟨g, e, hg, hgB, h1, h2⟩ := h.runes j hj
    exact ⟨g, e, hg, hgB, (hb.cell (World.block_lt_of_cell? _ _ h1)).trans h1, (hb.cell (World.block_lt_of_cell? _ _ h2)).trans h2⟩, h.qlt, h.small, h.len⟩
theorem Rd.set_ (h : Rd w B q S R A c bad i) (k : Nat) : Rd (w.setCell ⟨q, 3, none⟩ (.int .i64 (k : Nat))) B q S R A c bad k :=
  ⟨h.blk.set_ 3 _, fun j hj => by
    obtain ⟨g, e, hg, hgB, h1, h2⟩ := h.runes j hj
    exact ⟨g, e, hg, hgB, (World.cell?_setCell_other _ _ _ _ (by simp <;> omega)).trans h1, (World.cell?_setCell_other _ _ _ _ (by simp <;> omega)).trans h2⟩, h.qlt, h.small, h.len⟩
theorem Rd.far (h : Rd w B q S R A c bad i) {p : Addr} (hp : B ≤ p.block) (u : Value) : Rd (w.setCell p u) B q S R A c bad i :=
  ⟨(Below.heap_setCell w p u q (by have := h.qlt; omega)).trans h.blk, fun j hj => by
    obtain ⟨g, e, hg, hgB, h1, h2⟩ := h.runes j hj
    exact ⟨g, e, hg, hgB, (World.cell?_setCell_other _ _ _ _ (by rintro rfl; simp at hp; omega)).trans h1, (World.cell?_setCell_other _ _ _ _ (by rintro rfl; simp at hp; omega)).trans h2⟩, h.qlt, h.small, h.len⟩
end

set_option maxHeartbeats 1000000 in
theorem class_any {w : World} {B q : Nat} {S : ByteArray} {R : List Ru} {A : Option Addr} {c : Nat} {bad : Int} {i : Nat} (h : Rd w B q S R A c bad i) (k : Nat) (hi : i ≤ 2000) (hk : k ≤ 2000) :
    Calls Tryd.prog 91 #[.pointer (some ⟨q, 0, none⟩), .int .i64 k] w fun e w' => e = .returned (.int .i64 (clsAt R (i + k))) ∧ ∃ n, w' = w.drewN n := by
  obtain ⟨c0, c1, c2, c3⟩ := h.cells
  have hl := h.len
  by_cases hj : i + k < R.length
  · obtain ⟨g, e, hg, _, h1, h2⟩ := h.runes _ hj
    have HV := Lib.hid (show (cls R[i + k].1 : Int) = clsAt R (i + k) by unfold clsAt; rw [dif_pos hj])
    have HC := Lib.hid (fun W => cls_any R[i + k].1 (h.small _ (List.getElem_mem hj)) W)
    subst e
    generalize clsAt R (i + k) = V at *
    generalize R[i + k].1 = r at *
    have g1 : decide ((R.length : Int) ≤ (i : Int) + (k : Int)) = false := decide_eq_false (by omega)
    have hp0 : (0 : Int) ≤ (i : Int) + (k : Int) := by omega
    have hp1 : (i : Int) + (k : Int) < (R.length : Int) := by omega
    clear h
    go_enter Tryd.func91, Tryd.ntmps91
    go_wp2_with fail
    go_quiet (fail)
    go_wp2_with fail
    go_quiet ((go_at_call 117; exact quiet_add_same (HC.out _)))
    go_wp2_with fail
    go_ret
    exact ⟨congrArg (fun x : Int => Ending.returned (.int .i64 x)) HV.out, _, drew2 _ _ _⟩
  · have HV := Lib.hid (show -1 = clsAt R (i + k) by unfold clsAt; rw [dif_neg hj])
    generalize clsAt R (i + k) = V at *
    have g1 : decide ((R.length : Int) ≤ (i : Int) + (k : Int)) = true := decide_eq_true (by omega)
    clear h
    go_enter Tryd.func91, Tryd.ntmps91
    go_wp2_with fail
    go_quiet (fail)
    go_wp2_with fail
    go_ret
    exact ⟨congrArg (fun x : Int => Ending.returned (.int .i64 x)) HV.out, _, rfl⟩
set_option maxHeartbeats 1000000 in
theorem rdis_any {w : World} {B q : Nat} {S : ByteArray} {R : List Ru} {A : Option Addr} {c : Nat} {bad : Int} {i : Nat} (h : Rd w B q S R A c bad i) (k x : Nat) (hi : i ≤ 2000) (hk : k ≤ 2000) :
    Calls Tryd.prog 92 #[.pointer (some ⟨q, 0, none⟩), .int .i64 k, .int .i32 x] w fun e w' => e = .returned (.bool (isAt R (i + k) x)) ∧ ∃ n, w' = w.drewN n := by
  obtain ⟨c0, c1, c2, c3⟩ := h.cells
  have hl := h.len
  by_cases hj : i + k < R.length
  · obtain ⟨g, e, hg, _, h1, h2⟩ := h.runes _ hj
    have HV := Lib.hid (show ((R[i + k].1 : Int) == (x : Int)) = isAt R (i + k) x by
      unfold isAt
      rw [dif_pos hj, Bool.eq_iff_iff, beq_iff_eq, beq_iff_eq]
      omega)
    subst e
    generalize isAt R (i + k) x = V at *
    generalize R[i + k].1 = r at *
    have g1 : decide ((i : Int) + (k : Int) < (R.length : Int)) = true := decide_eq_true (by omega)
    have hp0 : (0 : Int) ≤ (i : Int) + (k : Int) := by omega
    have hp1 : (i : Int) + (k : Int) < (R.length : Int) := by omega
    clear h
    go_enter Tryd.func92, Tryd.ntmps92
    go_wp2_with fail
    go_quiet (fail)
    go_wp2_with fail
    go_ret
    exact ⟨congrArg (fun x : Bool => Ending.returned (.bool x)) HV.out, _, rfl⟩
  · have HV := Lib.hid (show false = isAt R (i + k) x by unfold isAt; rw [dif_neg hj])
    generalize isAt R (i + k) x = V at *
    have g1 : decide ((i : Int) + (k : Int) < (R.length : Int)) = false := decide_eq_false (by omega)
    clear h
    go_enter Tryd.func92, Tryd.ntmps92
    go_wp2_with fail
    go_quiet (fail)
    go_wp2_with fail
    go_ret
    exact ⟨congrArg (fun x : Bool => Ending.returned (.bool x)) HV.out, _, rfl⟩
set_option maxHeartbeats 1000000 in
theorem rdat_any {w : World} {B q : Nat} {S : ByteArray} {R : List Ru} {A : Option Addr} {c : Nat} {bad : Int} {i : Nat} (h : Rd w B q S R A c bad i) (k : Nat) (hi : i ≤ 2000) (hk : k ≤ 2000) :
    Calls Tryd.prog 70 #[.pointer (some ⟨q, 0, none⟩), .int .i64 k] w fun e w' => e = .returned (.int .i64 (atAt R S.size (i + k) : Nat)) ∧ ∃ n, w' = w.drewN n := by
  obtain ⟨c0, c1, c2, c3⟩ := h.cells
  have hl := h.len
  by_cases hj : i + k < R.length
  · obtain ⟨g, e, hg, _, h1, h2⟩ := h.runes _ hj
    have HV := Lib.hid (show posn R (i + k) = atAt R S.size (i + k) by unfold atAt; rw [if_pos hj])
    subst e
    generalize atAt R S.size (i + k) = V at *
    generalize posn R (i + k) = r at *
    have g1 : decide ((R.length : Int) ≤ (i : Int) + (k : Int)) = false := decide_eq_false (by omega)
    have hp0 : (0 : Int) ≤ (i : Int) + (k : Int) := by omega
    have hp1 : (i : Int) + (k : Int) < (R.length : Int) := by omega
    clear h
    go_enter Tryd.func70, Tryd.ntmps70
    go_wp2_with fail
    go_quiet (fail)
    go_wp2_with fail
    go_quiet (fail)
    go_wp2_with fail
    go_ret
    exact ⟨congrArg (fun x : Nat => Ending.returned (.int .i64 (x : Int))) HV.out, _, drew2 _ _ _⟩
  · have HV := Lib.hid (show S.size = atAt R S.size (i + k) by unfold atAt; rw [if_neg hj])
    generalize atAt R S.size (i + k) = V at *
    have g1 : decide ((R.length : Int) ≤ (i : Int) + (k : Int)) = true := decide_eq_true (by omega)
    clear h
    go_enter Tryd.func70, Tryd.ntmps70
    go_wp2_with fail
    go_quiet (fail)
    go_wp2_with fail
    go_ret
    exact ⟨congrArg (fun x : Nat => Ending.returned (.int .i64 (x : Int))) HV.out, _, rfl⟩
end Go.Proofs.YteikakoheibnjaaDoor
