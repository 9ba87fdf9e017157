/- Parts of the proof: Reader, TSame. -/
import Derived.BigQuiet
import Derived.Deep.QuietTactic
import Derived.Test.YteikakoheibnjaaGreatDoorM4
import Derived.Test.YteikakoheibnjaaGreatDoorM5
namespace Go.Proofs.YteikakoheibnjaaGreatDoor
open Go Go.RowKit

theorem quiet_add_same {P : Program} {f : FuncId} {args : Array Value} {w : World} {a n : Nat} {v : Value}
    (h : Calls P f args (w.drewN (a + n)) fun e w' => e = .returned v ∧ w' = w.drewN (a + n)) :
    Calls P f args (w.drewN (a + n)) fun e w'' => e = .returned v ∧ ∃ m, w'' = w.drewN (a + m) :=
  h.mono fun _ _ ⟨he, hm⟩ => ⟨he, n, hm⟩
theorem quiet_add {P : Program} {f : FuncId} {args : Array Value} {w : World} {a n : Nat} {v : Value}
    (h : Calls P f args (w.drewN (a + n)) fun e w' => e = .returned v ∧ ∃ m, w' = (w.drewN (a + n)).drewN m) :
    Calls P f args (w.drewN (a + n)) fun e w'' => e = .returned v ∧ ∃ m, w'' = w.drewN (a + m) :=
  h.mono fun _ _ ⟨he, m, hm⟩ => ⟨he, n + m, by rw [hm, World.drewN_drewN, Nat.add_assoc]⟩

theorem drew2 (w : World) (a b : Nat) : (w.drewN a).drewN b = w.drewN (a + b) := by rw [World.drewN_drewN]
/-- Where a rune begins. -/
def posn (R : List Ru) (j : Nat) : Nat := (flat (R.take j)).length
/-- The class of a rune; -1: there is none. -/
def clsAt (R : List Ru) (j : Nat) : Int := if h : j < R.length then (cls R[j].1 : Nat) else -1
def isAt (R : List Ru) (j c : Nat) : Bool := if h : j < R.length then R[j].1 == c else false
def atAt (R : List Ru) (n j : Nat) : Nat := if j < R.length then posn R j else n
/-- Block q is a reader: the text S, its runes R, i of them read. -/
structure Rd (w : World) (B q : Nat) (S : ByteArray) (R : List Ru) (A : Option Addr) (c : Nat) (bad : Int) (i : Nat) : Prop where
  blk : Blk w q 114 #[.string S, .slice A R.length c, .int .i64 bad, .int .i64 i]
  runes : ∀ j (h : j < R.length), ∃ g, A = some ⟨g, 0, none⟩ ∧ g ≠ q ∧ g < B ∧ w.cell? ⟨g, j * 2, none⟩ = some (.int .i32 (R[j].1 : Nat)) ∧ w.cell? ⟨g, j * 2 + 1, none⟩ = some (.int .i64 (posn R j : Nat))
  qlt : q < B
  small : ∀ r ∈ R, r.1 < 2097152
  len : R.length ≤ 2000
section
variable {w w' : World} {B q : Nat} {S : ByteArray} {R : List Ru} {A : Option Addr} {c : Nat} {bad : Int} {i : Nat}
theorem Rd.drewN (h : Rd w B q S R A c bad i) (n : Nat) : Rd (w.drewN n) B q S R A c bad i := ⟨h.blk, h.runes, h.qlt, h.small, h.len⟩
theorem Rd.cells (h : Rd w B q S R A c bad i) : w.cell? ⟨q, 0, none⟩ = some (.string S) ∧ w.cell? ⟨q, 1, none⟩ = some (.slice A R.length c) ∧ w.cell? ⟨q, 2, none⟩ = some (.int .i64 bad) ∧ w.cell? ⟨q, 3, none⟩ = some (.int .i64 i) :=
  ⟨h.blk.cell 0, h.blk.cell 1, h.blk.cell 2, h.blk.cell 3⟩
theorem Rd.alloc (h : Rd w B q S R A c bad i) (o : Obj) : Rd (w.alloc o) B q S R A c bad i :=
  ⟨(Below.heap_alloc w o q h.blk.lt).trans h.blk, fun j hj => by
    obtain ⟨g, e, hg, hgB, h1, h2⟩ := h.runes j hj
    exact ⟨g, e, hg, hgB, by rw [World.cell?_alloc_lt _ _ _ (World.block_lt_of_cell? _ _ h1)]; exact h1, by rw [World.cell?_alloc_lt _ _ _ (World.block_lt_of_cell? _ _ h2)]; exact h2⟩, h.qlt, h.small, h.len⟩
theorem Rd.below (h : Rd w B q S R A c bad i) (hb : Below w.heap.size w w') : Rd w' B q S R A c bad i :=
  ⟨(hb.block q h.blk.lt).trans h.blk, fun j hj => by
    obtain ⟨g, e, hg, hgB, h1, h2⟩ := h.runes j hj
    exact ⟨g, e, hg, hgB, (hb.cell (World.block_lt_of_cell? _ _ h1)).trans h1, (hb.cell (World.block_lt_of_cell? _ _ h2)).trans h2⟩, h.qlt, h.small, h.len⟩
theorem Rd.set_ (h : Rd w B q S R A c bad i) (k : Nat) : Rd (w.setCell ⟨q, 3, none⟩ (.int .i64 (k : Nat))) B q S R A c bad k :=
  ⟨h.blk.set_ 3 _, fun j hj => by
    obtain ⟨g, e, hg, hgB, h1, h2⟩ := h.runes j hj
    exact ⟨g, e, hg, hgB, (World.cell?_setCell_other _ _ _ _ (by simp <;> omega)).trans h1, (World.cell?_setCell_other _ _ _ _ (by simp <;> omega)).trans h2⟩, h.qlt, h.small, h.len⟩
theorem Rd.far (h : Rd w B q S R A c bad i) {p : Addr} (hp : B ≤ p.block) (u : Value) : Rd (w.setCell p u) B q S R A c bad i :=
  ⟨(Below.heap_setCell w p u q (by have := h.qlt; omega)).trans h.blk, fun j hj => by
    obtain ⟨g, e, hg, hgB, h1, h2⟩ := h.runes j hj
    exact ⟨g, e, hg, hgB, (World.cell?_setCell_other _ _ _ _ (by rintro rfl; simp at hp; omega)).trans h1, (World.cell?_setCell_other _ _ _ _ (by rintro rfl; simp at hp; omega)).trans h2⟩, h.qlt, h.small, h.len⟩
end

set_option maxHeartbeats 1000000 in
theorem class_any {w : World} {B q : Nat} {S : ByteArray} {R : List Ru} {A : Option Addr} {c : Nat} {bad : Int} {i : Nat} (h : Rd w B q S R A c bad i) (k : Nat) (hi : i ≤ 2000) (hk : k ≤ 2000) :
    Calls Tryz.prog 107 #[.pointer (some ⟨q, 0, none⟩), .int .i64 k] w fun e w' => e = .returned (.int .i64 (clsAt R (i + k))) ∧ ∃ n, w' = w.drewN n := by
  obtain ⟨c0, c1, c2, c3⟩ := h.cells
  have hl := h.len
  by_cases hj : i + k < R.length
  · obtain ⟨g, e, hg, _, h1, h2⟩ := h.runes _ hj
    have HV := Lib.hid (show (cls R[i + k].1 : Int) = clsAt R (i + k) by unfold clsAt; rw [dif_pos hj])
    have HC := Lib.hid (fun W => cls_any R[i + k].1 (h.small _ (List.getElem_mem hj)) W)
    subst e
    generalize clsAt R (i + k) = V at *
    generalize R[i + k].1 = r at *
    have g1 : decide ((R.length : Int) ≤ (i : Int) + (k : Int)) = false := decide_eq_false (by omega)
    have hp0 : (0 : Int) ≤ (i : Int) + (k : Int) := by omega
    have hp1 : (i : Int) + (k : Int) < (R.length : Int) := by omega
    clear h
    go_enter Tryz.func107, Tryz.ntmps107
    go_wp2_with fail
    go_quiet (fail)
    go_wp2_with fail
    go_quiet ((go_at_call 124; exact quiet_add_same (HC.out _)))
    go_wp2_with fail
    go_ret
    exact ⟨congrArg (fun x : Int => Ending.returned (.int .i64 x)) HV.out, _, drew2 _ _ _⟩
  · have HV := Lib.hid (show -1 = clsAt R (i + k) by unfold clsAt; rw [dif_neg hj])
    generalize clsAt R (i + k) = V at *
    have g1 : decide ((R.length : Int) ≤ (i : Int) + (k : Int)) = true := decide_eq_true (by omega)
    clear h
    go_enter Tryz.func107, Tryz.ntmps107
    go_wp2_with fail
    go_quiet (fail)
    go_wp2_with fail
    go_ret
    exact ⟨congrArg (fun x : Int => Ending.returned (.int .i64 x)) HV.out, _, rfl⟩
set_option maxHeartbeats 1000000 in
theorem rdis_any {w : World} {B q : Nat} {S : ByteArray} {R : List Ru} {A : Option Addr} {c : Nat} {bad : Int} {i : Nat} (h : Rd w B q S R A c bad i) (k x : Nat) (hi : i ≤ 2000) (hk : k ≤ 2000) :
    Calls Tryz.prog 108 #[.pointer (some ⟨q, 0, none⟩), .int .i64 k, .int .i32 x] w fun e w' => e = .returned (.bool (isAt R (i + k) x)) ∧ ∃ n, w' = w.drewN n := by
  obtain ⟨c0, c1, c2, c3⟩ := h.cells
  have hl := h.len
  by_cases hj : i + k < R.length
  · obtain ⟨g, e, hg, _, h1, h2⟩ := h.runes _ hj
    have HV := Lib.hid (show ((R[i + k].1 : Int) == (x : Int)) = isAt R (i + k) x by
      unfold isAt
      rw [dif_pos hj, Bool.eq_iff_iff, beq_iff_eq, beq_iff_eq]
      omega)
    subst e
    generalize isAt R (i + k) x = V at *
    generalize R[i + k].1 = r at *
    have g1 : decide ((i : Int) + (k : Int) < (R.length : Int)) = true := decide_eq_true (by omega)
    have hp0 : (0 : Int) ≤ (i : Int) + (k : Int) := by omega
    have hp1 : (i : Int) + (k : Int) < (R.length : Int) := by omega
    clear h
    go_enter Tryz.func108, Tryz.ntmps108
    go_wp2_with fail
    go_quiet (fail)
    go_wp2_with fail
    go_ret
    exact ⟨congrArg (fun x : Bool => Ending.returned (.bool x)) HV.out, _, rfl⟩
  · have HV := Lib.hid (show false = isAt R (i + k) x by unfold isAt; rw [dif_neg hj])
    generalize isAt R (i + k) x = V at *
    have g1 : decide ((i : Int) + (k : Int) < (R.length : Int)) = false := decide_eq_false (by omega)
    clear h
    go_enter Tryz.func108, Tryz.ntmps108
    go_wp2_with fail
    go_quiet (fail)
    go_wp2_with fail
    go_ret
    exact ⟨congrArg (fun x : Bool => Ending.returned (.bool x)) HV.out, _, rfl⟩
set_option maxHeartbeats 1000000 in
theorem rdat_any {w : World} {B q : Nat} {S : ByteArray} {R : List Ru} {A : Option Addr} {c : Nat} {bad : Int} {i : Nat} (h : Rd w B q S R A c bad i) (k : Nat) (hi : i ≤ 2000) (hk : k ≤ 2000) :
    Calls Tryz.prog 87 #[.pointer (some ⟨q, 0, none⟩), .int .i64 k] w fun e w' => e = .returned (.int .i64 (atAt R S.size (i + k) : Nat)) ∧ ∃ n, w' = w.drewN n := by
  obtain ⟨c0, c1, c2, c3⟩ := h.cells
  have hl := h.len
  by_cases hj : i + k < R.length
  · obtain ⟨g, e, hg, _, h1, h2⟩ := h.runes _ hj
    have HV := Lib.hid (show posn R (i + k) = atAt R S.size (i + k) by unfold atAt; rw [if_pos hj])
    subst e
    generalize atAt R S.size (i + k) = V at *
    generalize posn R (i + k) = r at *
    have g1 : decide ((R.length : Int) ≤ (i : Int) + (k : Int)) = false := decide_eq_false (by omega)
    have hp0 : (0 : Int) ≤ (i : Int) + (k : Int) := by omega
    have hp1 : (i : Int) + (k : Int) < (R.length : Int) := by omega
    clear h
    go_enter Tryz.func87, Tryz.ntmps87
    go_wp2_with fail
    go_quiet (fail)
    go_wp2_with fail
    go_quiet (fail)
    go_wp2_with fail
    go_ret
    exact ⟨congrArg (fun x : Nat => Ending.returned (.int .i64 (x : Int))) HV.out, _, drew2 _ _ _⟩
  · have HV := Lib.hid (show S.size = atAt R S.size (i + k) by unfold atAt; rw [if_neg hj])
    generalize atAt R S.size (i + k) = V at *
    have g1 : decide ((R.length : Int) ≤ (i : Int) + (k : Int)) = true := decide_eq_true (by omega)
    clear h
    go_enter Tryz.func87, Tryz.ntmps87
    go_wp2_with fail
    go_quiet (fail)
    go_wp2_with fail
    go_ret
    exact ⟨congrArg (fun x : Nat => Ending.returned (.int .i64 (x : Int))) HV.out, _, rfl⟩
end Go.Proofs.YteikakoheibnjaaGreatDoor
namespace Go.Proofs.YteikakoheibnjaaGreatDoor
open Go Go.RowKit

theorem take_eq_succ {α : Type} {a b : List α} {k : Nat} (h : a.take k = b.take k) (ha : k < a.length) (hb : k < b.length) (he : a[k] = b[k]) : a.take (k + 1) = b.take (k + 1) := by
  rw [List.take_succ_eq_append_getElem ha, List.take_succ_eq_append_getElem hb, h, he]
theorem ne_at {α : Type} {a b : List α} {k : Nat} (ha : k < a.length) (hb : k < b.length) (he : a[k] ≠ b[k]) : a ≠ b := by
  rintro rfl
  exact he rfl
theorem take_all_eq {α : Type} {a b : List α} {k : Nat} (h : a.take k = b.take k) (ha : a.length ≤ k) (hl : a.length = b.length) : a = b := by
  rw [List.take_of_length_le ha, List.take_of_length_le (by omega)] at h
  exact h
set_option maxRecDepth 100000 in
set_option maxHeartbeats 4000000 in
theorem isame_any {w : World} {B B2 : Nat} {A A2 : Option Addr} {c c2 : Nat} {ns ms : List Int} (h : IntsAt w B A c ns) (h2 : IntsAt w B2 A2 c2 ms) :
    Calls Tryz.prog 41 #[.slice A ns.length c, .slice A2 ms.length c2] w fun e w' => e = .returned (.bool (decide (ns = ms))) ∧ ∃ n, w' = w.drewN n := by
  have HC := Lib.hid h
  have HC2 := Lib.hid h2
  have hl1 := h.small
  have hl2 := h2.small
  clear h h2
  by_cases hl : ns.length = ms.length
  · have gl : ((ns.length : Int) != (ms.length : Int)) = false := by rw [hl]; simp
    have HL := Lib.hid hl
    have hle : (ns.length : Int) ≤ (ms.length : Int) := by omega
    clear hl
    have HV := Lib.hid (show decide (ns = ms) = decide (ns = ms) from rfl)
    generalize hv : decide (ns = ms) = V at *
    have HVV := Lib.hid hv
    clear HV hv
    go_enter Tryz.func41, Tryz.ntmps41
    go_wp2_with fail
    go_loopg [5] ns.length (fun r i wr => ∃ (k m : Nat), k ≤ ns.length ∧ r = ns.length - k ∧ i = .int .i64 (k : Int) ∧ Hid (ns.take k = ms.take k) ∧ Hid (wr = w.drewN m))
    case atStart => exact ⟨0, 0, Nat.zero_le _, rfl, rfl, Lib.hid rfl, Lib.hid rfl⟩
    case round =>
      obtain ⟨k, m, hk, hr, rfl, HT, hW⟩ := hrel
      have HRr := Lib.hid hr
      clear hr
      by_cases hlt : k < ns.length
      · have hlt2 : k < ms.length := by have := HL.out; omega
        obtain ⟨bb, off, rfl, _, d0⟩ := HC.out.at_ (by omega)
        obtain ⟨bb2, off2, rfl, _, e0⟩ := HC2.out.at_ (by omega)
        have hcw : ∀ p : Addr, wr.cell? p = w.cell? p := fun p => by rw [hW.out]; rfl
        have d1 := (hcw _).trans (d0 k hlt)
        have e1 := (hcw _).trans (e0 k hlt2)
        have g1 : decide ((k : Int) < (ns.length : Int)) = true := decide_eq_true (by omega)
        have hk0 : (0 : Int) ≤ (k : Int) := Int.natCast_nonneg _
        have hk1 : (k : Int) < (ns.length : Int) := by omega
        have hk2 : (k : Int) < (ms.length : Int) := by omega
        have HTE := Lib.hid (fun he => take_eq_succ HT.out hlt hlt2 he)
        have HNE := Lib.hid (fun he => ne_at (a := ns) (b := ms) hlt hlt2 he)
        clear d0 e0 hcw
        generalize (ns[k]'hlt) = x at *
        generalize (ms[k]'hlt2) = y at *
        by_cases he : x = y
        · have go' : (x != y) = false := by simp [he]
          have HT2 := Lib.hid (HTE.out he)
          clear he
          go_wp2_with fail
          go_quiet (fail)
          all_goals
            go_wp2_with fail
            go_roundg (ns.length - (k + 1))
            case measure => have := HRr.out; omega
            case rel => exact ⟨k + 1, _, by omega, rfl, by go_num, HT2, Lib.hid (by rw [hW.out, World.drewN_drewN])⟩
        · have go' : (x != y) = true := by simp [he]
          have HF := Lib.hid (show false = V by rw [← HVV.out, decide_eq_false (HNE.out he)])
          clear he
          go_wp2_with fail
          go_quiet (fail)
          all_goals
            go_wp2_with fail
            go_ret
            exact ⟨congrArg (fun x : Bool => Ending.returned (.bool x)) HF.out, _, by rw [hW.out, World.drewN_drewN]⟩
      · have g1 : decide ((k : Int) < (ns.length : Int)) = false := decide_eq_false (by omega)
        have HF := Lib.hid (show true = V by rw [← HVV.out, decide_eq_true (take_all_eq HT.out (by omega) HL.out)])
        go_wp2_with fail
        go_ret
        exact ⟨congrArg (fun x : Bool => Ending.returned (.bool x)) HF.out, m, hW.out⟩
  · have gl : ((ns.length : Int) != (ms.length : Int)) = true := by simp; omega
    rw [decide_eq_false (show ¬ ns = ms by rintro rfl; exact hl rfl)]
    clear hl
    go_enter Tryz.func41, Tryz.ntmps41
    go_wp2_with fail
    go_ret
    exact ⟨rfl, 0, rfl⟩
theorem valP_eq (x y : ValP) : x = y ↔ x.name = y.name ∧ x.order = y.order ∧ x.set = y.set := by
  obtain ⟨a, b, c⟩ := x
  obtain ⟨d, e, f⟩ := y
  simp
set_option maxRecDepth 100000 in
set_option maxHeartbeats 8000000 in
theorem vsame_any {w : World} {B B2 : Nat} {A A2 : Option Addr} {c c2 : Nat} {vs us : List ValP} (h : ValsAt w B A c vs) (h2 : ValsAt w B2 A2 c2 us) :
    Calls Tryz.prog 29 #[.slice A vs.length c, .slice A2 us.length c2] w fun e w' => e = .returned (.bool (decide (vs = us))) ∧ ∃ n, w' = w.drewN n := by
  have HC := Lib.hid h
  have HC2 := Lib.hid h2
  have hl1 := h.small
  have hl2 := h2.small
  clear h h2
  by_cases hl : vs.length = us.length
  · have gl : ((vs.length : Int) != (us.length : Int)) = false := by rw [hl]; simp
    have HL := Lib.hid hl
    have hle : (vs.length : Int) ≤ (us.length : Int) := by omega
    clear hl
    generalize hv : decide (vs = us) = V at *
    have HVV := Lib.hid hv
    clear hv
    go_enter Tryz.func29, Tryz.ntmps29
    go_wp2_with fail
    go_loopg [5] vs.length (fun r i wr => ∃ (k m : Nat), k ≤ vs.length ∧ r = vs.length - k ∧ i = .int .i64 (k : Int) ∧ Hid (vs.take k = us.take k) ∧ Hid (wr = w.drewN m))
    case atStart => exact ⟨0, 0, Nat.zero_le _, rfl, rfl, Lib.hid rfl, Lib.hid rfl⟩
    case round =>
      obtain ⟨k, m, hk, hr, rfl, HT, hW⟩ := hrel
      have HRr := Lib.hid hr
      clear hr
      by_cases hlt : k < vs.length
      · have hlt2 : k < us.length := by have := HL.out; omega
        obtain ⟨bb, off, A3, c3, rfl, _, d0, d1, d2, ds⟩ := HC.out.at_ k hlt
        obtain ⟨bb2, off2, A4, c4, rfl, _, e0, e1, e2, es⟩ := HC2.out.at_ k hlt2
        have hcw : ∀ p : Addr, wr.cell? p = w.cell? p := fun p => by rw [hW.out]; rfl
        replace d0 := (hcw _).trans d0
        replace d1 := (hcw _).trans d1
        replace d2 := (hcw _).trans d2
        replace e0 := (hcw _).trans e0
        replace e1 := (hcw _).trans e1
        replace e2 := (hcw _).trans e2
        have HIS := Lib.hid (fun n => isame_any (w := wr.drewN n) (ds.keep fun p _ => hcw p) (es.keep fun p _ => hcw p))
        have g1 : decide ((k : Int) < (vs.length : Int)) = true := decide_eq_true (by omega)
        have hk0 : (0 : Int) ≤ (k : Int) := Int.natCast_nonneg _
        have hk1 : (k : Int) < (vs.length : Int) := by omega
        have hk2 : (k : Int) < (us.length : Int) := by omega
        have HTE := Lib.hid (fun he => take_eq_succ HT.out hlt hlt2 ((valP_eq _ _).2 he))
        have HNE := Lib.hid (fun (he : ¬ (_ ∧ _ ∧ _)) => ne_at (a := vs) (b := us) hlt hlt2 (fun hh => he ((valP_eq _ _).1 hh)))
        clear hcw ds es
        generalize (vs[k]'hlt).name = nx at *
        generalize (us[k]'hlt2).name = ny at *
        generalize (vs[k]'hlt).order = ox at *
        generalize (us[k]'hlt2).order = oy at *
        generalize (vs[k]'hlt).set = sx at *
        generalize (us[k]'hlt2).set = sy at *
        by_cases he : nx = ny
        · have gn : (!nx == ny) = false := by simp [he]
          by_cases ho : ox = oy
          · have go' : (ox != oy) = false := by simp [ho]
            by_cases hs : sx = sy
            · have HT2 := Lib.hid (HTE.out ⟨he, ho, hs⟩)
              simp only [decide_eq_true hs] at HIS
              clear he ho hs
              generalize sx.length = lx at *
              generalize sy.length = ly at *
              go_wp2_with fail
              go_quiet ((go_at_call 41; exact Calls.quiet_of (HIS.out _)))
              all_goals
                go_wp2_with fail
                go_roundg (vs.length - (k + 1))
                case measure => have := HRr.out; omega
                case rel => exact ⟨k + 1, _, by omega, rfl, by go_num, HT2, Lib.hid (by rw [hW.out, World.drewN_drewN])⟩
            · have HF := Lib.hid (show false = V by rw [← HVV.out, decide_eq_false (HNE.out (fun hh => hs hh.2.2))])
              simp only [decide_eq_false hs] at HIS
              clear he ho hs
              generalize sx.length = lx at *
              generalize sy.length = ly at *
              go_wp2_with fail
              go_quiet ((go_at_call 41; exact Calls.quiet_of (HIS.out _)))
              all_goals
                go_wp2_with fail
                go_ret
                exact ⟨congrArg (fun x : Bool => Ending.returned (.bool x)) HF.out, _, by rw [hW.out, World.drewN_drewN]⟩
          · have go' : (ox != oy) = true := by simp [ho]
            have HF := Lib.hid (show false = V by rw [← HVV.out, decide_eq_false (HNE.out (fun hh => ho hh.2.1))])
            clear he ho
            go_wp2_with fail
            go_quiet (fail)
            all_goals
              go_wp2_with fail
              go_ret
              exact ⟨congrArg (fun x : Bool => Ending.returned (.bool x)) HF.out, _, by rw [hW.out, World.drewN_drewN]⟩
        · have gn : (!nx == ny) = true := by simp [he]
          have HF := Lib.hid (show false = V by rw [← HVV.out, decide_eq_false (HNE.out (fun hh => he hh.1))])
          clear he
          go_wp2_with fail
          go_quiet (fail)
          all_goals
            go_wp2_with fail
            go_ret
            exact ⟨congrArg (fun x : Bool => Ending.returned (.bool x)) HF.out, _, by rw [hW.out, World.drewN_drewN]⟩
      · have g1 : decide ((k : Int) < (vs.length : Int)) = false := decide_eq_false (by omega)
        have HF := Lib.hid (show true = V by rw [← HVV.out, decide_eq_true (take_all_eq HT.out (by omega) HL.out)])
        go_wp2_with fail
        go_ret
        exact ⟨congrArg (fun x : Bool => Ending.returned (.bool x)) HF.out, m, hW.out⟩
  · have gl : ((vs.length : Int) != (us.length : Int)) = true := by simp; omega
    rw [decide_eq_false (show ¬ vs = us by rintro rfl; exact hl rfl)]
    clear hl
    go_enter Tryz.func29, Tryz.ntmps29
    go_wp2_with fail
    go_ret
    exact ⟨rfl, 0, rfl⟩
end Go.Proofs.YteikakoheibnjaaGreatDoor
