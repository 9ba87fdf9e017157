/- The walks over show.decl, sibylref5.decl; lengths of a program's text. -/
import Derived.Test.YteikakoheibnjaaDoorProgAt
import Derived.Test.YteikakoheibnjaaDoorDigits
import Derived.Test.YteikakoheibnjaaDoorItoa
import Derived.Deep.RegionHeld3
namespace Go.Proofs.YteikakoheibnjaaDoor
open Go Go.RowKit

theorem declB_len {d : DeclP} (h : declB d = true) : (declS d).length ≤ 2020 := by
  unfold declB at h
  simp only [Bool.and_eq_true, decide_eq_true_eq] at h
  have h1 := nameB_len h.1.1
  have h2 := dig_len100 ⟨d.order.toNat, by omega⟩
  simp only at h2
  unfold declS nVarK
  simp only [List.length_append, List.length_cons, List.length_nil]
  omega
theorem commasD_len : ∀ ds : List DeclP, (∀ d ∈ ds, declB d = true) → (commas (ds.map declS)).length ≤ 2022 * ds.length
  | [], _ => by simp [commas]
  | [x], h => by
    have := declB_len (h x (by simp))
    simp only [List.map_cons, List.map_nil, commas, List.length_cons, List.length_nil]
    omega
  | x :: y :: r, h => by
    have h1 := declB_len (h x (by simp))
    have h2 := commasD_len (y :: r) (fun d hd => h d (by simp [hd]))
    simp only [List.map_cons] at h2
    simp only [List.map_cons, commas, List.length_append, List.length_cons, List.length_nil] at h2 ⊢
    omega
theorem predS_len {x : PredP} (h : predB x = true) (hn : nodes x.body ≤ 2000) : (predS x).length ≤ 4250000 := by
  unfold predB at h
  simp only [Bool.and_eq_true, decide_eq_true_eq, List.all_eq_true] at h
  have h1 := nameB_len h.1.1.1
  have h2 := commasD_len x.params h.1.2
  have h3 := formS_len x.body h.2.2
  unfold predS nPred
  simp only [List.length_append, List.length_cons, List.length_nil]
  omega
theorem flat_le {α : Type} {f : α → List UInt8} {M : Nat} : ∀ l : List α, (∀ x ∈ l, (f x).length ≤ M) → (l.flatMap f).length ≤ M * l.length
  | [], _ => by simp
  | x :: r, h => by
    have h1 := h x (by simp)
    have h2 := flat_le r (fun y hy => h y (by simp [hy]))
    simp only [List.flatMap_cons, List.length_append, List.length_cons, Nat.mul_add] at h2 ⊢
    omega
theorem flat_snoc {α : Type} {f : α → List UInt8} {l : List α} {k : Nat} (hk : k < l.length) : (l.take (k + 1)).flatMap f = (l.take k).flatMap f ++ f l[k] := by
  rw [List.take_succ_eq_append_getElem hk, List.flatMap_append]
  simp
/-- A variable's value. -/
abbrev declV (nm : List UInt8) (o a : Int) : Value := .agg #[.string ⟨nm.toArray⟩, .int .i64 o, .int .i64 a]
theorem box3 {w W : World} {nm : List UInt8} {o a : Int} (h : Below (w.heap.size + 1) (w.alloc (boxD nm o a)) W) :
    W.cell? ⟨w.heap.size, 0, none⟩ = some (.string ⟨nm.toArray⟩) ∧ W.cell? ⟨w.heap.size, 1, none⟩ = some (.int .i64 o) ∧ W.cell? ⟨w.heap.size, 2, none⟩ = some (.int .i64 a) :=
  ⟨box_at h 0 _ rfl, box_at h 1 _ rfl, box_at h 2 _ rfl⟩
set_option maxHeartbeats 2000000 in
theorem rdecl_any (nm : List UInt8) (o a : Int) (w : World) (h : declB ⟨nm, o, a⟩ = true) :
    Calls Tryd.prog 38 #[declV nm o a] w fun e w' => e = .returned (.string ⟨(declS ⟨nm, o, a⟩).toArray⟩) ∧ Below w.heap.size w w' := by
  have hl := declB_len h
  unfold declB at h
  simp only [Bool.and_eq_true, decide_eq_true_eq] at h
  obtain ⟨⟨_, h0⟩, h2⟩ := h
  have HD := Lib.hid (fun (W : World) => digits_any o.toNat o.toNat (Nat.le_refl _) (by omega) W)
  rw [show ((o.toNat : Nat) : Int) = o by omega] at HD
  have HF := Lib.hid (show [118, 97, 114] ++ dig o.toNat ++ [32] ++ nm = declS ⟨nm, o, a⟩ from rfl)
  rw [← HF.out] at hl
  simp only [List.length_append, List.length_cons, List.length_nil] at hl
  generalize declS ⟨nm, o, a⟩ = V at *
  generalize dig o.toNat = D at *
  obtain ⟨T1, hadd1, hT1⟩ := add_ex ⟨#[118, 97, 114]⟩ ⟨D.toArray⟩ (X := [118, 97, 114]) (Y := D) rfl rfl (by simp only [List.length_cons, List.length_nil]; omega)
  obtain ⟨T2, hadd2, hT2⟩ := add_ex T1 ⟨#[32]⟩ (Y := [32]) hT1 rfl (by simp only [List.length_append, List.length_cons, List.length_nil]; omega)
  obtain ⟨T3, hadd3, hT3⟩ := add_ex T2 ⟨nm.toArray⟩ (Y := nm) hT2 rfl (by simp only [List.length_append, List.length_cons, List.length_nil]; omega)
  have HE := Lib.hid (show T3 = ⟨V.toArray⟩ from bytes_of (hT3.trans HF.out))
  clear hT1 hT2 hT3 hl h0 h2
  have HSS := Lib.hid (fun (W : World) (hW : Below (w.heap.size + 1) (w.alloc (boxD nm o a)) W) => (⟨hW, box3 hW⟩ : (fun W : World => Below (w.heap.size + 1) (w.alloc (boxD nm o a)) W ∧ (W.cell? ⟨w.heap.size, 0, none⟩ = some (.string ⟨nm.toArray⟩) ∧ W.cell? ⟨w.heap.size, 1, none⟩ = some (.int .i64 o) ∧ W.cell? ⟨w.heap.size, 2, none⟩ = some (.int .i64 a))) W))
  have HG := Lib.hid (fun (W W' : World) (hW : Below (w.heap.size + 1) (w.alloc (boxD nm o a)) W) (hb : Below W.heap.size W W') => fresh_more hW hb)
  have HW := Lib.hid (fun (W : World) (hW : Below (w.heap.size + 1) (w.alloc (boxD nm o a)) W) => fresh_w hW)
  have HB0 := Lib.hid (Below.refl (w.heap.size + 1) (w.alloc (boxD nm o a)))
  go_enter Tryd.func38, Tryd.ntmps38
  go_upto_region 1 with fail
  generalize w.alloc _ = Z at *
  go_region_held3 (fun W : World => Below (w.heap.size + 1) Z W ∧ (W.cell? ⟨w.heap.size, 0, none⟩ = some (.string ⟨nm.toArray⟩) ∧ W.cell? ⟨w.heap.size, 1, none⟩ = some (.int .i64 o) ∧ W.cell? ⟨w.heap.size, 2, none⟩ = some (.int .i64 a))) (first | assumption | exact HSS.out _ hB4 | exact HSS.out _ HB0.out.drew | exact HSS.out _ HB0.out) (
     (go_at_call 30
      have hq : Below (w.heap.size + 1) Z _ := (show (fun W : World => Below (w.heap.size + 1) Z W ∧ (W.cell? ⟨w.heap.size, 0, none⟩ = some (.string ⟨nm.toArray⟩) ∧ W.cell? ⟨w.heap.size, 1, none⟩ = some (.int .i64 o) ∧ W.cell? ⟨w.heap.size, 2, none⟩ = some (.int .i64 a))) _ by assumption).1
      refine (HD.out _).mono ?_
      rintro e w4 ⟨rfl, hb⟩
      have hB4 := HG.out _ _ hq hb
      clear hb))
  all_goals
    have hh := (show (fun W : World => Below (w.heap.size + 1) Z W ∧ (W.cell? ⟨w.heap.size, 0, none⟩ = some (.string ⟨nm.toArray⟩) ∧ W.cell? ⟨w.heap.size, 1, none⟩ = some (.int .i64 o) ∧ W.cell? ⟨w.heap.size, 2, none⟩ = some (.int .i64 a))) _ by assumption).1
    go_wp2_with fail
    go_ret
    exact ⟨congrArg (fun x : ByteArray => Ending.returned (.string x)) HE.out, HW.out _ hh⟩
set_option maxHeartbeats 2000000 in
theorem sdecl_any (nm : List UInt8) (o a : Int) (w : World) (h : declB ⟨nm, o, a⟩ = true) :
    Calls Tryd.prog 35 #[declV nm o a] w fun e w' => e = .returned (.string ⟨(declS ⟨nm, o, a⟩).toArray⟩) ∧ Below w.heap.size w w' := by
  have hl := declB_len h
  unfold declB at h
  simp only [Bool.and_eq_true, decide_eq_true_eq] at h
  obtain ⟨⟨_, h0⟩, h2⟩ := h
  have HD := Lib.hid (fun (W : World) => itoa_any o.toNat (by omega) W)
  rw [show ((o.toNat : Nat) : Int) = o by omega] at HD
  have HF := Lib.hid (show [118, 97, 114] ++ dig o.toNat ++ [32] ++ nm = declS ⟨nm, o, a⟩ from rfl)
  rw [← HF.out] at hl
  simp only [List.length_append, List.length_cons, List.length_nil] at hl
  generalize declS ⟨nm, o, a⟩ = V at *
  generalize dig o.toNat = D at *
  obtain ⟨T1, hadd1, hT1⟩ := add_ex ⟨#[118, 97, 114]⟩ ⟨D.toArray⟩ (X := [118, 97, 114]) (Y := D) rfl rfl (by simp only [List.length_cons, List.length_nil]; omega)
  obtain ⟨T2, hadd2, hT2⟩ := add_ex T1 ⟨#[32]⟩ (Y := [32]) hT1 rfl (by simp only [List.length_append, List.length_cons, List.length_nil]; omega)
  obtain ⟨T3, hadd3, hT3⟩ := add_ex T2 ⟨nm.toArray⟩ (Y := nm) hT2 rfl (by simp only [List.length_append, List.length_cons, List.length_nil]; omega)
  have HE := Lib.hid (show T3 = ⟨V.toArray⟩ from bytes_of (hT3.trans HF.out))
  clear hT1 hT2 hT3 hl h0 h2
  have HSS := Lib.hid (fun (W : World) (hW : Below (w.heap.size + 1) (w.alloc (boxD nm o a)) W) => (⟨hW, box3 hW⟩ : (fun W : World => Below (w.heap.size + 1) (w.alloc (boxD nm o a)) W ∧ (W.cell? ⟨w.heap.size, 0, none⟩ = some (.string ⟨nm.toArray⟩) ∧ W.cell? ⟨w.heap.size, 1, none⟩ = some (.int .i64 o) ∧ W.cell? ⟨w.heap.size, 2, none⟩ = some (.int .i64 a))) W))
  have HW := Lib.hid (fun (W : World) (hW : Below (w.heap.size + 1) (w.alloc (boxD nm o a)) W) => fresh_w hW)
  have HB0 := Lib.hid (Below.refl (w.heap.size + 1) (w.alloc (boxD nm o a)))
  go_enter Tryd.func35, Tryd.ntmps35
  go_upto_region 1 with fail
  generalize w.alloc _ = Z at *
  go_region_held3 (fun W : World => Below (w.heap.size + 1) Z W ∧ (W.cell? ⟨w.heap.size, 0, none⟩ = some (.string ⟨nm.toArray⟩) ∧ W.cell? ⟨w.heap.size, 1, none⟩ = some (.int .i64 o) ∧ W.cell? ⟨w.heap.size, 2, none⟩ = some (.int .i64 a))) (first | assumption | exact HSS.out _ HB0.out.drew | exact HSS.out _ HB0.out) (
     (go_at_call 28
      refine (HD.out _).mono ?_
      rintro e w4 ⟨rfl, rfl⟩))
  all_goals
    have hh := (show (fun W : World => Below (w.heap.size + 1) Z W ∧ (W.cell? ⟨w.heap.size, 0, none⟩ = some (.string ⟨nm.toArray⟩) ∧ W.cell? ⟨w.heap.size, 1, none⟩ = some (.int .i64 o) ∧ W.cell? ⟨w.heap.size, 2, none⟩ = some (.int .i64 a))) _ by assumption).1
    go_wp2_with fail
    go_ret
    exact ⟨congrArg (fun x : ByteArray => Ending.returned (.string x)) HE.out, HW.out _ hh⟩
end Go.Proofs.YteikakoheibnjaaDoor
