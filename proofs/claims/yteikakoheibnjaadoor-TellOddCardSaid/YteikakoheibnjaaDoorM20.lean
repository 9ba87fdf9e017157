/- Parts of the proof: Token, LToken. -/
import Derived.Test.YteikakoheibnjaaDoorM16
import Derived.Test.YteikakoheibnjaaDoorM19
namespace Go.Proofs.YteikakoheibnjaaDoor
open Go Go.RowKit

section
variable {w W W' : World} {B q : Nat} {S : ByteArray} {R : List Ru} {A : Option Addr} {c : Nat} {bad : Int} {i j : Nat}
theorem Left.trans (h : Left w B q S R A c bad i W) (h2 : Left W B q S R A c bad j W') : Left w B q S R A c bad j W' := ⟨h.1.trans h2.1, h2.2⟩
/-- What a token's reading tells, in one form. -/
def TokIs (R : List Ru) (i : Nat) (t : Tok) (b : Bool) (j : Nat) : Prop := (b = true ∧ ∃ n, tokR (posn R i) (R.drop i) = some (t, n) ∧ j = i + n) ∨ (b = false ∧ tokR (posn R i) (R.drop i) = none)
theorem TokPost.open_ {e : Ending} (h : TokPost w B q S R A c bad i e W) : ∃ (t : Tok) (b : Bool) (j : Nat), e = .returned (.tuple #[tokV t, .bool b]) ∧ Hid (Left w B q S R A c bad j W) ∧ Hid (TokIs R i t b j) := by
  rcases h with ⟨t, n, ht, he, hL⟩ | ⟨ht, t, j, he, hL⟩
  · exact ⟨t, true, i + n, he, Lib.hid hL, Lib.hid (Or.inl ⟨rfl, n, ht, rfl⟩)⟩
  · exact ⟨t, false, j, he, Lib.hid hL, Lib.hid (Or.inr ⟨rfl, ht⟩)⟩
theorem TokPost.shut {t : Tok} {b : Bool} (h : TokIs R i t b j) (hL : Left w B q S R A c bad j W) : TokPost w B q S R A c bad i (.returned (.tuple #[tokV t, .bool b])) W := by
  rcases h with ⟨rfl, n, ht, rfl⟩ | ⟨rfl, ht⟩
  · exact Or.inl ⟨t, n, ht, rfl, hL⟩
  · exact Or.inr ⟨ht, t, j, rfl, hL⟩
end
set_option maxHeartbeats 4000000 in
theorem token_any {w : World} {B q : Nat} {S : ByteArray} {R : List Ru} {A : Option Addr} {c : Nat} {bad : Int} {i : Nat} (h : Rd w B q S R A c bad i) (hs : Src S R bad) (hi : i < R.length) (hS : S.size ≤ 2000) (hBw : B ≤ w.heap.size) :
    Calls Tryd.prog 71 #[.pointer (some ⟨q, 0, none⟩)] w (TokPost w B q S R A c bad i) := by
  have hl := h.len
  have hqB := h.qlt
  have hi2 : i ≤ 2000 := by omega
  have HR0 := Lib.hid h
  have HSR := Lib.hid hs
  have HCL := Lib.hid (fun W (hW : Rd W B q S R A c bad i) => class_zero hW hi2)
  rw [show clsAt R i = (cls R[i].1 : Nat) by unfold clsAt; rw [dif_pos hi]] at HCL
  have HNM := Lib.hid (fun (hc : cls R[i].1 = 1) W (hW : Rd W B q S R A c bad i) hB => name_any hW HSR.out hi hc hS hB)
  have HNB := Lib.hid (fun (hc : cls R[i].1 = 2) W (hW : Rd W B q S R A c bad i) hB => number_any hW hi hc hB)
  have HSG := Lib.hid (fun (h1 : ¬ cls R[i].1 = 1) (h2 : ¬ cls R[i].1 = 2) W (hW : Rd W B q S R A c bad i) hB => sign_any hW hi h1 h2 hB)
  clear h hs
  generalize cls R[i].1 = V at *
  have HW0 := Lib.hid (fun n => ((Left.refl HR0.out).alloc (.cells #[.int .i64 0, .string ⟨#[]⟩, .int .i64 0, .int .i64 0] 80)).drewN n)
  have HT0 := Lib.hid (fun n => (show Blk ((w.alloc (.cells #[.int .i64 0, .string ⟨#[]⟩, .int .i64 0, .int .i64 0] 80)).drewN n) w.heap.size 80 #[.int .i64 0, .string ⟨#[]⟩, .int .i64 0, .int .i64 0] from heap_alloc_new w _))
  by_cases h1 : V = 1
  · subst h1
    have HN := Lib.hid (HNM.out rfl)
    clear HNM HNB HSG
    go_enter Tryd.func71, Tryd.ntmps71
    go_wp2_with (first
      | (
        go_at_call 91
        refine (HCL.out _ (HR0.out.alloc _)).mono ?_
        rintro e w2 ⟨rfl, n1, rfl⟩)
      | (
        go_at_call 93
        refine (HN.out _ (HW0.out _).2 (by simp <;> omega)).mono ?_
        intro e w3 hp3
        obtain ⟨t, b, j, rfl, HL3, HT3⟩ := TokPost.open_ hp3
        have hB3 := HL3.out.1.blk (HT0.out _) (by omega)
        obtain ⟨r0, r1, r2, r3⟩ : w3.cell? ⟨w.heap.size, 0, none⟩ = some (.int .i64 0) ∧ w3.cell? ⟨w.heap.size, 1, none⟩ = some (.string ⟨#[]⟩) ∧ w3.cell? ⟨w.heap.size, 2, none⟩ = some (.int .i64 0) ∧ w3.cell? ⟨w.heap.size, 3, none⟩ = some (.int .i64 0) := ⟨hB3.cell 0, hB3.cell 1, hB3.cell 2, hB3.cell 3⟩
        have s0 := hB3.frozen 0
        have s1 := hB3.frozen 1
        have s2 := hB3.frozen 2
        have s3 := hB3.frozen 3
        have HB3 := Lib.hid hB3
        clear hB3 hp3
        unfold tokV))
    refine bodyPost_ret (res_tok (by rfl) _ _ w.heap.size #[.int .i64 t.kind, .string ⟨t.text.toArray⟩, .int .i64 t.n, .int .i64 t.at_] rfl (tok4 HB3.out _ _ _ _) rfl) rfl ?_
    refine TokPost.shut (t := t) HT3.out ?_
    have HLL := Lib.hid ((HW0.out _).trans HL3.out)
    repeat' (first | (with_reducible exact HLL.out) | (with_reducible refine Left.far ?_ hBw ?_ _) | omega | (simp <;> omega))
  · have g1 : ((V : Int) == 1) = false := by simp; omega
    by_cases h2 : V = 2
    · subst h2
      have HN := Lib.hid (HNB.out rfl)
      clear h1
      clear HNM HNB HSG
      go_enter Tryd.func71, Tryd.ntmps71
      go_wp2_with (first
        | (
          go_at_call 91
          refine (HCL.out _ (HR0.out.alloc _)).mono ?_
          rintro e w2 ⟨rfl, n1, rfl⟩)
        | (
          go_at_call 94
          refine (HN.out _ (HW0.out _).2 (by simp <;> omega)).mono ?_
          intro e w3 hp3
          obtain ⟨t, b, j, rfl, HL3, HT3⟩ := TokPost.open_ hp3
          have hB3 := HL3.out.1.blk (HT0.out _) (by omega)
          obtain ⟨r0, r1, r2, r3⟩ : w3.cell? ⟨w.heap.size, 0, none⟩ = some (.int .i64 0) ∧ w3.cell? ⟨w.heap.size, 1, none⟩ = some (.string ⟨#[]⟩) ∧ w3.cell? ⟨w.heap.size, 2, none⟩ = some (.int .i64 0) ∧ w3.cell? ⟨w.heap.size, 3, none⟩ = some (.int .i64 0) := ⟨hB3.cell 0, hB3.cell 1, hB3.cell 2, hB3.cell 3⟩
          have s0 := hB3.frozen 0
          have s1 := hB3.frozen 1
          have s2 := hB3.frozen 2
          have s3 := hB3.frozen 3
          have HB3 := Lib.hid hB3
          clear hB3 hp3
          unfold tokV))
      refine bodyPost_ret (res_tok (by rfl) _ _ w.heap.size #[.int .i64 t.kind, .string ⟨t.text.toArray⟩, .int .i64 t.n, .int .i64 t.at_] rfl (tok4 HB3.out _ _ _ _) rfl) rfl ?_
      refine TokPost.shut (t := t) HT3.out ?_
      have HLL := Lib.hid ((HW0.out _).trans HL3.out)
      repeat' (first | (with_reducible exact HLL.out) | (with_reducible refine Left.far ?_ hBw ?_ _) | omega | (simp <;> omega))
    · have g2 : ((V : Int) == 2) = false := by simp; omega
      have HN := Lib.hid (HSG.out h1 h2)
      clear h1 h2
      clear HNM HNB HSG
      go_enter Tryd.func71, Tryd.ntmps71
      go_wp2_with (first
        | (
          go_at_call 91
          refine (HCL.out _ (HR0.out.alloc _)).mono ?_
          rintro e w2 ⟨rfl, n1, rfl⟩)
        | (
          go_at_call 95
          refine (HN.out _ (HW0.out _).2 (by simp <;> omega)).mono ?_
          intro e w3 hp3
          obtain ⟨t, b, j, rfl, HL3, HT3⟩ := TokPost.open_ hp3
          have hB3 := HL3.out.1.blk (HT0.out _) (by omega)
          obtain ⟨r0, r1, r2, r3⟩ : w3.cell? ⟨w.heap.size, 0, none⟩ = some (.int .i64 0) ∧ w3.cell? ⟨w.heap.size, 1, none⟩ = some (.string ⟨#[]⟩) ∧ w3.cell? ⟨w.heap.size, 2, none⟩ = some (.int .i64 0) ∧ w3.cell? ⟨w.heap.size, 3, none⟩ = some (.int .i64 0) := ⟨hB3.cell 0, hB3.cell 1, hB3.cell 2, hB3.cell 3⟩
          have s0 := hB3.frozen 0
          have s1 := hB3.frozen 1
          have s2 := hB3.frozen 2
          have s3 := hB3.frozen 3
          have HB3 := Lib.hid hB3
          clear hB3 hp3
          unfold tokV))
      refine bodyPost_ret (res_tok (by rfl) _ _ w.heap.size #[.int .i64 t.kind, .string ⟨t.text.toArray⟩, .int .i64 t.n, .int .i64 t.at_] rfl (tok4 HB3.out _ _ _ _) rfl) rfl ?_
      refine TokPost.shut (t := t) HT3.out ?_
      have HLL := Lib.hid ((HW0.out _).trans HL3.out)
      repeat' (first | (with_reducible exact HLL.out) | (with_reducible refine Left.far ?_ hBw ?_ _) | omega | (simp <;> omega))
end Go.Proofs.YteikakoheibnjaaDoor
namespace Go.Proofs.YteikakoheibnjaaDoor
open Go Go.RowKit

section
variable {w W W' : World} {B q : Nat} {S : ByteArray} {R : List Ru} {A : Option Addr} {c : Nat} {bad : Int} {i j : Nat}
theorem LTokPost.open_ {e : Ending} (h : LTokPost w B q S R A c bad i e W) : ∃ (t : Tok) (b : Bool) (j : Nat), e = .returned (.tuple #[tokV t, .bool b]) ∧ Hid (LLeft w B q S R A c bad j W) ∧ Hid (TokIs R i t b j) := by
  rcases h with ⟨t, n, ht, he, hL⟩ | ⟨ht, t, j, he, hL⟩
  · exact ⟨t, true, i + n, he, Lib.hid hL, Lib.hid (Or.inl ⟨rfl, n, ht, rfl⟩)⟩
  · exact ⟨t, false, j, he, Lib.hid hL, Lib.hid (Or.inr ⟨rfl, ht⟩)⟩
theorem LTokPost.shut {t : Tok} {b : Bool} (h : TokIs R i t b j) (hL : LLeft w B q S R A c bad j W) : LTokPost w B q S R A c bad i (.returned (.tuple #[tokV t, .bool b])) W := by
  rcases h with ⟨rfl, n, ht, rfl⟩ | ⟨rfl, ht⟩
  · exact Or.inl ⟨t, n, ht, rfl, hL⟩
  · exact Or.inr ⟨ht, t, j, rfl, hL⟩
end
theorem sign_four : ∀ s ∈ signL, s ≠ [] ∧ cls (s.headD 0).toNat = 4 := by decide
theorem tokR_else {R : List Ru} {i : Nat} (hi : i < R.length) (h1 : ¬ cls R[i].1 = 1) (h2 : ¬ cls R[i].1 = 2) (h4 : ¬ cls R[i].1 = 4) : tokR (posn R i) (R.drop i) = none := by
  have e : R.drop i = R[i] :: R.drop (i + 1) := List.drop_eq_getElem_cons hi
  have hf : signL.find? (isPre · (R.drop i)) = none := by
    rw [List.find?_eq_none]
    intro s hs hp
    obtain ⟨hne, hc⟩ := sign_four s hs
    cases s with
    | nil => exact hne rfl
    | cons a t =>
      rw [e] at hp
      unfold isPre at hp
      rw [Bool.and_eq_true, beq_iff_eq] at hp
      apply h4
      rw [hp.1]
      exact hc
  rw [sign_yes hi h1 h2, hf]
set_option maxHeartbeats 4000000 in
theorem ltoken_any {w : World} {B q : Nat} {S : ByteArray} {R : List Ru} {A : Option Addr} {c : Nat} {bad : Int} {i : Nat} (h : Lxr w B q S R A c bad i) (hs : Src S R bad) (hsl : SrcL S R) (hsnd : ∀ r ∈ R, Snd r) (hi : i < R.length) (hBw : B ≤ w.heap.size) :
    Calls Tryd.prog 160 #[.pointer (some ⟨q, 0, none⟩)] w (LTokPost w B q S R A c bad i) := by
  have hl := h.len
  have hqB := h.qlt
  have hi2 : i ≤ 2000 := by omega
  have HR0 := Lib.hid h
  have HCL := Lib.hid (fun W (hW : Lxr W B q S R A c bad i) => lclassof_any hW hi2)
  rw [show clsAt R i = (cls R[i].1 : Nat) by unfold clsAt; rw [dif_pos hi]] at HCL
  have HNM := Lib.hid (fun (hc : cls R[i].1 = 1) W (hW : Lxr W B q S R A c bad i) hB => lname_any hW hs hsnd hi hc hB)
  have HNB := Lib.hid (fun (hc : cls R[i].1 = 2) W (hW : Lxr W B q S R A c bad i) hB => lnumber_any hW hi hc hB)
  have HSG := Lib.hid (fun (h1 : ¬ cls R[i].1 = 1) (h2 : ¬ cls R[i].1 = 2) W (hW : Lxr W B q S R A c bad i) hB => lsign_any hW hsl hsnd hi h1 h2 hB)
  have HEL := Lib.hid (fun h1 h2 h4 => tokR_else hi h1 h2 h4)
  clear h hs hsl hsnd
  generalize cls R[i].1 = V at *
  have HW0 := Lib.hid (fun n => ((LLeft.refl HR0.out).alloc (.cells #[.int .i64 0, .string ⟨#[]⟩, .int .i64 0, .int .i64 0] 80)).drewN n)
  have HT0 := Lib.hid (fun n => (show Blk ((w.alloc (.cells #[.int .i64 0, .string ⟨#[]⟩, .int .i64 0, .int .i64 0] 80)).drewN n) w.heap.size 80 #[.int .i64 0, .string ⟨#[]⟩, .int .i64 0, .int .i64 0] from heap_alloc_new w _))
  by_cases h1 : V = 1
  · subst h1
    have HN := Lib.hid (HNM.out rfl)
    clear HNM HNB HSG HEL
    go_enter Tryd.func160, Tryd.ntmps160
    go_wp2_with (first
      | (
        go_at_call 163
        refine (HCL.out _ (HR0.out.alloc _)).mono ?_
        rintro e w2 ⟨rfl, n1, rfl⟩)
      | (
        go_at_call 165
        refine (HN.out _ (HW0.out _).2 (by simp <;> omega)).mono ?_
        intro e w3 hp3
        obtain ⟨t, b, j, rfl, HL3, HT3⟩ := LTokPost.open_ hp3
        have hB3 := HL3.out.1.blk (HT0.out _) (by omega)
        obtain ⟨r0, r1, r2, r3⟩ := lblk4 hB3
        obtain ⟨s0, s1, s2, s3⟩ := lblk4f hB3
        have HB3 := Lib.hid hB3
        clear hB3 hp3
        unfold tokV))
    refine bodyPost_ret (res_tok (by rfl) _ _ w.heap.size #[.int .i64 t.kind, .string ⟨t.text.toArray⟩, .int .i64 t.n, .int .i64 t.at_] rfl (ltokZ HB3.out _ _ _ _) rfl) rfl ?_
    refine LTokPost.shut (t := t) HT3.out ?_
    have HLL := Lib.hid ((HW0.out _).trans HL3.out)
    repeat' (first | (with_reducible exact HLL.out) | (with_reducible refine LLeft.far ?_ hBw ?_ _) | omega | (simp <;> omega))
  · have g1 : ((V : Int) == 1) = false := by simp; omega
    by_cases h2 : V = 2
    · subst h2
      have HN := Lib.hid (HNB.out rfl)
      clear h1
      clear HNM HNB HSG HEL
      go_enter Tryd.func160, Tryd.ntmps160
      go_wp2_with (first
        | (
          go_at_call 163
          refine (HCL.out _ (HR0.out.alloc _)).mono ?_
          rintro e w2 ⟨rfl, n1, rfl⟩)
        | (
          go_at_call 166
          refine (HN.out _ (HW0.out _).2 (by simp <;> omega)).mono ?_
          intro e w3 hp3
          obtain ⟨t, b, j, rfl, HL3, HT3⟩ := LTokPost.open_ hp3
          have hB3 := HL3.out.1.blk (HT0.out _) (by omega)
          obtain ⟨r0, r1, r2, r3⟩ := lblk4 hB3
          obtain ⟨s0, s1, s2, s3⟩ := lblk4f hB3
          have HB3 := Lib.hid hB3
          clear hB3 hp3
          unfold tokV))
      refine bodyPost_ret (res_tok (by rfl) _ _ w.heap.size #[.int .i64 t.kind, .string ⟨t.text.toArray⟩, .int .i64 t.n, .int .i64 t.at_] rfl (ltokZ HB3.out _ _ _ _) rfl) rfl ?_
      refine LTokPost.shut (t := t) HT3.out ?_
      have HLL := Lib.hid ((HW0.out _).trans HL3.out)
      repeat' (first | (with_reducible exact HLL.out) | (with_reducible refine LLeft.far ?_ hBw ?_ _) | omega | (simp <;> omega))
    · have g2 : ((V : Int) == 2) = false := by simp; omega
      by_cases h4 : V = 4
      · subst h4
        have HN := Lib.hid (HSG.out h1 h2)
        clear h1 h2
        clear HNM HNB HSG HEL
        go_enter Tryd.func160, Tryd.ntmps160
        go_wp2_with (first
          | (
            go_at_call 163
            refine (HCL.out _ (HR0.out.alloc _)).mono ?_
            rintro e w2 ⟨rfl, n1, rfl⟩)
          | (
            go_at_call 167
            refine (HN.out _ (HW0.out _).2 (by simp <;> omega)).mono ?_
            intro e w3 hp3
            obtain ⟨t, b, j, rfl, HL3, HT3⟩ := LTokPost.open_ hp3
            have hB3 := HL3.out.1.blk (HT0.out _) (by omega)
            obtain ⟨r0, r1, r2, r3⟩ := lblk4 hB3
            obtain ⟨s0, s1, s2, s3⟩ := lblk4f hB3
            have HB3 := Lib.hid hB3
            clear hB3 hp3
            unfold tokV))
        refine bodyPost_ret (res_tok (by rfl) _ _ w.heap.size #[.int .i64 t.kind, .string ⟨t.text.toArray⟩, .int .i64 t.n, .int .i64 t.at_] rfl (ltokZ HB3.out _ _ _ _) rfl) rfl ?_
        refine LTokPost.shut (t := t) HT3.out ?_
        have HLL := Lib.hid ((HW0.out _).trans HL3.out)
        repeat' (first | (with_reducible exact HLL.out) | (with_reducible refine LLeft.far ?_ hBw ?_ _) | omega | (simp <;> omega))
      · have g4 : ((V : Int) == 4) = false := by simp; omega
        have HN := Lib.hid (HEL.out h1 h2 h4)
        clear h1 h2 h4
        clear HNM HNB HSG HEL
        have hB3 := HT0.out 0
        obtain ⟨r0, r1, r2, r3⟩ := lblk4 (show Blk (w.alloc (.cells #[.int .i64 0, .string ⟨#[]⟩, .int .i64 0, .int .i64 0] 80)) w.heap.size 80 #[.int .i64 0, .string ⟨#[]⟩, .int .i64 0, .int .i64 0] from hB3)
        clear hB3
        go_enter Tryd.func160, Tryd.ntmps160
        go_wp2_with (
          go_at_call 163
          refine (HCL.out _ (HR0.out.alloc _)).mono ?_
          rintro e w2 ⟨rfl, n1, rfl⟩)
        refine bodyPost_ret (res_tok (by rfl) _ _ w.heap.size #[.int .i64 0, .string ⟨#[]⟩, .int .i64 0, .int .i64 0] rfl (ltokZ (HT0.out n1) _ _ _ _) rfl) rfl ?_
        refine Or.inr ⟨HN.out, ⟨0, [], 0, 0⟩, i, rfl, ?_⟩
        repeat' (first | (with_reducible exact HW0.out _) | (with_reducible refine LLeft.far ?_ hBw ?_ _) | omega | (simp <;> omega))
end Go.Proofs.YteikakoheibnjaaDoor
