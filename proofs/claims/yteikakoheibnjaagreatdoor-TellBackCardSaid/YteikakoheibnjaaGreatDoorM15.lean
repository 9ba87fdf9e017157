/- Parts of the proof: Sign. -/
import Derived.Deep.RegionWith
import Derived.Test.YteikakoheibnjaaGreatDoorM14
namespace Go.Proofs.YteikakoheibnjaaGreatDoor
open Go Go.RowKit

/-- The world at hand under a name, with what is known of it. -/
theorem wp_named {P : Program} {c : Code} {Q : Exit → Act → World → Prop} {a : Act} {W : World} (F : World → Prop) (hF : F W) (h : ∀ W2, F W2 → Code.wp P c Q a W2) : Code.wp P c Q a W := h W hF
theorem Rd.drew_ {w : World} {B q : Nat} {S : ByteArray} {R : List Ru} {A : Option Addr} {c : Nat} {bad : Int} {i : Nat} (h : Rd w B q S R A c bad i) : Rd w.drew B q S R A c bad i := h.drewN 1
theorem keep4 {W : World} {p : Addr} {g : Nat} {u : Value} (h : W.cell? p = some u) (hp : p.block ≠ g) (y0 y1 y2 y3 : Value) : ((((W.setCell ⟨g, 0, none⟩ y0).setCell ⟨g, 1, none⟩ y1).setCell ⟨g, 2, none⟩ y2).setCell ⟨g, 3, none⟩ y3).cell? p = some u := by
  have e : ∀ (V : World) (k : Nat) (y : Value), (V.setCell ⟨g, k, none⟩ y).cell? p = V.cell? p := fun V k y => World.cell?_setCell_other _ _ _ _ (by rintro rfl; exact hp rfl)
  rw [e, e, e, e]
  exact h
theorem isPre_take : ∀ (x : List UInt8) (R : List Ru) (i k : Nat) (hk : k < x.length), isPre (x.take (k + 1)) (R.drop i) = (isPre (x.take k) (R.drop i) && isAt R (i + k) x[k].toNat)
  | c :: x, R, i, 0, _ => by
    by_cases hi : i < R.length
    · rw [List.drop_eq_getElem_cons hi]
      show (R[i].1 == c.toNat && true) = (true && isAt R (i + 0) c.toNat)
      unfold isAt
      rw [dif_pos (show i + 0 < R.length from hi), Bool.and_true, Bool.true_and]
      rfl
    · rw [List.drop_eq_nil_of_le (by omega)]
      simp [isPre, isAt, hi]
  | c :: x, R, i, k + 1, hk => by
    by_cases hi : i < R.length
    · have ih := isPre_take x R (i + 1) k (by simpa using hk)
      rw [List.drop_eq_getElem_cons hi]
      simp only [List.take_succ_cons, isPre, List.getElem_cons_succ]
      rw [ih, Bool.and_assoc, show i + 1 + k = i + (k + 1) by omega]
    · rw [List.drop_eq_nil_of_le (by omega)]
      simp [isPre]
theorem sign_yes {R : List Ru} {i p : Nat} (hi : i < R.length) (h1 : ¬ cls R[i].1 = 1) (h2 : ¬ cls R[i].1 = 2) : tokR p (R.drop i) = match signL.find? (isPre · (R.drop i)) with | some s => some (⟨3, s, 0, p⟩, s.length) | none => none := by
  have e : R.drop i = R[i] :: R.drop (i + 1) := List.drop_eq_getElem_cons hi
  rw [e]
  unfold tokR
  exact (if_neg h1).trans (if_neg h2)
theorem find_at {α : Type} (p : α → Bool) : ∀ (l : List α) (j : Nat) (hj : j < l.length), (∀ k, (h : k < j) → p (l[k]'(by omega)) = false) → p l[j] = true → l.find? p = some l[j]
  | x :: r, 0, _, _, h => by
    simp only [List.getElem_cons_zero] at h
    simp [h]
  | x :: r, j + 1, hj, hn, h => by
    have h0 := hn 0 (by omega)
    simp only [List.getElem_cons_zero] at h0
    have := find_at p r j (by simpa using hj) (fun k hk => by have := hn (k + 1) (by omega); simpa using this) (by simpa using h)
    simp [h0, this]
theorem find_not {α : Type} (p : α → Bool) (l : List α) (h : ∀ k, (hk : k < l.length) → p l[k] = false) : l.find? p = none := by
  rw [List.find?_eq_none]
  intro x hx
  obtain ⟨k, hk, rfl⟩ := List.getElem_of_mem hx
  simp [h k hk]
theorem BlkS (w : World) (cs : Array Value) (o : Obj) (n : Nat) : Blk (((w.alloc o).alloc (.cells cs 9)).drewN n) (w.heap.size + 1) 9 cs := by
  have := heap_alloc_new (w.alloc o) (.cells cs 9)
  rw [World.size_alloc] at this
  exact this
theorem sign_bytes : ∀ x ∈ signL, x.length ≤ 3 ∧ 1 ≤ x.length := by decide

set_option maxRecDepth 100000 in
set_option maxHeartbeats 8000000 in
theorem sign_any {w : World} {B q : Nat} {S : ByteArray} {R : List Ru} {A : Option Addr} {c : Nat} {bad : Int} {i : Nat} (h : Rd w B q S R A c bad i) (hi : i < R.length) (hc1 : ¬ cls R[i].1 = 1) (hc2 : ¬ cls R[i].1 = 2) (hBw : B ≤ w.heap.size) :
    Calls Tryz.prog 111 #[.pointer (some ⟨q, 0, none⟩)] w (TokPost w B q S R A c bad i) := by
  have hl := h.len
  have hql := h.blk.lt
  have hqB := h.qlt
  have HR0 := Lib.hid h
  have hi2 : i ≤ 2000 := by omega
  have HTK := Lib.hid (fun p => sign_yes (p := p) hi hc1 hc2)
  have HAT0 := Lib.hid (fun W (hW : Rd W B q S R A c bad i) => rdat_zero hW hi2)
  rw [show atAt R S.size i = posn R i by unfold atAt; rw [if_pos hi]] at HAT0
  have h18 : signL.length = 18 := rfl
  have HL18 := Lib.hid h18
  clear h hc1 hc2 h18
  go_enter Tryz.func111, Tryz.ntmps111
  go_wp2_with fail
  have hW0 : Left w B q S R A c bad i ((w.alloc (.cells #[.int .i64 0, .string ⟨#[]⟩, .int .i64 0, .int .i64 0] 78)).alloc (.cells (strVs signL).toArray 9)) := by
    repeat' (first | (with_reducible exact Left.refl HR0.out) | (with_reducible refine Left.alloc ?_ _))
  have hT0 : Blk ((w.alloc (.cells #[.int .i64 0, .string ⟨#[]⟩, .int .i64 0, .int .i64 0] 78)).alloc (.cells (strVs signL).toArray 9)) w.heap.size 78 #[.int .i64 0, .string ⟨#[]⟩, .int .i64 0, .int .i64 0] := BlkN w _ _ 0
  have hS0 : Blk ((w.alloc (.cells #[.int .i64 0, .string ⟨#[]⟩, .int .i64 0, .int .i64 0] 78)).alloc (.cells (strVs signL).toArray 9)) (w.heap.size + 1) 9 (strVs signL).toArray := BlkS w _ _ 0
  have hZ0 : w.heap.size + 1 + 1 ≤ ((w.alloc (.cells #[.int .i64 0, .string ⟨#[]⟩, .int .i64 0, .int .i64 0] 78)).alloc (.cells (strVs signL).toArray 9)).heap.size := by simp
  change Code.wp _ _ _ _ ((w.alloc (.cells #[.int .i64 0, .string ⟨#[]⟩, .int .i64 0, .int .i64 0] 78)).alloc (.cells (strVs signL).toArray 9))
  generalize (w.alloc (.cells #[.int .i64 0, .string ⟨#[]⟩, .int .i64 0, .int .i64 0] 78)).alloc (.cells (strVs signL).toArray 9) = W0 at *
  have HW0 := Lib.hid hW0
  have HT0 := Lib.hid hT0
  have HS0 := Lib.hid hS0
  clear hW0 hT0 hS0
  go_loopg [5] 18 (fun g jv wr => ∃ j m : Nat, j ≤ 18 ∧ g = 18 - j ∧ jv = .int .i64 (j : Int) ∧ Hid (∀ k, (hk : k < signL.length) → k < j → isPre signL[k] (R.drop i) = false) ∧ wr = W0.drewN m)
  case atStart => exact ⟨0, 0, Nat.zero_le _, rfl, rfl, Lib.hid (fun k _ h => absurd h (by omega)), rfl⟩
  case round =>
    obtain ⟨j, m, hj, hg, rfl, HN, rfl⟩ := hrel
    have HG := Lib.hid hg
    clear hg
    by_cases hlt : j < 18
    · have hjl : j < signL.length := by rw [HL18.out]; exact hlt
      have x0 : W0.cell? ⟨w.heap.size + 1, j, none⟩ = some (.string ⟨(signL[j]'hjl).toArray⟩) := by rw [HS0.out.cell j, List.getElem?_toArray]; exact strVs_at signL j hjl
      have hxl := sign_bytes (signL[j]'hjl) (List.getElem_mem hjl)
      have HFA := Lib.hid (fun hp => find_at (isPre · (R.drop i)) signL j hjl (fun k hk => HN.out k (by omega) hk) hp)
      have HNX := Lib.hid (fun (hp : isPre (signL[j]'hjl) (R.drop i) = false) k (hk : k < signL.length) (hkj : k < j + 1) => (show isPre signL[k] (R.drop i) = false by
        rcases Nat.lt_or_ge k j with h | h
        · exact HN.out k hk h
        · obtain rfl : k = j := by omega
          exact hp))
      generalize signL[j]'hjl = x at *
      have g1 : decide ((j : Int) < 18) = true := decide_eq_true (by omega)
      go_wp2_with fail
      go_loopg [6, 7] x.length (fun g ov kv wr => ∃ k m : Nat, k ≤ x.length ∧ g = x.length - k ∧ kv = .int .i64 (k : Int) ∧ ov = .bool (isPre (x.take k) (R.drop i)) ∧ wr = W0.drewN m)
      case atStart => exact ⟨0, m, Nat.zero_le _, rfl, rfl, by simp [isPre], rfl⟩
      case round =>
        obtain ⟨k, m, hk, hg2, rfl, rfl, rfl⟩ := hrel
        have HG2 := Lib.hid hg2
        clear hg2
        by_cases hkl : k < x.length
        · have HP := Lib.hid (isPre_take x R i k hkl)
          cases hok : isPre (x.take k) (R.drop i)
          · go_wp2_with fail
            go_roundg (x.length - (k + 1))
            case measure => have := HG2.out; omega
            case rel => exact ⟨k + 1, m, by omega, rfl, by go_num, by rw [HP.out, hok]; rfl, rfl⟩
          · have hk' : k < ByteArray.size ⟨x.toArray⟩ := by show k < x.toArray.size; simpa using hkl
            have h256 := ((⟨x.toArray⟩ : ByteArray)[k]'hk').toNat_lt
            have hk2 : k ≤ 2000 := by omega
            have HIS := Lib.hid (fun W (hW : Rd W B q S R A c bad i) => rdis_any hW k ((⟨x.toArray⟩ : ByteArray)[k]'hk').toNat hi2 hk2)
            have HP2 := Lib.hid (show isPre (x.take (k + 1)) (R.drop i) = isAt R (i + k) ((⟨x.toArray⟩ : ByteArray)[k]'hk').toNat by rw [HP.out, hok]; rfl)
            generalize isAt R (i + k) ((⟨x.toArray⟩ : ByteArray)[k]'hk').toNat = Y at *
            go_wp2_with (
              go_at_call 108
              refine (HIS.out _ (HW0.out.2.drewN _)).mono ?_
              rintro e w2 ⟨rfl, n1, rfl⟩
              try simp only [World.drewN_drewN])
            go_roundg (x.length - (k + 1))
            case measure => have := HG2.out; omega
            case rel => exact ⟨k + 1, _, by omega, rfl, by go_num, by rw [HP2.out], rfl⟩
        · have hke : x.take k = x := List.take_of_length_le (by omega)
          rw [hke]
          cases hok : isPre x (R.drop i) with
          | false =>
            go_wp2_with fail
            go_roundg (18 - (j + 1))
            case measure => have := HG.out; omega
            case rel => exact ⟨j + 1, m, by omega, rfl, by go_num, Lib.hid (fun k hk hkj => HNX.out hok k hk hkj), rfl⟩
          | true =>
            have HF := Lib.hid (HFA.out hok)
            clear hok hke
            go_wp2_with fail
            refine wp_named (fun W1 => Left w B q S R A c bad i W1 ∧ Blk W1 w.heap.size 78 #[.int .i64 0, .string ⟨#[]⟩, .int .i64 0, .int .i64 0] ∧ W1.cell? ⟨w.heap.size + 1, j, none⟩ = some (.string ⟨x.toArray⟩) ∧ w.heap.size + 1 + 1 ≤ W1.heap.size) ⟨HW0.out.drewN m, HT0.out, x0, hZ0⟩ ?_
            clear x0 hZ0
            rintro W1 ⟨hL1, hB1, x1, hz1⟩
            have HL1 := Lib.hid hL1
            have HRD1 := Lib.hid hL1.2
            have HB1 := Lib.hid hB1
            clear hL1 hB1
            have hj0 : (0 : Int) ≤ (j : Int) := by omega
            have hj1 : (j : Int) < 18 := by omega
            have hD : ∀ (n : Nat) (o : Obj), (W1.drewN n).alloc o = (W1.alloc o).drewN n := fun _ _ => rfl
            go_region_held3 (fun W => W.cell? ⟨w.heap.size + 1, j, none⟩ = some (.string ⟨x.toArray⟩)) (first | go_keep | (refine keep4 ?_ ?_ _ _ _ _; go_keep; simp <;> omega)) (first
              | (
                go_at_call 87
                refine (HAT0.out _ ?_).mono ?_
                · repeat' (first | (with_reducible exact HRD1.out) | (with_reducible refine Rd.drew_ ?_) | (with_reducible refine Rd.drewN ?_ _) | (with_reducible refine Rd.alloc ?_ _))
                rintro e w2 ⟨rfl, n1, rfl⟩))
            clear hD
            all_goals
              go_upto_region 12 with fail
              refine wp_named (fun W2 => Left w B q S R A c bad i W2 ∧ Blk W2 W1.heap.size 78 #[.int .i64 3, .string ⟨x.toArray⟩, .int .i64 0, .int .i64 (posn R i : Nat)] ∧ Blk W2 w.heap.size 78 #[.int .i64 0, .string ⟨#[]⟩, .int .i64 0, .int .i64 0] ∧ W2.cell? ⟨w.heap.size + 1, j, none⟩ = some (.string ⟨x.toArray⟩)) ⟨?_, ?_, ?_, ?_⟩ ?_
              · repeat' (first | (with_reducible exact HL1.out) | (with_reducible refine Left.drewN ?_ _) | (with_reducible refine Left.drew_ ?_) | (with_reducible refine Left.alloc ?_ _) | (with_reducible refine Left.far ?_ hBw ?_ _) | omega | (simp <;> omega))
              · refine tok4 (x0 := .int .i64 0) (x1 := .string ⟨#[]⟩) (x2 := .int .i64 0) (x3 := .int .i64 0) ?_ _ _ _ _
                exact heap_alloc_new W1 _
              · refine Blk.other (Blk.other (Blk.other (Blk.other ?_ ?_ _) ?_ _) ?_ _) ?_ _
                · exact (Below.heap_alloc W1 _ w.heap.size (by omega)).trans HB1.out
                all_goals (simp <;> omega)
              · first | go_keep | (refine keep4 ?_ ?_ _ _ _ _; go_keep; simp <;> omega)
              clear x1 HL1 HB1 HRD1
              rintro W2 ⟨hL2, hT2, hB2, x2⟩
              generalize W1.heap.size = T2 at *
              have HL2 := Lib.hid hL2
              have HT2 := Lib.hid hT2
              have HB2 := Lib.hid hB2
              obtain ⟨c0, c1, c2, c3⟩ := hL2.2.cells
              have f3 := hL2.2.blk.frozen 3
              obtain ⟨d0, d1, d2, d3⟩ : W2.cell? ⟨T2, 0, none⟩ = some (.int .i64 3) ∧ W2.cell? ⟨T2, 1, none⟩ = some (.string ⟨x.toArray⟩) ∧ W2.cell? ⟨T2, 2, none⟩ = some (.int .i64 0) ∧ W2.cell? ⟨T2, 3, none⟩ = some (.int .i64 (posn R i : Nat)) := ⟨hT2.cell 0, hT2.cell 1, hT2.cell 2, hT2.cell 3⟩
              obtain ⟨r0, r1, r2, r3⟩ : W2.cell? ⟨w.heap.size, 0, none⟩ = some (.int .i64 0) ∧ W2.cell? ⟨w.heap.size, 1, none⟩ = some (.string ⟨#[]⟩) ∧ W2.cell? ⟨w.heap.size, 2, none⟩ = some (.int .i64 0) ∧ W2.cell? ⟨w.heap.size, 3, none⟩ = some (.int .i64 0) := ⟨hB2.cell 0, hB2.cell 1, hB2.cell 2, hB2.cell 3⟩
              have s0 := hB2.frozen 0
              have s1 := hB2.frozen 1
              have s2 := hB2.frozen 2
              have s3 := hB2.frozen 3
              clear hL2 hT2 hB2
              have hxs : ByteArray.size ⟨x.toArray⟩ = x.length := by show x.toArray.size = _; simp
              have q1 : IntKind.i64.wrap ((i : Int) + (x.length : Int)) = (i : Int) + (x.length : Int) := IntWalk.i64_in _ ⟨by omega, by omega⟩
              go_still_tail 13, (by kernel_rfl)
              clear q1
              change wpList _ _ _ _ _ W2.drew
              go_wp2_with fail
              refine bodyPost_ret (res_tok (by rfl) _ _ w.heap.size #[.int .i64 3, .string ⟨x.toArray⟩, .int .i64 0, .int .i64 (posn R i : Nat)] rfl (tok4 (Blk.other (show Blk W2.drew w.heap.size 78 _ from HB2.out) (by simp <;> omega) _) _ _ _ _) rfl) rfl ?_
              refine Or.inl ⟨⟨3, x, 0, posn R i⟩, x.length, by rw [HTK.out, HF.out], rfl, ?_⟩
              repeat' (first | (with_reducible exact HL2.out) | (with_reducible refine Left.to (i := i) ?_ _ _ ?_) | (with_reducible refine Left.drewN ?_ _) | (with_reducible refine Left.drew_ ?_) | (with_reducible refine Left.far ?_ hBw ?_ _) | omega | (simp <;> omega))
    · have g1 : decide ((j : Int) < 18) = false := decide_eq_false (by omega)
      have HF := Lib.hid (find_not (isPre · (R.drop i)) signL (fun k hk => HN.out k hk (by have := HL18.out; omega)))
      obtain ⟨r0, r1, r2, r3⟩ : W0.cell? ⟨w.heap.size, 0, none⟩ = some (.int .i64 0) ∧ W0.cell? ⟨w.heap.size, 1, none⟩ = some (.string ⟨#[]⟩) ∧ W0.cell? ⟨w.heap.size, 2, none⟩ = some (.int .i64 0) ∧ W0.cell? ⟨w.heap.size, 3, none⟩ = some (.int .i64 0) := ⟨HT0.out.cell 0, HT0.out.cell 1, HT0.out.cell 2, HT0.out.cell 3⟩
      have s0 := HT0.out.frozen 0
      have s1 := HT0.out.frozen 1
      have s2 := HT0.out.frozen 2
      have s3 := HT0.out.frozen 3
      go_wp2_with fail
      refine bodyPost_ret (res_tok (by rfl) _ _ w.heap.size #[.int .i64 0, .string ⟨#[]⟩, .int .i64 0, .int .i64 0] rfl (tok4 (show Blk (W0.drewN m) w.heap.size 78 _ from HT0.out) _ _ _ _) rfl) rfl ?_
      refine Or.inr ⟨by rw [HTK.out, HF.out], ⟨0, [], 0, 0⟩, i, rfl, ?_⟩
      repeat' (first | (with_reducible exact HW0.out) | (with_reducible refine Left.drewN ?_ _) | (with_reducible refine Left.far ?_ hBw ?_ _) | omega | (simp <;> omega))
end Go.Proofs.YteikakoheibnjaaGreatDoor
