/- Parts of the proof: Sign, Token, Tokens, IsName, Has. -/
import Derived.Test.YteikakoheibnjaaDoorQ2
import Derived.Deep.RegionWith
namespace Go.Proofs.YteikakoheibnjaaDoor
open Go Go.RowKit

theorem wp_named {P : Program} {c : Code} {Q : Exit → Act → World → Prop} {a : Act} {W : World} (F : World → Prop) (hF : F W) (h : ∀ W2, F W2 → Code.wp P c Q a W2) : Code.wp P c Q a W := h W hF
theorem Rd.drew_ {w : World} {B q : Nat} {S : ByteArray} {R : List Ru} {A : Option Addr} {c : Nat} {bad : Int} {i : Nat} (h : Rd w B q S R A c bad i) : Rd w.drew B q S R A c bad i := h.drewN 1
theorem keep4 {W : World} {p : Addr} {g : Nat} {u : Value} (h : W.cell? p = some u) (hp : p.block ≠ g) (y0 y1 y2 y3 : Value) : ((((W.setCell ⟨g, 0, none⟩ y0).setCell ⟨g, 1, none⟩ y1).setCell ⟨g, 2, none⟩ y2).setCell ⟨g, 3, none⟩ y3).cell? p = some u := by
 have e : ∀ (V : World) (k : Nat) (y : Value), (V.setCell ⟨g, k, none⟩ y).cell? p = V.cell? p := fun V k y => World.cell?_setCell_other _ _ _ _ (by rintro rfl; exact hp rfl)
 rw [e, e, e, e]
 exact h
theorem isPre_take : ∀ (x : List UInt8) (R : List Ru) (i k : Nat) (hk : k < x.length), isPre (x.take (k + 1)) (R.drop i) = (isPre (x.take k) (R.drop i) && isAt R (i + k) x[k].toNat)
 | c :: x, R, i, 0, _ => by
   by_cases hi : i < R.length
   · rw [List.drop_eq_getElem_cons hi]
     show (R[i].1 == c.toNat && true) = (true && isAt R (i + 0) c.toNat)
     unfold isAt
     rw [dif_pos (show i + 0 < R.length from hi), Bool.and_true, Bool.true_and]
     rfl
   · rw [List.drop_eq_nil_of_le (by omega)]
     simp [isPre, isAt, hi]
 | c :: x, R, i, k + 1, hk => by
   by_cases hi : i < R.length
   · have ih := isPre_take x R (i + 1) k (by simpa using hk)
     rw [List.drop_eq_getElem_cons hi]
     simp only [List.take_succ_cons, isPre, List.getElem_cons_succ]
     rw [ih, Bool.and_assoc, show i + 1 + k = i + (k + 1) by omega]
   · rw [List.drop_eq_nil_of_le (by omega)]
     simp [isPre]
theorem sign_yes {R : List Ru} {i p : Nat} (hi : i < R.length) (h1 : ¬ cls R[i].1 = 1) (h2 : ¬ cls R[i].1 = 2) : tokR p (R.drop i) = match signL.find? (isPre · (R.drop i)) with | some s => some (⟨3, s, 0, p⟩, s.length) | none => none := by
 have e : R.drop i = R[i] :: R.drop (i + 1) := List.drop_eq_getElem_cons hi
 rw [e]
 unfold tokR
 exact (if_neg h1).trans (if_neg h2)
theorem find_at {α : Type} (p : α → Bool) : ∀ (l : List α) (j : Nat) (hj : j < l.length), (∀ k, (h : k < j) → p (l[k]'(by omega)) = false) → p l[j] = true → l.find? p = some l[j]
 | x :: r, 0, _, _, h => by
   simp only [List.getElem_cons_zero] at h
   simp [h]
 | x :: r, j + 1, hj, hn, h => by
   have h0 := hn 0 (by omega)
   simp only [List.getElem_cons_zero] at h0
   have := find_at p r j (by simpa using hj) (fun k hk => by have := hn (k + 1) (by omega); simpa using this) (by simpa using h)
   simp [h0, this]
theorem find_not {α : Type} (p : α → Bool) (l : List α) (h : ∀ k, (hk : k < l.length) → p l[k] = false) : l.find? p = none := by
 rw [List.find?_eq_none]
 intro x hx
 obtain ⟨k, hk, rfl⟩ := List.getElem_of_mem hx
 simp [h k hk]
theorem BlkS (w : World) (cs : Array Value) (o : Obj) (n : Nat) : Blk (((w.alloc o).alloc (.cells cs 9)).drewN n) (w.heap.size + 1) 9 cs := by
 have := heap_alloc_new (w.alloc o) (.cells cs 9)
 rw [World.size_alloc] at this
 exact this
theorem sign_bytes : ∀ x ∈ signL, x.length ≤ 3 ∧ 1 ≤ x.length := by decide

set_option maxRecDepth 100000 in
set_option maxHeartbeats 8000000 in
theorem sign_any {w : World} {B q : Nat} {S : ByteArray} {R : List Ru} {A : Option Addr} {c : Nat} {bad : Int} {i : Nat} (h : Rd w B q S R A c bad i) (hi : i < R.length) (hc1 : ¬ cls R[i].1 = 1) (hc2 : ¬ cls R[i].1 = 2) (hBw : B ≤ w.heap.size) :
  Calls Tryd.prog 95 #[.pointer (some ⟨q, 0, none⟩)] w (TokPost w B q S R A c bad i) := by
 have hl := h.len
 have hql := h.blk.lt
 have hqB := h.qlt
 have HR0 := Lib.hid h
 have hi2 : i ≤ 2000 := by omega
 have HTK := Lib.hid (fun p => sign_yes (p := p) hi hc1 hc2)
 have HAT0 := Lib.hid (fun W (hW : Rd W B q S R A c bad i) => rdat_zero hW hi2)
 rw [show atAt R S.size i = posn R i by unfold atAt; rw [if_pos hi]] at HAT0
 have h18 : signL.length = 18 := rfl
 have HL18 := Lib.hid h18
 clear h hc1 hc2 h18
 go_enter Tryd.func95, Tryd.ntmps95
 go_wp2_with fail
 have hW0 : Left w B q S R A c bad i ((w.alloc (.cells #[.int .i64 0, .string ⟨#[]⟩, .int .i64 0, .int .i64 0] 80)).alloc (.cells (strVs signL).toArray 9)) := by
  repeat' (first | (with_reducible first | exact Left.refl HR0.out | apply Left.alloc))
 have hT0 : Blk ((w.alloc (.cells #[.int .i64 0, .string ⟨#[]⟩, .int .i64 0, .int .i64 0] 80)).alloc (.cells (strVs signL).toArray 9)) w.heap.size 80 #[.int .i64 0, .string ⟨#[]⟩, .int .i64 0, .int .i64 0] := BlkN w _ _ 0
 have hS0 : Blk ((w.alloc (.cells #[.int .i64 0, .string ⟨#[]⟩, .int .i64 0, .int .i64 0] 80)).alloc (.cells (strVs signL).toArray 9)) (w.heap.size + 1) 9 (strVs signL).toArray := BlkS w _ _ 0
 have hZ0 : w.heap.size + 1 + 1 ≤ ((w.alloc (.cells #[.int .i64 0, .string ⟨#[]⟩, .int .i64 0, .int .i64 0] 80)).alloc (.cells (strVs signL).toArray 9)).heap.size := by simp
 change Code.wp _ _ _ _ ((w.alloc (.cells #[.int .i64 0, .string ⟨#[]⟩, .int .i64 0, .int .i64 0] 80)).alloc (.cells (strVs signL).toArray 9))
 generalize (w.alloc (.cells #[.int .i64 0, .string ⟨#[]⟩, .int .i64 0, .int .i64 0] 80)).alloc (.cells (strVs signL).toArray 9) = W0 at *
 have HW0 := Lib.hid hW0
 have HT0 := Lib.hid hT0
 have HS0 := Lib.hid hS0
 clear hW0 hT0 hS0
 go_loopg [5] 18 (fun g jv wr => ∃ j m : Nat, j ≤ 18 ∧ g = 18 - j ∧ jv = .int .i64 (j : Int) ∧ Hid (∀ k, (hk : k < signL.length) → k < j → isPre signL[k] (R.drop i) = false) ∧ wr = W0.drewN m)
 case atStart => exact ⟨0, 0, Nat.zero_le _, rfl, rfl, Lib.hid (fun k _ h => absurd h (by omega)), rfl⟩
 case round =>
  obtain ⟨j, m, hj, hg, rfl, HN, rfl⟩ := hrel
  have HG := Lib.hid hg
  clear hg
  by_cases hlt : j < 18
  · have hjl : j < signL.length := by rw [HL18.out]; exact hlt
    have x0 : W0.cell? ⟨w.heap.size + 1, j, none⟩ = some (.string ⟨(signL[j]'hjl).toArray⟩) := by rw [HS0.out.cell j, List.getElem?_toArray]; exact strVs_at signL j hjl
    have hxl := sign_bytes (signL[j]'hjl) (List.getElem_mem hjl)
    have HFA := Lib.hid (fun hp => find_at (isPre · (R.drop i)) signL j hjl (fun k hk => HN.out k (by omega) hk) hp)
    have HNX := Lib.hid (fun (hp : isPre (signL[j]'hjl) (R.drop i) = false) k (hk : k < signL.length) (hkj : k < j + 1) => (show isPre signL[k] (R.drop i) = false by
     rcases Nat.lt_or_ge k j with h | h
     · exact HN.out k hk h
     · obtain rfl : k = j := by omega
       exact hp))
    generalize signL[j]'hjl = x at *
    have g1 : decide ((j : Int) < 18) = true := decide_eq_true (by omega)
    go_wp2_with fail
    go_loopg [6, 7] x.length (fun g ov kv wr => ∃ k m : Nat, k ≤ x.length ∧ g = x.length - k ∧ kv = .int .i64 (k : Int) ∧ ov = .bool (isPre (x.take k) (R.drop i)) ∧ wr = W0.drewN m)
    case atStart => exact ⟨0, m, Nat.zero_le _, rfl, rfl, by simp [isPre], rfl⟩
    case round =>
     obtain ⟨k, m, hk, hg2, rfl, rfl, rfl⟩ := hrel
     have HG2 := Lib.hid hg2
     clear hg2
     by_cases hkl : k < x.length
     · have HP := Lib.hid (isPre_take x R i k hkl)
       cases hok : isPre (x.take k) (R.drop i)
       · go_wp2_with fail
         go_roundg (x.length - (k + 1))
         case measure => have := HG2.out; omega
         case rel => exact ⟨k + 1, m, by omega, rfl, by go_num, by rw [HP.out, hok]; rfl, rfl⟩
       · have hk' : k < ByteArray.size ⟨x.toArray⟩ := by show k < x.toArray.size; simpa using hkl
         have h256 := ((⟨x.toArray⟩ : ByteArray)[k]'hk').toNat_lt
         have hk2 : k ≤ 2000 := by omega
         have HIS := Lib.hid (fun W (hW : Rd W B q S R A c bad i) => rdis_any hW k ((⟨x.toArray⟩ : ByteArray)[k]'hk').toNat hi2 hk2)
         have HP2 := Lib.hid (show isPre (x.take (k + 1)) (R.drop i) = isAt R (i + k) ((⟨x.toArray⟩ : ByteArray)[k]'hk').toNat by rw [HP.out, hok]; rfl)
         generalize isAt R (i + k) ((⟨x.toArray⟩ : ByteArray)[k]'hk').toNat = Y at *
         go_wp2_with (
          go_at_call 92
          refine (HIS.out _ (HW0.out.2.drewN _)).mono ?_
          rintro e w2 ⟨rfl, n1, rfl⟩
          try simp only [World.drewN_drewN])
         go_roundg (x.length - (k + 1))
         case measure => have := HG2.out; omega
         case rel => exact ⟨k + 1, _, by omega, rfl, by go_num, by rw [HP2.out], rfl⟩
     · have hke : x.take k = x := List.take_of_length_le (by omega)
       rw [hke]
       cases hok : isPre x (R.drop i) with
       | false =>
         go_wp2_with fail
         go_roundg (18 - (j + 1))
         case measure => have := HG.out; omega
         case rel => exact ⟨j + 1, m, by omega, rfl, by go_num, Lib.hid (fun k hk hkj => HNX.out hok k hk hkj), rfl⟩
       | true =>
         have HF := Lib.hid (HFA.out hok)
         clear hok hke
         go_wp2_with fail
         refine wp_named (fun W1 => Left w B q S R A c bad i W1 ∧ Blk W1 w.heap.size 80 #[.int .i64 0, .string ⟨#[]⟩, .int .i64 0, .int .i64 0] ∧ W1.cell? ⟨w.heap.size + 1, j, none⟩ = some (.string ⟨x.toArray⟩) ∧ w.heap.size + 1 + 1 ≤ W1.heap.size) ⟨HW0.out.drewN m, HT0.out, x0, hZ0⟩ ?_
         clear x0 hZ0
         rintro W1 ⟨hL1, hB1, x1, hz1⟩
         have HL1 := Lib.hid hL1
         have HRD1 := Lib.hid hL1.2
         have HB1 := Lib.hid hB1
         clear hL1 hB1
         have hj0 : (0 : Int) ≤ (j : Int) := by omega
         have hj1 : (j : Int) < 18 := by omega
         have hD : ∀ (n : Nat) (o : Obj), (W1.drewN n).alloc o = (W1.alloc o).drewN n := fun _ _ => rfl
         go_region_held3 (fun W => W.cell? ⟨w.heap.size + 1, j, none⟩ = some (.string ⟨x.toArray⟩)) (first | go_keep | (refine keep4 ?_ ?_ _ _ _ _; go_keep; simp <;> omega)) (first
          | (
            go_at_call 70
            refine (HAT0.out _ ?_).mono ?_
            · repeat' (first | (with_reducible first | exact HRD1.out | apply Rd.drew_ | apply Rd.drewN | apply Rd.alloc))
            rintro e w2 ⟨rfl, n1, rfl⟩))
         clear hD
         all_goals
          go_upto_region 12 with fail
          refine wp_named (fun W2 => Left w B q S R A c bad i W2 ∧ Blk W2 W1.heap.size 80 #[.int .i64 3, .string ⟨x.toArray⟩, .int .i64 0, .int .i64 (posn R i : Nat)] ∧ Blk W2 w.heap.size 80 #[.int .i64 0, .string ⟨#[]⟩, .int .i64 0, .int .i64 0] ∧ W2.cell? ⟨w.heap.size + 1, j, none⟩ = some (.string ⟨x.toArray⟩)) ⟨?_, ?_, ?_, ?_⟩ ?_
          · repeat' (first | (with_reducible first | exact HL1.out | apply Left.drewN | apply Left.drew_ | apply Left.alloc | refine Left.far ?_ hBw ?_ _) | omega | (simp <;> omega))
          · refine tok4 (x0 := .int .i64 0) (x1 := .string ⟨#[]⟩) (x2 := .int .i64 0) (x3 := .int .i64 0) ?_ _ _ _ _
            exact heap_alloc_new W1 _
          · refine Blk.other (Blk.other (Blk.other (Blk.other ?_ ?_ _) ?_ _) ?_ _) ?_ _
            · exact (Below.heap_alloc W1 _ w.heap.size (by omega)).trans HB1.out
            all_goals (simp <;> omega)
          · first | go_keep | (refine keep4 ?_ ?_ _ _ _ _; go_keep; simp <;> omega)
          clear x1 HL1 HB1 HRD1
          rintro W2 ⟨hL2, hT2, hB2, x2⟩
          generalize W1.heap.size = T2 at *
          have HL2 := Lib.hid hL2
          have HT2 := Lib.hid hT2
          have HB2 := Lib.hid hB2
          obtain ⟨c0, c1, c2, c3⟩ := hL2.2.cells
          have f3 := hL2.2.blk.frozen 3
          obtain ⟨d0, d1, d2, d3⟩ : W2.cell? ⟨T2, 0, none⟩ = some (.int .i64 3) ∧ W2.cell? ⟨T2, 1, none⟩ = some (.string ⟨x.toArray⟩) ∧ W2.cell? ⟨T2, 2, none⟩ = some (.int .i64 0) ∧ W2.cell? ⟨T2, 3, none⟩ = some (.int .i64 (posn R i : Nat)) := ⟨hT2.cell 0, hT2.cell 1, hT2.cell 2, hT2.cell 3⟩
          obtain ⟨r0, r1, r2, r3⟩ : W2.cell? ⟨w.heap.size, 0, none⟩ = some (.int .i64 0) ∧ W2.cell? ⟨w.heap.size, 1, none⟩ = some (.string ⟨#[]⟩) ∧ W2.cell? ⟨w.heap.size, 2, none⟩ = some (.int .i64 0) ∧ W2.cell? ⟨w.heap.size, 3, none⟩ = some (.int .i64 0) := ⟨hB2.cell 0, hB2.cell 1, hB2.cell 2, hB2.cell 3⟩
          have s0 := hB2.frozen 0
          have s1 := hB2.frozen 1
          have s2 := hB2.frozen 2
          have s3 := hB2.frozen 3
          clear hL2 hT2 hB2
          have hxs : ByteArray.size ⟨x.toArray⟩ = x.length := by show x.toArray.size = _; simp
          have q1 : IntKind.i64.wrap ((i : Int) + (x.length : Int)) = (i : Int) + (x.length : Int) := IntWalk.i64_in _ ⟨by omega, by omega⟩
          go_still_tail 13, (by kernel_rfl)
          clear q1
          change wpList _ _ _ _ _ W2.drew
          go_wp2_with fail
          refine bodyPost_ret (res_tok (by rfl) _ _ w.heap.size #[.int .i64 3, .string ⟨x.toArray⟩, .int .i64 0, .int .i64 (posn R i : Nat)] rfl (tok4 (Blk.other (show Blk W2.drew w.heap.size 80 _ from HB2.out) (by simp <;> omega) _) _ _ _ _) rfl) rfl ?_
          refine Or.inl ⟨⟨3, x, 0, posn R i⟩, x.length, by rw [HTK.out, HF.out], rfl, ?_⟩
          repeat' (first | (with_reducible first | exact HL2.out | refine Left.to (i := i) ?_ _ _ ?_ | apply Left.drewN | apply Left.drew_ | refine Left.far ?_ hBw ?_ _) | omega | (simp <;> omega))
  · have g1 : decide ((j : Int) < 18) = false := decide_eq_false (by omega)
    have HF := Lib.hid (find_not (isPre · (R.drop i)) signL (fun k hk => HN.out k hk (by have := HL18.out; omega)))
    obtain ⟨r0, r1, r2, r3⟩ : W0.cell? ⟨w.heap.size, 0, none⟩ = some (.int .i64 0) ∧ W0.cell? ⟨w.heap.size, 1, none⟩ = some (.string ⟨#[]⟩) ∧ W0.cell? ⟨w.heap.size, 2, none⟩ = some (.int .i64 0) ∧ W0.cell? ⟨w.heap.size, 3, none⟩ = some (.int .i64 0) := ⟨HT0.out.cell 0, HT0.out.cell 1, HT0.out.cell 2, HT0.out.cell 3⟩
    have s0 := HT0.out.frozen 0
    have s1 := HT0.out.frozen 1
    have s2 := HT0.out.frozen 2
    have s3 := HT0.out.frozen 3
    go_wp2_with fail
    refine bodyPost_ret (res_tok (by rfl) _ _ w.heap.size #[.int .i64 0, .string ⟨#[]⟩, .int .i64 0, .int .i64 0] rfl (tok4 (show Blk (W0.drewN m) w.heap.size 80 _ from HT0.out) _ _ _ _) rfl) rfl ?_
    refine Or.inr ⟨by rw [HTK.out, HF.out], ⟨0, [], 0, 0⟩, i, rfl, ?_⟩
    repeat' (first | (with_reducible first | exact HW0.out | apply Left.drewN | refine Left.far ?_ hBw ?_ _) | omega | (simp <;> omega))
end Go.Proofs.YteikakoheibnjaaDoor
namespace Go.Proofs.YteikakoheibnjaaDoor
open Go Go.RowKit

section
variable {w W W' : World} {B q : Nat} {S : ByteArray} {R : List Ru} {A : Option Addr} {c : Nat} {bad : Int} {i j : Nat}
theorem Left.trans (h : Left w B q S R A c bad i W) (h2 : Left W B q S R A c bad j W') : Left w B q S R A c bad j W' := ⟨h.1.trans h2.1, h2.2⟩
def TokIs (R : List Ru) (i : Nat) (t : Tok) (b : Bool) (j : Nat) : Prop := (b = true ∧ ∃ n, tokR (posn R i) (R.drop i) = some (t, n) ∧ j = i + n) ∨ (b = false ∧ tokR (posn R i) (R.drop i) = none)
theorem TokPost.open_ {e : Ending} (h : TokPost w B q S R A c bad i e W) : ∃ (t : Tok) (b : Bool) (j : Nat), e = .returned (.tuple #[tokV t, .bool b]) ∧ Hid (Left w B q S R A c bad j W) ∧ Hid (TokIs R i t b j) := by
 rcases h with ⟨t, n, ht, he, hL⟩ | ⟨ht, t, j, he, hL⟩
 · exact ⟨t, true, i + n, he, Lib.hid hL, Lib.hid (Or.inl ⟨rfl, n, ht, rfl⟩)⟩
 · exact ⟨t, false, j, he, Lib.hid hL, Lib.hid (Or.inr ⟨rfl, ht⟩)⟩
theorem TokPost.shut {t : Tok} {b : Bool} (h : TokIs R i t b j) (hL : Left w B q S R A c bad j W) : TokPost w B q S R A c bad i (.returned (.tuple #[tokV t, .bool b])) W := by
 rcases h with ⟨rfl, n, ht, rfl⟩ | ⟨rfl, ht⟩
 · exact Or.inl ⟨t, n, ht, rfl, hL⟩
 · exact Or.inr ⟨ht, t, j, rfl, hL⟩
end
set_option maxHeartbeats 4000000 in
theorem token_any {w : World} {B q : Nat} {S : ByteArray} {R : List Ru} {A : Option Addr} {c : Nat} {bad : Int} {i : Nat} (h : Rd w B q S R A c bad i) (hs : Src S R bad) (hi : i < R.length) (hS : S.size ≤ 2000) (hBw : B ≤ w.heap.size) :
  Calls Tryd.prog 71 #[.pointer (some ⟨q, 0, none⟩)] w (TokPost w B q S R A c bad i) := by
 have hl := h.len
 have hqB := h.qlt
 have hi2 : i ≤ 2000 := by omega
 have HR0 := Lib.hid h
 have HSR := Lib.hid hs
 have HCL := Lib.hid (fun W (hW : Rd W B q S R A c bad i) => class_zero hW hi2)
 rw [show clsAt R i = (cls R[i].1 : Nat) by unfold clsAt; rw [dif_pos hi]] at HCL
 have HNM := Lib.hid (fun (hc : cls R[i].1 = 1) W (hW : Rd W B q S R A c bad i) hB => name_any hW HSR.out hi hc hS hB)
 have HNB := Lib.hid (fun (hc : cls R[i].1 = 2) W (hW : Rd W B q S R A c bad i) hB => number_any hW hi hc hB)
 have HSG := Lib.hid (fun (h1 : ¬ cls R[i].1 = 1) (h2 : ¬ cls R[i].1 = 2) W (hW : Rd W B q S R A c bad i) hB => sign_any hW hi h1 h2 hB)
 clear h hs
 generalize cls R[i].1 = V at *
 have HW0 := Lib.hid (fun n => ((Left.refl HR0.out).alloc (.cells #[.int .i64 0, .string ⟨#[]⟩, .int .i64 0, .int .i64 0] 80)).drewN n)
 have HT0 := Lib.hid (fun n => (show Blk ((w.alloc (.cells #[.int .i64 0, .string ⟨#[]⟩, .int .i64 0, .int .i64 0] 80)).drewN n) w.heap.size 80 #[.int .i64 0, .string ⟨#[]⟩, .int .i64 0, .int .i64 0] from heap_alloc_new w _))
 by_cases h1 : V = 1
 · subst h1
   have HN := Lib.hid (HNM.out rfl)
   clear HNM HNB HSG
   go_enter Tryd.func71, Tryd.ntmps71
   go_wp2_with (first
    | (
      go_at_call 91
      refine (HCL.out _ (HR0.out.alloc _)).mono ?_
      rintro e w2 ⟨rfl, n1, rfl⟩)
    | (
      go_at_call 93
      refine (HN.out _ (HW0.out _).2 (by simp <;> omega)).mono ?_
      intro e w3 hp3
      obtain ⟨t, b, j, rfl, HL3, HT3⟩ := TokPost.open_ hp3
      have hB3 := HL3.out.1.blk (HT0.out _) (by omega)
      obtain ⟨r0, r1, r2, r3⟩ : w3.cell? ⟨w.heap.size, 0, none⟩ = some (.int .i64 0) ∧ w3.cell? ⟨w.heap.size, 1, none⟩ = some (.string ⟨#[]⟩) ∧ w3.cell? ⟨w.heap.size, 2, none⟩ = some (.int .i64 0) ∧ w3.cell? ⟨w.heap.size, 3, none⟩ = some (.int .i64 0) := ⟨hB3.cell 0, hB3.cell 1, hB3.cell 2, hB3.cell 3⟩
      have s0 := hB3.frozen 0
      have s1 := hB3.frozen 1
      have s2 := hB3.frozen 2
      have s3 := hB3.frozen 3
      have HB3 := Lib.hid hB3
      clear hB3 hp3
      unfold tokV))
   refine bodyPost_ret (res_tok (by rfl) _ _ w.heap.size #[.int .i64 t.kind, .string ⟨t.text.toArray⟩, .int .i64 t.n, .int .i64 t.at_] rfl (tok4 HB3.out _ _ _ _) rfl) rfl ?_
   refine TokPost.shut (t := t) HT3.out ?_
   have HLL := Lib.hid ((HW0.out _).trans HL3.out)
   repeat' (first | (with_reducible first | exact HLL.out | refine Left.far ?_ hBw ?_ _) | omega | (simp <;> omega))
 · have g1 : ((V : Int) == 1) = false := by simp; omega
   by_cases h2 : V = 2
   · subst h2
     have HN := Lib.hid (HNB.out rfl)
     clear h1
     clear HNM HNB HSG
     go_enter Tryd.func71, Tryd.ntmps71
     go_wp2_with (first
      | (
        go_at_call 91
        refine (HCL.out _ (HR0.out.alloc _)).mono ?_
        rintro e w2 ⟨rfl, n1, rfl⟩)
      | (
        go_at_call 94
        refine (HN.out _ (HW0.out _).2 (by simp <;> omega)).mono ?_
        intro e w3 hp3
        obtain ⟨t, b, j, rfl, HL3, HT3⟩ := TokPost.open_ hp3
        have hB3 := HL3.out.1.blk (HT0.out _) (by omega)
        obtain ⟨r0, r1, r2, r3⟩ : w3.cell? ⟨w.heap.size, 0, none⟩ = some (.int .i64 0) ∧ w3.cell? ⟨w.heap.size, 1, none⟩ = some (.string ⟨#[]⟩) ∧ w3.cell? ⟨w.heap.size, 2, none⟩ = some (.int .i64 0) ∧ w3.cell? ⟨w.heap.size, 3, none⟩ = some (.int .i64 0) := ⟨hB3.cell 0, hB3.cell 1, hB3.cell 2, hB3.cell 3⟩
        have s0 := hB3.frozen 0
        have s1 := hB3.frozen 1
        have s2 := hB3.frozen 2
        have s3 := hB3.frozen 3
        have HB3 := Lib.hid hB3
        clear hB3 hp3
        unfold tokV))
     refine bodyPost_ret (res_tok (by rfl) _ _ w.heap.size #[.int .i64 t.kind, .string ⟨t.text.toArray⟩, .int .i64 t.n, .int .i64 t.at_] rfl (tok4 HB3.out _ _ _ _) rfl) rfl ?_
     refine TokPost.shut (t := t) HT3.out ?_
     have HLL := Lib.hid ((HW0.out _).trans HL3.out)
     repeat' (first | (with_reducible first | exact HLL.out | refine Left.far ?_ hBw ?_ _) | omega | (simp <;> omega))
   · have g2 : ((V : Int) == 2) = false := by simp; omega
     have HN := Lib.hid (HSG.out h1 h2)
     clear h1 h2
     clear HNM HNB HSG
     go_enter Tryd.func71, Tryd.ntmps71
     go_wp2_with (first
      | (
        go_at_call 91
        refine (HCL.out _ (HR0.out.alloc _)).mono ?_
        rintro e w2 ⟨rfl, n1, rfl⟩)
      | (
        go_at_call 95
        refine (HN.out _ (HW0.out _).2 (by simp <;> omega)).mono ?_
        intro e w3 hp3
        obtain ⟨t, b, j, rfl, HL3, HT3⟩ := TokPost.open_ hp3
        have hB3 := HL3.out.1.blk (HT0.out _) (by omega)
        obtain ⟨r0, r1, r2, r3⟩ : w3.cell? ⟨w.heap.size, 0, none⟩ = some (.int .i64 0) ∧ w3.cell? ⟨w.heap.size, 1, none⟩ = some (.string ⟨#[]⟩) ∧ w3.cell? ⟨w.heap.size, 2, none⟩ = some (.int .i64 0) ∧ w3.cell? ⟨w.heap.size, 3, none⟩ = some (.int .i64 0) := ⟨hB3.cell 0, hB3.cell 1, hB3.cell 2, hB3.cell 3⟩
        have s0 := hB3.frozen 0
        have s1 := hB3.frozen 1
        have s2 := hB3.frozen 2
        have s3 := hB3.frozen 3
        have HB3 := Lib.hid hB3
        clear hB3 hp3
        unfold tokV))
     refine bodyPost_ret (res_tok (by rfl) _ _ w.heap.size #[.int .i64 t.kind, .string ⟨t.text.toArray⟩, .int .i64 t.n, .int .i64 t.at_] rfl (tok4 HB3.out _ _ _ _) rfl) rfl ?_
     refine TokPost.shut (t := t) HT3.out ?_
     have HLL := Lib.hid ((HW0.out _).trans HL3.out)
     repeat' (first | (with_reducible first | exact HLL.out | refine Left.far ?_ hBw ?_ _) | omega | (simp <;> omega))
end Go.Proofs.YteikakoheibnjaaDoor
namespace Go.Proofs.YteikakoheibnjaaDoor
open Go Go.RowKit

def cellsT (l : List Tok) : List Value := l.flatMap fun t => [.int .i64 t.kind, .string ⟨t.text.toArray⟩, .int .i64 t.n, .int .i64 t.at_]
theorem cellsT_snoc (l : List Tok) (t : Tok) : cellsT (l ++ [t]) = cellsT l ++ [.int .i64 t.kind, .string ⟨t.text.toArray⟩, .int .i64 t.n, .int .i64 t.at_] := by simp [cellsT]
theorem tok_one (k n a : Int) (s : ByteArray) : ∀ u ∈ ([.int .i64 k, .string s, .int .i64 n, .int .i64 a] : List Value), u.oneCell' = true := by
 intro u hu
 simp at hu
 rcases hu with rfl | rfl | rfl | rfl <;> rfl
theorem reads_four {w : World} {h : Nat} {t : TypeId} {u v x y : Value} (hb : w.heap[h]? = some (.cells #[u, v, x, y] t (0, 0))) : Reads w (h + 1) 4 (some ⟨h, 0, none⟩) 1 [u, v, x, y] := by
 refine ⟨rfl, fun _ => ⟨_, rfl, by simp, fun j z hz => ?_⟩⟩
 have hj : j < 4 := (List.getElem?_eq_some_iff.1 hz).1
 have e : (⟨h, 0, none⟩ : Addr).add j = ⟨h, j, none⟩ := by
  unfold Addr.add
  split
  · next h0 => rw [h0]
  · simp
 rw [e, cell_of_row w h j #[u, v, x, y] t (0, 0) hb, ← hz]
 simp
theorem und_toks : Tryd.prog.underlying 68 = some (.slice 80) := by kernel_rfl
theorem Rd.fr {w w' : World} {B q : Nat} {S : ByteArray} {R : List Ru} {A : Option Addr} {c : Nat} {bad : Int} {i : Nat} (h : Rd w B q S R A c bad i) (hf : Fr (fun k => B ≤ k) w w') : Rd w' B q S R A c bad i :=
 ⟨hf.blk h.blk (by have := h.qlt; omega), fun j hj => by
  obtain ⟨g, e, hg, hgB, h1, h2⟩ := h.runes j hj
  have hc : ∀ o, w'.cell? ⟨g, o, none⟩ = w.cell? ⟨g, o, none⟩ := fun o => World.cell?_of_block (hf.block g (World.block_lt_of_cell? _ _ h1) (by omega))
  exact ⟨g, e, hg, hgB, (hc _).trans h1, (hc _).trans h2⟩, h.qlt, h.small, h.len⟩
theorem rd_of_each {W : World} {base q : Nat} {S : ByteArray} {R : List Ru} {A : Option Addr} {c : Nat} {bad : Int} (hb : Blk W q 103 #[.string S, .slice A R.length c, .int .i64 bad, .int .i64 0])
  (ho : W.ownsRow base 121 2 (.slice A R.length c) R.length (cellsR 0 R)) (hq : q < base) (hs : ∀ r ∈ R, r.1 < 2097152) (hl : R.length ≤ 2000) : Rd W W.heap.size q S R A c bad 0 :=
 ⟨hb, fun j hj => by
  obtain ⟨g, cap, hv, hbase, hlt⟩ := ho.form (by omega)
  have hA : A = some ⟨g, 0, none⟩ := by injection hv
  subst hA
  obtain ⟨h1, h2⟩ := cellsR_at R 0 j hj
  have hc := ho.cells (g := g) rfl
  have add : ∀ k, (⟨g, 0, none⟩ : Addr).add k = ⟨g, k, none⟩ := fun k => by
   unfold Addr.add
   split
   · next h0 => rw [h0]
   · simp
  have e1 := hc _ _ h1
  have e2 := hc _ _ h2
  rw [add, Nat.mul_comm] at e1
  rw [add, Nat.mul_comm] at e2
  rw [Nat.zero_add] at e2
  exact ⟨g, rfl, by omega, hlt, e1, e2⟩, hb.lt, hs, hl⟩
theorem posn_add (R : List Ru) (a b : Nat) : posn R (a + b) = posn R a + (flat ((R.drop a).take b)).length := by
 unfold posn
 rw [List.take_add, flat_app, List.length_append]
theorem toks_none {R : List Ru} {i0 i : Nat} (hi : i = i0 + skipM false (R.drop i0)) (h : ¬ i < R.length) : toks (R.drop i0) (posn R i0) = ([], none) := by
 rw [toks_eq, if_pos]
 rw [List.drop_drop, ← hi]
 exact List.drop_eq_nil_of_le (by omega)
theorem toks_bad {R : List Ru} {i0 i : Nat} (hi : i = i0 + skipM false (R.drop i0)) (h : i < R.length) (ht : tokR (posn R i) (R.drop i) = none) : toks (R.drop i0) (posn R i0) = ([], some (posn R i)) := by
 have e : posn R i = posn R i0 + (flat ((R.drop i0).take (skipM false (R.drop i0)))).length := by rw [hi, posn_add]
 rw [toks_eq, if_neg, List.drop_drop, ← hi, ← e, ht]
 rw [List.drop_drop, ← hi, List.drop_eq_nil_iff]
 omega
theorem toks_step {R : List Ru} {i0 i n : Nat} {t : Tok} (hi : i = i0 + skipM false (R.drop i0)) (h : i < R.length) (ht : tokR (posn R i) (R.drop i) = some (t, n)) :
  toks (R.drop i0) (posn R i0) = (t :: (toks (R.drop (i + n)) (posn R (i + n))).1, (toks (R.drop (i + n)) (posn R (i + n))).2) := by
 have e : posn R i = posn R i0 + (flat ((R.drop i0).take (skipM false (R.drop i0)))).length := by rw [hi, posn_add]
 have e2 : posn R (i + n) = posn R i + (flat ((R.drop i).take n)).length := posn_add R i n
 rw [toks_eq, if_neg, List.drop_drop, ← hi, ← e, ht]
 · simp only
   rw [List.drop_drop, ← e2]
 · rw [List.drop_drop, ← hi, List.drop_eq_nil_iff]
   omega
theorem Below.drewN_ {B : Nat} {a w : World} (h : Below B a w) : ∀ k, Below B a (w.drewN k)
 | 0 => h
 | k + 1 => (Below.drewN_ h k).drew
def ToksPost (w : World) (s : List UInt8) (e : Ending) (w' : World) : Prop :=
 ∃ A c, e = .returned (.tuple #[.slice A (tokens s).1.length c, .int .i64 ((tokens s).2.1 : Nat), .int .i64 ((tokens s).2.2 : Nat)]) ∧ w'.ownsRow w.heap.size 80 4 (.slice A (tokens s).1.length c) (tokens s).1.length (cellsT (tokens s).1) ∧ Below w.heap.size w w'
theorem tokens_long {s : List UInt8} (h : 2000 < s.length) : tokens s = ([], 0, 3) := by unfold tokens; rw [if_pos h]
theorem tokens_bad {s : List UInt8} {p : Nat} (h : ¬ 2000 < s.length) (ht : (toks (each s).1 0).2 = some p) : tokens s = ([], p, 2) := by unfold tokens; rw [if_neg h, ht]
theorem tokens_odd {s : List UInt8} (h : ¬ 2000 < s.length) (ht : (toks (each s).1 0).2 = none) (hb : (each s).2 = true) : tokens s = ([], (flat (each s).1).length, 2) := by unfold tokens; rw [if_neg h, ht]; simp only; rw [if_pos hb]
theorem tokens_good {s : List UInt8} (h : ¬ 2000 < s.length) (ht : (toks (each s).1 0).2 = none) (hb : (each s).2 = false) : tokens s = ((toks (each s).1 0).1 ++ [⟨4, [], 0, s.length⟩], s.length, 0) := by unfold tokens; rw [if_neg h, ht]; simp only; rw [if_neg (by rw [hb]; decide)]
theorem src_each (s : List UInt8) {bad : Int} (hb : if (each s).2 = true then bad = ((flat (each s).1).length : Nat) else bad = -1) : Src ⟨s.toArray⟩ (each s).1 bad := by
 obtain ⟨rest, e, h1, h2⟩ := each_flat s
 refine ⟨rest, by simpa using e, ?_⟩
 cases hh : (each s).2 with
 | true =>
   rw [hh, if_pos rfl] at hb
   exact Or.inr hb
 | false =>
   rw [hh, if_neg (by decide)] at hb
   exact Or.inl ⟨hb, h1 hh⟩
set_option maxHeartbeats 8000000 in
theorem tokens_any (s : List UInt8) (hs : s.length ≤ 140737488355328) (w : World) (hT : Tab8 w) : Calls Tryd.prog 39 #[.string ⟨s.toArray⟩] w (ToksPost w s) := by
 generalize hS : (⟨s.toArray⟩ : ByteArray) = S
 have hsz : S.size = s.length := by rw [← hS]; show s.toArray.size = _; simp
 by_cases hlong : 2000 < s.length
 · have HF := Lib.hid (tokens_long hlong)
   have g : decide ((2000 : Int) < (S.size : Int)) = true := decide_eq_true (by omega)
   clear hsz hS hT hlong
   go_enter Tryd.func39, Tryd.ntmps39
   go_wp2_with fail
   go_ret3
   unfold ToksPost
   rw [HF.out]
   exact ⟨none, 0, rfl, ⟨rfl, .inl ⟨rfl, rfl⟩⟩, Below.refl _ _⟩
 · have g : decide ((2000 : Int) < (S.size : Int)) = false := decide_eq_false (by omega)
   have HE := Lib.hid (fun W (hW : Below w.heap.size w W) => each_any s (by omega) W (Go.Proofs.Utf8Tabs_below hT hW))
   rw [hS] at HE
   have HSZ := Lib.hid hsz
   have HSS := Lib.hid hS
   have HNL := Lib.hid hlong
   clear hsz hS hT hlong
   go_enter Tryd.func39, Tryd.ntmps39
   go_upto_region 5 with (
    go_at_call 68
    refine (HE.out _ ((Below.refl _ _).alloc (Nat.le_refl _) _)).mono ?_
    intro e w2 hp
    obtain ⟨A, c, bad, rfl, hbad, hown, hb2⟩ := hp
    have HBAD := Lib.hid hbad
    have HOWN := Lib.hid hown
    have HB2 := Lib.hid hb2
    have hq2 : Blk w2 w.heap.size 103 #[.string S, .slice none 0 0, .int .i64 0, .int .i64 0] := (Fr.of_below hb2).blk (heap_alloc_new w _) (by simp)
    have k1 := hq2.cell 1
    have k2 := hq2.cell 2
    have k3 := hq2.frozen 1
    have k4 := hq2.frozen 2
    have HQ2 := Lib.hid hq2
    simp only [List.getElem?_toArray, List.getElem?_cons_zero, List.getElem?_cons_succ] at k1 k2
    clear hbad hown hb2 hq2)
   have HSM := Lib.hid (each_mem s)
   have hRl : (each s).1.length ≤ 2000 := by have := each_len s; have := HNL.out; omega
   have HSR := Lib.hid (src_each s HBAD.out)
   rw [HSS.out] at HSR
   refine wp_named (fun W3 => ∃ B, Rd W3 B w.heap.size S (each s).1 A c bad 0 ∧ Below w.heap.size w W3 ∧ B ≤ W3.heap.size ∧ w.heap.size + 1 ≤ B) ⟨((w2.setCell ⟨w.heap.size, 1, none⟩ (.slice A (each s).1.length c)).setCell ⟨w.heap.size, 2, none⟩ (.int .i64 bad)).heap.size, ?_, ?_, Nat.le_refl _, ?_⟩ ?_
   · have hfr : Fr (fun k => k = w.heap.size) w2 ((w2.setCell ⟨w.heap.size, 1, none⟩ (.slice A (each s).1.length c)).setCell ⟨w.heap.size, 2, none⟩ (.int .i64 bad)) := by
      refine Fr.setCell (Fr.setCell (Fr.refl _ _) (Or.inl ?_) _) (Or.inl ?_) _ <;> rfl
     refine rd_of_each (base := w.heap.size + 1) ?_ ?_ (Nat.lt_succ_self _) (fun r hr => (HSM.out r hr).1) hRl
     · have := (HQ2.out.set_ 1 (.slice A (each s).1.length c)).set_ 2 (.int .i64 bad)
       simpa using this
     · have ho : w2.ownsRow (w.heap.size + 1) 121 2 (.slice A (each s).1.length c) (each s).1.length (cellsR 0 (each s).1) := by simpa using HOWN.out
       exact hfr.own ho (fun k hk => by have := (ho.lt k hk).1; omega)
   · exact ((((Below.refl _ _).alloc (Nat.le_refl _) _).trans (HB2.out.mono (by simp))).setCell (Nat.le_refl _) _).setCell (Nat.le_refl _) _
   · have := HB2.out.size
     simp only [World.size_alloc, World.size_setCell] at this ⊢
     exact this
   rintro W3 ⟨B, hR3, hb3, hB3, hBw⟩
   have HR3 := Lib.hid hR3
   have HB3 := Lib.hid hb3
   clear hR3 hb3 k1 k2 k3 k4
   have HTB := Lib.hid (fun p ht => tokens_bad (p := p) HNL.out ht)
   have HTO := Lib.hid (fun ht hb => tokens_odd HNL.out ht hb)
   have HTG := Lib.hid (fun ht hb => tokens_good HNL.out ht hb)
   have HBD := HBAD
   clear HOWN HB2 HQ2 HBAD HE HSM
   generalize (each s).1 = R at *
   generalize (each s).2 = eb at *
   obtain ⟨i9, hi9, hz0, hz1, hz2⟩ := info_parts inf_tok
   go_wp2_with (
    go_at_call 69
    refine (skip_any HR3.out (Nat.zero_le _)).mono ?_
    intro e w4 hp
    obtain ⟨rfl, hL4⟩ := hp
    have HL4 := Lib.hid hL4
    clear hL4)
   have hB4 : B ≤ w4.heap.size := by have := HL4.out.1.size; omega
   have HBL4 := Lib.hid (HB3.out.trans (HL4.out.1.below (B := w.heap.size) (fun k hk => by omega) HB3.out.size))
   have HRD4 := Lib.hid HL4.out.2
   have hi4 : 0 + skipM false (R.drop 0) ≤ R.length := by have := skipM_le (R.drop 0) false; simpa using this
   go_loopg [6] (R.length - (0 + skipM false (R.drop 0))) (fun g lv wr => ∃ (i0 i : Nat) (acc : List Tok), Hid (i = i0 + skipM false (R.drop i0)) ∧ i ≤ R.length ∧ g = R.length - i ∧ Hid (toks R 0 = (acc ++ (toks (R.drop i0) (posn R i0)).1, (toks (R.drop i0) (posn R i0)).2)) ∧ acc.length ≤ i ∧
    Hid (Rd wr B w.heap.size S R A c bad i) ∧ Hid (wr.ownsRow B 80 4 lv acc.length (cellsT acc)) ∧ Hid (Below w.heap.size w wr) ∧ B ≤ wr.heap.size)
   case atStart => exact ⟨0, _, [], Lib.hid rfl, hi4, rfl, Lib.hid rfl, Nat.zero_le _, HRD4, Lib.hid ⟨rfl, .inl ⟨rfl, rfl⟩⟩, HBL4, hB4⟩
   case round =>
    obtain ⟨i0, i, acc, HI, hil, hg, HTK, hacc, HR, HO, HB, hBr⟩ := hrel
    have HG := Lib.hid hg
    clear hg
    obtain ⟨c0, c1, c2, c3⟩ := HR.out.cells
    have hi2 : i ≤ 2000 := by omega
    have ha2 : acc.length ≤ 2000 := by omega
    by_cases hlt : i < R.length
    · have g1 : decide ((i : Int) < (R.length : Int)) = true := decide_eq_true (by omega)
      have HAT0 := Lib.hid (fun W (hW : Rd W B w.heap.size S R A c bad i) => rdat_zero hW hi2)
      rw [show atAt R S.size i = posn R i by unfold atAt; rw [if_pos hlt]] at HAT0
      have hS2 : S.size ≤ 2000 := by have := HSZ.out; have := HNL.out; omega
      have HTN := Lib.hid (fun W (hW : Rd W B w.heap.size S R A c bad i) (hB : B ≤ W.heap.size) => token_any hW HSR.out hlt hS2 hB)
      go_wp2_with fail
      go_quiet (fail)
      go_upto_region 11 with (first
       | (
         go_at_call 70
         refine (HAT0.out _ (HR.out.drewN _)).mono ?_
         rintro e w5 ⟨rfl, n1, rfl⟩
         try simp only [World.drewN_drewN])
       | (
         go_at_call 71
         refine (HTN.out _ (HR.out.drewN _) hBr).mono ?_
         intro e w5 hp5
         obtain ⟨t, b, j, rfl, HL5, HT5⟩ := TokPost.open_ hp5
         clear hp5
         unfold tokV))
      have HB5 := Lib.hid ((Below.drewN_ HB.out _).trans (HL5.out.1.below (B := w.heap.size) (fun k hk => by omega) (Below.drewN_ HB.out _).size))
      have hB5 : B ≤ w5.heap.size := Nat.le_trans hBr HL5.out.1.size
      have HO5 := Lib.hid (HL5.out.1.own (HO.out) (fun k hk => by have := (HO.out.lt k hk).1; omega))
      cases b with
      | false =>
        have HF := Lib.hid (HTB.out (posn R i) (by
         rcases HT5.out with ⟨h, _⟩ | ⟨_, ht⟩
         · cases h
         · rw [HTK.out, toks_bad HI.out hlt ht]))
        go_wp2_with fail
        go_ret3
        unfold ToksPost
        rw [HF.out]
        exact ⟨none, 0, rfl, ⟨rfl, .inl ⟨rfl, rfl⟩⟩, HB5.out.alloc HB5.out.size _⟩
      | true =>
        obtain ⟨n, htk, rfl⟩ : ∃ n, tokR (posn R i) (R.drop i) = some (t, n) ∧ j = i + n := by
         rcases HT5.out with ⟨_, n, h1, h2⟩ | ⟨h, _⟩
         · exact ⟨n, h1, h2⟩
         · cases h
        have hnl := tokR_len htk
        rw [List.length_drop] at hnl
        have HST := Lib.hid (toks_step HI.out hlt htk)
        clear htk
        go_wp2_with (at_builtin; refine wpList_append_any _ rfl (.tmp 51) (.tmp 53) 68 rfl B 80 i9 _ 4 40 und_toks hi9 hz0 hz1 hz2 rfl (by decide) _ acc.length (cellsT acc) rfl ((HO5.out.alloc _).alloc _) (w5.heap.size + 1 + 1) (some ⟨w5.heap.size + 1, 0, none⟩) 1 1 [.int .i64 t.kind, .string ⟨t.text.toArray⟩, .int .i64 t.n, .int .i64 t.at_] rfl ?_ (tok_one _ _ _ _) (by simp only [maxLen]; omega) (by omega) (by simp <;> omega) ?_)
        · refine reads_four (t := 80) ?_
          exact heap_new_at (by simp)
        intro v7 w7 hown7 hg7 _
        have HO7 := Lib.hid (show w7.ownsRow B 80 4 v7 (acc ++ [t]).length (cellsT (acc ++ [t])) by
         rw [cellsT_snoc, List.length_append]
         exact hown7)
        have HR7 := Lib.hid (HL5.out.2.fr (((((Fr.refl _ _).alloc _).alloc _).grown hg7 (fun k hk => .inl (HO5.out.lt k hk).1))))
        have HB7 := Lib.hid (((HB5.out.alloc HB5.out.size _).alloc (by have := HB5.out.size; simp <;> omega) _).grown hg7 (by have := HB5.out.size; simp <;> omega) (fun k hk => by have := (HO5.out.lt k hk).1; omega))
        have hB7 : B ≤ w7.heap.size := by have := hg7.size; simp at this; omega
        clear hown7 hg7
        have hj7 : i + n ≤ R.length := by omega
        go_wp2_with (
         go_at_call 69
         refine (skip_any HR7.out hj7).mono ?_
         intro e w8 hp
         obtain ⟨rfl, hL8⟩ := hp
         have HL8 := Lib.hid hL8
         clear hL8)
        have hi8 : i + n + skipM false (R.drop (i + n)) ≤ R.length := by have := skipM_le (R.drop (i + n)) false; simp at this; omega
        go_roundg (R.length - (i + n + skipM false (R.drop (i + n))))
        case measure => have := HG.out; omega
        case rel =>
         exact ⟨i + n, _, acc ++ [t], Lib.hid rfl, hi8, rfl, Lib.hid (by rw [HTK.out, HST.out]; simp), by simp; omega, Lib.hid HL8.out.2,
          Lib.hid (HL8.out.1.own HO7.out (fun k hk => by have := (HO7.out.lt k hk).1; omega)), Lib.hid (HB7.out.trans (HL8.out.1.below (B := w.heap.size) (fun k hk => by omega) HB7.out.size)), Nat.le_trans hB7 HL8.out.1.size⟩
    · have g1 : decide ((i : Int) < (R.length : Int)) = false := decide_eq_false (by omega)
      have HN := Lib.hid (show toks R 0 = (acc, none) by rw [HTK.out, toks_none HI.out hlt]; simp)
      cases eb with
      | true =>
        have hbv : bad = ((flat R).length : Nat) := by have := HBD.out; rwa [if_pos rfl] at this
        subst hbv
        have HF := Lib.hid (HTO.out (by rw [HN.out]) rfl)
        have g2 : decide ((0 : Int) ≤ (((flat R).length : Nat) : Int)) = true := decide_eq_true (by omega)
        clear HBD
        go_wp2_with fail
        go_quiet (fail)
        go_wp2_with fail
        go_quiet (fail)
        go_wp2_with fail
        go_ret3
        unfold ToksPost
        rw [HF.out]
        refine ⟨none, 0, rfl, ⟨rfl, .inl ⟨rfl, rfl⟩⟩, ?_⟩
        repeat' (first | (with_reducible first | exact HB.out | apply Below.drewN_))
      | false =>
        have hbv : bad = -1 := by have := HBD.out; rwa [if_neg (by decide)] at this
        subst hbv
        have HF := Lib.hid (HTG.out (by rw [HN.out]) rfl)
        rw [HN.out] at HF
        clear HBD
        go_wp2_with fail
        go_quiet (fail)
        go_wp2_with (at_builtin; refine wpList_append_any _ rfl (.tmp 64) (.tmp 68) 68 rfl B 80 i9 _ 4 40 und_toks hi9 hz0 hz1 hz2 rfl (by decide) _ acc.length (cellsT acc) rfl (HO.out.alloc _) (wr.heap.size + 1) (some ⟨wr.heap.size, 0, none⟩) 1 1 [.int .i64 4, .string ⟨#[]⟩, .int .i64 0, .int .i64 (S.size : Nat)] rfl ?_ (tok_one _ _ _ _) (by simp only [maxLen]; omega) (by omega) (by simp <;> omega) ?_)
        · exact reads_four (t := 80) (heap_new_at (by simp))
        intro v7 w7 hown7 hg7 _
        have HO7 := Lib.hid (show w7.ownsRow B 80 4 v7 (acc ++ ([⟨4, [], 0, s.length⟩] : List Tok)).length (cellsT (acc ++ ([⟨4, [], 0, s.length⟩] : List Tok))) by
         rw [cellsT_snoc, List.length_append, ← HSZ.out]
         exact hown7)
        have HB7 := Lib.hid (((Below.drewN_ HB.out _).alloc (Below.drewN_ HB.out _).size _).grown hg7 (by have := HB.out.size; simp <;> omega) (fun k hk => by have := (HO.out.lt k hk).1; omega))
        clear hown7 hg7
        go_wp2_with fail
        go_ret3
        obtain ⟨A7, c7, rfl⟩ := own_slice HO7.out
        unfold ToksPost
        rw [HF.out]
        refine ⟨A7, c7, ?_, ?_, HB7.out⟩
        · rw [HSZ.out]
          rfl
        · refine ⟨HO7.out.1, ?_⟩
          rcases HO7.out.2 with h | ⟨g, cap, cur, h1, h2, h3⟩
          · exact .inl h
          · exact .inr ⟨g, cap, cur, h1, by omega, h3⟩
end Go.Proofs.YteikakoheibnjaaDoor
namespace Go.Proofs.YteikakoheibnjaaDoor
open Go Go.RowKit

set_option maxHeartbeats 2000000 in
theorem isName_any (s : List UInt8) (hs : s.length ≤ 140737488355328) (w : World) (hT : Tab8 w) : Calls Tryd.prog 64 #[.string ⟨s.toArray⟩] w fun e w' => e = .returned (.bool (nameB s)) ∧ Below w.heap.size w w' := by
 have HTK := Lib.hid (fun W hW => tokens_any s hs W (Go.Proofs.Utf8Tabs_below hT hW))
 unfold ToksPost at HTK
 have HV := Lib.hid (show nameB s = ((tokens s).2.2 == 0 && (match (tokens s).1 with | [t, _] => t.kind == 1 && t.text == s | _ => false)) by
  unfold nameB
  generalize tokens s = x
  obtain ⟨l, p, e⟩ := x
  rfl)
 clear hT
 generalize nameB s = V at *
 generalize tokens s = x at *
 obtain ⟨l, p, er⟩ := x
 simp only at HTK HV
 have ARM : True := trivial
 by_cases he : er = 0
 · subst he
   by_cases hl : l.length = 2
   · obtain ⟨t0, t1, rfl⟩ : ∃ t0 t1, l = [t0, t1] := by
      match l, hl with
      | [a, b], _ => exact ⟨a, b, rfl⟩
     have HV2 := Lib.hid (show (t0.kind == 1 && t0.text == s) = V by rw [HV.out]; rfl)
     clear HV hl
     by_cases hk : t0.kind = 1
     · have gk : ((t0.kind : Int) == 1) = true := by rw [hk]; rfl
       have HV3 := Lib.hid (show (t0.text == s) = V by rw [← HV2.out, hk]; rfl)
       clear HV2 hk
       go_enter Tryd.func64, Tryd.ntmps64
       go_wp2_with (
        go_at_call 39
        refine (HTK.out _ (Below.refl _ _)).mono ?_
        intro e w2 hp
        obtain ⟨A, c, rfl, hown, hb⟩ := hp
        have HB := Lib.hid hb
        obtain ⟨g, cap, hv, _, hlt⟩ := hown.form (by simp)
        have hA : A = some ⟨g, 0, none⟩ := by injection hv
        subst hA
        have k0 : w2.cell? ⟨g, 0, none⟩ = some (.int .i64 t0.kind) := hown.cells (g := g) rfl 0 _ rfl
        have k1 : w2.cell? ⟨g, 1, none⟩ = some (.string ⟨t0.text.toArray⟩) := hown.cells (g := g) rfl 1 _ rfl
        clear hown hb hv)
       go_ret
       exact ⟨congrArg (fun x : Bool => Ending.returned (.bool x)) HV3.out, HB.out⟩
     · have gk : ((t0.kind : Int) == 1) = false := by simp; omega
       have HV3 := Lib.hid (show false = V by rw [← HV2.out, beq_false_of_ne hk]; rfl)
       clear HV2 hk
       go_enter Tryd.func64, Tryd.ntmps64
       go_wp2_with (
        go_at_call 39
        refine (HTK.out _ (Below.refl _ _)).mono ?_
        intro e w2 hp
        obtain ⟨A, c, rfl, hown, hb⟩ := hp
        have HB := Lib.hid hb
        obtain ⟨g, cap, hv, _, hlt⟩ := hown.form (by simp)
        have hA : A = some ⟨g, 0, none⟩ := by injection hv
        subst hA
        have k0 : w2.cell? ⟨g, 0, none⟩ = some (.int .i64 t0.kind) := hown.cells (g := g) rfl 0 _ rfl
        have k1 : w2.cell? ⟨g, 1, none⟩ = some (.string ⟨t0.text.toArray⟩) := hown.cells (g := g) rfl 1 _ rfl
        clear hown hb hv)
       go_ret
       exact ⟨congrArg (fun x : Bool => Ending.returned (.bool x)) HV3.out, HB.out⟩
   · have HV2 := Lib.hid (show false = V by
      rw [HV.out]
      match l, hl with
      | [], _ => rfl
      | [_], _ => rfl
      | [a, b], h => exact absurd rfl h
      | _ :: _ :: _ :: _, _ => rfl)
     have gl : ((l.length : Int) == 2) = false := by simp; omega
     clear HV hl
     go_enter Tryd.func64, Tryd.ntmps64
     go_wp2_with (
      go_at_call 39
      refine (HTK.out _ (Below.refl _ _)).mono ?_
      intro e w2 hp
      obtain ⟨A, c, rfl, hown, hb⟩ := hp
      have HB := Lib.hid hb
      clear hown hb)
     go_ret
     exact ⟨congrArg (fun x : Bool => Ending.returned (.bool x)) HV2.out, HB.out⟩
 · have HV2 := Lib.hid (show false = V by rw [HV.out, beq_false_of_ne he]; rfl)
   have ge : ((er : Int) == 0) = false := by simp; omega
   clear HV he
   go_enter Tryd.func64, Tryd.ntmps64
   go_wp2_with (
    go_at_call 39
    refine (HTK.out _ (Below.refl _ _)).mono ?_
    intro e w2 hp
    obtain ⟨A, c, rfl, hown, hb⟩ := hp
    have HB := Lib.hid hb
    clear hown hb)
   go_ret
   exact ⟨congrArg (fun x : Bool => Ending.returned (.bool x)) HV2.out, HB.out⟩
end Go.Proofs.YteikakoheibnjaaDoor
namespace Go.Proofs.YteikakoheibnjaaDoor
open Go Go.RowKit

theorem depthL_take : ∀ (ks : List Node) (k : Nat) (hk : k < ks.length), depthL (ks.take (k + 1)) = max (depthL (ks.take k)) (depth ks[k])
 | x :: r, 0, _ => by simp [depthL]
 | x :: r, k + 1, hk => by
   have h := depthL_take r k (by simpa using hk)
   simp only [List.take_succ_cons, depthL, List.getElem_cons_succ] at h ⊢
   rw [h, Nat.max_assoc]
set_option maxHeartbeats 2000000 in
theorem deep_any : ∀ (t : Node) (A : Option Addr) (cap : Nat) (m : Nat) (w : World), NodeAt w w.heap.size t A cap → 1 ≤ m → m ≤ 31 →
  Calls Tryd.prog 86 #[nodeT t A cap, .int .i64 m] w fun e w' => e = .returned (.int .i64 (min (depth t) m : Nat)) ∧ Below w.heap.size w w' := by
 intro t
 induction t using Node.ind with
 | h o s n p ks ih =>
   intro A cap m w h hm hm2
   have HC := Lib.hid h
   have IH := Lib.hid ih
   have hl := h.len
   obtain ⟨hl1, hl2, _⟩ := hl
   clear h ih
   have HV := Lib.hid (depth_node o s n p ks)
   generalize depth (.node o s n p ks) = D at *
   simp only [nodeT, nodeW, Node.op, Node.name, Node.num, Node.pos, Node.kids]
   by_cases h1 : m = 1
   · subst h1
     have HR := Lib.hid (show 1 = min D 1 by rw [HV.out]; omega)
     go_enter Tryd.func86, Tryd.ntmps86
     go_wp2_with fail
     all_goals
      go_ret
      exact ⟨congrArg (fun x : Nat => Ending.returned (.int .i64 (x : Int))) HR.out, (Below.refl _ _).alloc (Nat.le_refl _) _⟩
   · have g1 : decide ((m : Int) ≤ 1) = false := decide_eq_false (by omega)
     obtain ⟨m, rfl⟩ : ∃ k, m = k + 1 := ⟨m - 1, by omega⟩
     have hm3 : 1 ≤ m := by omega
     have q1 : ((m + 1 : Nat) : Int) = (m : Int) + 1 := rfl
     rw [q1] at g1 ⊢
     clear q1 h1
     have hm4 : m ≤ 30 := by omega
     go_enter Tryd.func86, Tryd.ntmps86
     go_wp2_with fail
     go_loopg [5, 6] ks.length (fun r z i wr => ∃ k : Nat, k ≤ ks.length ∧ r = ks.length - k ∧ i = .int .i64 (k : Int) ∧ z = .int .i64 (min (depthL (ks.take k)) m : Nat) ∧ Below w.heap.size w wr ∧ wr.cell? ⟨w.heap.size, 4, none⟩ = some (.slice A ks.length cap))
     case atStart => exact ⟨0, Nat.zero_le _, rfl, rfl, by simp [depthL], (Below.refl _ _).alloc (Nat.le_refl _) _, (by go_keep)⟩
     case round =>
      obtain ⟨k, hk, hr, rfl, rfl, hb, hc4⟩ := hrel
      have HRr := Lib.hid hr
      have HB := Lib.hid hb
      have hs1 := hb.size
      clear hr hb
      generalize hz : min (depthL (ks.take k)) m = z at *
      have HZ := Lib.hid hz
      have hz2 : z ≤ 30 := by omega
      clear hz
      by_cases hlt : k < ks.length
      · obtain ⟨bb, off, A', cap', rfl, hlo, hcells, hkid⟩ := HC.out.kid k hlt
        have HS := Lib.hid (depthL_take ks k hlt)
        have HI := Lib.hid (fun (A' : Option Addr) (cap' : Nat) (w' : World) (hh : NodeAt w' w'.heap.size ks[k] A' cap') => IH.out ks[k] (List.getElem_mem hlt) A' cap' m w' (by first | exact hh) hm3 (by omega))
        generalize hx : ks[k] = x at *
        clear hx
        cases x with
        | node o' s' n' p' ks' =>
          obtain ⟨c0, c1, c2, c3, c4⟩ := kid_cells hlo hcells HB.out
          have HKD := Lib.hid hkid
          clear hcells hkid IH
          simp only [nodeT, nodeW, Node.op, Node.name, Node.num, Node.pos, Node.kids] at HI
          have g2 : decide ((k : Int) < (ks.length : Int)) = true := decide_eq_true (by omega)
          have HMX := Lib.hid (show max z (min (depth (.node o' s' n' p' ks')) m) = min (depthL (ks.take (k + 1))) m by rw [HS.out, ← HZ.out]; omega)
          have hy : min (depth (.node o' s' n' p' ks')) m ≤ 30 := by omega
          generalize min (depth (.node o' s' n' p' ks')) m = y at *
          go_wp2_with (
           go_at_call 86
           refine (HI.out A' cap' _ (HKD.out.later HB.out (by omega))).mono ?_
           rintro e w2 ⟨rfl, hb2⟩
           have HB2 := Lib.hid (HB.out.trans (hb2.mono hs1))
           have hc5 := (hb2.cell (p := ⟨w.heap.size, 4, none⟩) (World.block_lt_of_cell? _ _ hc4)).trans hc4
           clear hb2)
          all_goals
           go_roundg (ks.length - (k + 1))
           case measure => have := HRr.out; omega
           case rel => exact ⟨k + 1, by omega, rfl, by go_num, by rw [← HMX.out]; exact congrArg (Value.int .i64) (by omega), HB2.out, hc5⟩
      · have g2 : decide ((k : Int) < (ks.length : Int)) = false := decide_eq_false (by omega)
        have HG := Lib.hid (show z + 1 = min D (m + 1) by
         have := HZ.out
         rw [List.take_of_length_le (by omega)] at this
         rw [HV.out]
         omega)
        clear HZ
        go_wp2_with fail
        go_ret
        exact ⟨congrArg (fun x : Nat => Ending.returned (.int .i64 (x : Int))) HG.out, HB.out⟩
theorem Depth_any (t : Node) (A : Option Addr) (cap : Nat) (w : World) (h : NodeAt w w.heap.size t A cap) :
  Calls Tryd.prog 57 #[nodeT t A cap] w fun e w' => e = .returned (.int .i64 (min (depth t) 31 : Nat)) ∧ Below w.heap.size w w' := by
 have HI := Lib.hid (fun W hW => deep_any t A cap 31 W hW (by decide) (by decide))
 have HC := Lib.hid h
 clear h
 cases t with
 | node o s n p ks =>
   simp only [nodeT, nodeW, Node.op, Node.name, Node.num, Node.pos, Node.kids] at HI ⊢
   have HB1 := Lib.hid ((Below.refl w.heap.size w).alloc (Nat.le_refl _) (boxN o s n p ks.length A cap))
   go_enter Tryd.func57, Tryd.ntmps57
   go_wp2_with (
    go_at_call 86
    refine (HI.out _ (HC.out.later HB1.out (by simp))).mono ?_
    rintro e w2 ⟨rfl, hb2⟩)
   go_ret
   exact ⟨rfl, HB1.out.trans (hb2.mono (by simp))⟩
theorem Set_any (t : Node) (A : Option Addr) (cap : Nat) (w : World) :
  Calls Tryd.prog 61 #[nodeT t A cap] w fun e w' => e = .returned (.bool (setOp t.op)) ∧ Below w.heap.size w w' := by
 cases t with
 | node o s n p ks =>
   simp only [nodeT, nodeW, Node.op, Node.name, Node.num, Node.pos, Node.kids]
   have HB1 := Lib.hid ((Below.refl w.heap.size w).alloc (Nat.le_refl _) (boxN o s n p ks.length A cap))
   have HV := Lib.hid (show setOp o = (decide (o = [117, 110, 105, 111, 110]) || decide (o = [105, 110, 116, 101, 114]) || decide (o = [109, 105, 110, 117, 115])) from rfl)
   generalize setOp o = V at *
   by_cases h1 : o = [117, 110, 105, 111, 110]
   · subst h1
     have HF := Lib.hid (show true = V by rw [HV.out]; rfl)
     go_enter Tryd.func61, Tryd.ntmps61
     go_wp2_with fail
     go_ret
     exact ⟨congrArg (fun x : Bool => Ending.returned (.bool x)) HF.out, HB1.out⟩
   have g1 : (o == [117, 110, 105, 111, 110]) = false := beq_false_of_ne h1
   by_cases h2 : o = [105, 110, 116, 101, 114]
   · subst h2
     have HF := Lib.hid (show true = V by rw [HV.out]; rfl)
     clear h1 g1
     go_enter Tryd.func61, Tryd.ntmps61
     go_wp2_with fail
     go_ret
     exact ⟨congrArg (fun x : Bool => Ending.returned (.bool x)) HF.out, HB1.out⟩
   have g2 : (o == [105, 110, 116, 101, 114]) = false := beq_false_of_ne h2
   by_cases h3 : o = [109, 105, 110, 117, 115]
   · subst h3
     have HF := Lib.hid (show true = V by rw [HV.out]; rfl)
     clear h1 g1 h2 g2
     go_enter Tryd.func61, Tryd.ntmps61
     go_wp2_with fail
     go_ret
     exact ⟨congrArg (fun x : Bool => Ending.returned (.bool x)) HF.out, HB1.out⟩
   have g3 : (o == [109, 105, 110, 117, 115]) = false := beq_false_of_ne h3
   have HF := Lib.hid (show false = V by rw [HV.out, decide_eq_false h1, decide_eq_false h2, decide_eq_false h3]; rfl)
   clear h1 h2 h3
   go_enter Tryd.func61, Tryd.ntmps61
   go_wp2_with fail
   go_ret
   exact ⟨congrArg (fun x : Bool => Ending.returned (.bool x)) HF.out, HB1.out⟩
end Go.Proofs.YteikakoheibnjaaDoor
