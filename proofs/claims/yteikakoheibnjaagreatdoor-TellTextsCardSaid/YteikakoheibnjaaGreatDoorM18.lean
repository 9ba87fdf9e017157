/- Parts of the proof: LSign, Token, LToken. -/
import Derived.Test.YteikakoheibnjaaGreatDoorM15
import Derived.Test.YteikakoheibnjaaGreatDoorM17
import Derived.Test.YteikakoheibnjaaGreatDoorM6
namespace Go.Proofs.YteikakoheibnjaaGreatDoor
open Go Go.RowKit

theorem lsigns_any (w : World) : Calls Tryz.prog 123 #[] w fun e w' => e = .returned (.slice (some ⟨w.heap.size, 0, none⟩) 18 18) ∧ w' = w.alloc (.cells (strVs signL).toArray 9) := by
  go_enter Tryz.func123, Tryz.ntmps123
  go_wp2_with fail
  go_ret
  exact ⟨rfl, rfl⟩
/-- The runes are the text's; what lies behind begins no rune. -/
def SrcL (S : ByteArray) (R : List Ru) : Prop := ∃ rest, S.data.toList = flat R ++ rest ∧ (rest = [] ∨ 128 ≤ (rest.getD 0 0).toNat)
theorem sign_ascii : ∀ s ∈ signL, ∀ c ∈ s, c.toNat < 128 := by decide
theorem lpre_any {S : ByteArray} {R : List Ru} (hs : SrcL S R) (hR : ∀ r ∈ R, Snd r) (i : Nat) {s : List UInt8} (hm : s ∈ signL) (w : World) :
    Calls Tryz.prog 39 #[.string (S.extract (posn R i) S.size), .string ⟨s.toArray⟩] w fun e w' => e = .returned (.bool (isPre s (R.drop i))) ∧ w' = w := by
  obtain ⟨rest, e, hr⟩ := hs
  have h := Tryz.strings_HasPrefix (S.extract (posn R i) S.size) ⟨s.toArray⟩ w
  have hS : S = ⟨(flat R ++ rest).toArray⟩ := bytes_of (by rw [e])
  have h2 : S.extract (posn R i) S.size = ⟨(flat (R.drop i) ++ rest).toArray⟩ := by
    rw [hS, ext_drop, List.drop_append_of_le_length (posn_all R i), drop_flat]
  have h3 := pre_iff s (fun c hc => sign_ascii s hm c hc) (R.drop i) (fun r hr => hR r (List.mem_of_mem_drop hr)) rest hr
  rw [h2] at h ⊢
  rw [← h3]
  exact h
theorem lsign_post {w w' : World} {B q : Nat} {S : ByteArray} {R : List Ru} {A : Option Addr} {c : Nat} {bad : Int} {i : Nat} {s : List UInt8} (hi : i < R.length) (h1 : ¬ cls R[i].1 = 1) (h2 : ¬ cls R[i].1 = 2) (hf : signL.find? (isPre · (R.drop i)) = some s) (hL : LLeft w B q S R A c bad (i + s.length) w') :
    LTokPost w B q S R A c bad i (.returned (.tuple #[.agg #[.int .i64 3, .string ⟨s.toArray⟩, .int .i64 0, .int .i64 (posn R i : Nat)], .bool true])) w' := by
  have e : R.drop i = R[i] :: R.drop (i + 1) := List.drop_eq_getElem_cons hi
  have ht : tokR (posn R i) (R.drop i) = some (⟨3, s, 0, posn R i⟩, s.length) := by
    rw [e] at hf ⊢
    unfold tokR
    refine (if_neg h1).trans ((if_neg h2).trans ?_)
    rw [hf]
  exact Or.inl ⟨_, _, ht, rfl, hL⟩
theorem lsign_none {w w' : World} {B q : Nat} {S : ByteArray} {R : List Ru} {A : Option Addr} {c : Nat} {bad : Int} {i : Nat} (hi : i < R.length) (h1 : ¬ cls R[i].1 = 1) (h2 : ¬ cls R[i].1 = 2) (hf : signL.find? (isPre · (R.drop i)) = none) (hL : LLeft w B q S R A c bad i w') :
    LTokPost w B q S R A c bad i (.returned (.tuple #[.agg #[.int .i64 0, .string ⟨#[]⟩, .int .i64 0, .int .i64 0], .bool false])) w' := by
  have e : R.drop i = R[i] :: R.drop (i + 1) := List.drop_eq_getElem_cons hi
  have ht : tokR (posn R i) (R.drop i) = none := by
    rw [e] at hf ⊢
    unfold tokR
    refine (if_neg h1).trans ((if_neg h2).trans ?_)
    rw [hf]
  exact Or.inr ⟨ht, ⟨0, [], 0, 0⟩, _, rfl, hL⟩
set_option maxRecDepth 100000 in
set_option maxHeartbeats 4000000 in
theorem lsign_any {w : World} {B q : Nat} {S : ByteArray} {R : List Ru} {A : Option Addr} {c : Nat} {bad : Int} {i : Nat} (h : Lxr w B q S R A c bad i) (hs : SrcL S R) (hsnd : ∀ r ∈ R, Snd r) (hi : i < R.length) (h1 : ¬ cls R[i].1 = 1) (h2 : ¬ cls R[i].1 = 2) (hBw : B ≤ w.heap.size) :
    Calls Tryz.prog 106 #[.pointer (some ⟨q, 0, none⟩)] w (LTokPost w B q S R A c bad i) := by
  have hl := h.len
  have hql := h.blk.lt
  have hqB := h.qlt
  have HR0 := Lib.hid h
  have HH := Lib.hid (And.intro h1 h2)
  have HAT := Lib.hid (fun W (hW : Lxr W B q S R A c bad i) => lat_any hW (Nat.le_of_lt hi))
  have HPR := Lib.hid (fun s (hm : s ∈ signL) W => lpre_any hs hsnd i hm W)
  have hps : ((posn R i : Nat) : Int) ≤ (S.size : Int) := by
    obtain ⟨rest, e, _⟩ := hs
    have h3 : S.size = (flat R ++ rest).length := by rw [← e, Array.length_toList]; rfl
    have h4 := posn_all R i
    rw [List.length_append] at h3
    omega
  have HW := Lib.hid (fun W => lsigns_any W)
  clear h hs hsnd h1 h2
  go_enter Tryz.func106, Tryz.ntmps106
  go_wp2_with (
    go_at_call 123
    refine (HW.out _).mono ?_
    rintro e w2 ⟨rfl, rfl⟩)
  have hW0 : LLeft w B q S R A c bad i ((w.alloc (.cells #[.int .i64 0, .string ⟨#[]⟩, .int .i64 0, .int .i64 0] 78)).alloc (.cells (strVs signL).toArray 9)) := by
    repeat' (first | (with_reducible exact LLeft.refl HR0.out) | (with_reducible refine LLeft.alloc ?_ _))
  have hT0 : Blk ((w.alloc (.cells #[.int .i64 0, .string ⟨#[]⟩, .int .i64 0, .int .i64 0] 78)).alloc (.cells (strVs signL).toArray 9)) w.heap.size 78 #[.int .i64 0, .string ⟨#[]⟩, .int .i64 0, .int .i64 0] := BlkN w _ _ 0
  have hS0 : Blk ((w.alloc (.cells #[.int .i64 0, .string ⟨#[]⟩, .int .i64 0, .int .i64 0] 78)).alloc (.cells (strVs signL).toArray 9)) (w.heap.size + 1) 9 (strVs signL).toArray := BlkS w _ _ 0
  have hZ0 : w.heap.size + 1 + 1 ≤ ((w.alloc (.cells #[.int .i64 0, .string ⟨#[]⟩, .int .i64 0, .int .i64 0] 78)).alloc (.cells (strVs signL).toArray 9)).heap.size := by simp
  change Code.wp _ _ _ _ ((w.alloc (.cells #[.int .i64 0, .string ⟨#[]⟩, .int .i64 0, .int .i64 0] 78)).alloc (.cells (strVs signL).toArray 9))
  generalize (w.alloc (.cells #[.int .i64 0, .string ⟨#[]⟩, .int .i64 0, .int .i64 0] 78)).alloc (.cells (strVs signL).toArray 9) = W0 at *
  have HW0 := Lib.hid hW0
  have HT0 := Lib.hid hT0
  have HS0 := Lib.hid hS0
  have HL18 := Lib.hid (show signL.length = 18 from rfl)
  generalize hP : posn R i = p at *
  have HPP := Lib.hid hP
  clear hW0 hT0 hS0 hP
  go_loopg [9] 18 (fun g jv wr => ∃ j m : Nat, j ≤ 18 ∧ g = 18 - j ∧ jv = .int .i64 (j : Int) ∧ Hid (∀ k, (hk : k < signL.length) → k < j → isPre signL[k] (R.drop i) = false) ∧ wr = W0.drewN m)
  case atStart => exact ⟨0, 0, Nat.zero_le _, rfl, rfl, Lib.hid (fun k _ h => absurd h (by omega)), rfl⟩
  case round =>
    obtain ⟨j, m, hj, hg, rfl, HN, rfl⟩ := hrel
    have HG := Lib.hid hg
    clear hg
    by_cases hlt : j < 18
    · have hjl : j < signL.length := by rw [HL18.out]; exact hlt
      have x0 : W0.cell? ⟨w.heap.size + 1, j, none⟩ = some (.string ⟨(signL[j]'hjl).toArray⟩) := by rw [HS0.out.cell j, List.getElem?_toArray]; exact strVs_at signL j hjl
      have hxl := sign_bytes (signL[j]'hjl) (List.getElem_mem hjl)
      have HFA := Lib.hid (fun hp => find_at (isPre · (R.drop i)) signL j hjl (fun k hk => HN.out k (by omega) hk) hp)
      have HNX := Lib.hid (fun (hp : isPre (signL[j]'hjl) (R.drop i) = false) k (hk : k < signL.length) (hkj : k < j + 1) => (show isPre signL[k] (R.drop i) = false by
        rcases Nat.lt_or_ge k j with h | h
        · exact HN.out k hk h
        · obtain rfl : k = j := by omega
          exact hp))
      have HPX := Lib.hid (fun W => HPR.out (signL[j]'hjl) (List.getElem_mem hjl) W)
      generalize signL[j]'hjl = x at *
      have g1 : decide ((j : Int) < 18) = true := decide_eq_true (by omega)
      have hj0 : (0 : Int) ≤ (j : Int) := by omega
      have hj1 : (j : Int) < 18 := by omega
      obtain ⟨c0, c1, c2, c3⟩ := HW0.out.2.cells
      cases hok : isPre x (R.drop i) with
      | false =>
        have HX := Lib.hid (HNX.out hok)
        rw [hok] at HPX
        clear hok HFA
        go_wp2_with fail
        go_quiet ((first | (go_at_call 83; exact quiet_add (HAT.out _ (HW0.out.2.drewN _))) | (go_at_call 39; exact quiet_add_same (HPX.out _))))
        go_wp2_with fail
        go_roundg (18 - (j + 1))
        case measure => have := HG.out; omega
        case rel => exact ⟨j + 1, _, by omega, rfl, by go_num, Lib.hid HX.out, rfl⟩
      | true =>
        have HF := Lib.hid (HFA.out hok)
        rw [hok] at HPX
        clear hok HFA HNX
        have hxs : ByteArray.size ⟨x.toArray⟩ = x.length := by show x.toArray.size = _; simp
        go_wp2_with fail
        go_quiet ((first | (go_at_call 83; exact quiet_add (HAT.out _ (HW0.out.2.drewN _))) | (go_at_call 39; exact quiet_add_same (HPX.out _))))
        clear x0 c0 c1 c2 c3 HPX
        have hD : ∀ (n : Nat) (o : Obj), (W0.drewN n).alloc o = (W0.alloc o).drewN n := fun _ _ => rfl
        go_upto_region 6 with (
          go_at_call 83
          refine (HAT.out _ (HW0.out.2.drewN _)).mono ?_
          rintro e w2 ⟨rfl, n1, rfl⟩
          try simp only [World.drewN_drewN])
        clear hD
        refine wp_named (fun W2 => LLeft w B q S R A c bad i W2 ∧ Blk W2 W0.heap.size 78 #[.int .i64 3, .string ⟨x.toArray⟩, .int .i64 0, .int .i64 (p : Nat)] ∧ Blk W2 w.heap.size 78 #[.int .i64 0, .string ⟨#[]⟩, .int .i64 0, .int .i64 0]) ⟨?_, ?_, ?_⟩ ?_
        · repeat' (first | (with_reducible exact HW0.out) | (with_reducible refine LLeft.far ?_ hBw ?_ _) | (with_reducible refine LLeft.drewN ?_ _) | (with_reducible refine LLeft.drew ?_) | (with_reducible refine LLeft.alloc ?_ _) | omega | (simp <;> omega))
        · repeat' (first | (with_reducible exact lblkNew _ _ _) | (with_reducible refine ltokZ ?_ _ _ _ _) | (with_reducible refine lblkN ?_) | (with_reducible refine lblkD ?_) | (with_reducible refine lblkNewAt ?_) | (with_reducible refine Blk.other ?_ ?_ _) | (with_reducible refine lblkA ?_ _) | omega | (simp; done) | (simp <;> omega))
        · repeat' (first | (with_reducible exact HT0.out) | (with_reducible refine Blk.other ?_ ?_ _) | (with_reducible refine lblkN ?_) | (with_reducible refine lblkD ?_) | (with_reducible refine lblkA ?_ _) | omega | (simp; done) | (simp <;> omega))
        rintro W2 ⟨hL2, hT2, hB2⟩
        have hT3 : W0.heap.size ≠ w.heap.size ∧ w.heap.size < W0.heap.size := by omega
        have hTW := hT2.lt
        generalize W0.heap.size = T2 at *
        have HL2 := Lib.hid hL2
        have HT2 := Lib.hid hT2
        have HB2 := Lib.hid hB2
        obtain ⟨c0, c1, c2, c3⟩ := hL2.2.cells
        have f3 := hL2.2.blk.frozen 3
        obtain ⟨d0, d1, d2, d3⟩ := lblk4 hT2
        obtain ⟨r0, r1, r2, r3⟩ := lblk4 hB2
        obtain ⟨s0, s1, s2, s3⟩ := lblk4f hB2
        clear hL2 hT2 hB2
        have q1 : IntKind.i64.wrap ((i : Int) + (x.length : Int)) = (i : Int) + (x.length : Int) := IntWalk.i64_in _ ⟨by omega, by omega⟩
        go_wp2_with fail
        refine bodyPost_ret (res_tok (by rfl) _ _ w.heap.size #[.int .i64 3, .string ⟨x.toArray⟩, .int .i64 0, .int .i64 (p : Nat)] rfl (ltokZ (Blk.other HB2.out (by simp <;> omega) _) _ _ _ _) rfl) rfl ?_
        rw [← HPP.out]
        refine lsign_post hi HH.out.1 HH.out.2 HF.out ?_
        repeat' (first | (with_reducible exact HL2.out) | (with_reducible refine LLeft.to (i := i) ?_ _ _ ?_) | (with_reducible refine LLeft.drewN ?_ _) | (with_reducible refine LLeft.drew ?_) | (with_reducible refine LLeft.far ?_ hBw ?_ _) | omega | (simp <;> omega))
    · have g1 : decide ((j : Int) < 18) = false := decide_eq_false (by omega)
      have HF := Lib.hid (find_not (isPre · (R.drop i)) signL (fun k hk => HN.out k hk (by have := HL18.out; omega)))
      obtain ⟨r0, r1, r2, r3⟩ := lblk4 HT0.out
      obtain ⟨s0, s1, s2, s3⟩ := lblk4f HT0.out
      go_wp2_with fail
      refine bodyPost_ret (res_tok (by rfl) _ _ w.heap.size #[.int .i64 0, .string ⟨#[]⟩, .int .i64 0, .int .i64 0] rfl (ltokZ (lblkN HT0.out) _ _ _ _) rfl) rfl ?_
      refine lsign_none hi HH.out.1 HH.out.2 HF.out ?_
      repeat' (first | (with_reducible exact HW0.out) | (with_reducible refine LLeft.drewN ?_ _) | (with_reducible refine LLeft.far ?_ hBw ?_ _) | omega | (simp <;> omega))
end Go.Proofs.YteikakoheibnjaaGreatDoor
namespace Go.Proofs.YteikakoheibnjaaGreatDoor
open Go Go.RowKit

section
variable {w W W' : World} {B q : Nat} {S : ByteArray} {R : List Ru} {A : Option Addr} {c : Nat} {bad : Int} {i j : Nat}
theorem Left.trans (h : Left w B q S R A c bad i W) (h2 : Left W B q S R A c bad j W') : Left w B q S R A c bad j W' := ⟨h.1.trans h2.1, h2.2⟩
/-- What a token's reading tells, in one form. -/
def TokIs (R : List Ru) (i : Nat) (t : Tok) (b : Bool) (j : Nat) : Prop := (b = true ∧ ∃ n, tokR (posn R i) (R.drop i) = some (t, n) ∧ j = i + n) ∨ (b = false ∧ tokR (posn R i) (R.drop i) = none)
theorem TokPost.open_ {e : Ending} (h : TokPost w B q S R A c bad i e W) : ∃ (t : Tok) (b : Bool) (j : Nat), e = .returned (.tuple #[tokV t, .bool b]) ∧ Hid (Left w B q S R A c bad j W) ∧ Hid (TokIs R i t b j) := by
  rcases h with ⟨t, n, ht, he, hL⟩ | ⟨ht, t, j, he, hL⟩
  · exact ⟨t, true, i + n, he, Lib.hid hL, Lib.hid (Or.inl ⟨rfl, n, ht, rfl⟩)⟩
  · exact ⟨t, false, j, he, Lib.hid hL, Lib.hid (Or.inr ⟨rfl, ht⟩)⟩
theorem TokPost.shut {t : Tok} {b : Bool} (h : TokIs R i t b j) (hL : Left w B q S R A c bad j W) : TokPost w B q S R A c bad i (.returned (.tuple #[tokV t, .bool b])) W := by
  rcases h with ⟨rfl, n, ht, rfl⟩ | ⟨rfl, ht⟩
  · exact Or.inl ⟨t, n, ht, rfl, hL⟩
  · exact Or.inr ⟨ht, t, j, rfl, hL⟩
end
set_option maxHeartbeats 4000000 in
theorem token_any {w : World} {B q : Nat} {S : ByteArray} {R : List Ru} {A : Option Addr} {c : Nat} {bad : Int} {i : Nat} (h : Rd w B q S R A c bad i) (hs : Src S R bad) (hi : i < R.length) (hS : S.size ≤ 2000) (hBw : B ≤ w.heap.size) :
    Calls Tryz.prog 88 #[.pointer (some ⟨q, 0, none⟩)] w (TokPost w B q S R A c bad i) := by
  have hl := h.len
  have hqB := h.qlt
  have hi2 : i ≤ 2000 := by omega
  have HR0 := Lib.hid h
  have HSR := Lib.hid hs
  have HCL := Lib.hid (fun W (hW : Rd W B q S R A c bad i) => class_zero hW hi2)
  rw [show clsAt R i = (cls R[i].1 : Nat) by unfold clsAt; rw [dif_pos hi]] at HCL
  have HNM := Lib.hid (fun (hc : cls R[i].1 = 1) W (hW : Rd W B q S R A c bad i) hB => name_any hW HSR.out hi hc hS hB)
  have HNB := Lib.hid (fun (hc : cls R[i].1 = 2) W (hW : Rd W B q S R A c bad i) hB => number_any hW hi hc hB)
  have HSG := Lib.hid (fun (h1 : ¬ cls R[i].1 = 1) (h2 : ¬ cls R[i].1 = 2) W (hW : Rd W B q S R A c bad i) hB => sign_any hW hi h1 h2 hB)
  clear h hs
  generalize cls R[i].1 = V at *
  have HW0 := Lib.hid (fun n => ((Left.refl HR0.out).alloc (.cells #[.int .i64 0, .string ⟨#[]⟩, .int .i64 0, .int .i64 0] 78)).drewN n)
  have HT0 := Lib.hid (fun n => (show Blk ((w.alloc (.cells #[.int .i64 0, .string ⟨#[]⟩, .int .i64 0, .int .i64 0] 78)).drewN n) w.heap.size 78 #[.int .i64 0, .string ⟨#[]⟩, .int .i64 0, .int .i64 0] from heap_alloc_new w _))
  by_cases h1 : V = 1
  · subst h1
    have HN := Lib.hid (HNM.out rfl)
    clear HNM HNB HSG
    go_enter Tryz.func88, Tryz.ntmps88
    go_wp2_with (first
      | (
        go_at_call 107
        refine (HCL.out _ (HR0.out.alloc _)).mono ?_
        rintro e w2 ⟨rfl, n1, rfl⟩)
      | (
        go_at_call 109
        refine (HN.out _ (HW0.out _).2 (by simp <;> omega)).mono ?_
        intro e w3 hp3
        obtain ⟨t, b, j, rfl, HL3, HT3⟩ := TokPost.open_ hp3
        have hB3 := HL3.out.1.blk (HT0.out _) (by omega)
        obtain ⟨r0, r1, r2, r3⟩ : w3.cell? ⟨w.heap.size, 0, none⟩ = some (.int .i64 0) ∧ w3.cell? ⟨w.heap.size, 1, none⟩ = some (.string ⟨#[]⟩) ∧ w3.cell? ⟨w.heap.size, 2, none⟩ = some (.int .i64 0) ∧ w3.cell? ⟨w.heap.size, 3, none⟩ = some (.int .i64 0) := ⟨hB3.cell 0, hB3.cell 1, hB3.cell 2, hB3.cell 3⟩
        have s0 := hB3.frozen 0
        have s1 := hB3.frozen 1
        have s2 := hB3.frozen 2
        have s3 := hB3.frozen 3
        have HB3 := Lib.hid hB3
        clear hB3 hp3
        unfold tokV))
    refine bodyPost_ret (res_tok (by rfl) _ _ w.heap.size #[.int .i64 t.kind, .string ⟨t.text.toArray⟩, .int .i64 t.n, .int .i64 t.at_] rfl (tok4 HB3.out _ _ _ _) rfl) rfl ?_
    refine TokPost.shut (t := t) HT3.out ?_
    have HLL := Lib.hid ((HW0.out _).trans HL3.out)
    repeat' (first | (with_reducible exact HLL.out) | (with_reducible refine Left.far ?_ hBw ?_ _) | omega | (simp <;> omega))
  · have g1 : ((V : Int) == 1) = false := by simp; omega
    by_cases h2 : V = 2
    · subst h2
      have HN := Lib.hid (HNB.out rfl)
      clear h1
      clear HNM HNB HSG
      go_enter Tryz.func88, Tryz.ntmps88
      go_wp2_with (first
        | (
          go_at_call 107
          refine (HCL.out _ (HR0.out.alloc _)).mono ?_
          rintro e w2 ⟨rfl, n1, rfl⟩)
        | (
          go_at_call 110
          refine (HN.out _ (HW0.out _).2 (by simp <;> omega)).mono ?_
          intro e w3 hp3
          obtain ⟨t, b, j, rfl, HL3, HT3⟩ := TokPost.open_ hp3
          have hB3 := HL3.out.1.blk (HT0.out _) (by omega)
          obtain ⟨r0, r1, r2, r3⟩ : w3.cell? ⟨w.heap.size, 0, none⟩ = some (.int .i64 0) ∧ w3.cell? ⟨w.heap.size, 1, none⟩ = some (.string ⟨#[]⟩) ∧ w3.cell? ⟨w.heap.size, 2, none⟩ = some (.int .i64 0) ∧ w3.cell? ⟨w.heap.size, 3, none⟩ = some (.int .i64 0) := ⟨hB3.cell 0, hB3.cell 1, hB3.cell 2, hB3.cell 3⟩
          have s0 := hB3.frozen 0
          have s1 := hB3.frozen 1
          have s2 := hB3.frozen 2
          have s3 := hB3.frozen 3
          have HB3 := Lib.hid hB3
          clear hB3 hp3
          unfold tokV))
      refine bodyPost_ret (res_tok (by rfl) _ _ w.heap.size #[.int .i64 t.kind, .string ⟨t.text.toArray⟩, .int .i64 t.n, .int .i64 t.at_] rfl (tok4 HB3.out _ _ _ _) rfl) rfl ?_
      refine TokPost.shut (t := t) HT3.out ?_
      have HLL := Lib.hid ((HW0.out _).trans HL3.out)
      repeat' (first | (with_reducible exact HLL.out) | (with_reducible refine Left.far ?_ hBw ?_ _) | omega | (simp <;> omega))
    · have g2 : ((V : Int) == 2) = false := by simp; omega
      have HN := Lib.hid (HSG.out h1 h2)
      clear h1 h2
      clear HNM HNB HSG
      go_enter Tryz.func88, Tryz.ntmps88
      go_wp2_with (first
        | (
          go_at_call 107
          refine (HCL.out _ (HR0.out.alloc _)).mono ?_
          rintro e w2 ⟨rfl, n1, rfl⟩)
        | (
          go_at_call 111
          refine (HN.out _ (HW0.out _).2 (by simp <;> omega)).mono ?_
          intro e w3 hp3
          obtain ⟨t, b, j, rfl, HL3, HT3⟩ := TokPost.open_ hp3
          have hB3 := HL3.out.1.blk (HT0.out _) (by omega)
          obtain ⟨r0, r1, r2, r3⟩ : w3.cell? ⟨w.heap.size, 0, none⟩ = some (.int .i64 0) ∧ w3.cell? ⟨w.heap.size, 1, none⟩ = some (.string ⟨#[]⟩) ∧ w3.cell? ⟨w.heap.size, 2, none⟩ = some (.int .i64 0) ∧ w3.cell? ⟨w.heap.size, 3, none⟩ = some (.int .i64 0) := ⟨hB3.cell 0, hB3.cell 1, hB3.cell 2, hB3.cell 3⟩
          have s0 := hB3.frozen 0
          have s1 := hB3.frozen 1
          have s2 := hB3.frozen 2
          have s3 := hB3.frozen 3
          have HB3 := Lib.hid hB3
          clear hB3 hp3
          unfold tokV))
      refine bodyPost_ret (res_tok (by rfl) _ _ w.heap.size #[.int .i64 t.kind, .string ⟨t.text.toArray⟩, .int .i64 t.n, .int .i64 t.at_] rfl (tok4 HB3.out _ _ _ _) rfl) rfl ?_
      refine TokPost.shut (t := t) HT3.out ?_
      have HLL := Lib.hid ((HW0.out _).trans HL3.out)
      repeat' (first | (with_reducible exact HLL.out) | (with_reducible refine Left.far ?_ hBw ?_ _) | omega | (simp <;> omega))
end Go.Proofs.YteikakoheibnjaaGreatDoor
namespace Go.Proofs.YteikakoheibnjaaGreatDoor
open Go Go.RowKit

section
variable {w W W' : World} {B q : Nat} {S : ByteArray} {R : List Ru} {A : Option Addr} {c : Nat} {bad : Int} {i j : Nat}
theorem LTokPost.open_ {e : Ending} (h : LTokPost w B q S R A c bad i e W) : ∃ (t : Tok) (b : Bool) (j : Nat), e = .returned (.tuple #[tokV t, .bool b]) ∧ Hid (LLeft w B q S R A c bad j W) ∧ Hid (TokIs R i t b j) := by
  rcases h with ⟨t, n, ht, he, hL⟩ | ⟨ht, t, j, he, hL⟩
  · exact ⟨t, true, i + n, he, Lib.hid hL, Lib.hid (Or.inl ⟨rfl, n, ht, rfl⟩)⟩
  · exact ⟨t, false, j, he, Lib.hid hL, Lib.hid (Or.inr ⟨rfl, ht⟩)⟩
theorem LTokPost.shut {t : Tok} {b : Bool} (h : TokIs R i t b j) (hL : LLeft w B q S R A c bad j W) : LTokPost w B q S R A c bad i (.returned (.tuple #[tokV t, .bool b])) W := by
  rcases h with ⟨rfl, n, ht, rfl⟩ | ⟨rfl, ht⟩
  · exact Or.inl ⟨t, n, ht, rfl, hL⟩
  · exact Or.inr ⟨ht, t, j, rfl, hL⟩
end
theorem sign_four : ∀ s ∈ signL, s ≠ [] ∧ cls (s.headD 0).toNat = 4 := by decide
theorem tokR_else {R : List Ru} {i : Nat} (hi : i < R.length) (h1 : ¬ cls R[i].1 = 1) (h2 : ¬ cls R[i].1 = 2) (h4 : ¬ cls R[i].1 = 4) : tokR (posn R i) (R.drop i) = none := by
  have e : R.drop i = R[i] :: R.drop (i + 1) := List.drop_eq_getElem_cons hi
  have hf : signL.find? (isPre · (R.drop i)) = none := by
    rw [List.find?_eq_none]
    intro s hs hp
    obtain ⟨hne, hc⟩ := sign_four s hs
    cases s with
    | nil => exact hne rfl
    | cons a t =>
      rw [e] at hp
      unfold isPre at hp
      rw [Bool.and_eq_true, beq_iff_eq] at hp
      apply h4
      rw [hp.1]
      exact hc
  rw [sign_yes hi h1 h2, hf]
set_option maxHeartbeats 4000000 in
theorem ltoken_any {w : World} {B q : Nat} {S : ByteArray} {R : List Ru} {A : Option Addr} {c : Nat} {bad : Int} {i : Nat} (h : Lxr w B q S R A c bad i) (hs : Src S R bad) (hsl : SrcL S R) (hsnd : ∀ r ∈ R, Snd r) (hi : i < R.length) (hBw : B ≤ w.heap.size) :
    Calls Tryz.prog 84 #[.pointer (some ⟨q, 0, none⟩)] w (LTokPost w B q S R A c bad i) := by
  have hl := h.len
  have hqB := h.qlt
  have hi2 : i ≤ 2000 := by omega
  have HR0 := Lib.hid h
  have HCL := Lib.hid (fun W (hW : Lxr W B q S R A c bad i) => lclassof_any hW hi2)
  rw [show clsAt R i = (cls R[i].1 : Nat) by unfold clsAt; rw [dif_pos hi]] at HCL
  have HNM := Lib.hid (fun (hc : cls R[i].1 = 1) W (hW : Lxr W B q S R A c bad i) hB => lname_any hW hs hsnd hi hc hB)
  have HNB := Lib.hid (fun (hc : cls R[i].1 = 2) W (hW : Lxr W B q S R A c bad i) hB => lnumber_any hW hi hc hB)
  have HSG := Lib.hid (fun (h1 : ¬ cls R[i].1 = 1) (h2 : ¬ cls R[i].1 = 2) W (hW : Lxr W B q S R A c bad i) hB => lsign_any hW hsl hsnd hi h1 h2 hB)
  have HEL := Lib.hid (fun h1 h2 h4 => tokR_else hi h1 h2 h4)
  clear h hs hsl hsnd
  generalize cls R[i].1 = V at *
  have HW0 := Lib.hid (fun n => ((LLeft.refl HR0.out).alloc (.cells #[.int .i64 0, .string ⟨#[]⟩, .int .i64 0, .int .i64 0] 78)).drewN n)
  have HT0 := Lib.hid (fun n => (show Blk ((w.alloc (.cells #[.int .i64 0, .string ⟨#[]⟩, .int .i64 0, .int .i64 0] 78)).drewN n) w.heap.size 78 #[.int .i64 0, .string ⟨#[]⟩, .int .i64 0, .int .i64 0] from heap_alloc_new w _))
  by_cases h1 : V = 1
  · subst h1
    have HN := Lib.hid (HNM.out rfl)
    clear HNM HNB HSG HEL
    go_enter Tryz.func84, Tryz.ntmps84
    go_wp2_with (first
      | (
        go_at_call 102
        refine (HCL.out _ (HR0.out.alloc _)).mono ?_
        rintro e w2 ⟨rfl, n1, rfl⟩)
      | (
        go_at_call 104
        refine (HN.out _ (HW0.out _).2 (by simp <;> omega)).mono ?_
        intro e w3 hp3
        obtain ⟨t, b, j, rfl, HL3, HT3⟩ := LTokPost.open_ hp3
        have hB3 := HL3.out.1.blk (HT0.out _) (by omega)
        obtain ⟨r0, r1, r2, r3⟩ := lblk4 hB3
        obtain ⟨s0, s1, s2, s3⟩ := lblk4f hB3
        have HB3 := Lib.hid hB3
        clear hB3 hp3
        unfold tokV))
    refine bodyPost_ret (res_tok (by rfl) _ _ w.heap.size #[.int .i64 t.kind, .string ⟨t.text.toArray⟩, .int .i64 t.n, .int .i64 t.at_] rfl (ltokZ HB3.out _ _ _ _) rfl) rfl ?_
    refine LTokPost.shut (t := t) HT3.out ?_
    have HLL := Lib.hid ((HW0.out _).trans HL3.out)
    repeat' (first | (with_reducible exact HLL.out) | (with_reducible refine LLeft.far ?_ hBw ?_ _) | omega | (simp <;> omega))
  · have g1 : ((V : Int) == 1) = false := by simp; omega
    by_cases h2 : V = 2
    · subst h2
      have HN := Lib.hid (HNB.out rfl)
      clear h1
      clear HNM HNB HSG HEL
      go_enter Tryz.func84, Tryz.ntmps84
      go_wp2_with (first
        | (
          go_at_call 102
          refine (HCL.out _ (HR0.out.alloc _)).mono ?_
          rintro e w2 ⟨rfl, n1, rfl⟩)
        | (
          go_at_call 105
          refine (HN.out _ (HW0.out _).2 (by simp <;> omega)).mono ?_
          intro e w3 hp3
          obtain ⟨t, b, j, rfl, HL3, HT3⟩ := LTokPost.open_ hp3
          have hB3 := HL3.out.1.blk (HT0.out _) (by omega)
          obtain ⟨r0, r1, r2, r3⟩ := lblk4 hB3
          obtain ⟨s0, s1, s2, s3⟩ := lblk4f hB3
          have HB3 := Lib.hid hB3
          clear hB3 hp3
          unfold tokV))
      refine bodyPost_ret (res_tok (by rfl) _ _ w.heap.size #[.int .i64 t.kind, .string ⟨t.text.toArray⟩, .int .i64 t.n, .int .i64 t.at_] rfl (ltokZ HB3.out _ _ _ _) rfl) rfl ?_
      refine LTokPost.shut (t := t) HT3.out ?_
      have HLL := Lib.hid ((HW0.out _).trans HL3.out)
      repeat' (first | (with_reducible exact HLL.out) | (with_reducible refine LLeft.far ?_ hBw ?_ _) | omega | (simp <;> omega))
    · have g2 : ((V : Int) == 2) = false := by simp; omega
      by_cases h4 : V = 4
      · subst h4
        have HN := Lib.hid (HSG.out h1 h2)
        clear h1 h2
        clear HNM HNB HSG HEL
        go_enter Tryz.func84, Tryz.ntmps84
        go_wp2_with (first
          | (
            go_at_call 102
            refine (HCL.out _ (HR0.out.alloc _)).mono ?_
            rintro e w2 ⟨rfl, n1, rfl⟩)
          | (
            go_at_call 106
            refine (HN.out _ (HW0.out _).2 (by simp <;> omega)).mono ?_
            intro e w3 hp3
            obtain ⟨t, b, j, rfl, HL3, HT3⟩ := LTokPost.open_ hp3
            have hB3 := HL3.out.1.blk (HT0.out _) (by omega)
            obtain ⟨r0, r1, r2, r3⟩ := lblk4 hB3
            obtain ⟨s0, s1, s2, s3⟩ := lblk4f hB3
            have HB3 := Lib.hid hB3
            clear hB3 hp3
            unfold tokV))
        refine bodyPost_ret (res_tok (by rfl) _ _ w.heap.size #[.int .i64 t.kind, .string ⟨t.text.toArray⟩, .int .i64 t.n, .int .i64 t.at_] rfl (ltokZ HB3.out _ _ _ _) rfl) rfl ?_
        refine LTokPost.shut (t := t) HT3.out ?_
        have HLL := Lib.hid ((HW0.out _).trans HL3.out)
        repeat' (first | (with_reducible exact HLL.out) | (with_reducible refine LLeft.far ?_ hBw ?_ _) | omega | (simp <;> omega))
      · have g4 : ((V : Int) == 4) = false := by simp; omega
        have HN := Lib.hid (HEL.out h1 h2 h4)
        clear h1 h2 h4
        clear HNM HNB HSG HEL
        have hB3 := HT0.out 0
        obtain ⟨r0, r1, r2, r3⟩ := lblk4 (show Blk (w.alloc (.cells #[.int .i64 0, .string ⟨#[]⟩, .int .i64 0, .int .i64 0] 78)) w.heap.size 78 #[.int .i64 0, .string ⟨#[]⟩, .int .i64 0, .int .i64 0] from hB3)
        clear hB3
        go_enter Tryz.func84, Tryz.ntmps84
        go_wp2_with (
          go_at_call 102
          refine (HCL.out _ (HR0.out.alloc _)).mono ?_
          rintro e w2 ⟨rfl, n1, rfl⟩)
        refine bodyPost_ret (res_tok (by rfl) _ _ w.heap.size #[.int .i64 0, .string ⟨#[]⟩, .int .i64 0, .int .i64 0] rfl (ltokZ (HT0.out n1) _ _ _ _) rfl) rfl ?_
        refine Or.inr ⟨HN.out, ⟨0, [], 0, 0⟩, i, rfl, ?_⟩
        repeat' (first | (with_reducible exact HW0.out _) | (with_reducible refine LLeft.far ?_ hBw ?_ _) | omega | (simp <;> omega))
end Go.Proofs.YteikakoheibnjaaGreatDoor
