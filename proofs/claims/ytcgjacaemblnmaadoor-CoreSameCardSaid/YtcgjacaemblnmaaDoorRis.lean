/- The walks over sibylref9.is and Is. -/
import Derived.Test.YtcgjacaemblnmaaDoorHas
import Derived.Test.YtcgjacaemblnmaaDoorField
import Derived.Test.YtcgjacaemblnmaaDoorCount
import Derived.Test.YtcgjacaemblnmaaDoorIs
import Derived.Test.YtcgjacaemblnmaaDoorShowPure
namespace Go.Proofs.YtcgjacaemblnmaaDoor
open Go Go.RowKit

theorem has_len : ∀ (v : Fin 4) (num : Bool), (hasL v.val num).length ≤ 4 := by decide
theorem has78 : ∀ (v : Fin 4) (num : Bool), (hasL v.val num).any (fun b => b.toNat == 78) = num := by decide
theorem has65 : ∀ (v : Fin 4) (num : Bool), (hasL v.val num).any (fun b => b.toNat == 65) = decide (0 < v.val) := by decide
theorem has66 : ∀ (v : Fin 4) (num : Bool), (hasL v.val num).any (fun b => b.toNat == 66) = decide (1 < v.val) := by decide
theorem has67 : ∀ (v : Fin 4) (num : Bool), (hasL v.val num).any (fun b => b.toNat == 67) = decide (2 < v.val) := by decide
theorem fieldN (v : Nat) (hv : v ≤ 3) (num : Bool) (m : Int) : fieldR (hasL v num) 78 m 21 = (if num then decide (0 ≤ m) && decide (m ≤ 20) else m == 0) := by
  unfold fieldR
  rw [has78 ⟨v, by omega⟩ num, show decide (m < 21) = decide (m ≤ 20) from decide_eq_decide.2 (by omega)]
theorem fieldV (v : Nat) (num : Bool) (o : List UInt8) (ho : ¬ o = oEx) (i k : Nat) (x n : Int) (h : (hasL v num).any (fun b => b.toNat == k) = decide (i < v)) : fieldR (hasL v num) k x n = varB o v n i x := by
  unfold fieldR varB
  rw [h]
  by_cases hi : i < v
  · rw [decide_eq_true hi, if_pos rfl, if_neg (by omega), if_neg ho]
  · rw [decide_eq_false hi, if_neg (by simp), if_pos (by omega)]
theorem ris_none {o : List UInt8} {a b c m n : Int} {ks : List Core} (h : shapeOf o = none) : isB (.node o a b c m ks) n = false := by
  rw [isB, fb_none a b c m n ks h, Bool.false_and]
theorem ris_kids {o : List UInt8} {v k : Nat} {num : Bool} {a b c m n : Int} {ks : List Core} (h : shapeOf o = some (v, num, k)) (hk : ¬ ks.length = k) : isB (.node o a b c m ks) n = false := by
  rw [isB, fb_kids a b c m n h hk, Bool.false_and]
theorem ris_no {o : List UInt8} {v : Nat} {num : Bool} {a b c m n : Int} {ks : List Core} (h : shapeOf o = some (v, num, ks.length)) (ho : ¬ o = oEx) :
    isB (.node o a b c m ks) n = (fieldR (hasL v num) 78 m 21 && fieldR (hasL v num) 65 a n && fieldR (hasL v num) 66 b n && fieldR (hasL v num) 67 c n && isL ks n) := by
  have hv : v ≤ 3 := (var_all _ (shapeOf_mem h)).1
  rw [isB, fb_rest a b c m n h, fieldN v hv, fieldV v num o ho 0 65 a n (has65 ⟨v, by omega⟩ num), fieldV v num o ho 1 66 b n (has66 ⟨v, by omega⟩ num), fieldV v num o ho 2 67 c n (has67 ⟨v, by omega⟩ num), if_neg ho, Bool.and_true, under, if_neg ho]
theorem ris_ex {a b c m n : Int} {x : Core} : isB (.node oEx a b c m [x]) n = (fieldR (hasL 1 false) 78 m 21 && decide (a = n) && decide (n < 6) && (b == 0) && (c == 0) && isB x (n + 1)) := by
  have h : shapeOf oEx = some (1, false, [x].length) := by show shapeOf oEx = some (1, false, 1); decide
  have e0 : varB oEx 1 n 0 a = true := by unfold varB; rw [if_neg (by decide), if_pos rfl]
  have e1 : varB oEx 1 n 1 b = (b == 0) := by unfold varB; rw [if_pos (by decide)]
  have e2 : varB oEx 1 n 2 c = (c == 0) := by unfold varB; rw [if_pos (by decide)]
  rw [isB, fb_rest a b c m n h, fieldN 1 (by decide), e0, e1, e2, if_pos rfl, isL, isL, Bool.and_true, under, if_pos rfl]
  cases (if false = true then decide (0 ≤ m) && decide (m ≤ 20) else m == 0) <;> cases (b == 0) <;> cases (c == 0) <;> cases decide (a = n) <;> cases decide (n < 6) <;> simp
theorem isL_take : ∀ (ks : List Core) (n : Int) (k : Nat) (hk : k < ks.length), isL (ks.take (k + 1)) n = (isL (ks.take k) n && isB ks[k] n)
  | x :: r, n, 0, _ => by simp [isL]
  | x :: r, n, k + 1, hk => by
    have h := isL_take r n k (by simpa using hk)
    simp only [List.take_succ_cons, isL, List.getElem_cons_succ] at h ⊢
    rw [h, Bool.and_assoc]
theorem isL_false : ∀ (ks : List Core) (n : Int) (k : Nat) (hk : k < ks.length), isB ks[k] n = false → isL ks n = false
  | x :: r, n, 0, _, h => by
    unfold isL
    rw [show isB x n = false from h]
    rfl
  | x :: r, n, k + 1, hk, h => by
    unfold isL
    rw [isL_false r n k (by simpa using hk) h, Bool.and_false]
theorem box6 {w W : World} {o : List UInt8} {a b c m : Int} {l : Nat} {A : Option Addr} {cap : Nat} (h : Below (w.heap.size + 1) (w.alloc (.cells #[.string ⟨o.toArray⟩, .int .i64 a, .int .i64 b, .int .i64 c, .int .i64 m, .slice A l cap] 24)) W) :
    W.cell? ⟨w.heap.size, 0, none⟩ = some (.string ⟨o.toArray⟩) ∧ W.cell? ⟨w.heap.size, 1, none⟩ = some (.int .i64 a) ∧ W.cell? ⟨w.heap.size, 2, none⟩ = some (.int .i64 b) ∧ W.cell? ⟨w.heap.size, 3, none⟩ = some (.int .i64 c) ∧
      W.cell? ⟨w.heap.size, 4, none⟩ = some (.int .i64 m) ∧ W.cell? ⟨w.heap.size, 5, none⟩ = some (.slice A l cap) := by
  have e : ∀ j u, (#[.string ⟨o.toArray⟩, .int .i64 a, .int .i64 b, .int .i64 c, .int .i64 m, .slice A l cap] : Array Value)[j]? = some u → W.cell? ⟨w.heap.size, j, none⟩ = some u := fun j u hu =>
    (h.cell (p := ⟨w.heap.size, j, none⟩) (Nat.lt_succ_self _)).trans ((cell_of_row _ w.heap.size j _ 24 (0, 0) (heap_alloc_new w _)).trans hu)
  exact ⟨e 0 _ rfl, e 1 _ rfl, e 2 _ rfl, e 3 _ rfl, e 4 _ rfl, e 5 _ rfl⟩

set_option maxHeartbeats 4000000 in
theorem ris_any : ∀ (t : Core) (A : Option Addr) (cap : Nat) (n : Int) (w : World), CoreAt w w.heap.size t A cap → 0 ≤ n → n ≤ 6 →
    Calls Tryd.prog 33 #[coreW t.op t.va t.vb t.vc t.vn t.kids.length A cap, .int .i64 n] w fun e w' => e = .returned (.bool (isB t n)) ∧ Below w.heap.size w w' := by
  intro t
  induction t using Core.ind with
  | h o a b c m ks ih =>
    intro A cap n w h hn0 hn1
    have HC := Lib.hid h
    have IH := Lib.hid ih
    have hl := h.len
    simp only [Core.kids] at hl
    obtain ⟨hl1, hl2, _⟩ := hl
    clear h ih
    have HH := Lib.hid (fun W => has_any o W)
    have HX := Lib.hid (fun W (hW : Below (w.heap.size + 1) (w.alloc (.cells #[.string ⟨o.toArray⟩, .int .i64 a, .int .i64 b, .int .i64 c, .int .i64 m, .slice A ks.length cap] 24)) W) => box6 hW)
    have HW := Lib.hid (fun W (hW : Below (w.heap.size + 1) (w.alloc (.cells #[.string ⟨o.toArray⟩, .int .i64 a, .int .i64 b, .int .i64 c, .int .i64 m, .slice A ks.length cap] 24)) W) => (((Below.refl w.heap.size w).alloc (Nat.le_refl _) _).trans (hW.mono (Nat.le_succ _)) : Below w.heap.size w W))
    have HG := Lib.hid (fun W W' (hW : Below (w.heap.size + 1) (w.alloc (.cells #[.string ⟨o.toArray⟩, .int .i64 a, .int .i64 b, .int .i64 c, .int .i64 m, .slice A ks.length cap] 24)) W) (hb : Below W.heap.size W W') => (hW.trans (hb.mono (Nat.le_trans (by simp) hW.size)) : Below (w.heap.size + 1) (w.alloc (.cells #[.string ⟨o.toArray⟩, .int .i64 a, .int .i64 b, .int .i64 c, .int .i64 m, .slice A ks.length cap] 24)) W'))
    have hB := Below.refl (w.heap.size + 1) (w.alloc (.cells #[.string ⟨o.toArray⟩, .int .i64 a, .int .i64 b, .int .i64 c, .int .i64 m, .slice A ks.length cap] 24))
    simp only [coreW, Core.op, Core.va, Core.vb, Core.vc, Core.vn, Core.kids]
    cases hs : shapeOf o with
    | none =>
      have HR := Lib.hid (ris_none (a := a) (b := b) (c := c) (m := m) (n := n) (ks := ks) hs)
      rw [hs] at HH
      clear hs
      generalize isB (.node o a b c m ks) n = R at *
      generalize hasS o = H at *
      generalize (shapeD o).2.2 = K at *
      simp only [Option.isSome] at HH
      go_enter Tryd.func33, Tryd.ntmps33
      go_wp2_with (
         go_at_call 37
         refine (HH.out _).mono ?_
         rintro e w2 ⟨rfl, hb2⟩
         have hB2 := HG.out _ _ hB hb2
         obtain ⟨c0, c1, c2, c3, c4, c5⟩ := HX.out _ hB2
         clear hb2)
      all_goals
        go_ret
        exact ⟨congrArg (fun x : Bool => Ending.returned (.bool x)) HR.out.symm, HW.out _ hB2⟩
    | some s =>
      obtain ⟨v, num, k⟩ := s
      have hv3 : v ≤ 3 := (var_all _ (shapeOf_mem hs)).1
      have e1 : hasS o = hasL v num := by unfold hasS shapeD; rw [hs]; rfl
      have e2 : (shapeD o).2.2 = k := by unfold shapeD; rw [hs]; rfl
      rw [e1, e2, hs] at HH
      simp only [Option.isSome] at HH
      clear e1 e2
      have hlen := has_len ⟨v, by omega⟩ num
      simp only at hlen
      by_cases hk : ks.length = k
      · subst hk
        have HFN := Lib.hid (fun W => (field_any (hasL v num) 78 m 21 W hlen : Calls Tryd.prog 47 #[.string ⟨(hasL v num).toArray⟩, .int .u8 78, .int .i64 m, .int .i64 21] W fun e w' => e = .returned (.bool (fieldR (hasL v num) 78 m 21)) ∧ W = w'))
        have HFA := Lib.hid (fun W => (field_any (hasL v num) 65 a n W hlen : Calls Tryd.prog 47 #[.string ⟨(hasL v num).toArray⟩, .int .u8 65, .int .i64 a, .int .i64 n] W fun e w' => e = .returned (.bool (fieldR (hasL v num) 65 a n)) ∧ W = w'))
        have HFB := Lib.hid (fun W => (field_any (hasL v num) 66 b n W hlen : Calls Tryd.prog 47 #[.string ⟨(hasL v num).toArray⟩, .int .u8 66, .int .i64 b, .int .i64 n] W fun e w' => e = .returned (.bool (fieldR (hasL v num) 66 b n)) ∧ W = w'))
        have HFC := Lib.hid (fun W => (field_any (hasL v num) 67 c n W hlen : Calls Tryd.prog 47 #[.string ⟨(hasL v num).toArray⟩, .int .u8 67, .int .i64 c, .int .i64 n] W fun e w' => e = .returned (.bool (fieldR (hasL v num) 67 c n)) ∧ W = w'))
        by_cases hE : o = [101, 120]
        · subst hE
          obtain ⟨rfl, rfl, hk1⟩ : v = 1 ∧ num = false ∧ ks.length = 1 := by
            have e : shapeOf [101, 120] = some (1, false, 1) := by decide
            rw [e] at hs
            injection hs with hs
            injection hs with h1 hs
            injection hs with h2 h3
            exact ⟨h1.symm, h2.symm, h3.symm⟩
          match ks, hk1 with
          | [x], _ =>
          have HR := Lib.hid (ris_ex (a := a) (b := b) (c := c) (m := m) (n := n) (x := x))
          simp only [oEx] at HR
          generalize isB (.node [101, 120] a b c m [x]) n = R at *
          generalize fieldR (hasL 1 false) 78 m 21 = FN at *
          clear HFA HFB HFC
          generalize hasL 1 false = H at *
          obtain ⟨bb, off, A', cap', rfl, hlo, hcells, hkid⟩ := HC.out.kid 0 (by simp [Core.kids])
          simp only [Core.kids, List.getElem_cons_zero, Nat.zero_mul, Nat.add_zero] at hcells hkid
          have HI := Lib.hid (fun A cap W hC h0 h1 => IH.out x (by simp) A cap (n + 1) W hC h0 h1)
          cases x with
          | node o' a' b' c' n' ks' =>
          have HKC := Lib.hid (fun W (hW : Below w.heap.size w W) => kid_cells hlo hcells hW)
          have HK := Lib.hid hkid
          clear hcells hkid IH
          generalize isB (.node o' a' b' c' n' ks') (n + 1) = RK at *
          cases FN with
          | false =>
            have HZ := Lib.hid (show R = false by rw [HR.out]; simp)
            go_enter Tryd.func33, Tryd.ntmps33
            go_wp2_with (first
                  | (
                     go_at_call 37
                     refine (HH.out _).mono ?_
                     rintro e w2 ⟨rfl, hb2⟩
                     have hB2 := HG.out _ _ hB hb2
                     obtain ⟨c0, c1, c2, c3, c4, c5⟩ := HX.out _ hB2
                     obtain ⟨k0, k1, k2, k3, k4, k5⟩ := HKC.out _ (HW.out _ hB2)
                     clear hb2)
                  | (
                     go_at_call_of 47 (Value.int .u8 78)
                     refine (HFN.out _).mono ?_
                     rintro e w3 ⟨rfl, rfl⟩)
                  | (
                     go_at_call 33
                     refine (HI.out A' cap' _ (HK.out.later (HW.out _ hB2) (HW.out _ hB2).size) (by omega) (by omega)).mono ?_
                     rintro e w4 ⟨rfl, hb4⟩
                     have hB4 := HG.out _ _ hB2 hb4))
            all_goals
              go_ret
              exact ⟨congrArg (fun x : Bool => Ending.returned (.bool x)) HZ.out.symm, HW.out _ hB2⟩
          | true =>
            by_cases hga : a = n
            · rw [decide_eq_true hga] at HR
              subst hga
              by_cases hgn : a < 6
              · have gn : decide (a < 6) = true := decide_eq_true hgn
                rw [gn] at HR
                by_cases hgb : b = 0
                · rw [show (b == 0) = true by rw [hgb]; rfl] at HR
                  subst hgb
                  by_cases hgc : c = 0
                  · rw [show (c == 0) = true by rw [hgc]; rfl] at HR
                    subst hgc
                    have HZ := Lib.hid (show R = RK by rw [HR.out]; simp)
                    go_enter Tryd.func33, Tryd.ntmps33
                    go_wp2_with (first
                          | (
                             go_at_call 37
                             refine (HH.out _).mono ?_
                             rintro e w2 ⟨rfl, hb2⟩
                             have hB2 := HG.out _ _ hB hb2
                             obtain ⟨c0, c1, c2, c3, c4, c5⟩ := HX.out _ hB2
                             obtain ⟨k0, k1, k2, k3, k4, k5⟩ := HKC.out _ (HW.out _ hB2)
                             clear hb2)
                          | (
                             go_at_call_of 47 (Value.int .u8 78)
                             refine (HFN.out _).mono ?_
                             rintro e w3 ⟨rfl, rfl⟩)
                          | (
                             go_at_call 33
                             refine (HI.out A' cap' _ (HK.out.later (HW.out _ hB2) (HW.out _ hB2).size) (by omega) (by omega)).mono ?_
                             rintro e w4 ⟨rfl, hb4⟩
                             have hB4 := HG.out _ _ hB2 hb4))
                    go_ret
                    exact ⟨congrArg (fun x : Bool => Ending.returned (.bool x)) HZ.out.symm, HW.out _ hB4⟩
                  · have gc : (c == 0) = false := beq_false_of_ne hgc
                    rw [gc] at HR
                    clear hgc
                    have HZ := Lib.hid (show R = false by rw [HR.out]; simp)
                    go_enter Tryd.func33, Tryd.ntmps33
                    go_wp2_with (first
                          | (
                             go_at_call 37
                             refine (HH.out _).mono ?_
                             rintro e w2 ⟨rfl, hb2⟩
                             have hB2 := HG.out _ _ hB hb2
                             obtain ⟨c0, c1, c2, c3, c4, c5⟩ := HX.out _ hB2
                             obtain ⟨k0, k1, k2, k3, k4, k5⟩ := HKC.out _ (HW.out _ hB2)
                             clear hb2)
                          | (
                             go_at_call_of 47 (Value.int .u8 78)
                             refine (HFN.out _).mono ?_
                             rintro e w3 ⟨rfl, rfl⟩)
                          | (
                             go_at_call 33
                             refine (HI.out A' cap' _ (HK.out.later (HW.out _ hB2) (HW.out _ hB2).size) (by omega) (by omega)).mono ?_
                             rintro e w4 ⟨rfl, hb4⟩
                             have hB4 := HG.out _ _ hB2 hb4))
                    all_goals
                      go_ret
                      exact ⟨congrArg (fun x : Bool => Ending.returned (.bool x)) HZ.out.symm, HW.out _ hB2⟩
                · have gb : (b == 0) = false := beq_false_of_ne hgb
                  rw [gb] at HR
                  clear hgb
                  have HZ := Lib.hid (show R = false by rw [HR.out]; simp)
                  go_enter Tryd.func33, Tryd.ntmps33
                  go_wp2_with (first
                        | (
                           go_at_call 37
                           refine (HH.out _).mono ?_
                           rintro e w2 ⟨rfl, hb2⟩
                           have hB2 := HG.out _ _ hB hb2
                           obtain ⟨c0, c1, c2, c3, c4, c5⟩ := HX.out _ hB2
                           obtain ⟨k0, k1, k2, k3, k4, k5⟩ := HKC.out _ (HW.out _ hB2)
                           clear hb2)
                        | (
                           go_at_call_of 47 (Value.int .u8 78)
                           refine (HFN.out _).mono ?_
                           rintro e w3 ⟨rfl, rfl⟩)
                        | (
                           go_at_call 33
                           refine (HI.out A' cap' _ (HK.out.later (HW.out _ hB2) (HW.out _ hB2).size) (by omega) (by omega)).mono ?_
                           rintro e w4 ⟨rfl, hb4⟩
                           have hB4 := HG.out _ _ hB2 hb4))
                  all_goals
                    go_ret
                    exact ⟨congrArg (fun x : Bool => Ending.returned (.bool x)) HZ.out.symm, HW.out _ hB2⟩
              · have gn : decide (a < 6) = false := decide_eq_false hgn
                rw [gn] at HR
                clear hgn
                have HZ := Lib.hid (show R = false by rw [HR.out]; simp)
                go_enter Tryd.func33, Tryd.ntmps33
                go_wp2_with (first
                      | (
                         go_at_call 37
                         refine (HH.out _).mono ?_
                         rintro e w2 ⟨rfl, hb2⟩
                         have hB2 := HG.out _ _ hB hb2
                         obtain ⟨c0, c1, c2, c3, c4, c5⟩ := HX.out _ hB2
                         obtain ⟨k0, k1, k2, k3, k4, k5⟩ := HKC.out _ (HW.out _ hB2)
                         clear hb2)
                      | (
                         go_at_call_of 47 (Value.int .u8 78)
                         refine (HFN.out _).mono ?_
                         rintro e w3 ⟨rfl, rfl⟩)
                      | (
                         go_at_call 33
                         refine (HI.out A' cap' _ (HK.out.later (HW.out _ hB2) (HW.out _ hB2).size) (by omega) (by omega)).mono ?_
                         rintro e w4 ⟨rfl, hb4⟩
                         have hB4 := HG.out _ _ hB2 hb4))
                all_goals
                  go_ret
                  exact ⟨congrArg (fun x : Bool => Ending.returned (.bool x)) HZ.out.symm, HW.out _ hB2⟩
            · have ga : (a == n) = false := beq_false_of_ne hga
              rw [decide_eq_false hga] at HR
              clear hga
              have HZ := Lib.hid (show R = false by rw [HR.out]; simp)
              go_enter Tryd.func33, Tryd.ntmps33
              go_wp2_with (first
                    | (
                       go_at_call 37
                       refine (HH.out _).mono ?_
                       rintro e w2 ⟨rfl, hb2⟩
                       have hB2 := HG.out _ _ hB hb2
                       obtain ⟨c0, c1, c2, c3, c4, c5⟩ := HX.out _ hB2
                       obtain ⟨k0, k1, k2, k3, k4, k5⟩ := HKC.out _ (HW.out _ hB2)
                       clear hb2)
                    | (
                       go_at_call_of 47 (Value.int .u8 78)
                       refine (HFN.out _).mono ?_
                       rintro e w3 ⟨rfl, rfl⟩)
                    | (
                       go_at_call 33
                       refine (HI.out A' cap' _ (HK.out.later (HW.out _ hB2) (HW.out _ hB2).size) (by omega) (by omega)).mono ?_
                       rintro e w4 ⟨rfl, hb4⟩
                       have hB4 := HG.out _ _ hB2 hb4))
              all_goals
                go_ret
                exact ⟨congrArg (fun x : Bool => Ending.returned (.bool x)) HZ.out.symm, HW.out _ hB2⟩
        · have gE : (o == [101, 120]) = false := beq_false_of_ne hE
          have HR := Lib.hid (ris_no (a := a) (b := b) (c := c) (m := m) (n := n) hs hE)
          clear hs hE
          generalize isB (.node o a b c m ks) n = R at *
          generalize fieldR (hasL v num) 78 m 21 = FN at *
          generalize fieldR (hasL v num) 65 a n = FA at *
          generalize fieldR (hasL v num) 66 b n = FB at *
          generalize fieldR (hasL v num) 67 c n = FC at *
          generalize hasL v num = H at *
          cases FN with
          | false =>
            have HZ := Lib.hid (show R = false by rw [HR.out]; simp)
            go_enter Tryd.func33, Tryd.ntmps33
            go_wp2_with (first
                | (
                   go_at_call 37
                   refine (HH.out _).mono ?_
                   rintro e w2 ⟨rfl, hb2⟩
                   have hB2 := HG.out _ _ hB hb2
                   obtain ⟨c0, c1, c2, c3, c4, c5⟩ := HX.out _ hB2
                   clear hb2)
                | (
                   go_at_call_of 47 (Value.int .u8 78)
                   refine (HFN.out _).mono ?_
                   rintro e w3 ⟨rfl, rfl⟩)
                | (
                   go_at_call_of 47 (Value.int .u8 65)
                   refine (HFA.out _).mono ?_
                   rintro e w3 ⟨rfl, rfl⟩)
                | (
                   go_at_call_of 47 (Value.int .u8 66)
                   refine (HFB.out _).mono ?_
                   rintro e w3 ⟨rfl, rfl⟩)
                | (
                   go_at_call_of 47 (Value.int .u8 67)
                   refine (HFC.out _).mono ?_
                   rintro e w3 ⟨rfl, rfl⟩))
            all_goals
              go_ret
              exact ⟨congrArg (fun x : Bool => Ending.returned (.bool x)) HZ.out.symm, HW.out _ hB2⟩
          | true =>
            cases FA with
            | false =>
              have HZ := Lib.hid (show R = false by rw [HR.out]; simp)
              go_enter Tryd.func33, Tryd.ntmps33
              go_wp2_with (first
                  | (
                     go_at_call 37
                     refine (HH.out _).mono ?_
                     rintro e w2 ⟨rfl, hb2⟩
                     have hB2 := HG.out _ _ hB hb2
                     obtain ⟨c0, c1, c2, c3, c4, c5⟩ := HX.out _ hB2
                     clear hb2)
                  | (
                     go_at_call_of 47 (Value.int .u8 78)
                     refine (HFN.out _).mono ?_
                     rintro e w3 ⟨rfl, rfl⟩)
                  | (
                     go_at_call_of 47 (Value.int .u8 65)
                     refine (HFA.out _).mono ?_
                     rintro e w3 ⟨rfl, rfl⟩)
                  | (
                     go_at_call_of 47 (Value.int .u8 66)
                     refine (HFB.out _).mono ?_
                     rintro e w3 ⟨rfl, rfl⟩)
                  | (
                     go_at_call_of 47 (Value.int .u8 67)
                     refine (HFC.out _).mono ?_
                     rintro e w3 ⟨rfl, rfl⟩))
              all_goals
                go_ret
                exact ⟨congrArg (fun x : Bool => Ending.returned (.bool x)) HZ.out.symm, HW.out _ hB2⟩
            | true =>
              cases FB with
              | false =>
                have HZ := Lib.hid (show R = false by rw [HR.out]; simp)
                go_enter Tryd.func33, Tryd.ntmps33
                go_wp2_with (first
                    | (
                       go_at_call 37
                       refine (HH.out _).mono ?_
                       rintro e w2 ⟨rfl, hb2⟩
                       have hB2 := HG.out _ _ hB hb2
                       obtain ⟨c0, c1, c2, c3, c4, c5⟩ := HX.out _ hB2
                       clear hb2)
                    | (
                       go_at_call_of 47 (Value.int .u8 78)
                       refine (HFN.out _).mono ?_
                       rintro e w3 ⟨rfl, rfl⟩)
                    | (
                       go_at_call_of 47 (Value.int .u8 65)
                       refine (HFA.out _).mono ?_
                       rintro e w3 ⟨rfl, rfl⟩)
                    | (
                       go_at_call_of 47 (Value.int .u8 66)
                       refine (HFB.out _).mono ?_
                       rintro e w3 ⟨rfl, rfl⟩)
                    | (
                       go_at_call_of 47 (Value.int .u8 67)
                       refine (HFC.out _).mono ?_
                       rintro e w3 ⟨rfl, rfl⟩))
                all_goals
                  go_ret
                  exact ⟨congrArg (fun x : Bool => Ending.returned (.bool x)) HZ.out.symm, HW.out _ hB2⟩
              | true =>
                cases FC with
                | false =>
                  have HZ := Lib.hid (show R = false by rw [HR.out]; simp)
                  go_enter Tryd.func33, Tryd.ntmps33
                  go_wp2_with (first
                      | (
                         go_at_call 37
                         refine (HH.out _).mono ?_
                         rintro e w2 ⟨rfl, hb2⟩
                         have hB2 := HG.out _ _ hB hb2
                         obtain ⟨c0, c1, c2, c3, c4, c5⟩ := HX.out _ hB2
                         clear hb2)
                      | (
                         go_at_call_of 47 (Value.int .u8 78)
                         refine (HFN.out _).mono ?_
                         rintro e w3 ⟨rfl, rfl⟩)
                      | (
                         go_at_call_of 47 (Value.int .u8 65)
                         refine (HFA.out _).mono ?_
                         rintro e w3 ⟨rfl, rfl⟩)
                      | (
                         go_at_call_of 47 (Value.int .u8 66)
                         refine (HFB.out _).mono ?_
                         rintro e w3 ⟨rfl, rfl⟩)
                      | (
                         go_at_call_of 47 (Value.int .u8 67)
                         refine (HFC.out _).mono ?_
                         rintro e w3 ⟨rfl, rfl⟩))
                  all_goals
                    go_ret
                    exact ⟨congrArg (fun x : Bool => Ending.returned (.bool x)) HZ.out.symm, HW.out _ hB2⟩
                | true =>
                  have HZ := Lib.hid (show R = isL ks n by rw [HR.out]; simp)
                  clear HR
                  go_enter Tryd.func33, Tryd.ntmps33
                  go_wp2_with (first
                        | (
                           go_at_call 37
                           refine (HH.out _).mono ?_
                           rintro e w2 ⟨rfl, hb2⟩
                           have hB2 := HG.out _ _ hB hb2
                           obtain ⟨c0, c1, c2, c3, c4, c5⟩ := HX.out _ hB2
                           clear hb2)
                        | (
                           go_at_call_of 47 (Value.int .u8 78)
                           refine (HFN.out _).mono ?_
                           rintro e w3 ⟨rfl, rfl⟩)
                        | (
                           go_at_call_of 47 (Value.int .u8 65)
                           refine (HFA.out _).mono ?_
                           rintro e w3 ⟨rfl, rfl⟩)
                        | (
                           go_at_call_of 47 (Value.int .u8 66)
                           refine (HFB.out _).mono ?_
                           rintro e w3 ⟨rfl, rfl⟩)
                        | (
                           go_at_call_of 47 (Value.int .u8 67)
                           refine (HFC.out _).mono ?_
                           rintro e w3 ⟨rfl, rfl⟩))
                  go_loopg [8] ks.length (fun r i wr => ∃ j : Nat, j ≤ ks.length ∧ r = ks.length - j ∧ i = .int .i64 (j : Int) ∧ Hid (isL (ks.take j) n = true) ∧ Hid (Below (w.heap.size + 1) (w.alloc (.cells #[.string ⟨o.toArray⟩, .int .i64 a, .int .i64 b, .int .i64 c, .int .i64 m, .slice A ks.length cap] 24)) wr))
                  case atStart => exact ⟨0, by omega, rfl, rfl, Lib.hid (by simp [isL]), Lib.hid hB2⟩
                  case round =>
                    obtain ⟨j, hj, hr, rfl, HJ, HBr⟩ := hrel
                    have HRr := Lib.hid hr
                    clear hr c0 c1 c2 c3 c4 c5 hB2 hB
                    obtain ⟨c0, c1, c2, c3, c4, c5⟩ := HX.out _ HBr.out
                    have hbw := HW.out _ HBr.out
                    by_cases hlt : j < ks.length
                    · obtain ⟨bb, off, A', cap', rfl, hlo, hcells, hkid⟩ := HC.out.kid j hlt
                      simp only [Core.kids] at hcells hkid
                      have HI := Lib.hid (fun (A : Option Addr) (cap : Nat) (W : World) (hC : CoreAt W W.heap.size (ks[j]'hlt) A cap) => IH.out (ks[j]'hlt) (List.getElem_mem hlt) A cap n W hC hn0 hn1)
                      have HT := Lib.hid (isL_take ks n j hlt)
                      have HNN := Lib.hid (isL_false ks n j hlt)
                      generalize ks[j] = x at *
                      cases x with
                      | node o' a' b' c' n' ks' =>
                        obtain ⟨k0, k1, k2, k3, k4, k5⟩ := kid_cells hlo hcells hbw
                        have HK := Lib.hid (hkid.later hbw hbw.size)
                        clear hcells hkid IH hbw
                        generalize isB (.node o' a' b' c' n' ks') n = RK at *
                        have g1 : decide ((j : Int) < (ks.length : Int)) = true := decide_eq_true (by omega)
                        cases RK with
                        | false =>
                          have HF := Lib.hid (HZ.out.trans (HNN.out rfl))
                          go_wp2_with (
                            go_at_call 33
                            refine (HI.out A' cap' _ HK.out).mono ?_
                            rintro e w4 ⟨rfl, hb4⟩
                            have hB4 := HG.out _ _ HBr.out hb4)
                          go_ret
                          exact ⟨congrArg (fun x : Bool => Ending.returned (.bool x)) HF.out.symm, HW.out _ hB4⟩
                        | true =>
                          go_wp2_with (
                            go_at_call 33
                            refine (HI.out A' cap' _ HK.out).mono ?_
                            rintro e w4 ⟨rfl, hb4⟩
                            have hB4 := HG.out _ _ HBr.out hb4)
                          go_roundg (ks.length - (j + 1))
                          case measure => have := HRr.out; omega
                          case rel => exact ⟨j + 1, by omega, rfl, by go_num, Lib.hid (by rw [HT.out, HJ.out]; rfl), Lib.hid hB4⟩
                    · have g1 : decide ((j : Int) < (ks.length : Int)) = false := decide_eq_false (by omega)
                      have HF := Lib.hid (show R = true by
                        have h1 := HJ.out
                        rw [List.take_of_length_le (by omega)] at h1
                        rw [HZ.out, h1])
                      go_wp2_with fail
                      go_ret
                      exact ⟨congrArg (fun x : Bool => Ending.returned (.bool x)) HF.out.symm, hbw⟩
      · have HR := Lib.hid (ris_kids (a := a) (b := b) (c := c) (m := m) (n := n) hs hk)
        have gk : ((ks.length : Int) != (k : Int)) = true := by simp; omega
        clear hs
        generalize isB (.node o a b c m ks) n = R at *
        generalize hasL v num = H at *
        have hk' : ¬ (ks.length : Int) = (k : Int) := by omega
        go_enter Tryd.func33, Tryd.ntmps33
        go_wp2_with (
         go_at_call 37
         refine (HH.out _).mono ?_
         rintro e w2 ⟨rfl, hb2⟩
         have hB2 := HG.out _ _ hB hb2
         obtain ⟨c0, c1, c2, c3, c4, c5⟩ := HX.out _ hB2
         clear hb2)
        all_goals
          go_ret
          exact ⟨congrArg (fun x : Bool => Ending.returned (.bool x)) HR.out.symm, HW.out _ hB2⟩
end Go.Proofs.YtcgjacaemblnmaaDoor
