/- The walk over sibylref9.Show. -/
import Derived.Test.YtcgjacaemblnmaaDoorRis
import Derived.Test.YtcgjacaemblnmaaDoorDigits
namespace Go.Proofs.YtcgjacaemblnmaaDoor
open Go Go.RowKit

/-- The text of the first letters' values. -/
def letTxt (v : Nat) (num : Bool) (a b c m : Int) (j : Nat) : List UInt8 := varsTxt (min j v) a b c ++ if v < j then numTxt num m else []
theorem letTxt_end (v : Nat) (num : Bool) (a b c m : Int) (hv : v ≤ 3) : letTxt v num a b c m (hasL v num).length = varsTxt v a b c ++ numTxt num m := by
  have hl : (hasL v num).length = v + (if num then 1 else 0) := by
    have : ∀ (v : Fin 4) (num : Bool), (hasL v.val num).length = v.val + (if num then 1 else 0) := by decide
    exact this ⟨v, by omega⟩ num
  rw [hl]
  unfold letTxt
  cases num with
  | false => simp [numTxt]
  | true =>
    rw [if_pos rfl, if_pos (by omega), Nat.min_eq_right (by omega)]
theorem has_let : ∀ (v : Fin 4) (num : Bool) (j : Fin 3), j.val < v.val → (hasL v.val num)[j.val]? = some (UInt8.ofNat (65 + j.val)) := by decide
theorem has_num : ∀ (v : Fin 4), (hasL v.val true)[v.val]? = some 78 := by decide
theorem letTxt_var (v : Nat) (num : Bool) (a b c m : Int) (j : Nat) (hj : j < v) (hv : v ≤ 3) : letTxt v num a b c m (j + 1) = letTxt v num a b c m j ++ ([32, 120] ++ dec (varV a b c j).toNat) := by
  unfold letTxt
  rw [if_neg (by omega), if_neg (by omega), Nat.min_eq_left (by omega), Nat.min_eq_left (by omega), varsTxt_succ a b c j (by omega), List.append_nil, List.append_nil]
theorem letTxt_num (v : Nat) (a b c m : Int) : letTxt v true a b c m (v + 1) = letTxt v true a b c m v ++ ([32] ++ dec m.toNat) := by
  unfold letTxt
  rw [if_pos (by omega), if_neg (by omega), Nat.min_eq_right (by omega), Nat.min_eq_left (by omega), List.append_nil]
  rfl

set_option maxHeartbeats 4000000 in
theorem rshow_any : ∀ (t : Core) (A : Option Addr) (cap : Nat) (n : Int) (w : World), CoreAt w w.heap.size t A cap → 0 ≤ n → n ≤ 6 → isB t n = true → nodes t ≤ 2000 →
    Calls Tryd.prog 20 #[coreW t.op t.va t.vb t.vc t.vn t.kids.length A cap] w fun e w' => e = .returned (.string ⟨(showT t).toArray⟩) ∧ Below w.heap.size w w' := by
  intro t
  induction t using Core.ind with
  | h o a b c m ks ih =>
    intro A cap n w h hn0 hn1 hv hN
    have hRl := showT_len _ n hn0 hn1 hv
    obtain ⟨hf, hkk⟩ := isB_parts hv
    obtain ⟨⟨v, num, kk⟩, hs⟩ := fieldsB_shape hf
    have hu : 0 ≤ under o n ∧ under o n ≤ 6 := by
      unfold under
      split
      · rename_i ho
        subst ho
        have := fb_ex hf
        omega
      · omega
    have hol : o.length ≤ 5 := op_len _ (shapeOf_mem hs)
    have hRl2 : (showT (.node o a b c m ks)).length ≤ 46000 := by omega
    clear hRl
    have hNK : ∀ k ∈ ks, nodes k ≤ 2000 := fun k hk => by
      have h1 := nodes_kid ks k hk
      rw [nodes_node] at hN
      omega
    have hv3 : v ≤ 3 := (var_all _ (shapeOf_mem hs)).1
    have hl := h.len
    simp only [Core.kids] at hl
    obtain ⟨hl1, hl2, _⟩ := hl
    have IH := Lib.hid (fun (k : Core) (hk : k ∈ ks) A cap W hC => ih k hk A cap (under o n) W hC hu.1 hu.2 (hkk k hk) (hNK k hk))
    have HC := Lib.hid h
    have HVV := Lib.hid (fun j hj hj3 => varV_ok hf hs ⟨hn0, hn1⟩ j hj hj3)
    simp only [Core.va, Core.vb, Core.vc] at HVV
    have HNUM := Lib.hid (fun (hnum : num = true) => fieldsB_num hf (hnum ▸ hs))
    simp only [Core.vn] at HNUM
    have HT := Lib.hid (show showT (.node o a b c m ks) = [40] ++ o ++ (varsTxt v a b c ++ numTxt num m) ++ showL ks ++ [41] by
      rw [showT, headTxt, show shapeOf o = some (v, num, kk) from hs])
    generalize showT (.node o a b c m ks) = R at *
    have HH := Lib.hid (fun W => has_any o W)
    have hs' : shapeOf o = some (v, num, kk) := hs
    have e1 : hasS o = hasL v num := by unfold hasS shapeD; rw [hs']; rfl
    rw [e1, hs'] at HH
    generalize (shapeD o).2.2 = KS at *
    simp only [Option.isSome] at HH
    have hlen := has_len ⟨v, by omega⟩ num
    simp only at hlen
    have HLT : Hid (∀ j (hj : j < v) (hjl : j < (hasL v num).length), (hasL v num)[j] = UInt8.ofNat (65 + j)) := Lib.hid (fun j hj hjl => by
      have := has_let ⟨v, by omega⟩ num ⟨j, by omega⟩ hj
      simp only at this
      rw [List.getElem?_eq_getElem hjl] at this
      exact Option.some.inj this)
    have HLN : Hid (∀ j (hjl : j < (hasL v num).length), ¬ j < v → j = v ∧ num = true ∧ (hasL v num)[j] = 78) := Lib.hid (fun j hjl hj => by
      have hl : (hasL v num).length = v + (if num then 1 else 0) := by
        have : ∀ (v : Fin 4) (num : Bool), (hasL v.val num).length = v.val + (if num then 1 else 0) := by decide
        exact this ⟨v, by omega⟩ num
      cases num with
      | false => simp at hl; omega
      | true =>
        rw [if_pos rfl] at hl
        have hjv : j = v := by omega
        subst hjv
        refine ⟨rfl, rfl, ?_⟩
        have := has_num ⟨j, by omega⟩
        simp only at this
        rw [List.getElem?_eq_getElem hjl] at this
        exact Option.some.inj this)
    have HLE := Lib.hid (letTxt_end v num a b c m hv3)
    generalize hasL v num = H at *
    have hsz : (⟨H.toArray⟩ : ByteArray).size = H.length := by simp [ByteArray.size]
    have HX := Lib.hid (fun W (hW : Below (w.heap.size + 1) (w.alloc (.cells #[.string ⟨o.toArray⟩, .int .i64 a, .int .i64 b, .int .i64 c, .int .i64 m, .slice A ks.length cap] 24)) W) => box6 hW)
    have HW := Lib.hid (fun W (hW : Below (w.heap.size + 1) (w.alloc (.cells #[.string ⟨o.toArray⟩, .int .i64 a, .int .i64 b, .int .i64 c, .int .i64 m, .slice A ks.length cap] 24)) W) => (((Below.refl w.heap.size w).alloc (Nat.le_refl _) _).trans (hW.mono (Nat.le_succ _)) : Below w.heap.size w W))
    have HG := Lib.hid (fun W W' (hW : Below (w.heap.size + 1) (w.alloc (.cells #[.string ⟨o.toArray⟩, .int .i64 a, .int .i64 b, .int .i64 c, .int .i64 m, .slice A ks.length cap] 24)) W) (hb : Below W.heap.size W W') => (hW.trans (hb.mono (Nat.le_trans (by simp) hW.size)) : Below (w.heap.size + 1) (w.alloc (.cells #[.string ⟨o.toArray⟩, .int .i64 a, .int .i64 b, .int .i64 c, .int .i64 m, .slice A ks.length cap] 24)) W'))
    have hB := Below.refl (w.heap.size + 1) (w.alloc (.cells #[.string ⟨o.toArray⟩, .int .i64 a, .int .i64 b, .int .i64 c, .int .i64 m, .slice A ks.length cap] 24))
    clear h ih hf hkk hs hs' hv hu hNK hN e1
    have HRL := Lib.hid hRl2
    clear hRl2
    obtain ⟨T0, hadd0, hT0⟩ := add_ex ⟨#[40]⟩ ⟨o.toArray⟩ (X := [40]) (Y := o) rfl rfl (by simp; omega)
    have HT0 := Lib.hid hT0
    clear hT0
    simp only [coreW, Core.op, Core.va, Core.vb, Core.vc, Core.vn, Core.kids]
    go_enter Tryd.func20, Tryd.ntmps20
    go_wp2_with (
      go_at_call 37
      refine (HH.out _).mono ?_
      rintro e w2 ⟨rfl, hb2⟩
      have hB2 := HG.out _ _ hB hb2
      obtain ⟨c0, c1, c2, c3, c4, c5⟩ := HX.out _ hB2
      clear hb2)
    clear hadd0
    go_loopg [6, 7] H.length (fun r s6 s7 wr => ∃ (j : Nat) (T : ByteArray), j ≤ H.length ∧ r = H.length - j ∧ s6 = .string T ∧ Hid (T.data.toList = [40] ++ o ++ letTxt v num a b c m j) ∧ Hid (T.size ≤ 6 + 4 * j) ∧ s7 = .int .i64 (j : Int) ∧ Hid (Below (w.heap.size + 1) (w.alloc (.cells #[.string ⟨o.toArray⟩, .int .i64 a, .int .i64 b, .int .i64 c, .int .i64 m, .slice A ks.length cap] 24)) wr))
    case atStart => exact ⟨0, T0, by omega, rfl, rfl, Lib.hid (by rw [HT0.out]; simp [letTxt, varsTxt]), Lib.hid (by rw [size_of HT0.out]; simp; omega), rfl, Lib.hid hB2⟩
    case round =>
      obtain ⟨j, T, hj, hr, rfl, HTj, HSj, rfl, HBr⟩ := hrel
      have HRr := Lib.hid hr
      clear hr c0 c1 c2 c3 c4 c5 hB2 hB
      obtain ⟨c0, c1, c2, c3, c4, c5⟩ := HX.out _ HBr.out
      by_cases hlt : j < H.length
      · have g1 : decide ((j : Int) < (H.length : Int)) = true := decide_eq_true (by omega)
        have hjz : j < (⟨H.toArray⟩ : ByteArray).size := by omega
        have hsT := HSj.out
        by_cases hjv : j < v
        · have hlet := HLT.out j hjv hlt
          have hvv := HVV.out j hjv (by omega)
          have HV1 := Lib.hid (letTxt_var v num a b c m j hjv hv3)
          have hj3 : j = 0 ∨ j = 1 ∨ j = 2 := by omega
          clear hjv
          rcases hj3 with rfl | rfl | rfl
          · have gb0 : (((((⟨H.toArray⟩ : ByteArray)[0]'hjz).toNat : Nat) : Int) == 65) = true := by
              show (((H[0].toNat : Nat) : Int) == 65) = true
              rw [hlet]
              decide
            simp only [varV] at hvv HV1
            obtain ⟨i, hi0⟩ := Int.eq_ofNat_of_zero_le (show 0 ≤ a by simpa using hvv.1)
            subst hi0
            have hi : i < 21 := by
              have := hvv.2
              simp at this
              omega
            have hd := dec_len ⟨i, hi⟩
            simp only at hd
            have HIT := Lib.hid (fun W => digits_any i hi W)
            obtain ⟨S1, hadd1, hS1⟩ := add_ex T ⟨#[32, 120]⟩ HTj.out (Y := [32, 120]) rfl (by rw [← size_of HTj.out]; simp; omega)
            obtain ⟨T', hadd2, hT'⟩ := add_ex S1 ⟨(dec i).toArray⟩ hS1 (Y := dec i) rfl (by rw [List.length_append, ← size_of HTj.out]; simp; omega)
            have HT' := Lib.hid hT'
            have HS' := Lib.hid (show T'.size ≤ 6 + 4 * (0 + 1) by
              rw [size_of hT', List.length_append, List.length_append, ← size_of HTj.out]
              simp
              omega)
            clear hT' hS1 hvv hsT hlet
            go_wp2_with (
              go_at_call 38
              refine (HIT.out _).mono ?_
              rintro e w9 ⟨rfl, hb9⟩
              have hB9 := HG.out _ _ HBr.out hb9
              clear hb9)
            clear hadd1 hadd2
            go_roundg (H.length - (0 + 1))
            case measure => have := HRr.out; omega
            case rel => exact ⟨0 + 1, T', by omega, rfl, rfl, Lib.hid (by rw [HT'.out, HV1.out]; simp), HS', by go_num, Lib.hid hB9⟩
          · have gb0 : (((((⟨H.toArray⟩ : ByteArray)[1]'hjz).toNat : Nat) : Int) == 65) = false := by
              show (((H[1].toNat : Nat) : Int) == 65) = false
              rw [hlet]
              decide
            have gb1 : (((((⟨H.toArray⟩ : ByteArray)[1]'hjz).toNat : Nat) : Int) == 66) = true := by
              show (((H[1].toNat : Nat) : Int) == 66) = true
              rw [hlet]
              decide
            simp only [varV] at hvv HV1
            obtain ⟨i, hi0⟩ := Int.eq_ofNat_of_zero_le (show 0 ≤ b by simpa using hvv.1)
            subst hi0
            have hi : i < 21 := by
              have := hvv.2
              simp at this
              omega
            have hd := dec_len ⟨i, hi⟩
            simp only at hd
            have HIT := Lib.hid (fun W => digits_any i hi W)
            obtain ⟨S1, hadd1, hS1⟩ := add_ex T ⟨#[32, 120]⟩ HTj.out (Y := [32, 120]) rfl (by rw [← size_of HTj.out]; simp; omega)
            obtain ⟨T', hadd2, hT'⟩ := add_ex S1 ⟨(dec i).toArray⟩ hS1 (Y := dec i) rfl (by rw [List.length_append, ← size_of HTj.out]; simp; omega)
            have HT' := Lib.hid hT'
            have HS' := Lib.hid (show T'.size ≤ 6 + 4 * (1 + 1) by
              rw [size_of hT', List.length_append, List.length_append, ← size_of HTj.out]
              simp
              omega)
            clear hT' hS1 hvv hsT hlet
            go_wp2_with (
              go_at_call 38
              refine (HIT.out _).mono ?_
              rintro e w9 ⟨rfl, hb9⟩
              have hB9 := HG.out _ _ HBr.out hb9
              clear hb9)
            clear hadd1 hadd2
            go_roundg (H.length - (1 + 1))
            case measure => have := HRr.out; omega
            case rel => exact ⟨1 + 1, T', by omega, rfl, rfl, Lib.hid (by rw [HT'.out, HV1.out]; simp), HS', by go_num, Lib.hid hB9⟩
          · have gb0 : (((((⟨H.toArray⟩ : ByteArray)[2]'hjz).toNat : Nat) : Int) == 65) = false := by
              show (((H[2].toNat : Nat) : Int) == 65) = false
              rw [hlet]
              decide
            have gb1 : (((((⟨H.toArray⟩ : ByteArray)[2]'hjz).toNat : Nat) : Int) == 66) = false := by
              show (((H[2].toNat : Nat) : Int) == 66) = false
              rw [hlet]
              decide
            have gb2 : (((((⟨H.toArray⟩ : ByteArray)[2]'hjz).toNat : Nat) : Int) == 67) = true := by
              show (((H[2].toNat : Nat) : Int) == 67) = true
              rw [hlet]
              decide
            simp only [varV] at hvv HV1
            obtain ⟨i, hi0⟩ := Int.eq_ofNat_of_zero_le (show 0 ≤ c by simpa using hvv.1)
            subst hi0
            have hi : i < 21 := by
              have := hvv.2
              simp at this
              omega
            have hd := dec_len ⟨i, hi⟩
            simp only at hd
            have HIT := Lib.hid (fun W => digits_any i hi W)
            obtain ⟨S1, hadd1, hS1⟩ := add_ex T ⟨#[32, 120]⟩ HTj.out (Y := [32, 120]) rfl (by rw [← size_of HTj.out]; simp; omega)
            obtain ⟨T', hadd2, hT'⟩ := add_ex S1 ⟨(dec i).toArray⟩ hS1 (Y := dec i) rfl (by rw [List.length_append, ← size_of HTj.out]; simp; omega)
            have HT' := Lib.hid hT'
            have HS' := Lib.hid (show T'.size ≤ 6 + 4 * (2 + 1) by
              rw [size_of hT', List.length_append, List.length_append, ← size_of HTj.out]
              simp
              omega)
            clear hT' hS1 hvv hsT hlet
            go_wp2_with (
              go_at_call 38
              refine (HIT.out _).mono ?_
              rintro e w9 ⟨rfl, hb9⟩
              have hB9 := HG.out _ _ HBr.out hb9
              clear hb9)
            clear hadd1 hadd2
            go_roundg (H.length - (2 + 1))
            case measure => have := HRr.out; omega
            case rel => exact ⟨2 + 1, T', by omega, rfl, rfl, Lib.hid (by rw [HT'.out, HV1.out]; simp), HS', by go_num, Lib.hid hB9⟩
        · obtain ⟨hjv', hnum, hlet⟩ := HLN.out j hlt hjv
          have gb0 : (((((⟨H.toArray⟩ : ByteArray)[j]'hjz).toNat : Nat) : Int) == 65) = false := by
            show (((H[j].toNat : Nat) : Int) == 65) = false
            rw [hlet]
            decide
          have gb1 : (((((⟨H.toArray⟩ : ByteArray)[j]'hjz).toNat : Nat) : Int) == 66) = false := by
            show (((H[j].toNat : Nat) : Int) == 66) = false
            rw [hlet]
            decide
          have gb2 : (((((⟨H.toArray⟩ : ByteArray)[j]'hjz).toNat : Nat) : Int) == 67) = false := by
            show (((H[j].toNat : Nat) : Int) == 67) = false
            rw [hlet]
            decide
          clear hjv
          have hmm := HNUM.out hnum
          subst hnum
          have HV1 := Lib.hid (letTxt_num v a b c m)
          rw [← hjv'] at HV1
          obtain ⟨i, hi0⟩ := Int.eq_ofNat_of_zero_le hmm.1
          subst hi0
          have hi : i < 21 := by omega
          have hd := dec_len ⟨i, hi⟩
          simp only at hd
          have HIT := Lib.hid (fun W => digits_any i hi W)
          obtain ⟨S1, hadd1, hS1⟩ := add_ex T ⟨#[32]⟩ HTj.out (Y := [32]) rfl (by rw [← size_of HTj.out]; simp; omega)
          obtain ⟨T', hadd2, hT'⟩ := add_ex S1 ⟨(dec i).toArray⟩ hS1 (Y := dec i) rfl (by rw [List.length_append, ← size_of HTj.out]; simp; omega)
          have HT' := Lib.hid hT'
          have HS' := Lib.hid (show T'.size ≤ 6 + 4 * (j + 1) by
            rw [size_of hT', List.length_append, List.length_append, ← size_of HTj.out]
            simp
            omega)
          have HJV := Lib.hid hjv'
          clear hT' hS1 hmm hsT hlet hjv'
          go_wp2_with (
            go_at_call 38
            refine (HIT.out _).mono ?_
            rintro e w9 ⟨rfl, hb9⟩
            have hB9 := HG.out _ _ HBr.out hb9
            clear hb9)
          clear hadd1 hadd2
          go_roundg (H.length - (j + 1))
          case measure => have := HRr.out; omega
          case rel => exact ⟨j + 1, T', by omega, rfl, rfl, Lib.hid (by rw [HT'.out, ← HJV.out, HV1.out]; simp), HS', by go_num, Lib.hid hB9⟩
      · have g1 : decide ((j : Int) < (H.length : Int)) = false := decide_eq_false (by omega)
        have hjl : j = H.length := by omega
        have HH2 := Lib.hid (show T.data.toList = [40] ++ o ++ (varsTxt v a b c ++ numTxt num m) by rw [HTj.out, hjl, HLE.out])
        have HBq := HBr
        clear HTj HSj HBr
        subst hjl
        go_wp2_with fail
        go_loopg [6, 8] ks.length (fun r s6 s8 wr' => ∃ (k : Nat) (T : ByteArray), k ≤ ks.length ∧ r = ks.length - k ∧ s6 = .string T ∧ Hid (T.data.toList = [40] ++ o ++ (varsTxt v a b c ++ numTxt num m) ++ showL (ks.take k)) ∧ s8 = .int .i64 (k : Int) ∧ Hid (Below (w.heap.size + 1) (w.alloc (.cells #[.string ⟨o.toArray⟩, .int .i64 a, .int .i64 b, .int .i64 c, .int .i64 m, .slice A ks.length cap] 24)) wr'))
        case atStart => exact ⟨0, T, by omega, rfl, rfl, Lib.hid (by rw [HH2.out]; simp [showL]), rfl, HBq⟩
        case round =>
          clear c0 c1 c2 c3 c4 c5 HBq HH2 T
          obtain ⟨k, T, hk, hr, rfl, HTk, rfl, HBr⟩ := hrel
          have HRr2 := Lib.hid hr
          clear hr
          obtain ⟨c0, c1, c2, c3, c4, c5⟩ := HX.out _ HBr.out
          have hbw := HW.out _ HBr.out
          by_cases hlt2 : k < ks.length
          · obtain ⟨bb, off, A', cap', rfl, hlo, hcells, hkid⟩ := HC.out.kid k hlt2
            simp only [Core.kids] at hcells hkid
            have HS := Lib.hid (showL_take ks k hlt2)
            have HSL := Lib.hid (showL_take_le ks (k + 1))
            have HI := Lib.hid (IH.out (ks[k]'hlt2) (List.getElem_mem hlt2))
            generalize ks[k]'hlt2 = x at *
            cases x with
            | node o' a' b' c' n' ks' =>
              obtain ⟨k0, k1, k2, k3, k4, k5⟩ := kid_cells hlo hcells hbw
              have HK := Lib.hid (hkid.later hbw hbw.size)
              clear hcells hkid IH hbw
              generalize showT (.node o' a' b' c' n' ks') = Y at *
              have g2 : decide ((k : Int) < (ks.length : Int)) = true := decide_eq_true (by omega)
              have hlenT : ([32] : List UInt8).length + Y.length + T.data.toList.length ≤ 46000 := by
                have e1 := HS.out
                have e2 := HSL.out
                have e3 := congrArg List.length HT.out
                have e4 := HRL.out
                rw [HTk.out]
                rw [e1] at e2
                simp only [List.length_append, List.length_cons, List.length_nil] at e2 e3 ⊢
                omega
              obtain ⟨S1, hadd3, hS1⟩ := add_ex T ⟨#[32]⟩ (X := T.data.toList) (Y := [32]) rfl rfl (by omega)
              obtain ⟨T', hadd4, hT'⟩ := add_ex S1 ⟨Y.toArray⟩ hS1 (Y := Y) rfl (by simp only [List.length_append]; omega)
              have HT' := Lib.hid hT'
              clear hT' hlenT hS1
              go_wp2_with (
                go_at_call 20
                refine (HI.out A' cap' _ HK.out).mono ?_
                rintro e w5 ⟨rfl, hb5⟩
                have hB5 := HG.out _ _ HBr.out hb5
                clear hb5)
              clear hadd3 hadd4
              go_roundg (ks.length - (k + 1))
              case measure => have := HRr2.out; omega
              case rel => exact ⟨k + 1, T', by omega, rfl, rfl, Lib.hid (by rw [HT'.out, HTk.out, HS.out]; simp), by go_num, Lib.hid hB5⟩
          · have g2 : decide ((k : Int) < (ks.length : Int)) = false := decide_eq_false (by omega)
            have HTe := Lib.hid (HTk.out.trans (by rw [List.take_of_length_le (by omega)]))
            obtain ⟨T', hadd5, hT'⟩ := add_ex T ⟨#[41]⟩ HTe.out (Y := [41]) rfl (by
              have e3 := congrArg List.length HT.out
              have e4 := HRL.out
              simp only [List.length_append, List.length_cons, List.length_nil] at e3 ⊢
              omega)
            have HF := Lib.hid (bytes_of (hT'.trans HT.out.symm))
            clear hT'
            go_wp2_with fail
            go_ret
            exact ⟨congrArg (fun x : ByteArray => Ending.returned (.string x)) HF.out, hbw⟩
end Go.Proofs.YtcgjacaemblnmaaDoor
