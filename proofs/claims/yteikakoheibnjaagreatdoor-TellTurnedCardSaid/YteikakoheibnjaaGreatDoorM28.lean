/- Parts of the proof: TValue, RValue. -/
import Derived.Test.YteikakoheibnjaaGreatDoorM25
import Derived.Test.YteikakoheibnjaaGreatDoorM27
namespace Go.Proofs.YteikakoheibnjaaGreatDoor
open Go Go.RowKit

theorem setB_ge {l : List Int} (h : setB l = true) : ∀ k (hk : k < l.length), (k : Int) ≤ l[k]
  | 0, hk => by
    have := (setB_mem h l[0] (List.getElem_mem hk)).1
    omega
  | k + 1, hk => by
    have ih := setB_ge h k (by omega)
    have h1 := List.all_eq_true.1 h (k + 1) (List.mem_range.2 hk)
    unfold setStep at h1
    rw [Bool.and_eq_true, getD_at l hk, Nat.add_sub_cancel, getD_at l (show k < l.length by omega)] at h1
    have h2 := h1.2
    rw [show (k + 1 == 0) = false from rfl, Bool.false_or, decide_eq_true_eq] at h2
    omega
theorem setB_len {l : List Int} (h : setB l = true) : l.length ≤ 1000 := by
  rcases Nat.eq_zero_or_pos l.length with h0 | h0
  · omega
  · have h1 := setB_ge h (l.length - 1) (by omega)
    have h2 := (setB_mem h l[l.length - 1] (List.getElem_mem (by omega))).2
    omega
theorem formatBool_w (b : Bool) : Lib.formatBool b = if b then wTrue else wFalse := by cases b <;> decide +kernel
set_option maxHeartbeats 4000000 in
theorem tvalue_any {w : World} {A : Option Addr} {c : Nat} {v : ValP} (h : IntsAt w w.heap.size A c v.set) (hv : valB v = true) (hT : TTab w) :
    Calls Tryz.prog 35 #[valW v.name v.order A v.set.length c] w fun e w' => e = .returned (.string ⟨(valueS v).toArray⟩) ∧ Below w.heap.size w w' := by
  obtain ⟨nm, o, l⟩ := v
  obtain ⟨_, ⟨ho0, ho2⟩, hset, hsh⟩ := valB_facts hv
  dsimp only at h ho0 ho2 hset hsh ⊢
  have hz := h.small
  have hlen := setB_len hset
  have HMEM := Lib.hid (setB_mem hset)
  have HVS : Hid (valueS ⟨nm, o, l⟩ = if o = 0 then (if l = [] then wFalse else wTrue) else if o = 1 then num (l.getD 0 0) else [123] ++ commas (l.map num) ++ [125]) := Lib.hid rfl
  have HSH : Hid (shapeB o l = true) := Lib.hid hsh
  have HB1 : Below w.heap.size w (w.alloc (boxV nm o A l.length c)) := (Below.refl _ _).alloc (Nat.le_refl _) _
  have HW := Lib.hid (fun W (hb : Below (w.alloc (boxV nm o A l.length c)).heap.size (w.alloc (boxV nm o A l.length c)) W) => HB1.trans (hb.mono (by simp)))
  have HI0 := Lib.hid (fun W (hb : Below (w.alloc (boxV nm o A l.length c)).heap.size (w.alloc (boxV nm o A l.length c)) W) => h.keep (w' := W) (fun p hp => (HW.out W hb).cell hp))
  have HTT := Lib.hid (fun W (hb : Below (w.alloc (boxV nm o A l.length c)).heap.size (w.alloc (boxV nm o A l.length c)) W) => hT.below (HW.out W hb))
  have HBX := Lib.hid (fun W (hb : Below (w.alloc (boxV nm o A l.length c)).heap.size (w.alloc (boxV nm o A l.length c)) W) => And.intro (vbox_at hb 1 _ rfl) (vbox_at hb 2 _ rfl))
  have hws : (w.alloc (boxV nm o A l.length c)).heap.size = w.heap.size + 1 := by simp
  generalize valueS ⟨nm, o, l⟩ = VS at *
  clear h hv hset hsh hT HB1
  obtain ⟨i9, hi9, hz0, hz1, hz2⟩ := info_parts tinf_str
  go_enter Tryz.func35, Tryz.ntmps35
  go_wp2_with fail
  go_loopg [3, 9] l.length (fun r lv i wr => ∃ k : Nat, k ≤ l.length ∧ r = l.length - k ∧ i = .int .i64 (k : Int) ∧ Hid (wr.ownsRow (w.heap.size + 1) 9 1 lv k (strVs ((l.take k).map num))) ∧ Hid (Below (w.alloc (boxV nm o A l.length c)).heap.size (w.alloc (boxV nm o A l.length c)) wr))
  case atStart => exact ⟨0, Nat.zero_le _, rfl, rfl, Lib.hid ⟨rfl, .inl ⟨rfl, rfl⟩⟩, Lib.hid (Below.refl _ _)⟩
  case round =>
    obtain ⟨k, hk, hr, rfl, HO, HB⟩ := hrel
    have HRr := Lib.hid hr
    have hs1 := HB.out.size
    rw [hws] at hs1
    clear hr
    by_cases hlt : k < l.length
    · obtain ⟨b, off, rfl, hlo, hc⟩ := (HI0.out _ HB.out).at_ (by omega)
      have c0 := hc k hlt
      have hn := HMEM.out l[k] (List.getElem_mem hlt)
      have HSN := Lib.hid (show (l.take (k + 1)).map num = (l.take k).map num ++ [num l[k]] by rw [List.take_succ_eq_append_getElem hlt, List.map_append]; rfl)
      have HIT := Lib.hid (titoa_any (n := l[k]) hn.1 (by omega) (HTT.out _ HB.out))
      have g1 : decide ((k : Int) < (l.length : Int)) = true := decide_eq_true (by omega)
      have hp0 : (0 : Int) ≤ (k : Int) := by omega
      have hp1 : (k : Int) < (l.length : Int) := by omega
      clear hc hn
      generalize l[k] = n at *
      generalize num n = X at *
      go_wp2_with (first
        | (at_builtin
           refine wpList_append_any _ rfl (.tmp 13) (.tmp 16) 40 rfl (w.heap.size + 1) 9 i9 _ 1 16 tund_strs hi9 hz0 hz1 hz2 rfl (by decide) _ k (strVs ((l.take k).map num)) rfl (HO5.out.alloc _) (w5.heap.size + 1) (some ⟨w5.heap.size, 0, none⟩) 1 1 [.string ⟨X.toArray⟩] rfl (treads_one (t := 9) (heap_new_at rfl)) (tstr_one _) (by simp only [maxLen]; omega) (by omega) (by have := HB5.out.size; rw [hws] at this; simp <;> omega) ?_
           intro v7 w7 hown7 hg7 hv7
           have HOWN7 := Lib.hid hown7
           have HG7 := Lib.hid hg7
           clear hown7 hg7 hv7)
        | (go_at_call 20
           refine HIT.out.mono ?_
           rintro e w5 ⟨rfl, hb5⟩
           have HB5 := Lib.hid (HB.out.trans (hb5.mono HB.out.size))
           have HO5 := Lib.hid ((Fr.of_below hb5).own HO.out (fun k hk => by have := (HO.out.lt k hk).2; omega))
           clear hb5))
      have hown7 := HOWN7.out
      have hg7 := HG7.out
      have HO7 := Lib.hid (show w7.ownsRow (w.heap.size + 1) 9 1 v7 (k + 1) (strVs ((l.take (k + 1)).map num)) by
        rw [HSN.out, tstrVs_snoc]
        exact hown7)
      have HB7 := Lib.hid ((HB5.out.alloc HB5.out.size _).grown hg7 (by have := HB5.out.size; simp at this ⊢; omega) (fun k hk => by rw [hws]; have := (HO5.out.lt k hk).1; omega))
      clear hown7 hg7
      go_roundg (l.length - (k + 1))
      case measure => have := HRr.out; omega
      case rel => exact ⟨k + 1, by omega, rfl, by go_num, HO7, HB7⟩
    · have g1 : decide ((k : Int) < (l.length : Int)) = false := decide_eq_false (by omega)
      obtain rfl : k = l.length := by omega
      obtain ⟨A8, c8, rfl⟩ := own_slice HO.out
      have HO8 := Lib.hid (show wr.ownsRow (w.heap.size + 1) 9 1 (.slice A8 (l.map num).length c8) (l.map num).length (strVs (l.map num)) by
        have h1 := HO.out
        rw [List.take_length] at h1
        rw [List.length_map]
        exact h1)
      obtain ⟨b1, b2⟩ := HBX.out _ HB.out
      have HOS := Lib.hid HSH.out
      clear HO HSH hlt
      have h012 : o = 0 ∨ o = 1 ∨ o = 2 := by omega
      clear ho0 ho2
      rcases h012 with rfl | rfl | rfl
      · rw [if_pos rfl] at HVS
        by_cases hl0 : l.length = 0
        · have HF := Lib.hid (show VS = wFalse by rw [HVS.out, if_pos (List.eq_nil_of_length_eq_zero hl0)])
          have g2 : decide ((0 : Int) < (l.length : Int)) = false := decide_eq_false (by omega)
          have g3 : decide (0 < l.length) = false := decide_eq_false (by omega)
          have HFB := Lib.hid (fun W => Tryz.strconv_FormatBool false W)
          clear hl0 HVS
          go_wp2_with (
            go_at_call 47
            refine (HFB.out _).mono ?_
            rintro e w2 ⟨rfl, rfl⟩)
          go_ret
          refine ⟨?_, HW.out _ HB.out⟩
          rw [HF.out, formatBool_w]
          rfl
        · have HF := Lib.hid (show VS = wTrue by rw [HVS.out, if_neg (by rintro rfl; exact hl0 rfl)])
          have g2 : decide ((0 : Int) < (l.length : Int)) = true := decide_eq_true (by omega)
          have g3 : decide (0 < l.length) = true := decide_eq_true (by omega)
          have HFB := Lib.hid (fun W => Tryz.strconv_FormatBool true W)
          clear hl0 HVS
          go_wp2_with (
            go_at_call 47
            refine (HFB.out _).mono ?_
            rintro e w2 ⟨rfl, rfl⟩)
          go_ret
          refine ⟨?_, HW.out _ HB.out⟩
          rw [HF.out, formatBool_w]
          rfl
      · rw [if_neg (by decide), if_pos rfl] at HVS
        have hl1 : l.length = 1 := by
          have := HOS.out
          unfold shapeB at this
          rw [if_neg (by decide), if_pos rfl, beq_iff_eq] at this
          exact this
        have g3 : 0 < l.length := by omega
        have g4 : (0 : Int) < (l.length : Int) := by omega
        obtain ⟨g, cap, hv8, _, _⟩ := HO8.out.form (by rw [List.length_map]; omega)
        have hA8 : A8 = some ⟨g, 0, none⟩ := by injection hv8
        subst hA8
        have k0 : wr.cell? ⟨g, 0, none⟩ = some (.string ⟨VS.toArray⟩) := by
          refine HO8.out.cells (g := g) rfl 0 _ ?_
          rw [HVS.out, getD_at l g3]
          unfold strVs
          rw [List.getElem?_map, List.getElem?_map, List.getElem?_eq_getElem g3]
          rfl
        clear HVS hl1 hv8
        go_wp2_with fail
        go_ret
        exact ⟨rfl, HW.out _ HB.out⟩
      · rw [if_neg (by decide), if_neg (by decide)] at HVS
        have hcl : (commas (l.map num)).length ≤ 8 * l.length := by
          have := tcommas_len (l.map num) (fun x hx => by
            obtain ⟨n, hn, rfl⟩ := List.mem_map.1 hx
            have := HMEM.out n hn
            exact num_len this.1 (by omega))
          rwa [List.length_map] at this
        have HJ := Lib.hid (tjoin_any HO8.out (by omega) (by rw [List.length_map]; omega))
        rw [List.length_map] at HJ
        generalize commas (l.map num) = X at *
        obtain ⟨T1, hadd1, hT1⟩ := add_ex ⟨#[123]⟩ ⟨X.toArray⟩ (X := [123]) (Y := X) rfl rfl (by simp; omega)
        obtain ⟨T2, hadd2, hT2⟩ := add_ex T1 ⟨#[125]⟩ (X := [123] ++ X) (Y := [125]) hT1 rfl (by simp; omega)
        have HF := Lib.hid (show T2 = ⟨VS.toArray⟩ by rw [HVS.out]; exact bytes_of hT2)
        clear HVS hT1 hT2 hcl
        go_wp2_with (
          go_at_call 48
          refine HJ.out.mono ?_
          rintro e w2 ⟨rfl, hb2⟩
          have HB2 := Lib.hid (HB.out.trans (hb2.mono HB.out.size))
          clear hb2)
        go_ret
        exact ⟨congrArg (fun x : ByteArray => Ending.returned (.string x)) HF.out, HW.out _ HB2.out⟩
end Go.Proofs.YteikakoheibnjaaGreatDoor
namespace Go.Proofs.YteikakoheibnjaaGreatDoor
open Go Go.RowKit

set_option maxHeartbeats 4000000 in
theorem rvalue_any {w : World} {A : Option Addr} {c : Nat} {v : ValP} (h : IntsAt w w.heap.size A c v.set) (hv : valB v = true) :
    Calls Tryz.prog 36 #[valW v.name v.order A v.set.length c] w fun e w' => e = .returned (.string ⟨(valueS v).toArray⟩) ∧ Below w.heap.size w w' := by
  obtain ⟨nm, o, l⟩ := v
  obtain ⟨_, ⟨ho0, ho2⟩, hset, hsh⟩ := valB_facts hv
  dsimp only at h ho0 ho2 hset hsh ⊢
  have hz := h.small
  have hlen := setB_len hset
  have HMEM := Lib.hid (setB_mem hset)
  have HVS : Hid (valueS ⟨nm, o, l⟩ = if o = 0 then (if l = [] then wFalse else wTrue) else if o = 1 then num (l.getD 0 0) else [123] ++ commas (l.map num) ++ [125]) := Lib.hid rfl
  have HOS : Hid (shapeB o l = true) := Lib.hid hsh
  have HB1 : Below w.heap.size w (w.alloc (boxV nm o A l.length c)) := (Below.refl _ _).alloc (Nat.le_refl _) _
  have HW := Lib.hid (fun W (hb : Below (w.alloc (boxV nm o A l.length c)).heap.size (w.alloc (boxV nm o A l.length c)) W) => HB1.trans (hb.mono (by simp)))
  have HI0 := Lib.hid (fun W (hb : Below (w.alloc (boxV nm o A l.length c)).heap.size (w.alloc (boxV nm o A l.length c)) W) => h.keep (w' := W) (fun p hp => (HW.out W hb).cell hp))
  have HBX := Lib.hid (fun W (hb : Below (w.alloc (boxV nm o A l.length c)).heap.size (w.alloc (boxV nm o A l.length c)) W) => And.intro (vbox_at hb 1 _ rfl) (vbox_at hb 2 _ rfl))
  generalize valueS ⟨nm, o, l⟩ = VS at *
  clear h hv hset hsh HB1
  have h012 : o = 0 ∨ o = 1 ∨ o = 2 := by omega
  clear ho0 ho2
  rcases h012 with rfl | rfl | rfl
  · rw [if_pos rfl] at HVS
    have hl1 : l.length ≤ 1 := by
      have := HOS.out
      unfold shapeB at this
      rw [if_pos rfl, Bool.or_eq_true, beq_iff_eq, beq_iff_eq] at this
      rcases this with rfl | rfl <;> simp
    by_cases hl0 : l.length = 0
    · have HF := Lib.hid (show wFalse = VS by rw [HVS.out, if_pos (List.eq_nil_of_length_eq_zero hl0)])
      have g1 : ((l.length : Int) == 1) = false := by simp; omega
      clear hl0 HVS
      go_enter Tryz.func36, Tryz.ntmps36
      go_wp2_with fail
      go_ret
      exact ⟨by rw [← HF.out]; rfl, HW.out _ (Below.refl _ _)⟩
    · have HF := Lib.hid (show wTrue = VS by rw [HVS.out, if_neg (by rintro rfl; exact hl0 rfl)])
      have g1 : ((l.length : Int) == 1) = true := by simp; omega
      clear hl0 HVS
      go_enter Tryz.func36, Tryz.ntmps36
      go_wp2_with fail
      go_ret
      exact ⟨by rw [← HF.out]; rfl, HW.out _ (Below.refl _ _)⟩
  · rw [if_neg (by decide), if_pos rfl] at HVS
    have hl1 : l.length = 1 := by
      have := HOS.out
      unfold shapeB at this
      rw [if_neg (by decide), if_pos rfl, beq_iff_eq] at this
      exact this
    have g3 : 0 < l.length := by omega
    have g4 : (0 : Int) < (l.length : Int) := by omega
    have hn := HMEM.out l[0] (List.getElem_mem g3)
    obtain ⟨b, off, rfl, hlo, hc⟩ := (HI0.out _ (Below.refl _ _)).at_ g3
    have c0 := hc 0 g3
    rw [getD_at l g3] at HVS
    have HD := Lib.hid (fun W => tdigits_any (n := l[0]) hn.1 (by omega) W)
    clear hc hn hl1
    generalize l[0] = n at *
    rw [← HVS.out] at HD
    clear HVS
    rw [Nat.add_zero] at c0
    go_enter Tryz.func36, Tryz.ntmps36
    go_wp2_with (
      go_at_call 23
      refine (HD.out _).mono ?_
      rintro e w2 ⟨rfl, hb2⟩)
    go_ret
    exact ⟨rfl, HW.out _ hb2⟩
  · rw [if_neg (by decide), if_neg (by decide)] at HVS
    go_enter Tryz.func36, Tryz.ntmps36
    go_wp2_with fail
    go_loopg [3, 4] l.length (fun r sv i wr => ∃ (k : Nat) (S : ByteArray), k ≤ l.length ∧ r = l.length - k ∧ i = .int .i64 (k : Int) ∧ sv = .string S ∧ Hid (S.data.toList = [123] ++ commas ((l.take k).map num)) ∧ Hid (Below (w.alloc (boxV nm 2 A l.length c)).heap.size (w.alloc (boxV nm 2 A l.length c)) wr))
    case atStart => exact ⟨0, _, Nat.zero_le _, rfl, rfl, rfl, Lib.hid rfl, Lib.hid (Below.refl _ _)⟩
    case round =>
      obtain ⟨k, S, hk, hr, rfl, rfl, HS, HB⟩ := hrel
      have HRr := Lib.hid hr
      clear hr
      obtain ⟨b1, b2⟩ := HBX.out _ HB.out
      have hcl : (commas ((l.take k).map num)).length ≤ 8 * l.length := by
        have := tcommas_len ((l.take k).map num) (fun x hx => by
          obtain ⟨n, hn, rfl⟩ := List.mem_map.1 hx
          have := HMEM.out n (List.mem_of_mem_take hn)
          exact num_len this.1 (by omega))
        rw [List.length_map, List.length_take] at this
        omega
      by_cases hlt : k < l.length
      · obtain ⟨b, off, rfl, hlo, hc⟩ := (HI0.out _ HB.out).at_ (by omega)
        have c0 := hc k hlt
        have hn := HMEM.out l[k] (List.getElem_mem hlt)
        have HSN := Lib.hid (show (l.take (k + 1)).map num = (l.take k).map num ++ [num l[k]] by rw [List.take_succ_eq_append_getElem hlt, List.map_append]; rfl)
        have HD := Lib.hid (fun W => tdigits_any (n := l[k]) hn.1 (by omega) W)
        have hnl := num_len (n := l[k]) hn.1 (by omega)
        have g1 : decide ((k : Int) < (l.length : Int)) = true := decide_eq_true (by omega)
        have hp0 : (0 : Int) ≤ (k : Int) := by omega
        have hp1 : (k : Int) < (l.length : Int) := by omega
        clear hc hn
        generalize l[k] = n at *
        generalize num n = X at *
        by_cases hk0 : k = 0
        · have q2 : decide ((0 : Int) < (k : Int)) = false := decide_eq_false (by omega)
          have q3 : decide (0 < k) = false := decide_eq_false (by omega)
          have HS1 := Lib.hid (show S.data.toList = [123] by rw [HS.out, hk0]; rfl)
          obtain ⟨T1, hadd1, hT1⟩ := add_ex S ⟨X.toArray⟩ (X := [123]) (Y := X) HS1.out rfl (by simp only [List.length_cons, List.length_nil]; omega)
          have HT := Lib.hid (show T1.data.toList = [123] ++ commas ((l.take (k + 1)).map num) by rw [hT1, HSN.out, hk0]; rfl)
          clear hT1 hk0 hcl
          go_wp2_with (
            go_at_call 23
            refine (HD.out _).mono ?_
            rintro e w2 ⟨rfl, hb2⟩
            have HB2 := Lib.hid (HB.out.trans (hb2.mono HB.out.size))
            clear hb2)
          go_roundg (l.length - (k + 1))
          case measure => have := HRr.out; omega
          case rel => exact ⟨k + 1, _, by omega, rfl, by go_num, rfl, HT, HB2⟩
        · have q2 : decide ((0 : Int) < (k : Int)) = true := decide_eq_true (by omega)
          have q3 : decide (0 < k) = true := decide_eq_true (by omega)
          have hne : (l.take k).map num ≠ [] := by
            intro h
            have := congrArg List.length h
            rw [List.length_map, List.length_take, List.length_nil] at this
            omega
          obtain ⟨T1, hadd1, hT1⟩ := add_ex S ⟨#[44, 32]⟩ (X := [123] ++ commas ((l.take k).map num)) (Y := [44, 32]) HS.out rfl (by simp only [List.length_append, List.length_cons, List.length_nil]; omega)
          obtain ⟨T2, hadd2, hT2⟩ := add_ex T1 ⟨X.toArray⟩ (X := [123] ++ commas ((l.take k).map num) ++ [44, 32]) (Y := X) hT1 rfl (by simp only [List.length_append, List.length_cons, List.length_nil]; omega)
          have HT := Lib.hid (show T2.data.toList = [123] ++ commas ((l.take (k + 1)).map num) by rw [hT2, HSN.out, commas_snoc _ _ hne]; simp)
          clear hT1 hT2 hk0 hcl hne
          go_wp2_with (
            go_at_call 23
            refine (HD.out _).mono ?_
            rintro e w2 ⟨rfl, hb2⟩
            have HB2 := Lib.hid (HB.out.trans (hb2.mono HB.out.size))
            clear hb2)
          go_roundg (l.length - (k + 1))
          case measure => have := HRr.out; omega
          case rel => exact ⟨k + 1, _, by omega, rfl, by go_num, rfl, HT, HB2⟩
      · have g1 : decide ((k : Int) < (l.length : Int)) = false := decide_eq_false (by omega)
        obtain ⟨T1, hadd1, hT1⟩ := add_ex S ⟨#[125]⟩ (X := [123] ++ commas ((l.take k).map num)) (Y := [125]) HS.out rfl (by simp only [List.length_append, List.length_cons, List.length_nil]; omega)
        have HF := Lib.hid (show T1 = ⟨VS.toArray⟩ by
          rw [HVS.out]
          refine bytes_of ?_
          rw [hT1, List.take_of_length_le (by omega)])
        clear hT1 HVS hcl
        go_wp2_with fail
        go_ret
        exact ⟨congrArg (fun x : ByteArray => Ending.returned (.string x)) HF.out, HW.out _ HB.out⟩
end Go.Proofs.YteikakoheibnjaaGreatDoor
