/- Parts of the proof: TValue, TList. -/
import Derived.Deep.RegionHeld3
import Derived.Test.YteikakoheibnjaaDoorM25
import Derived.Test.YteikakoheibnjaaDoorM28
namespace Go.Proofs.YteikakoheibnjaaDoor
open Go Go.RowKit

theorem setB_ge {l : List Int} (h : setB l = true) : ∀ k (hk : k < l.length), (k : Int) ≤ l[k]
  | 0, hk => by
    have := (setB_mem h l[0] (List.getElem_mem hk)).1
    omega
  | k + 1, hk => by
    have ih := setB_ge h k (by omega)
    have h1 := List.all_eq_true.1 h (k + 1) (List.mem_range.2 hk)
    unfold setStep at h1
    rw [Bool.and_eq_true, getD_at l hk, Nat.add_sub_cancel, getD_at l (show k < l.length by omega)] at h1
    have h2 := h1.2
    rw [show (k + 1 == 0) = false from rfl, Bool.false_or, decide_eq_true_eq] at h2
    omega
theorem setB_len {l : List Int} (h : setB l = true) : l.length ≤ 1000 := by
  rcases Nat.eq_zero_or_pos l.length with h0 | h0
  · omega
  · have h1 := setB_ge h (l.length - 1) (by omega)
    have h2 := (setB_mem h l[l.length - 1] (List.getElem_mem (by omega))).2
    omega
theorem formatBool_w (b : Bool) : Lib.formatBool b = if b then wTrue else wFalse := by cases b <;> decide +kernel
set_option maxHeartbeats 4000000 in
theorem tvalue_any {w : World} {A : Option Addr} {c : Nat} {v : ValP} (h : IntsAt w w.heap.size A c v.set) (hv : valB v = true) (hT : TTab w) :
    Calls Tryd.prog 110 #[valW v.name v.order A v.set.length c] w fun e w' => e = .returned (.string ⟨(valueS v).toArray⟩) ∧ Below w.heap.size w w' := by
  obtain ⟨nm, o, l⟩ := v
  obtain ⟨_, ⟨ho0, ho2⟩, hset, hsh⟩ := valB_facts hv
  dsimp only at h ho0 ho2 hset hsh ⊢
  have hz := h.small
  have hlen := setB_len hset
  have HMEM := Lib.hid (setB_mem hset)
  have HVS : Hid (valueS ⟨nm, o, l⟩ = if o = 0 then (if l = [] then wFalse else wTrue) else if o = 1 then num (l.getD 0 0) else [123] ++ commas (l.map num) ++ [125]) := Lib.hid rfl
  have HSH : Hid (shapeB o l = true) := Lib.hid hsh
  have HB1 : Below w.heap.size w (w.alloc (boxV nm o A l.length c)) := (Below.refl _ _).alloc (Nat.le_refl _) _
  have HW := Lib.hid (fun W (hb : Below (w.alloc (boxV nm o A l.length c)).heap.size (w.alloc (boxV nm o A l.length c)) W) => HB1.trans (hb.mono (by simp)))
  have HI0 := Lib.hid (fun W (hb : Below (w.alloc (boxV nm o A l.length c)).heap.size (w.alloc (boxV nm o A l.length c)) W) => h.keep (w' := W) (fun p hp => (HW.out W hb).cell hp))
  have HTT := Lib.hid (fun W (hb : Below (w.alloc (boxV nm o A l.length c)).heap.size (w.alloc (boxV nm o A l.length c)) W) => hT.below (HW.out W hb))
  have HBX := Lib.hid (fun W (hb : Below (w.alloc (boxV nm o A l.length c)).heap.size (w.alloc (boxV nm o A l.length c)) W) => And.intro (vbox_at hb 1 _ rfl) (vbox_at hb 2 _ rfl))
  have hws : (w.alloc (boxV nm o A l.length c)).heap.size = w.heap.size + 1 := by simp
  generalize valueS ⟨nm, o, l⟩ = VS at *
  clear h hv hset hsh hT HB1
  obtain ⟨i9, hi9, hz0, hz1, hz2⟩ := info_parts tinf_str
  go_enter Tryd.func110, Tryd.ntmps110
  go_wp2_with fail
  go_loopg [3, 9] l.length (fun r lv i wr => ∃ k : Nat, k ≤ l.length ∧ r = l.length - k ∧ i = .int .i64 (k : Int) ∧ Hid (wr.ownsRow (w.heap.size + 1) 9 1 lv k (strVs ((l.take k).map num))) ∧ Hid (Below (w.alloc (boxV nm o A l.length c)).heap.size (w.alloc (boxV nm o A l.length c)) wr))
  case atStart => exact ⟨0, Nat.zero_le _, rfl, rfl, Lib.hid ⟨rfl, .inl ⟨rfl, rfl⟩⟩, Lib.hid (Below.refl _ _)⟩
  case round =>
    obtain ⟨k, hk, hr, rfl, HO, HB⟩ := hrel
    have HRr := Lib.hid hr
    have hs1 := HB.out.size
    rw [hws] at hs1
    clear hr
    by_cases hlt : k < l.length
    · obtain ⟨b, off, rfl, hlo, hc⟩ := (HI0.out _ HB.out).at_ (by omega)
      have c0 := hc k hlt
      have hn := HMEM.out l[k] (List.getElem_mem hlt)
      have HSN := Lib.hid (show (l.take (k + 1)).map num = (l.take k).map num ++ [num l[k]] by rw [List.take_succ_eq_append_getElem hlt, List.map_append]; rfl)
      have HIT := Lib.hid (titoa_any (n := l[k]) hn.1 (by omega) (HTT.out _ HB.out))
      have g1 : decide ((k : Int) < (l.length : Int)) = true := decide_eq_true (by omega)
      have hp0 : (0 : Int) ≤ (k : Int) := by omega
      have hp1 : (k : Int) < (l.length : Int) := by omega
      clear hc hn
      generalize l[k] = n at *
      generalize num n = X at *
      go_wp2_with (first
        | (at_builtin
           refine wpList_append_any _ rfl (.tmp 13) (.tmp 16) 40 rfl (w.heap.size + 1) 9 i9 _ 1 16 tund_strs hi9 hz0 hz1 hz2 rfl (by decide) _ k (strVs ((l.take k).map num)) rfl (HO5.out.alloc _) (w5.heap.size + 1) (some ⟨w5.heap.size, 0, none⟩) 1 1 [.string ⟨X.toArray⟩] rfl (treads_one (t := 9) (heap_new_at rfl)) (tstr_one _) (by simp only [maxLen]; omega) (by omega) (by have := HB5.out.size; rw [hws] at this; simp <;> omega) ?_
           intro v7 w7 hown7 hg7 hv7
           have HOWN7 := Lib.hid hown7
           have HG7 := Lib.hid hg7
           clear hown7 hg7 hv7)
        | (go_at_call 28
           refine HIT.out.mono ?_
           rintro e w5 ⟨rfl, hb5⟩
           have HB5 := Lib.hid (HB.out.trans (hb5.mono HB.out.size))
           have HO5 := Lib.hid ((Fr.of_below hb5).own HO.out (fun k hk => by have := (HO.out.lt k hk).2; omega))
           clear hb5))
      have hown7 := HOWN7.out
      have hg7 := HG7.out
      have HO7 := Lib.hid (show w7.ownsRow (w.heap.size + 1) 9 1 v7 (k + 1) (strVs ((l.take (k + 1)).map num)) by
        rw [HSN.out, tstrVs_snoc]
        exact hown7)
      have HB7 := Lib.hid ((HB5.out.alloc HB5.out.size _).grown hg7 (by have := HB5.out.size; simp at this ⊢; omega) (fun k hk => by rw [hws]; have := (HO5.out.lt k hk).1; omega))
      clear hown7 hg7
      go_roundg (l.length - (k + 1))
      case measure => have := HRr.out; omega
      case rel => exact ⟨k + 1, by omega, rfl, by go_num, HO7, HB7⟩
    · have g1 : decide ((k : Int) < (l.length : Int)) = false := decide_eq_false (by omega)
      obtain rfl : k = l.length := by omega
      obtain ⟨A8, c8, rfl⟩ := own_slice HO.out
      have HO8 := Lib.hid (show wr.ownsRow (w.heap.size + 1) 9 1 (.slice A8 (l.map num).length c8) (l.map num).length (strVs (l.map num)) by
        have h1 := HO.out
        rw [List.take_length] at h1
        rw [List.length_map]
        exact h1)
      obtain ⟨b1, b2⟩ := HBX.out _ HB.out
      have HOS := Lib.hid HSH.out
      clear HO HSH hlt
      have h012 : o = 0 ∨ o = 1 ∨ o = 2 := by omega
      clear ho0 ho2
      rcases h012 with rfl | rfl | rfl
      · rw [if_pos rfl] at HVS
        by_cases hl0 : l.length = 0
        · have HF := Lib.hid (show VS = wFalse by rw [HVS.out, if_pos (List.eq_nil_of_length_eq_zero hl0)])
          have g2 : decide ((0 : Int) < (l.length : Int)) = false := decide_eq_false (by omega)
          have g3 : decide (0 < l.length) = false := decide_eq_false (by omega)
          have HFB := Lib.hid (fun W => Tryd.strconv_FormatBool false W)
          clear hl0 HVS
          go_wp2_with (
            go_at_call 132
            refine (HFB.out _).mono ?_
            rintro e w2 ⟨rfl, rfl⟩)
          go_ret
          refine ⟨?_, HW.out _ HB.out⟩
          rw [HF.out, formatBool_w]
          rfl
        · have HF := Lib.hid (show VS = wTrue by rw [HVS.out, if_neg (by rintro rfl; exact hl0 rfl)])
          have g2 : decide ((0 : Int) < (l.length : Int)) = true := decide_eq_true (by omega)
          have g3 : decide (0 < l.length) = true := decide_eq_true (by omega)
          have HFB := Lib.hid (fun W => Tryd.strconv_FormatBool true W)
          clear hl0 HVS
          go_wp2_with (
            go_at_call 132
            refine (HFB.out _).mono ?_
            rintro e w2 ⟨rfl, rfl⟩)
          go_ret
          refine ⟨?_, HW.out _ HB.out⟩
          rw [HF.out, formatBool_w]
          rfl
      · rw [if_neg (by decide), if_pos rfl] at HVS
        have hl1 : l.length = 1 := by
          have := HOS.out
          unfold shapeB at this
          rw [if_neg (by decide), if_pos rfl, beq_iff_eq] at this
          exact this
        have g3 : 0 < l.length := by omega
        have g4 : (0 : Int) < (l.length : Int) := by omega
        obtain ⟨g, cap, hv8, _, _⟩ := HO8.out.form (by rw [List.length_map]; omega)
        have hA8 : A8 = some ⟨g, 0, none⟩ := by injection hv8
        subst hA8
        have k0 : wr.cell? ⟨g, 0, none⟩ = some (.string ⟨VS.toArray⟩) := by
          refine HO8.out.cells (g := g) rfl 0 _ ?_
          rw [HVS.out, getD_at l g3]
          unfold strVs
          rw [List.getElem?_map, List.getElem?_map, List.getElem?_eq_getElem g3]
          rfl
        clear HVS hl1 hv8
        go_wp2_with fail
        go_ret
        exact ⟨rfl, HW.out _ HB.out⟩
      · rw [if_neg (by decide), if_neg (by decide)] at HVS
        have hcl : (commas (l.map num)).length ≤ 8 * l.length := by
          have := tcommas_len (l.map num) (fun x hx => by
            obtain ⟨n, hn, rfl⟩ := List.mem_map.1 hx
            have := HMEM.out n hn
            exact num_len this.1 (by omega))
          rwa [List.length_map] at this
        have HJ := Lib.hid (tjoin_any HO8.out (by omega) (by rw [List.length_map]; omega))
        rw [List.length_map] at HJ
        generalize commas (l.map num) = X at *
        obtain ⟨T1, hadd1, hT1⟩ := add_ex ⟨#[123]⟩ ⟨X.toArray⟩ (X := [123]) (Y := X) rfl rfl (by simp; omega)
        obtain ⟨T2, hadd2, hT2⟩ := add_ex T1 ⟨#[125]⟩ (X := [123] ++ X) (Y := [125]) hT1 rfl (by simp; omega)
        have HF := Lib.hid (show T2 = ⟨VS.toArray⟩ by rw [HVS.out]; exact bytes_of hT2)
        clear HVS hT1 hT2 hcl
        go_wp2_with (
          go_at_call 36
          refine HJ.out.mono ?_
          rintro e w2 ⟨rfl, hb2⟩
          have HB2 := Lib.hid (HB.out.trans (hb2.mono HB.out.size))
          clear hb2)
        go_ret
        exact ⟨congrArg (fun x : ByteArray => Ending.returned (.string x)) HF.out, HW.out _ HB2.out⟩
end Go.Proofs.YteikakoheibnjaaDoor
namespace Go.Proofs.YteikakoheibnjaaDoor
open Go Go.RowKit

theorem valueS_len {v : ValP} (h : valB v = true) : (valueS v).length ≤ 9000 := by
  obtain ⟨_, ⟨h0, h2⟩, hs, hq⟩ := valB_facts h
  have hm := setB_mem hs
  have hl := setB_len hs
  unfold valueS
  split
  · split <;> decide
  · split
    · next h1 =>
      unfold shapeB at hq
      rw [if_neg (by omega), if_pos h1, beq_iff_eq] at hq
      have hn := hm (v.set.getD 0 0) (by rw [getD_at _ (by omega)]; exact List.getElem_mem _)
      have := num_len hn.1 (by omega)
      omega
    · have := tcommas_len (v.set.map num) (fun x hx => by
        obtain ⟨n, hn, rfl⟩ := List.mem_map.1 hx
        have := hm n hn
        exact num_len this.1 (by omega))
      rw [List.length_map] at this
      simp only [List.length_append, List.length_cons, List.length_nil]
      omega
theorem lineS_len {v : ValP} (h : valB v = true) : (lineS v).length ≤ 12000 := by
  have h1 := valueS_len h
  have h2 := nameB_len (valB_facts h).1
  unfold lineS
  simp only [List.length_append, List.length_cons, List.length_nil]
  omega
theorem lines_len : ∀ l : List ValP, (∀ v ∈ l, valB v = true) → (l.flatMap lineS).length ≤ 12000 * l.length
  | [], _ => by simp
  | v :: l, h => by
    have h1 := lineS_len (h v List.mem_cons_self)
    have h2 := lines_len l fun x hx => h x (List.mem_cons_of_mem _ hx)
    rw [List.flatMap_cons, List.length_append, List.length_cons]
    omega
theorem listS_len {t : List UInt8} {l : List ValP} (h : ∀ v ∈ l, valB v = true) (hl : l.length ≤ 6) : (listS t l).length ≤ t.length + 72001 := by
  have := lines_len l h
  unfold listS
  simp only [List.length_append, List.length_cons, List.length_nil]
  omega
theorem listS_take (t : List UInt8) (vs : List ValP) (k : Nat) (h : k < vs.length) : listS t (vs.take (k + 1)) = listS t (vs.take k) ++ lineS vs[k] := by
  unfold listS
  rw [List.take_succ_eq_append_getElem h, List.flatMap_append]
  simp
theorem lblk3 {W : World} {g : Nat} {t : TypeId} {c0 c1 c2 : Value} (h : Blk W g t #[c0, c1, c2]) : W.cell? ⟨g, 0, none⟩ = some c0 ∧ W.cell? ⟨g, 1, none⟩ = some c1 ∧ W.cell? ⟨g, 2, none⟩ = some c2 :=
  ⟨h.cell 0, h.cell 1, h.cell 2⟩
set_option maxRecDepth 100000 in
set_option maxHeartbeats 4000000 in
theorem tlist_any {w : World} {A : Option Addr} {c : Nat} {vs : List ValP} (t : List UInt8) (ht : t.length ≤ 100) (h : ValsAt w w.heap.size A c vs) (hv : ∀ v ∈ vs, valB v = true) (hl : vs.length ≤ 6) (hT : TTab w) :
    Calls Tryd.prog 84 #[.string ⟨t.toArray⟩, .slice A vs.length c] w fun e w' => e = .returned (.string ⟨(listS t vs).toArray⟩) ∧ Below w.heap.size w w' := by
  have HC := Lib.hid h
  have HVB := Lib.hid hv
  have HTT := Lib.hid hT
  obtain ⟨T0, hadd0, hT0⟩ := add_ex ⟨t.toArray⟩ ⟨#[10]⟩ (X := t) (Y := [10]) rfl rfl (by simp only [List.length_cons, List.length_nil]; omega)
  have HT0 := Lib.hid (show T0.data.toList = listS t (vs.take 0) by rw [hT0]; unfold listS; simp)
  clear h hv hT hT0
  go_enter Tryd.func84, Tryd.ntmps84
  go_wp2_with fail
  go_loopg [5, 12] vs.length (fun r sv i wr => ∃ (k : Nat) (S : ByteArray), k ≤ vs.length ∧ r = vs.length - k ∧ i = .int .i64 (k : Int) ∧ sv = .string S ∧ Hid (S.data.toList = listS t (vs.take k)) ∧ Hid (Below w.heap.size w wr))
  case atStart => exact ⟨0, _, Nat.zero_le _, rfl, rfl, rfl, HT0, Lib.hid (Below.refl _ _)⟩
  case round =>
    obtain ⟨k, S, hk, hr, rfl, rfl, HS, HB⟩ := hrel
    have HRr := Lib.hid hr
    have hs1 := HB.out.size
    clear hr
    by_cases hlt : k < vs.length
    · have HL := Lib.hid (HC.out.later HB.out HB.out.size)
      obtain ⟨b, off, A1, c1, rfl, hlo, d0, d1, d2, hset⟩ := HL.out.at_ k hlt
      have hvk := HVB.out vs[k] (List.getElem_mem hlt)
      have HVAL := Lib.hid (fun W (hb : Below wr.heap.size wr W) => tvalue_any (hset.later hb hb.size) hvk ((HTT.out.below HB.out).below hb))
      have hX := valueS_len hvk
      have hN := nameB_len (valB_facts hvk).1
      have hSl : S.data.toList.length ≤ 80000 := by
        rw [HS.out]
        have := listS_len (t := t) (l := vs.take k) (fun v hv => HVB.out v (List.mem_of_mem_take hv)) (by rw [List.length_take]; omega)
        omega
      have HLN := Lib.hid (show lineS vs[k] = vs[k].name ++ [32, 61, 32] ++ valueS vs[k] ++ [10] from rfl)
      have HST := Lib.hid (listS_take t vs k hlt)
      have g1 : decide ((k : Int) < (vs.length : Int)) = true := decide_eq_true (by omega)
      have hp0 : (0 : Int) ≤ (k : Int) := by omega
      have hp1 : (k : Int) < (vs.length : Int) := by omega
      clear hset hvk
      generalize valueS vs[k] = X at *
      generalize hln : lineS vs[k] = LN at *
      generalize vs[k].name = nm at *
      generalize vs[k].order = o at *
      generalize vs[k].set.length = sl at *
      clear hln
      obtain ⟨T1, hadd1, hT1⟩ := add_ex ⟨nm.toArray⟩ ⟨#[32, 61, 32]⟩ (X := nm) (Y := [32, 61, 32]) rfl rfl (by simp only [List.length_cons, List.length_nil]; omega)
      obtain ⟨T2, hadd2, hT2⟩ := add_ex T1 ⟨X.toArray⟩ (X := nm ++ [32, 61, 32]) (Y := X) hT1 rfl (by simp only [List.length_append, List.length_cons, List.length_nil]; omega)
      obtain ⟨T3, hadd3, hT3⟩ := add_ex T2 ⟨#[10]⟩ (X := nm ++ [32, 61, 32] ++ X) (Y := [10]) hT2 rfl (by simp only [List.length_append, List.length_cons, List.length_nil]; omega)
      obtain ⟨T4, hadd4, hT4⟩ := add_ex S T3 (X := S.data.toList) (Y := nm ++ [32, 61, 32] ++ X ++ [10]) rfl hT3 (by simp only [List.length_append, List.length_cons, List.length_nil]; omega)
      have HT := Lib.hid (show T4.data.toList = listS t (vs.take (k + 1)) by rw [hT4, HST.out, HS.out, HLN.out])
      clear hT1 hT2 hT3 hT4 hX hN hSl
      go_upto_region 5 with fail
      refine wp_named (fun W1 => Below wr.heap.size wr W1 ∧ Blk W1 wr.heap.size 94 #[.string ⟨nm.toArray⟩, .int .i64 o, .slice A1 sl c1]) ⟨?_, ?_⟩ ?_
      · repeat' (first | (with_reducible exact Below.refl _ _) | (with_reducible refine Below.setCell ?_ ?_ _) | (with_reducible refine Below.alloc ?_ ?_ _) | omega | (simp; done) | (simp <;> omega))
      · exact lblkNew _ _ _
      rintro W1 ⟨hb1, hB1⟩
      have HBW := Lib.hid hb1
      obtain ⟨x0, x1, x2⟩ := lblk3 hB1
      have hz1 := hB1.lt
      clear hb1 hB1 d0 d1 d2 HLN
      go_region_held3 (fun W : World => W.cell? ⟨wr.heap.size, 0, none⟩ = some (.string ⟨nm.toArray⟩) ∧ W.cell? ⟨wr.heap.size, 1, none⟩ = some (.int .i64 o) ∧ W.cell? ⟨wr.heap.size, 2, none⟩ = some (.slice A1 sl c1)) ((refine ⟨?_, ?_, ?_⟩) <;> repeat' (first | (with_reducible exact x0) | (with_reducible exact x1) | (with_reducible exact x2) | (with_reducible exact z0) | (with_reducible exact z1) | (with_reducible exact z2) | (with_reducible refine lkeepD ?_) | omega)) ((
        go_at_call 110
        refine (HVAL.out _ HBW.out.drew).mono ?_
        rintro e w3 ⟨rfl, hb3⟩
        have z0 := (hb3.cell (p := ⟨wr.heap.size, 0, none⟩) hz1).trans (lkeepD x0)
        have z1 := (hb3.cell (p := ⟨wr.heap.size, 1, none⟩) hz1).trans (lkeepD x1)
        have z2 := (hb3.cell (p := ⟨wr.heap.size, 2, none⟩) hz1).trans (lkeepD x2)
        have HB3 := Lib.hid (HB.out.trans ((HBW.out.drew.trans (hb3.mono HBW.out.drew.size)).mono hs1))
        clear hb3))
      all_goals
        go_wp2_with fail
        go_roundg (vs.length - (k + 1))
        case measure => have := HRr.out; omega
        case rel => exact ⟨k + 1, _, by omega, rfl, by go_num, rfl, HT, HB3⟩
    · have g1 : decide ((k : Int) < (vs.length : Int)) = false := decide_eq_false (by omega)
      have HF := Lib.hid (show S = ⟨(listS t vs).toArray⟩ by
        refine bytes_of ?_
        rw [HS.out, List.take_of_length_le (by omega)])
      go_wp2_with fail
      go_ret
      exact ⟨congrArg (fun x : ByteArray => Ending.returned (.string x)) HF.out, HB.out⟩
end Go.Proofs.YteikakoheibnjaaDoor
