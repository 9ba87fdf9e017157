/- Parts of the proof: TList, RList. -/
import Derived.Deep.RegionHeld3
import Derived.Test.YteikakoheibnjaaGreatDoorM28
namespace Go.Proofs.YteikakoheibnjaaGreatDoor
open Go Go.RowKit

theorem valueS_len {v : ValP} (h : valB v = true) : (valueS v).length ≤ 9000 := by
  obtain ⟨_, ⟨h0, h2⟩, hs, hq⟩ := valB_facts h
  have hm := setB_mem hs
  have hl := setB_len hs
  unfold valueS
  split
  · split <;> decide
  · split
    · next h1 =>
      unfold shapeB at hq
      rw [if_neg (by omega), if_pos h1, beq_iff_eq] at hq
      have hn := hm (v.set.getD 0 0) (by rw [getD_at _ (by omega)]; exact List.getElem_mem _)
      have := num_len hn.1 (by omega)
      omega
    · have := tcommas_len (v.set.map num) (fun x hx => by
        obtain ⟨n, hn, rfl⟩ := List.mem_map.1 hx
        have := hm n hn
        exact num_len this.1 (by omega))
      rw [List.length_map] at this
      simp only [List.length_append, List.length_cons, List.length_nil]
      omega
theorem lineS_len {v : ValP} (h : valB v = true) : (lineS v).length ≤ 12000 := by
  have h1 := valueS_len h
  have h2 := nameB_len (valB_facts h).1
  unfold lineS
  simp only [List.length_append, List.length_cons, List.length_nil]
  omega
theorem lines_len : ∀ l : List ValP, (∀ v ∈ l, valB v = true) → (l.flatMap lineS).length ≤ 12000 * l.length
  | [], _ => by simp
  | v :: l, h => by
    have h1 := lineS_len (h v List.mem_cons_self)
    have h2 := lines_len l fun x hx => h x (List.mem_cons_of_mem _ hx)
    rw [List.flatMap_cons, List.length_append, List.length_cons]
    omega
theorem listS_len {t : List UInt8} {l : List ValP} (h : ∀ v ∈ l, valB v = true) (hl : l.length ≤ 6) : (listS t l).length ≤ t.length + 72001 := by
  have := lines_len l h
  unfold listS
  simp only [List.length_append, List.length_cons, List.length_nil]
  omega
theorem listS_take (t : List UInt8) (vs : List ValP) (k : Nat) (h : k < vs.length) : listS t (vs.take (k + 1)) = listS t (vs.take k) ++ lineS vs[k] := by
  unfold listS
  rw [List.take_succ_eq_append_getElem h, List.flatMap_append]
  simp
theorem lblk3 {W : World} {g : Nat} {t : TypeId} {c0 c1 c2 : Value} (h : Blk W g t #[c0, c1, c2]) : W.cell? ⟨g, 0, none⟩ = some c0 ∧ W.cell? ⟨g, 1, none⟩ = some c1 ∧ W.cell? ⟨g, 2, none⟩ = some c2 :=
  ⟨h.cell 0, h.cell 1, h.cell 2⟩
set_option maxRecDepth 100000 in
set_option maxHeartbeats 4000000 in
theorem tlist_any {w : World} {A : Option Addr} {c : Nat} {vs : List ValP} (t : List UInt8) (ht : t.length ≤ 100) (h : ValsAt w w.heap.size A c vs) (hv : ∀ v ∈ vs, valB v = true) (hl : vs.length ≤ 6) (hT : TTab w) :
    Calls Tryz.prog 21 #[.string ⟨t.toArray⟩, .slice A vs.length c] w fun e w' => e = .returned (.string ⟨(listS t vs).toArray⟩) ∧ Below w.heap.size w w' := by
  have HC := Lib.hid h
  have HVB := Lib.hid hv
  have HTT := Lib.hid hT
  obtain ⟨T0, hadd0, hT0⟩ := add_ex ⟨t.toArray⟩ ⟨#[10]⟩ (X := t) (Y := [10]) rfl rfl (by simp only [List.length_cons, List.length_nil]; omega)
  have HT0 := Lib.hid (show T0.data.toList = listS t (vs.take 0) by rw [hT0]; unfold listS; simp)
  clear h hv hT hT0
  go_enter Tryz.func21, Tryz.ntmps21
  go_wp2_with fail
  go_loopg [5, 12] vs.length (fun r sv i wr => ∃ (k : Nat) (S : ByteArray), k ≤ vs.length ∧ r = vs.length - k ∧ i = .int .i64 (k : Int) ∧ sv = .string S ∧ Hid (S.data.toList = listS t (vs.take k)) ∧ Hid (Below w.heap.size w wr))
  case atStart => exact ⟨0, _, Nat.zero_le _, rfl, rfl, rfl, HT0, Lib.hid (Below.refl _ _)⟩
  case round =>
    obtain ⟨k, S, hk, hr, rfl, rfl, HS, HB⟩ := hrel
    have HRr := Lib.hid hr
    have hs1 := HB.out.size
    clear hr
    by_cases hlt : k < vs.length
    · have HL := Lib.hid (HC.out.later HB.out HB.out.size)
      obtain ⟨b, off, A1, c1, rfl, hlo, d0, d1, d2, hset⟩ := HL.out.at_ k hlt
      have hvk := HVB.out vs[k] (List.getElem_mem hlt)
      have HVAL := Lib.hid (fun W (hb : Below wr.heap.size wr W) => tvalue_any (hset.later hb hb.size) hvk ((HTT.out.below HB.out).below hb))
      have hX := valueS_len hvk
      have hN := nameB_len (valB_facts hvk).1
      have hSl : S.data.toList.length ≤ 80000 := by
        rw [HS.out]
        have := listS_len (t := t) (l := vs.take k) (fun v hv => HVB.out v (List.mem_of_mem_take hv)) (by rw [List.length_take]; omega)
        omega
      have HLN := Lib.hid (show lineS vs[k] = vs[k].name ++ [32, 61, 32] ++ valueS vs[k] ++ [10] from rfl)
      have HST := Lib.hid (listS_take t vs k hlt)
      have g1 : decide ((k : Int) < (vs.length : Int)) = true := decide_eq_true (by omega)
      have hp0 : (0 : Int) ≤ (k : Int) := by omega
      have hp1 : (k : Int) < (vs.length : Int) := by omega
      clear hset hvk
      generalize valueS vs[k] = X at *
      generalize hln : lineS vs[k] = LN at *
      generalize vs[k].name = nm at *
      generalize vs[k].order = o at *
      generalize vs[k].set.length = sl at *
      clear hln
      obtain ⟨T1, hadd1, hT1⟩ := add_ex ⟨nm.toArray⟩ ⟨#[32, 61, 32]⟩ (X := nm) (Y := [32, 61, 32]) rfl rfl (by simp only [List.length_cons, List.length_nil]; omega)
      obtain ⟨T2, hadd2, hT2⟩ := add_ex T1 ⟨X.toArray⟩ (X := nm ++ [32, 61, 32]) (Y := X) hT1 rfl (by simp only [List.length_append, List.length_cons, List.length_nil]; omega)
      obtain ⟨T3, hadd3, hT3⟩ := add_ex T2 ⟨#[10]⟩ (X := nm ++ [32, 61, 32] ++ X) (Y := [10]) hT2 rfl (by simp only [List.length_append, List.length_cons, List.length_nil]; omega)
      obtain ⟨T4, hadd4, hT4⟩ := add_ex S T3 (X := S.data.toList) (Y := nm ++ [32, 61, 32] ++ X ++ [10]) rfl hT3 (by simp only [List.length_append, List.length_cons, List.length_nil]; omega)
      have HT := Lib.hid (show T4.data.toList = listS t (vs.take (k + 1)) by rw [hT4, HST.out, HS.out, HLN.out])
      clear hT1 hT2 hT3 hT4 hX hN hSl
      go_upto_region 5 with fail
      refine wp_named (fun W1 => Below wr.heap.size wr W1 ∧ Blk W1 wr.heap.size 37 #[.string ⟨nm.toArray⟩, .int .i64 o, .slice A1 sl c1]) ⟨?_, ?_⟩ ?_
      · repeat' (first | (with_reducible exact Below.refl _ _) | (with_reducible refine Below.setCell ?_ ?_ _) | (with_reducible refine Below.alloc ?_ ?_ _) | omega | (simp; done) | (simp <;> omega))
      · exact lblkNew _ _ _
      rintro W1 ⟨hb1, hB1⟩
      have HBW := Lib.hid hb1
      obtain ⟨x0, x1, x2⟩ := lblk3 hB1
      have hz1 := hB1.lt
      clear hb1 hB1 d0 d1 d2 HLN
      go_region_held3 (fun W : World => W.cell? ⟨wr.heap.size, 0, none⟩ = some (.string ⟨nm.toArray⟩) ∧ W.cell? ⟨wr.heap.size, 1, none⟩ = some (.int .i64 o) ∧ W.cell? ⟨wr.heap.size, 2, none⟩ = some (.slice A1 sl c1)) ((refine ⟨?_, ?_, ?_⟩) <;> repeat' (first | (with_reducible exact x0) | (with_reducible exact x1) | (with_reducible exact x2) | (with_reducible exact z0) | (with_reducible exact z1) | (with_reducible exact z2) | (with_reducible refine lkeepD ?_) | omega)) ((
        go_at_call 35
        refine (HVAL.out _ HBW.out.drew).mono ?_
        rintro e w3 ⟨rfl, hb3⟩
        have z0 := (hb3.cell (p := ⟨wr.heap.size, 0, none⟩) hz1).trans (lkeepD x0)
        have z1 := (hb3.cell (p := ⟨wr.heap.size, 1, none⟩) hz1).trans (lkeepD x1)
        have z2 := (hb3.cell (p := ⟨wr.heap.size, 2, none⟩) hz1).trans (lkeepD x2)
        have HB3 := Lib.hid (HB.out.trans ((HBW.out.drew.trans (hb3.mono HBW.out.drew.size)).mono hs1))
        clear hb3))
      all_goals
        go_wp2_with fail
        go_roundg (vs.length - (k + 1))
        case measure => have := HRr.out; omega
        case rel => exact ⟨k + 1, _, by omega, rfl, by go_num, rfl, HT, HB3⟩
    · have g1 : decide ((k : Int) < (vs.length : Int)) = false := decide_eq_false (by omega)
      have HF := Lib.hid (show S = ⟨(listS t vs).toArray⟩ by
        refine bytes_of ?_
        rw [HS.out, List.take_of_length_le (by omega)])
      go_wp2_with fail
      go_ret
      exact ⟨congrArg (fun x : ByteArray => Ending.returned (.string x)) HF.out, HB.out⟩
end Go.Proofs.YteikakoheibnjaaGreatDoor
namespace Go.Proofs.YteikakoheibnjaaGreatDoor
open Go Go.RowKit

set_option maxRecDepth 100000 in
set_option maxHeartbeats 4000000 in
theorem rlist_any {w : World} {A : Option Addr} {c : Nat} {vs : List ValP} (t : List UInt8) (ht : t.length ≤ 100) (h : ValsAt w w.heap.size A c vs) (hv : ∀ v ∈ vs, valB v = true) (hl : vs.length ≤ 6) :
    Calls Tryz.prog 22 #[.string ⟨t.toArray⟩, .slice A vs.length c] w fun e w' => e = .returned (.string ⟨(listS t vs).toArray⟩) ∧ Below w.heap.size w w' := by
  have HC := Lib.hid h
  have HVB := Lib.hid hv
  obtain ⟨T0, hadd0, hT0⟩ := add_ex ⟨t.toArray⟩ ⟨#[10]⟩ (X := t) (Y := [10]) rfl rfl (by simp only [List.length_cons, List.length_nil]; omega)
  have HT0 := Lib.hid (show T0.data.toList = listS t (vs.take 0) by rw [hT0]; unfold listS; simp)
  clear h hv hT0
  go_enter Tryz.func22, Tryz.ntmps22
  go_wp2_with fail
  go_loopg [5, 6] vs.length (fun r sv i wr => ∃ (k : Nat) (S : ByteArray), k ≤ vs.length ∧ r = vs.length - k ∧ i = .int .i64 (k : Int) ∧ sv = .string S ∧ Hid (S.data.toList = listS t (vs.take k)) ∧ Hid (Below w.heap.size w wr))
  case atStart => exact ⟨0, _, Nat.zero_le _, rfl, rfl, rfl, HT0, Lib.hid (Below.refl _ _)⟩
  case round =>
    obtain ⟨k, S, hk, hr, rfl, rfl, HS, HB⟩ := hrel
    have HRr := Lib.hid hr
    have hs1 := HB.out.size
    clear hr
    by_cases hlt : k < vs.length
    · have HL := Lib.hid (HC.out.later HB.out HB.out.size)
      obtain ⟨b, off, A1, c1, rfl, hlo, d0, d1, d2, hset⟩ := HL.out.at_ k hlt
      have hvk := HVB.out vs[k] (List.getElem_mem hlt)
      have HVAL := Lib.hid (fun W (hb : Below wr.heap.size wr W) => rvalue_any (hset.later hb hb.size) hvk)
      have hX := valueS_len hvk
      have hN := nameB_len (valB_facts hvk).1
      have hSl : S.data.toList.length ≤ 80000 := by
        rw [HS.out]
        have := listS_len (t := t) (l := vs.take k) (fun v hv => HVB.out v (List.mem_of_mem_take hv)) (by rw [List.length_take]; omega)
        omega
      have HLN := Lib.hid (show lineS vs[k] = vs[k].name ++ [32, 61, 32] ++ valueS vs[k] ++ [10] from rfl)
      have HST := Lib.hid (listS_take t vs k hlt)
      have g1 : decide ((k : Int) < (vs.length : Int)) = true := decide_eq_true (by omega)
      have hp0 : (0 : Int) ≤ (k : Int) := by omega
      have hp1 : (k : Int) < (vs.length : Int) := by omega
      clear hset hvk
      generalize valueS vs[k] = X at *
      generalize hln : lineS vs[k] = LN at *
      generalize vs[k].name = nm at *
      generalize vs[k].order = o at *
      generalize vs[k].set.length = sl at *
      clear hln
      obtain ⟨T1, hadd1, hT1⟩ := add_ex S ⟨nm.toArray⟩ (X := S.data.toList) (Y := nm) rfl rfl (by omega)
      obtain ⟨T2, hadd2, hT2⟩ := add_ex T1 ⟨#[32, 61, 32]⟩ (X := S.data.toList ++ nm) (Y := [32, 61, 32]) hT1 rfl (by simp only [List.length_append, List.length_cons, List.length_nil]; omega)
      obtain ⟨T3, hadd3, hT3⟩ := add_ex T2 ⟨X.toArray⟩ (X := S.data.toList ++ nm ++ [32, 61, 32]) (Y := X) hT2 rfl (by simp only [List.length_append, List.length_cons, List.length_nil]; omega)
      obtain ⟨T4, hadd4, hT4⟩ := add_ex T3 ⟨#[10]⟩ (X := S.data.toList ++ nm ++ [32, 61, 32] ++ X) (Y := [10]) hT3 rfl (by simp only [List.length_append, List.length_cons, List.length_nil]; omega)
      have HT := Lib.hid (show T4.data.toList = listS t (vs.take (k + 1)) by
        rw [hT4, HST.out, ← HS.out, HLN.out]
        simp)
      clear hT1 hT2 hT3 hT4 hX hN hSl
      have hz1 : b < wr.heap.size := World.block_lt_of_cell? _ _ d0
      go_upto_region 5 with fail
      go_region_held3 (fun W : World => W.cell? ⟨b, off + k * 3, none⟩ = some (.string ⟨nm.toArray⟩) ∧ W.cell? ⟨b, off + k * 3 + 1, none⟩ = some (.int .i64 o) ∧ W.cell? ⟨b, off + k * 3 + 2, none⟩ = some (.slice A1 sl c1)) ((refine ⟨?_, ?_, ?_⟩) <;> repeat' (first | (with_reducible exact d0) | (with_reducible exact d1) | (with_reducible exact d2) | (with_reducible exact z0) | (with_reducible exact z1) | (with_reducible exact z2) | (with_reducible refine lkeepD ?_) | omega)) ((
        go_at_call 36
        refine (HVAL.out _ (Below.refl _ _).drew).mono ?_
        rintro e w3 ⟨rfl, hb3⟩
        have z0 := (hb3.cell (p := ⟨b, off + k * 3, none⟩) hz1).trans (lkeepD d0)
        have z1 := (hb3.cell (p := ⟨b, off + k * 3 + 1, none⟩) hz1).trans (lkeepD d1)
        have z2 := (hb3.cell (p := ⟨b, off + k * 3 + 2, none⟩) hz1).trans (lkeepD d2)
        have HB3 := Lib.hid (HB.out.trans (((Below.refl wr.heap.size wr).drew.trans hb3).mono hs1))
        clear hb3))
      all_goals
        go_wp2_with fail
        go_roundg (vs.length - (k + 1))
        case measure => have := HRr.out; omega
        case rel => exact ⟨k + 1, _, by omega, rfl, by go_num, rfl, HT, HB3⟩
    · have g1 : decide ((k : Int) < (vs.length : Int)) = false := decide_eq_false (by omega)
      have HF := Lib.hid (show S = ⟨(listS t vs).toArray⟩ by
        refine bytes_of ?_
        rw [HS.out, List.take_of_length_le (by omega)])
      go_wp2_with fail
      go_ret
      exact ⟨congrArg (fun x : ByteArray => Ending.returned (.string x)) HF.out, HB.out⟩
end Go.Proofs.YteikakoheibnjaaGreatDoor
