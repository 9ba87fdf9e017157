/- Parts of the proof: TRead. -/
import Derived.Lib.SplitLaws
import Derived.Test.YteikakoheibnjaaGreatDoorM30
import Derived.Test.YteikakoheibnjaaGreatDoorM6
namespace Go.Proofs.YteikakoheibnjaaGreatDoor
open Go Go.RowKit

theorem splitK_len (sep : List UInt8) : ∀ (k : Nat) (s : List UInt8), (∀ x ∈ Lib.splitK sep 0 k s, x.length ≤ s.length) ∧ (Lib.splitK sep 0 k s).length ≤ k + 1
  | 0, s => by simp [Lib.splitK]
  | k + 1, s => by
    unfold Lib.splitK
    split
    · simp
    · have ih := splitK_len sep k (s.drop ((Lib.index s sep).toNat + sep.length))
      refine ⟨fun x hx => ?_, by simp only [List.length_cons]; omega⟩
      rcases List.mem_cons.1 hx with rfl | hx
      · rw [List.length_take]
        omega
      · have := ih.1 x hx
        rw [List.length_drop] at this
        omega
theorem split_mem_len {s sep x : List UInt8} (h : x ∈ Lib.split s sep) : x.length ≤ s.length := (splitK_len sep _ s).1 x h
theorem bytes_back (b : ByteArray) : (⟨b.data.toList.toArray⟩ : ByteArray) = b := by
  cases b with
  | mk d => exact congrArg ByteArray.mk (by rw [Array.toArray_toList])
theorem split_B (s sep : List UInt8) : (Lib.splitB ⟨sep.toArray⟩ 0 (Lib.countB ⟨s.toArray⟩ ⟨sep.toArray⟩) ⟨s.toArray⟩).map Value.string = strVs (Lib.split s sep) := by
  have h := Lib.splitB_data ⟨sep.toArray⟩ 0 (Lib.countB ⟨s.toArray⟩ ⟨sep.toArray⟩) ⟨s.toArray⟩
  have e : strVs (Lib.split s sep) = ((Lib.splitB ⟨sep.toArray⟩ 0 (Lib.countB ⟨s.toArray⟩ ⟨sep.toArray⟩) ⟨s.toArray⟩).map (·.data.toList)).map (fun x => Value.string ⟨x.toArray⟩) := by
    rw [h]
    rfl
  rw [e, List.map_map]
  refine List.map_congr_left fun b _ => ?_
  exact congrArg Value.string (bytes_back b).symm
theorem split_N (s sep : List UInt8) (h1 : 1 ≤ sep.length) : Lib.countB ⟨s.toArray⟩ ⟨sep.toArray⟩ + 1 = (Lib.split s sep).length := by
  have h := Lib.splitB_all ⟨sep.toArray⟩ (by show 1 ≤ sep.toArray.size; simpa using h1) 0 _ ⟨s.toArray⟩ rfl
  rw [← h]
  have := congrArg List.length (split_B s sep)
  unfold strVs at this
  rwa [List.length_map, List.length_map] at this
theorem split_len (s sep : List UInt8) (h1 : 1 ≤ sep.length) : 1 ≤ (Lib.split s sep).length ∧ (Lib.split s sep).length ≤ s.length + 1 := by
  have h := split_N s sep h1
  have h2 := Lib.countB_le ⟨sep.toArray⟩ (by show 1 ≤ sep.toArray.size; simpa using h1) _ ⟨s.toArray⟩ (Nat.le_refl _)
  have h3 : ByteArray.size ⟨s.toArray⟩ = s.length := by show s.toArray.size = _; simp
  omega
theorem tsplit_any (s sep : List UInt8) (hs : s.length < 4294967281) (h1 : 1 ≤ sep.length) {w : World} (hT : TTab w) :
    Calls Tryz.prog 24 #[.string ⟨s.toArray⟩, .string ⟨sep.toArray⟩] w fun e w' => e = .returned (.slice (some ⟨w.heap.size, 0, none⟩) (Lib.split s sep).length (Lib.split s sep).length) ∧ w' = w.alloc (.cells (strVs (Lib.split s sep)).toArray 9) := by
  obtain ⟨m, hm⟩ := hT.mx
  have := Tryz.strings_Split ⟨s.toArray⟩ ⟨sep.toArray⟩ m w (by show s.toArray.size < _; simpa using hs) hm (by show 1 ≤ sep.toArray.size; simpa using h1)
  rw [split_B, split_N s sep h1] at this
  exact this
theorem tcut_any (s sep : List UInt8) (hs : s.length < 4294967281) {w : World} (hT : TTab w) :
    Calls Tryz.prog 27 #[.string ⟨s.toArray⟩, .string ⟨sep.toArray⟩] w fun e w' => e = .returned (.tuple #[.string ⟨(Lib.cut s sep).1.toArray⟩, .string ⟨(Lib.cut s sep).2.1.toArray⟩, .bool (Lib.cut s sep).2.2]) ∧ Below w.heap.size w w' := by
  obtain ⟨m, hm⟩ := hT.mx
  refine (Tryz.strings_Cut ⟨s.toArray⟩ ⟨sep.toArray⟩ m w (by show s.toArray.size < _; simpa using hs) hm).mono ?_
  rintro e w' ⟨rfl, n, rfl⟩
  exact ⟨rfl, Go.below_drewN (Below.refl _ _) n⟩
theorem dropWhile_len {α : Type} (p : α → Bool) : ∀ l : List α, (l.dropWhile p).length ≤ l.length
  | [] => by simp
  | a :: l => by
    have := dropWhile_len p l
    rw [List.dropWhile_cons]
    split
    · simp only [List.length_cons]; omega
    · exact Nat.le_refl _
theorem trimS_len (s c : List UInt8) : (Lib.trimS s c).length ≤ s.length := by
  unfold Lib.trimS Lib.trimLeftS Lib.trimRightS
  have h1 := dropWhile_len (c.contains ·) s.reverse
  have h2 := dropWhile_len (c.contains ·) (s.reverse.dropWhile (c.contains ·)).reverse
  rw [List.length_reverse] at h1 h2
  omega
theorem ttrim_any (s : List UInt8) (hs : s.length < 4294967281) (w : World) :
    Calls Tryz.prog 40 #[.string ⟨s.toArray⟩, .string ⟨#[123, 125]⟩] w fun e w' => e = .returned (.string ⟨(Lib.trimS s [123, 125]).toArray⟩) ∧ Below w.heap.size w w' :=
  Tryz.strings_Trim_ascii ⟨s.toArray⟩ ⟨#[123, 125]⟩ w (by show s.toArray.size ≤ _; simp; omega) (by decide) (fun j b hb => by
    have := List.mem_of_getElem? hb
    simp at this
    rcases this with rfl | rfl <;> decide)
def tintVs (l : List Int) : List Value := l.map (.int .i64 ·)
theorem tintVs_snoc (l : List Int) (x : Int) : tintVs (l ++ [x]) = tintVs l ++ [.int .i64 x] := by simp [tintVs]
theorem tinf_int : (Tryz.prog.info? 3).map (fun i => (i.zero, i.size, i.bytes)) = some (some (.int .i64 0), 1, 8) := by kernel_rfl
theorem tund_ints : Tryz.prog.underlying 35 = some (.slice 3) := by kernel_rfl
theorem tint_one (n : Int) : ∀ u ∈ ([.int .i64 n] : List Value), u.oneCell' = true := by
  intro u hu
  simp at hu
  subst hu
  rfl
theorem own_one {w : World} {B g : Nat} {e : TypeId} {u : Value} (h : w.heap[g]? = some (.cells #[u] e (0, 0))) (hb : B ≤ g) : w.ownsRow B e 1 (.slice (some ⟨g, 0, none⟩) 1 1) 1 [u] :=
  ⟨by simp, .inr ⟨g, 1, #[u], rfl, hb, h, Nat.le_refl _, by simp [maxLen], by simp, by simp⟩⟩
/-- The numbers of the first k pieces. -/
def rdF (l : List (List UInt8)) (k : Nat) : List Int := ((l.take k).filter (fun x => !x.isEmpty)).map number
theorem rdF_zero (l : List (List UInt8)) : rdF l 0 = [] := by simp [rdF]
theorem rdF_succ (l : List (List UInt8)) (k : Nat) (h : k < l.length) : rdF l (k + 1) = rdF l k ++ (if l[k].isEmpty then [] else [number l[k]]) := by
  unfold rdF
  rw [List.take_succ_eq_append_getElem h, List.filter_append, List.map_append]
  congr 1
  rw [List.filter_cons]
  cases l[k].isEmpty <;> rfl
theorem rdF_len (l : List (List UInt8)) (k : Nat) : (rdF l k).length ≤ k := by
  unfold rdF
  rw [List.length_map]
  have h1 := List.length_filter_le (fun x : List UInt8 => !x.isEmpty) (l.take k)
  have h2 := List.length_take_le k l
  omega
theorem rdF_all (l : List (List UInt8)) (k : Nat) (h : l.length ≤ k) : rdF l k = (l.filter (fun x => !x.isEmpty)).map number := by
  unfold rdF
  rw [List.take_of_length_le h]
/-- What read hands back. -/
def ReadPost (w : World) (s : List UInt8) : Ending → World → Prop := fun e w' => ∃ A c, e = .returned (.tuple #[.int .i64 (readV s).1, .slice A (readV s).2.length c]) ∧ Below w.heap.size w w' ∧ w'.ownsRow w.heap.size 3 1 (.slice A (readV s).2.length c) (readV s).2.length (tintVs (readV s).2)
set_option maxHeartbeats 2000000 in
theorem tread_true (w : World) : Calls Tryz.prog 28 #[.string ⟨wTrue.toArray⟩] w (ReadPost w wTrue) := by
  go_enter Tryz.func28, Tryz.ntmps28
  go_wp2_with fail
  go_ret2
  exact ⟨_, _, rfl, (Below.refl _ _).alloc (Nat.le_refl _) _, own_one (heap_new_at rfl) (Nat.le_refl _)⟩
set_option maxHeartbeats 2000000 in
theorem tread_false (w : World) : Calls Tryz.prog 28 #[.string ⟨wFalse.toArray⟩] w (ReadPost w wFalse) := by
  go_enter Tryz.func28, Tryz.ntmps28
  go_wp2_with fail
  go_ret2
  exact ⟨_, _, rfl, Below.refl _ _, ⟨rfl, .inl ⟨rfl, rfl⟩⟩⟩
set_option maxRecDepth 100000 in
set_option maxHeartbeats 4000000 in
theorem tread_num {s : List UInt8} (hs : s.length ≤ 4294967200) (h1 : s ≠ wTrue) (h2 : s ≠ wFalse) (h3 : Lib.hasPrefix s [123] = false) (w : World) : Calls Tryz.prog 28 #[.string ⟨s.toArray⟩] w (ReadPost w s) := by
  have HR := Lib.hid (show readV s = (1, [number s]) by unfold readV; rw [if_neg h1, if_neg h2, h3]; rfl)
  have t1 : (s == [116, 114, 117, 101]) = false := beq_eq_false_iff_ne.2 h1
  have t2 : (s == [102, 97, 108, 115, 101]) = false := beq_eq_false_iff_ne.2 h2
  have HP := Lib.hid (fun W => (show Calls Tryz.prog 39 #[.string ⟨s.toArray⟩, .string ⟨#[123]⟩] W (fun e w' => e = .returned (.bool false) ∧ w' = W) by
    have := Tryz.strings_HasPrefix ⟨s.toArray⟩ ⟨#[123]⟩ W
    rw [show Lib.hasPrefix ((⟨s.toArray⟩ : ByteArray).data.toList) ((⟨#[123]⟩ : ByteArray).data.toList) = false from h3] at this
    exact this))
  have HN := Lib.hid (fun W => tnumber_any s (by omega) W)
  clear h1 h2 h3 hs
  go_enter Tryz.func28, Tryz.ntmps28
  go_wp2_with (first
    | (
      go_at_call 39
      refine (HP.out _).mono ?_
      rintro e w2 ⟨rfl, rfl⟩)
    | (
      go_at_call 26
      refine (HN.out _).mono ?_
      rintro e w2 ⟨rfl, hb2⟩
      have HB2 := Lib.hid hb2
      clear hb2))
  go_ret2
  unfold ReadPost
  rw [HR.out]
  exact ⟨_, _, rfl, HB2.out.alloc HB2.out.size _, own_one (heap_new_at rfl) HB2.out.size⟩
set_option maxRecDepth 100000 in
set_option maxHeartbeats 8000000 in
theorem tread_set {s : List UInt8} (hs : s.length ≤ 4294967200) (h3 : Lib.hasPrefix s [123] = true) {w : World} (hT : TTab w) : Calls Tryz.prog 28 #[.string ⟨s.toArray⟩] w (ReadPost w s) := by
  have h1 : s ≠ wTrue := by rintro rfl; revert h3; decide
  have h2 : s ≠ wFalse := by rintro rfl; revert h3; decide
  have HR := Lib.hid (show readV s = (2, readSet s) by unfold readV; rw [if_neg h1, if_neg h2, h3]; rfl)
  have HRS := Lib.hid (show readSet s = ((Lib.split (Lib.trimS s [123, 125]) [44, 32]).filter (fun x => !x.isEmpty)).map number from rfl)
  have t1 : (s == [116, 114, 117, 101]) = false := beq_eq_false_iff_ne.2 h1
  have t2 : (s == [102, 97, 108, 115, 101]) = false := beq_eq_false_iff_ne.2 h2
  have HP := Lib.hid (fun W => (show Calls Tryz.prog 39 #[.string ⟨s.toArray⟩, .string ⟨#[123]⟩] W (fun e w' => e = .returned (.bool true) ∧ w' = W) by
    have := Tryz.strings_HasPrefix ⟨s.toArray⟩ ⟨#[123]⟩ W
    rw [show Lib.hasPrefix ((⟨s.toArray⟩ : ByteArray).data.toList) ((⟨#[123]⟩ : ByteArray).data.toList) = true from h3] at this
    exact this))
  have htl := trimS_len s [123, 125]
  have HTR := Lib.hid (fun W => ttrim_any s (by omega) W)
  have HTT := Lib.hid (fun W (hb : Below w.heap.size w W) => hT.below hb)
  have HSP := Lib.hid (fun W (hb : Below w.heap.size w W) => (show Calls Tryz.prog 24 #[.string ⟨(Lib.trimS s [123, 125]).toArray⟩, .string ⟨#[44, 32]⟩] W _ from tsplit_any (Lib.trimS s [123, 125]) [44, 32] (by omega) (by decide) (hT.below hb)))
  have HPL := Lib.hid (fun x (hx : x ∈ Lib.split (Lib.trimS s [123, 125]) [44, 32]) => split_mem_len hx)
  have hpn := (split_len (Lib.trimS s [123, 125]) [44, 32] (by decide)).2
  clear h1 h2 h3 hT
  generalize readSet s = RS at *
  generalize Lib.split (Lib.trimS s [123, 125]) [44, 32] = PS at *
  generalize Lib.trimS s [123, 125] = TS at *
  obtain ⟨i3, hi3, hz0, hz1, hz2⟩ := info_parts tinf_int
  go_enter Tryz.func28, Tryz.ntmps28
  go_wp2_with (first
    | (
      go_at_call 39
      refine (HP.out _).mono ?_
      rintro e w2 ⟨rfl, rfl⟩)
    | (
      go_at_call 40
      refine (HTR.out _).mono ?_
      rintro e w2 ⟨rfl, hb2⟩
      have HB2 := Lib.hid hb2
      have hs2 := hb2.size
      clear hb2)
    | (
      go_at_call 24
      refine (HSP.out _ HB2.out).mono ?_
      rintro e w3 ⟨rfl, rfl⟩))
  have hz3 : (w2.alloc (.cells (strVs PS).toArray 9)).heap.size = w2.heap.size + 1 := by simp
  have HBK := Lib.hid (lblkNew w2 9 (strVs PS).toArray)
  have HB3 := Lib.hid (HB2.out.alloc HB2.out.size (.cells (strVs PS).toArray 9))
  clear HB2
  generalize w2.alloc (.cells (strVs PS).toArray 9) = w3 at *
  go_loopg [4, 21] PS.length (fun r lv i wr => ∃ k : Nat, k ≤ PS.length ∧ r = PS.length - k ∧ i = .int .i64 (k : Int) ∧ Hid (wr.ownsRow w3.heap.size 3 1 lv (rdF PS k).length (tintVs (rdF PS k))) ∧ Hid (Below w3.heap.size w3 wr))
  case atStart => exact ⟨0, Nat.zero_le _, rfl, rfl, Lib.hid (by rw [rdF_zero]; exact ⟨rfl, .inl ⟨rfl, rfl⟩⟩), Lib.hid (Below.refl _ _)⟩
  case round =>
    obtain ⟨k, hk, hr, rfl, HO, HB⟩ := hrel
    have HRr := Lib.hid hr
    have hs1 := HB.out.size
    have HBW := Lib.hid (HB3.out.trans (HB.out.mono HB3.out.size))
    clear hr
    by_cases hlt : k < PS.length
    · have c0 : wr.cell? ⟨w2.heap.size, k, none⟩ = some (.string ⟨PS[k].toArray⟩) := by
        rw [HB.out.cell (p := ⟨w2.heap.size, k, none⟩) (by show w2.heap.size < _; omega), HBK.out.cell k]
        unfold strVs
        simp [hlt]
      have HFT := Lib.hid (rdF_succ PS k hlt)
      have hfl := rdF_len PS k
      have hxl := HPL.out PS[k] (List.getElem_mem hlt)
      have HN := Lib.hid (fun W => tnumber_any PS[k] (by omega) W)
      have g1 : decide ((k : Int) < (PS.length : Int)) = true := decide_eq_true (by omega)
      have hp0 : (0 : Int) ≤ (k : Int) := by omega
      have hp1 : (k : Int) < (PS.length : Int) := by omega
      generalize PS[k] = x at *
      by_cases hx : x = []
      · subst hx
        have HFE := Lib.hid (show rdF PS (k + 1) = rdF PS k by rw [HFT.out]; simp)
        have HO2 := Lib.hid (show wr.ownsRow w3.heap.size 3 1 _ (rdF PS (k + 1)).length (tintVs (rdF PS (k + 1))) by
          rw [HFE.out]
          exact HO.out)
        clear HFT HO HN HFE
        go_wp2_with fail
        go_roundg (PS.length - (k + 1))
        case measure => have := HRr.out; omega
        case rel => exact ⟨k + 1, by omega, rfl, by go_num, HO2, HB⟩
      · have t3 : (!x == []) = true := by
          cases x with
          | nil => exact absurd rfl hx
          | cons a l => rfl
        have t4 : x.isEmpty = false := by
          cases x with
          | nil => exact absurd rfl hx
          | cons a l => rfl
        rw [t4] at HFT
        have HF2 := Lib.hid (show rdF PS (k + 1) = rdF PS k ++ [number x] from HFT.out)
        clear HFT
        generalize rdF PS k = F1 at *
        generalize number x = n at *
        clear hx
        go_wp2_with (first
          | (at_builtin
             refine wpList_append_any _ rfl (.tmp 27) (.tmp 30) 35 rfl w3.heap.size 3 i3 _ 1 8 tund_ints hi3 hz0 hz1 hz2 rfl (by decide) _ F1.length (tintVs F1) rfl (HO5.out.alloc _) (w5.heap.size + 1) (some ⟨w5.heap.size, 0, none⟩) 1 1 [.int .i64 n] rfl (treads_one (t := 3) (heap_new_at rfl)) (tint_one _) (by simp only [maxLen]; omega) (by omega) (by have := HB5.out.size; simp <;> omega) ?_
             intro v7 w7 hown7 hg7 hv7
             have HOWN7 := Lib.hid hown7
             have HG7 := Lib.hid hg7
             clear hown7 hg7 hv7)
          | (go_at_call 26
             refine (HN.out _).mono ?_
             rintro e w5 ⟨rfl, hb5⟩
             have HB5 := Lib.hid (HB.out.trans (hb5.mono HB.out.size))
             have HO5 := Lib.hid ((Fr.of_below hb5).own HO.out (fun k hk => by have := (HO.out.lt k hk).2; omega))
             clear hb5))
        have HO7 := Lib.hid (show w7.ownsRow w3.heap.size 3 1 v7 (rdF PS (k + 1)).length (tintVs (rdF PS (k + 1))) by
          rw [HF2.out, tintVs_snoc, List.length_append]
          exact HOWN7.out)
        have HB7 := Lib.hid ((HB5.out.alloc HB5.out.size _).grown HG7.out (by have := HB5.out.size; simp at this ⊢; omega) (fun k hk => (HO5.out.lt k hk).1))
        clear HOWN7 HG7
        go_roundg (PS.length - (k + 1))
        case measure => have := HRr.out; omega
        case rel => exact ⟨k + 1, by omega, rfl, by go_num, HO7, HB7⟩
    · have g1 : decide ((k : Int) < (PS.length : Int)) = false := decide_eq_false (by omega)
      have HRF := Lib.hid ((rdF_all PS k (by omega)).trans HRS.out.symm)
      have HO8 := HO
      rw [HRF.out] at HO8
      obtain ⟨A8, c8, rfl⟩ := own_slice HO8.out
      clear HO
      go_wp2_with fail
      go_ret2
      unfold ReadPost
      rw [HR.out]
      exact ⟨_, _, rfl, HBW.out, HO8.out.mono HB3.out.size⟩
theorem tread_any {s : List UInt8} (hs : s.length ≤ 4294967200) {w : World} (hT : TTab w) : Calls Tryz.prog 28 #[.string ⟨s.toArray⟩] w (ReadPost w s) := by
  by_cases h1 : s = wTrue
  · subst h1
    exact tread_true w
  by_cases h2 : s = wFalse
  · subst h2
    exact tread_false w
  cases h3 : Lib.hasPrefix s [123] with
  | true => exact tread_set hs h3 hT
  | false => exact tread_num hs h1 h2 h3 w
end Go.Proofs.YteikakoheibnjaaGreatDoor
