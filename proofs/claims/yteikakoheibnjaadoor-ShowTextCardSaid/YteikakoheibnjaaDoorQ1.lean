/- Parts of the proof: Class, Digits, App, Utf, Each, Reader. -/
import Derived.Test.YteikakoheibnjaaDoorQ0
import Derived.BigQuiet
import Derived.Deep.QuietTactic
import Derived.Laws.IdiomStrings
import Derived.Maps.AppendAt
import Derived.OwnWalk
import Derived.RegionTactic
import Derived.Shelf.Unicode.DecodeAny
import Derived.Shelf.Unicode.DecodeSlow
import Derived.Test.YteikakoheibnjaaDoorProg
namespace Go.Proofs.YteikakoheibnjaaDoor
open Go Go.RowKit

def signsB : List UInt8 := [61, 126, 60, 62, 38, 124, 40, 41, 123, 125, 44, 59, 58, 43, 92, 35, 39]
theorem signs_at : ∀ k : Fin 17, (signsB.getD k.val 0).toNat = signs.getD k.val 0 := by decide
theorem signs_mem {r : Nat} (h : ∀ j, j < 17 → signs.getD j 0 ≠ r) : ¬ r ∈ signs := by
 intro hm
 obtain ⟨i, hi, e⟩ := List.getElem_of_mem hm
 refine h i hi ?_
 rw [List.getD_eq_getElem?_getD, List.getElem?_eq_getElem hi]
 exact e
theorem signs_in {r k : Nat} (h : k < 17) (e : signs.getD k 0 = r) : r ∈ signs := by
 rw [List.getD_eq_getElem?_getD, List.getElem?_eq_getElem (show k < signs.length from h)] at e
 rw [← e]
 exact List.getElem_mem (show k < signs.length from h)
theorem getB {S : ByteArray} (hS : S.data.toList = signsB) (k : Nat) (hk : k < S.size) : (S[k]'hk).toNat = signs.getD k 0 := by
 have h17 : k < 17 := by
  have : S.size = signsB.length := by rw [← hS, Array.length_toList]; rfl
  have e : signsB.length = 17 := rfl
  omega
 rw [← signs_at ⟨k, h17⟩, ← hS]
 rw [List.getD_eq_getElem?_getD, List.getElem?_eq_getElem (by rw [Array.length_toList]; exact hk)]
 rfl
theorem classS32 (w : World) : Calls Tryd.prog 117 #[.int .i32 32] w fun e w' => e = .returned (.int .i64 3) ∧ w' = w := by
 go_enter Tryd.func117, Tryd.ntmps117
 go_wp2_with fail
 go_ret
 exact ⟨rfl, rfl⟩

theorem classS9 (w : World) : Calls Tryd.prog 117 #[.int .i32 9] w fun e w' => e = .returned (.int .i64 3) ∧ w' = w := by
 go_enter Tryd.func117, Tryd.ntmps117
 go_wp2_with fail
 go_ret
 exact ⟨rfl, rfl⟩

theorem classS10 (w : World) : Calls Tryd.prog 117 #[.int .i32 10] w fun e w' => e = .returned (.int .i64 3) ∧ w' = w := by
 go_enter Tryd.func117, Tryd.ntmps117
 go_wp2_with fail
 go_ret
 exact ⟨rfl, rfl⟩

theorem classS13 (w : World) : Calls Tryd.prog 117 #[.int .i32 13] w fun e w' => e = .returned (.int .i64 3) ∧ w' = w := by
 go_enter Tryd.func117, Tryd.ntmps117
 go_wp2_with fail
 go_ret
 exact ⟨rfl, rfl⟩

set_option maxHeartbeats 1000000 in
theorem class0 (r : Nat) (h2 : r ≤ 47) (n1 : r ≠ 32) (n2 : r ≠ 9) (n3 : r ≠ 10) (n4 : r ≠ 13) (_hr : r < 2097152) (w : World) : Calls Tryd.prog 117 #[.int .i32 r] w fun e w' => e = .returned (.int .i64 (cls r : Nat)) ∧ w' = w := by
 have t0 : decide (97 ≤ (r : Int)) = false := decide_eq_false (by omega)
 have t1 : decide ((r : Int) ≤ 122) = true := decide_eq_true (by omega)
 have t2 : decide (65 ≤ (r : Int)) = false := decide_eq_false (by omega)
 have t3 : decide ((r : Int) ≤ 90) = true := decide_eq_true (by omega)
 have t4 : decide (945 ≤ (r : Int)) = false := decide_eq_false (by omega)
 have t5 : decide ((r : Int) ≤ 969) = true := decide_eq_true (by omega)
 have t6 : decide (48 ≤ (r : Int)) = false := decide_eq_false (by omega)
 have t7 : decide ((r : Int) ≤ 57) = true := decide_eq_true (by omega)
 have e32 : ((r : Int) == 32) = false := by simp; omega
 have e9 : ((r : Int) == 9) = false := by simp; omega
 have e10 : ((r : Int) == 10) = false := by simp; omega
 have e13 : ((r : Int) == 13) = false := by simp; omega
 have e95 : ((r : Int) == 95) = false := by simp <;> omega
 go_enter Tryd.func117, Tryd.ntmps117
 go_wp2_with fail
 generalize hS : (ByteArray.mk #[61, 126, 60, 62, 38, 124, 40, 41, 123, 125, 44, 59, 58, 43, 92, 35, 39]) = S
 have HS : Hid (S.data.toList = signsB) := Lib.hid (by rw [← hS]; rfl)
 have hk2 : S.size ≤ 17 := by rw [← hS]; exact Nat.le_refl _
 have hk3 : 17 ≤ S.size := by rw [← hS]; exact Nat.le_refl _
 clear hS
 go_loopg [4] 17 (fun q i wr => ∃ (k : Nat), k ≤ 17 ∧ q = 17 - k ∧ i = .int .i64 (k : Int) ∧ Hid (∀ j, j < k → signs.getD j 0 ≠ r) ∧ wr = w)
 case atStart => exact ⟨0, Nat.zero_le _, rfl, rfl, Lib.hid (fun j hj => absurd hj (by omega)), rfl⟩
 case round =>
  obtain ⟨k, hk, hq, rfl, HN, rfl⟩ := hrel
  have HQ := Lib.hid hq
  clear hq
  by_cases hlt : k < 17
  · have hks : k < S.size := by omega
    have HG := Lib.hid (getB HS.out k hks)
    have h256 := (S[k]'hks).toNat_lt
    by_cases he : (S[k]'hks).toNat = r
    · have HF := Lib.hid (show 4 = cls r by
       have hm : r ∈ signs := signs_in hlt (by rw [← HG.out]; exact he)
       unfold cls
       rw [if_neg (by omega), if_neg (by omega), if_neg (by omega), if_pos hm])
      have g : ((r : Int) == ((S[k]'hks).toNat : Int)) = true := by rw [he]; simp
      clear he
      go_wp2_with fail
      go_ret
      exact ⟨congrArg (fun x : Nat => Ending.returned (.int .i64 (x : Int))) HF.out, rfl⟩
    · have g : ((r : Int) == ((S[k]'hks).toNat : Int)) = false := by simp; omega
      have HE := Lib.hid he
      clear he
      go_wp2_with fail
      go_roundg (17 - (k + 1))
      case measure => have := HQ.out; omega
      case rel => exact ⟨k + 1, by omega, rfl, by go_num, Lib.hid (fun j hj => by
       rcases Nat.lt_or_ge j k with h | h
       · exact HN.out j h
       · obtain rfl : j = k := by omega
         rw [← HG.out]
         exact HE.out), rfl⟩
  · have g : decide ((k : Int) < 17) = false := decide_eq_false (by omega)
    have HF := Lib.hid (show 0 = cls r by
     have hm := signs_mem (fun j hj => HN.out j (by omega))
     unfold cls
     rw [if_neg (by omega), if_neg (by omega), if_neg (by omega), if_neg hm])
    go_wp2_with fail
    go_ret
    exact ⟨congrArg (fun x : Nat => Ending.returned (.int .i64 (x : Int))) HF.out, rfl⟩

set_option maxHeartbeats 1000000 in
theorem class1 (r : Nat) (h1 : 48 ≤ r) (h2 : r ≤ 57) (_hr : r < 2097152) (w : World) : Calls Tryd.prog 117 #[.int .i32 r] w fun e w' => e = .returned (.int .i64 (cls r : Nat)) ∧ w' = w := by
 have t0 : decide (97 ≤ (r : Int)) = false := decide_eq_false (by omega)
 have t1 : decide ((r : Int) ≤ 122) = true := decide_eq_true (by omega)
 have t2 : decide (65 ≤ (r : Int)) = false := decide_eq_false (by omega)
 have t3 : decide ((r : Int) ≤ 90) = true := decide_eq_true (by omega)
 have t4 : decide (945 ≤ (r : Int)) = false := decide_eq_false (by omega)
 have t5 : decide ((r : Int) ≤ 969) = true := decide_eq_true (by omega)
 have t6 : decide (48 ≤ (r : Int)) = true := decide_eq_true (by omega)
 have t7 : decide ((r : Int) ≤ 57) = true := decide_eq_true (by omega)
 have e95 : ((r : Int) == 95) = false := by simp <;> omega
 have HF := Lib.hid (show 2 = cls r by
  unfold cls
  first | rw [if_pos (by omega)] | rw [if_neg (by omega), if_pos (by omega)])
 go_enter Tryd.func117, Tryd.ntmps117
 go_wp2_with fail
 go_ret
 exact ⟨congrArg (fun x : Nat => Ending.returned (.int .i64 (x : Int))) HF.out, rfl⟩

set_option maxHeartbeats 1000000 in
theorem class2 (r : Nat) (h1 : 58 ≤ r) (h2 : r ≤ 64) (_hr : r < 2097152) (w : World) : Calls Tryd.prog 117 #[.int .i32 r] w fun e w' => e = .returned (.int .i64 (cls r : Nat)) ∧ w' = w := by
 have t0 : decide (97 ≤ (r : Int)) = false := decide_eq_false (by omega)
 have t1 : decide ((r : Int) ≤ 122) = true := decide_eq_true (by omega)
 have t2 : decide (65 ≤ (r : Int)) = false := decide_eq_false (by omega)
 have t3 : decide ((r : Int) ≤ 90) = true := decide_eq_true (by omega)
 have t4 : decide (945 ≤ (r : Int)) = false := decide_eq_false (by omega)
 have t5 : decide ((r : Int) ≤ 969) = true := decide_eq_true (by omega)
 have t6 : decide (48 ≤ (r : Int)) = true := decide_eq_true (by omega)
 have t7 : decide ((r : Int) ≤ 57) = false := decide_eq_false (by omega)
 have e95 : ((r : Int) == 95) = false := by simp <;> omega
 have e32 : ((r : Int) == 32) = false := by simp <;> omega
 have e9 : ((r : Int) == 9) = false := by simp <;> omega
 have e10 : ((r : Int) == 10) = false := by simp <;> omega
 have e13 : ((r : Int) == 13) = false := by simp <;> omega
 go_enter Tryd.func117, Tryd.ntmps117
 go_wp2_with fail
 generalize hS : (ByteArray.mk #[61, 126, 60, 62, 38, 124, 40, 41, 123, 125, 44, 59, 58, 43, 92, 35, 39]) = S
 have HS : Hid (S.data.toList = signsB) := Lib.hid (by rw [← hS]; rfl)
 have hk2 : S.size ≤ 17 := by rw [← hS]; exact Nat.le_refl _
 have hk3 : 17 ≤ S.size := by rw [← hS]; exact Nat.le_refl _
 clear hS
 go_loopg [4] 17 (fun q i wr => ∃ (k : Nat), k ≤ 17 ∧ q = 17 - k ∧ i = .int .i64 (k : Int) ∧ Hid (∀ j, j < k → signs.getD j 0 ≠ r) ∧ wr = w)
 case atStart => exact ⟨0, Nat.zero_le _, rfl, rfl, Lib.hid (fun j hj => absurd hj (by omega)), rfl⟩
 case round =>
  obtain ⟨k, hk, hq, rfl, HN, rfl⟩ := hrel
  have HQ := Lib.hid hq
  clear hq
  by_cases hlt : k < 17
  · have hks : k < S.size := by omega
    have HG := Lib.hid (getB HS.out k hks)
    have h256 := (S[k]'hks).toNat_lt
    by_cases he : (S[k]'hks).toNat = r
    · have HF := Lib.hid (show 4 = cls r by
       have hm : r ∈ signs := signs_in hlt (by rw [← HG.out]; exact he)
       unfold cls
       rw [if_neg (by omega), if_neg (by omega), if_neg (by omega), if_pos hm])
      have g : ((r : Int) == ((S[k]'hks).toNat : Int)) = true := by rw [he]; simp
      clear he
      go_wp2_with fail
      go_ret
      exact ⟨congrArg (fun x : Nat => Ending.returned (.int .i64 (x : Int))) HF.out, rfl⟩
    · have g : ((r : Int) == ((S[k]'hks).toNat : Int)) = false := by simp; omega
      have HE := Lib.hid he
      clear he
      go_wp2_with fail
      go_roundg (17 - (k + 1))
      case measure => have := HQ.out; omega
      case rel => exact ⟨k + 1, by omega, rfl, by go_num, Lib.hid (fun j hj => by
       rcases Nat.lt_or_ge j k with h | h
       · exact HN.out j h
       · obtain rfl : j = k := by omega
         rw [← HG.out]
         exact HE.out), rfl⟩
  · have g : decide ((k : Int) < 17) = false := decide_eq_false (by omega)
    have HF := Lib.hid (show 0 = cls r by
     have hm := signs_mem (fun j hj => HN.out j (by omega))
     unfold cls
     rw [if_neg (by omega), if_neg (by omega), if_neg (by omega), if_neg hm])
    go_wp2_with fail
    go_ret
    exact ⟨congrArg (fun x : Nat => Ending.returned (.int .i64 (x : Int))) HF.out, rfl⟩

set_option maxHeartbeats 1000000 in
theorem class3 (r : Nat) (h1 : 65 ≤ r) (h2 : r ≤ 90) (_hr : r < 2097152) (w : World) : Calls Tryd.prog 117 #[.int .i32 r] w fun e w' => e = .returned (.int .i64 (cls r : Nat)) ∧ w' = w := by
 have t0 : decide (97 ≤ (r : Int)) = false := decide_eq_false (by omega)
 have t1 : decide ((r : Int) ≤ 122) = true := decide_eq_true (by omega)
 have t2 : decide (65 ≤ (r : Int)) = true := decide_eq_true (by omega)
 have t3 : decide ((r : Int) ≤ 90) = true := decide_eq_true (by omega)
 have t4 : decide (945 ≤ (r : Int)) = false := decide_eq_false (by omega)
 have t5 : decide ((r : Int) ≤ 969) = true := decide_eq_true (by omega)
 have t6 : decide (48 ≤ (r : Int)) = true := decide_eq_true (by omega)
 have t7 : decide ((r : Int) ≤ 57) = false := decide_eq_false (by omega)
 have e95 : ((r : Int) == 95) = false := by simp <;> omega
 have HF := Lib.hid (show 1 = cls r by
  unfold cls
  first | rw [if_pos (by omega)] | rw [if_neg (by omega), if_pos (by omega)])
 go_enter Tryd.func117, Tryd.ntmps117
 go_wp2_with fail
 go_ret
 exact ⟨congrArg (fun x : Nat => Ending.returned (.int .i64 (x : Int))) HF.out, rfl⟩

set_option maxHeartbeats 1000000 in
theorem class4 (r : Nat) (h1 : 91 ≤ r) (h2 : r ≤ 94) (_hr : r < 2097152) (w : World) : Calls Tryd.prog 117 #[.int .i32 r] w fun e w' => e = .returned (.int .i64 (cls r : Nat)) ∧ w' = w := by
 have t0 : decide (97 ≤ (r : Int)) = false := decide_eq_false (by omega)
 have t1 : decide ((r : Int) ≤ 122) = true := decide_eq_true (by omega)
 have t2 : decide (65 ≤ (r : Int)) = true := decide_eq_true (by omega)
 have t3 : decide ((r : Int) ≤ 90) = false := decide_eq_false (by omega)
 have t4 : decide (945 ≤ (r : Int)) = false := decide_eq_false (by omega)
 have t5 : decide ((r : Int) ≤ 969) = true := decide_eq_true (by omega)
 have t6 : decide (48 ≤ (r : Int)) = true := decide_eq_true (by omega)
 have t7 : decide ((r : Int) ≤ 57) = false := decide_eq_false (by omega)
 have e95 : ((r : Int) == 95) = false := by simp <;> omega
 have e32 : ((r : Int) == 32) = false := by simp <;> omega
 have e9 : ((r : Int) == 9) = false := by simp <;> omega
 have e10 : ((r : Int) == 10) = false := by simp <;> omega
 have e13 : ((r : Int) == 13) = false := by simp <;> omega
 go_enter Tryd.func117, Tryd.ntmps117
 go_wp2_with fail
 generalize hS : (ByteArray.mk #[61, 126, 60, 62, 38, 124, 40, 41, 123, 125, 44, 59, 58, 43, 92, 35, 39]) = S
 have HS : Hid (S.data.toList = signsB) := Lib.hid (by rw [← hS]; rfl)
 have hk2 : S.size ≤ 17 := by rw [← hS]; exact Nat.le_refl _
 have hk3 : 17 ≤ S.size := by rw [← hS]; exact Nat.le_refl _
 clear hS
 go_loopg [4] 17 (fun q i wr => ∃ (k : Nat), k ≤ 17 ∧ q = 17 - k ∧ i = .int .i64 (k : Int) ∧ Hid (∀ j, j < k → signs.getD j 0 ≠ r) ∧ wr = w)
 case atStart => exact ⟨0, Nat.zero_le _, rfl, rfl, Lib.hid (fun j hj => absurd hj (by omega)), rfl⟩
 case round =>
  obtain ⟨k, hk, hq, rfl, HN, rfl⟩ := hrel
  have HQ := Lib.hid hq
  clear hq
  by_cases hlt : k < 17
  · have hks : k < S.size := by omega
    have HG := Lib.hid (getB HS.out k hks)
    have h256 := (S[k]'hks).toNat_lt
    by_cases he : (S[k]'hks).toNat = r
    · have HF := Lib.hid (show 4 = cls r by
       have hm : r ∈ signs := signs_in hlt (by rw [← HG.out]; exact he)
       unfold cls
       rw [if_neg (by omega), if_neg (by omega), if_neg (by omega), if_pos hm])
      have g : ((r : Int) == ((S[k]'hks).toNat : Int)) = true := by rw [he]; simp
      clear he
      go_wp2_with fail
      go_ret
      exact ⟨congrArg (fun x : Nat => Ending.returned (.int .i64 (x : Int))) HF.out, rfl⟩
    · have g : ((r : Int) == ((S[k]'hks).toNat : Int)) = false := by simp; omega
      have HE := Lib.hid he
      clear he
      go_wp2_with fail
      go_roundg (17 - (k + 1))
      case measure => have := HQ.out; omega
      case rel => exact ⟨k + 1, by omega, rfl, by go_num, Lib.hid (fun j hj => by
       rcases Nat.lt_or_ge j k with h | h
       · exact HN.out j h
       · obtain rfl : j = k := by omega
         rw [← HG.out]
         exact HE.out), rfl⟩
  · have g : decide ((k : Int) < 17) = false := decide_eq_false (by omega)
    have HF := Lib.hid (show 0 = cls r by
     have hm := signs_mem (fun j hj => HN.out j (by omega))
     unfold cls
     rw [if_neg (by omega), if_neg (by omega), if_neg (by omega), if_neg hm])
    go_wp2_with fail
    go_ret
    exact ⟨congrArg (fun x : Nat => Ending.returned (.int .i64 (x : Int))) HF.out, rfl⟩

set_option maxHeartbeats 1000000 in
theorem class5 (r : Nat) (h1 : 95 ≤ r) (h2 : r ≤ 95) (_hr : r < 2097152) (w : World) : Calls Tryd.prog 117 #[.int .i32 r] w fun e w' => e = .returned (.int .i64 (cls r : Nat)) ∧ w' = w := by
 have t0 : decide (97 ≤ (r : Int)) = false := decide_eq_false (by omega)
 have t1 : decide ((r : Int) ≤ 122) = true := decide_eq_true (by omega)
 have t2 : decide (65 ≤ (r : Int)) = true := decide_eq_true (by omega)
 have t3 : decide ((r : Int) ≤ 90) = false := decide_eq_false (by omega)
 have t4 : decide (945 ≤ (r : Int)) = false := decide_eq_false (by omega)
 have t5 : decide ((r : Int) ≤ 969) = true := decide_eq_true (by omega)
 have t6 : decide (48 ≤ (r : Int)) = true := decide_eq_true (by omega)
 have t7 : decide ((r : Int) ≤ 57) = false := decide_eq_false (by omega)
 have e95 : ((r : Int) == 95) = true := by simp <;> omega
 have HF := Lib.hid (show 1 = cls r by
  unfold cls
  first | rw [if_pos (by omega)] | rw [if_neg (by omega), if_pos (by omega)])
 go_enter Tryd.func117, Tryd.ntmps117
 go_wp2_with fail
 go_ret
 exact ⟨congrArg (fun x : Nat => Ending.returned (.int .i64 (x : Int))) HF.out, rfl⟩

set_option maxHeartbeats 1000000 in
theorem class6 (r : Nat) (h1 : 96 ≤ r) (h2 : r ≤ 96) (_hr : r < 2097152) (w : World) : Calls Tryd.prog 117 #[.int .i32 r] w fun e w' => e = .returned (.int .i64 (cls r : Nat)) ∧ w' = w := by
 have t0 : decide (97 ≤ (r : Int)) = false := decide_eq_false (by omega)
 have t1 : decide ((r : Int) ≤ 122) = true := decide_eq_true (by omega)
 have t2 : decide (65 ≤ (r : Int)) = true := decide_eq_true (by omega)
 have t3 : decide ((r : Int) ≤ 90) = false := decide_eq_false (by omega)
 have t4 : decide (945 ≤ (r : Int)) = false := decide_eq_false (by omega)
 have t5 : decide ((r : Int) ≤ 969) = true := decide_eq_true (by omega)
 have t6 : decide (48 ≤ (r : Int)) = true := decide_eq_true (by omega)
 have t7 : decide ((r : Int) ≤ 57) = false := decide_eq_false (by omega)
 have e95 : ((r : Int) == 95) = false := by simp <;> omega
 have e32 : ((r : Int) == 32) = false := by simp <;> omega
 have e9 : ((r : Int) == 9) = false := by simp <;> omega
 have e10 : ((r : Int) == 10) = false := by simp <;> omega
 have e13 : ((r : Int) == 13) = false := by simp <;> omega
 go_enter Tryd.func117, Tryd.ntmps117
 go_wp2_with fail
 generalize hS : (ByteArray.mk #[61, 126, 60, 62, 38, 124, 40, 41, 123, 125, 44, 59, 58, 43, 92, 35, 39]) = S
 have HS : Hid (S.data.toList = signsB) := Lib.hid (by rw [← hS]; rfl)
 have hk2 : S.size ≤ 17 := by rw [← hS]; exact Nat.le_refl _
 have hk3 : 17 ≤ S.size := by rw [← hS]; exact Nat.le_refl _
 clear hS
 go_loopg [4] 17 (fun q i wr => ∃ (k : Nat), k ≤ 17 ∧ q = 17 - k ∧ i = .int .i64 (k : Int) ∧ Hid (∀ j, j < k → signs.getD j 0 ≠ r) ∧ wr = w)
 case atStart => exact ⟨0, Nat.zero_le _, rfl, rfl, Lib.hid (fun j hj => absurd hj (by omega)), rfl⟩
 case round =>
  obtain ⟨k, hk, hq, rfl, HN, rfl⟩ := hrel
  have HQ := Lib.hid hq
  clear hq
  by_cases hlt : k < 17
  · have hks : k < S.size := by omega
    have HG := Lib.hid (getB HS.out k hks)
    have h256 := (S[k]'hks).toNat_lt
    by_cases he : (S[k]'hks).toNat = r
    · have HF := Lib.hid (show 4 = cls r by
       have hm : r ∈ signs := signs_in hlt (by rw [← HG.out]; exact he)
       unfold cls
       rw [if_neg (by omega), if_neg (by omega), if_neg (by omega), if_pos hm])
      have g : ((r : Int) == ((S[k]'hks).toNat : Int)) = true := by rw [he]; simp
      clear he
      go_wp2_with fail
      go_ret
      exact ⟨congrArg (fun x : Nat => Ending.returned (.int .i64 (x : Int))) HF.out, rfl⟩
    · have g : ((r : Int) == ((S[k]'hks).toNat : Int)) = false := by simp; omega
      have HE := Lib.hid he
      clear he
      go_wp2_with fail
      go_roundg (17 - (k + 1))
      case measure => have := HQ.out; omega
      case rel => exact ⟨k + 1, by omega, rfl, by go_num, Lib.hid (fun j hj => by
       rcases Nat.lt_or_ge j k with h | h
       · exact HN.out j h
       · obtain rfl : j = k := by omega
         rw [← HG.out]
         exact HE.out), rfl⟩
  · have g : decide ((k : Int) < 17) = false := decide_eq_false (by omega)
    have HF := Lib.hid (show 0 = cls r by
     have hm := signs_mem (fun j hj => HN.out j (by omega))
     unfold cls
     rw [if_neg (by omega), if_neg (by omega), if_neg (by omega), if_neg hm])
    go_wp2_with fail
    go_ret
    exact ⟨congrArg (fun x : Nat => Ending.returned (.int .i64 (x : Int))) HF.out, rfl⟩

set_option maxHeartbeats 1000000 in
theorem class7 (r : Nat) (h1 : 97 ≤ r) (h2 : r ≤ 122) (_hr : r < 2097152) (w : World) : Calls Tryd.prog 117 #[.int .i32 r] w fun e w' => e = .returned (.int .i64 (cls r : Nat)) ∧ w' = w := by
 have t0 : decide (97 ≤ (r : Int)) = true := decide_eq_true (by omega)
 have t1 : decide ((r : Int) ≤ 122) = true := decide_eq_true (by omega)
 have t2 : decide (65 ≤ (r : Int)) = true := decide_eq_true (by omega)
 have t3 : decide ((r : Int) ≤ 90) = false := decide_eq_false (by omega)
 have t4 : decide (945 ≤ (r : Int)) = false := decide_eq_false (by omega)
 have t5 : decide ((r : Int) ≤ 969) = true := decide_eq_true (by omega)
 have t6 : decide (48 ≤ (r : Int)) = true := decide_eq_true (by omega)
 have t7 : decide ((r : Int) ≤ 57) = false := decide_eq_false (by omega)
 have e95 : ((r : Int) == 95) = false := by simp <;> omega
 have HF := Lib.hid (show 1 = cls r by
  unfold cls
  first | rw [if_pos (by omega)] | rw [if_neg (by omega), if_pos (by omega)])
 go_enter Tryd.func117, Tryd.ntmps117
 go_wp2_with fail
 go_ret
 exact ⟨congrArg (fun x : Nat => Ending.returned (.int .i64 (x : Int))) HF.out, rfl⟩

set_option maxHeartbeats 1000000 in
theorem class8 (r : Nat) (h1 : 123 ≤ r) (h2 : r ≤ 944) (_hr : r < 2097152) (w : World) : Calls Tryd.prog 117 #[.int .i32 r] w fun e w' => e = .returned (.int .i64 (cls r : Nat)) ∧ w' = w := by
 have t0 : decide (97 ≤ (r : Int)) = true := decide_eq_true (by omega)
 have t1 : decide ((r : Int) ≤ 122) = false := decide_eq_false (by omega)
 have t2 : decide (65 ≤ (r : Int)) = true := decide_eq_true (by omega)
 have t3 : decide ((r : Int) ≤ 90) = false := decide_eq_false (by omega)
 have t4 : decide (945 ≤ (r : Int)) = false := decide_eq_false (by omega)
 have t5 : decide ((r : Int) ≤ 969) = true := decide_eq_true (by omega)
 have t6 : decide (48 ≤ (r : Int)) = true := decide_eq_true (by omega)
 have t7 : decide ((r : Int) ≤ 57) = false := decide_eq_false (by omega)
 have e95 : ((r : Int) == 95) = false := by simp <;> omega
 have e32 : ((r : Int) == 32) = false := by simp <;> omega
 have e9 : ((r : Int) == 9) = false := by simp <;> omega
 have e10 : ((r : Int) == 10) = false := by simp <;> omega
 have e13 : ((r : Int) == 13) = false := by simp <;> omega
 go_enter Tryd.func117, Tryd.ntmps117
 go_wp2_with fail
 generalize hS : (ByteArray.mk #[61, 126, 60, 62, 38, 124, 40, 41, 123, 125, 44, 59, 58, 43, 92, 35, 39]) = S
 have HS : Hid (S.data.toList = signsB) := Lib.hid (by rw [← hS]; rfl)
 have hk2 : S.size ≤ 17 := by rw [← hS]; exact Nat.le_refl _
 have hk3 : 17 ≤ S.size := by rw [← hS]; exact Nat.le_refl _
 clear hS
 go_loopg [4] 17 (fun q i wr => ∃ (k : Nat), k ≤ 17 ∧ q = 17 - k ∧ i = .int .i64 (k : Int) ∧ Hid (∀ j, j < k → signs.getD j 0 ≠ r) ∧ wr = w)
 case atStart => exact ⟨0, Nat.zero_le _, rfl, rfl, Lib.hid (fun j hj => absurd hj (by omega)), rfl⟩
 case round =>
  obtain ⟨k, hk, hq, rfl, HN, rfl⟩ := hrel
  have HQ := Lib.hid hq
  clear hq
  by_cases hlt : k < 17
  · have hks : k < S.size := by omega
    have HG := Lib.hid (getB HS.out k hks)
    have h256 := (S[k]'hks).toNat_lt
    by_cases he : (S[k]'hks).toNat = r
    · have HF := Lib.hid (show 4 = cls r by
       have hm : r ∈ signs := signs_in hlt (by rw [← HG.out]; exact he)
       unfold cls
       rw [if_neg (by omega), if_neg (by omega), if_neg (by omega), if_pos hm])
      have g : ((r : Int) == ((S[k]'hks).toNat : Int)) = true := by rw [he]; simp
      clear he
      go_wp2_with fail
      go_ret
      exact ⟨congrArg (fun x : Nat => Ending.returned (.int .i64 (x : Int))) HF.out, rfl⟩
    · have g : ((r : Int) == ((S[k]'hks).toNat : Int)) = false := by simp; omega
      have HE := Lib.hid he
      clear he
      go_wp2_with fail
      go_roundg (17 - (k + 1))
      case measure => have := HQ.out; omega
      case rel => exact ⟨k + 1, by omega, rfl, by go_num, Lib.hid (fun j hj => by
       rcases Nat.lt_or_ge j k with h | h
       · exact HN.out j h
       · obtain rfl : j = k := by omega
         rw [← HG.out]
         exact HE.out), rfl⟩
  · have g : decide ((k : Int) < 17) = false := decide_eq_false (by omega)
    have HF := Lib.hid (show 0 = cls r by
     have hm := signs_mem (fun j hj => HN.out j (by omega))
     unfold cls
     rw [if_neg (by omega), if_neg (by omega), if_neg (by omega), if_neg hm])
    go_wp2_with fail
    go_ret
    exact ⟨congrArg (fun x : Nat => Ending.returned (.int .i64 (x : Int))) HF.out, rfl⟩

set_option maxHeartbeats 1000000 in
theorem class9 (r : Nat) (h1 : 945 ≤ r) (h2 : r ≤ 969) (_hr : r < 2097152) (w : World) : Calls Tryd.prog 117 #[.int .i32 r] w fun e w' => e = .returned (.int .i64 (cls r : Nat)) ∧ w' = w := by
 have t0 : decide (97 ≤ (r : Int)) = true := decide_eq_true (by omega)
 have t1 : decide ((r : Int) ≤ 122) = false := decide_eq_false (by omega)
 have t2 : decide (65 ≤ (r : Int)) = true := decide_eq_true (by omega)
 have t3 : decide ((r : Int) ≤ 90) = false := decide_eq_false (by omega)
 have t4 : decide (945 ≤ (r : Int)) = true := decide_eq_true (by omega)
 have t5 : decide ((r : Int) ≤ 969) = true := decide_eq_true (by omega)
 have t6 : decide (48 ≤ (r : Int)) = true := decide_eq_true (by omega)
 have t7 : decide ((r : Int) ≤ 57) = false := decide_eq_false (by omega)
 have e95 : ((r : Int) == 95) = false := by simp <;> omega
 have HF := Lib.hid (show 1 = cls r by
  unfold cls
  first | rw [if_pos (by omega)] | rw [if_neg (by omega), if_pos (by omega)])
 go_enter Tryd.func117, Tryd.ntmps117
 go_wp2_with fail
 go_ret
 exact ⟨congrArg (fun x : Nat => Ending.returned (.int .i64 (x : Int))) HF.out, rfl⟩

set_option maxHeartbeats 1000000 in
theorem class10 (r : Nat) (h1 : 970 ≤ r) (hr : r < 2097152) (w : World) : Calls Tryd.prog 117 #[.int .i32 r] w fun e w' => e = .returned (.int .i64 (cls r : Nat)) ∧ w' = w := by
 have t0 : decide (97 ≤ (r : Int)) = true := decide_eq_true (by omega)
 have t1 : decide ((r : Int) ≤ 122) = false := decide_eq_false (by omega)
 have t2 : decide (65 ≤ (r : Int)) = true := decide_eq_true (by omega)
 have t3 : decide ((r : Int) ≤ 90) = false := decide_eq_false (by omega)
 have t4 : decide (945 ≤ (r : Int)) = true := decide_eq_true (by omega)
 have t5 : decide ((r : Int) ≤ 969) = false := decide_eq_false (by omega)
 have t6 : decide (48 ≤ (r : Int)) = true := decide_eq_true (by omega)
 have t7 : decide ((r : Int) ≤ 57) = false := decide_eq_false (by omega)
 have e95 : ((r : Int) == 95) = false := by simp <;> omega
 have e32 : ((r : Int) == 32) = false := by simp <;> omega
 have e9 : ((r : Int) == 9) = false := by simp <;> omega
 have e10 : ((r : Int) == 10) = false := by simp <;> omega
 have e13 : ((r : Int) == 13) = false := by simp <;> omega
 go_enter Tryd.func117, Tryd.ntmps117
 go_wp2_with fail
 generalize hS : (ByteArray.mk #[61, 126, 60, 62, 38, 124, 40, 41, 123, 125, 44, 59, 58, 43, 92, 35, 39]) = S
 have HS : Hid (S.data.toList = signsB) := Lib.hid (by rw [← hS]; rfl)
 have hk2 : S.size ≤ 17 := by rw [← hS]; exact Nat.le_refl _
 have hk3 : 17 ≤ S.size := by rw [← hS]; exact Nat.le_refl _
 clear hS
 go_loopg [4] 17 (fun q i wr => ∃ (k : Nat), k ≤ 17 ∧ q = 17 - k ∧ i = .int .i64 (k : Int) ∧ Hid (∀ j, j < k → signs.getD j 0 ≠ r) ∧ wr = w)
 case atStart => exact ⟨0, Nat.zero_le _, rfl, rfl, Lib.hid (fun j hj => absurd hj (by omega)), rfl⟩
 case round =>
  obtain ⟨k, hk, hq, rfl, HN, rfl⟩ := hrel
  have HQ := Lib.hid hq
  clear hq
  by_cases hlt : k < 17
  · have hks : k < S.size := by omega
    have HG := Lib.hid (getB HS.out k hks)
    have h256 := (S[k]'hks).toNat_lt
    by_cases he : (S[k]'hks).toNat = r
    · have HF := Lib.hid (show 4 = cls r by
       have hm : r ∈ signs := signs_in hlt (by rw [← HG.out]; exact he)
       unfold cls
       rw [if_neg (by omega), if_neg (by omega), if_neg (by omega), if_pos hm])
      have g : ((r : Int) == ((S[k]'hks).toNat : Int)) = true := by rw [he]; simp
      clear he
      go_wp2_with fail
      go_ret
      exact ⟨congrArg (fun x : Nat => Ending.returned (.int .i64 (x : Int))) HF.out, rfl⟩
    · have g : ((r : Int) == ((S[k]'hks).toNat : Int)) = false := by simp; omega
      have HE := Lib.hid he
      clear he
      go_wp2_with fail
      go_roundg (17 - (k + 1))
      case measure => have := HQ.out; omega
      case rel => exact ⟨k + 1, by omega, rfl, by go_num, Lib.hid (fun j hj => by
       rcases Nat.lt_or_ge j k with h | h
       · exact HN.out j h
       · obtain rfl : j = k := by omega
         rw [← HG.out]
         exact HE.out), rfl⟩
  · have g : decide ((k : Int) < 17) = false := decide_eq_false (by omega)
    have HF := Lib.hid (show 0 = cls r by
     have hm := signs_mem (fun j hj => HN.out j (by omega))
     unfold cls
     rw [if_neg (by omega), if_neg (by omega), if_neg (by omega), if_neg hm])
    go_wp2_with fail
    go_ret
    exact ⟨congrArg (fun x : Nat => Ending.returned (.int .i64 (x : Int))) HF.out, rfl⟩

theorem cls_any (r : Nat) (hr : r < 2097152) (w : World) : Calls Tryd.prog 117 #[.int .i32 r] w fun e w' => e = .returned (.int .i64 (cls r : Nat)) ∧ w' = w := by
 by_cases a1 : r ≤ 47
 · by_cases s1 : r = 32
   · subst s1; exact classS32 w
   by_cases s2 : r = 9
   · subst s2; exact classS9 w
   by_cases s3 : r = 10
   · subst s3; exact classS10 w
   by_cases s4 : r = 13
   · subst s4; exact classS13 w
   exact class0 r a1 s1 s2 s3 s4 hr w
 by_cases a2 : r ≤ 57
 · exact class1 r (by omega) a2 hr w
 by_cases a3 : r ≤ 64
 · exact class2 r (by omega) a3 hr w
 by_cases a4 : r ≤ 90
 · exact class3 r (by omega) a4 hr w
 by_cases a5 : r ≤ 94
 · exact class4 r (by omega) a5 hr w
 by_cases a6 : r ≤ 95
 · exact class5 r (by omega) a6 hr w
 by_cases a7 : r ≤ 96
 · exact class6 r (by omega) a7 hr w
 by_cases a8 : r ≤ 122
 · exact class7 r (by omega) a8 hr w
 by_cases a9 : r ≤ 944
 · exact class8 r (by omega) a9 hr w
 by_cases a10 : r ≤ 969
 · exact class9 r (by omega) a10 hr w
 exact class10 r (by omega) hr w
end Go.Proofs.YteikakoheibnjaaDoor
namespace Go.Proofs.YteikakoheibnjaaDoor
open Go Go.RowKit

theorem size_of {T : ByteArray} {X : List UInt8} (h : T.data.toList = X) : T.size = X.length := by
 rw [← h, Array.length_toList]
 rfl
theorem bytes_of {T : ByteArray} {X : List UInt8} (h : T.data.toList = X) : T = ⟨X.toArray⟩ := by
 subst h
 cases T with
 | mk d => exact congrArg ByteArray.mk (by rw [Array.toArray_toList])
theorem add_ex (a b : ByteArray) {X Y : List UInt8} (ha : a.data.toList = X) (hb : b.data.toList = Y) (h : X.length + Y.length ≤ 100000000) :
  ∃ T : ByteArray, (∀ w : World, (Op.stringOp .add a b).run Tryd.prog w = .ok (.string T) w) ∧ T.data.toList = X ++ Y := by
 refine ⟨a ++ b, fun w => run_string_add_sum w a b ?_, ?_⟩
 · rw [size_of ha, size_of hb]
   omega
 · rw [ByteArray.data_append, Array.toList_append, ha, hb]


end Go.Proofs.YteikakoheibnjaaDoor
namespace Go.Proofs.YteikakoheibnjaaDoor
open Go Go.RowKit

section
variable {P : Program} (w : World)

theorem run_append_of_nil (base : Nat) (t ty e : TypeId) (i : TypeInfo) (size : Nat) (ht : P.underlying t = some (.slice e)) (hi : P.info? e = some i)
  (v : Value) (n : Nat) (xs : List Value) (hown : w.ownsRow base e size v n xs) (c : Nat) : (Builtin.append_ #[t, t] ty #[v, .slice none 0 c]).run P w = .ok v w := by
 rcases hown.2 with ⟨rfl, rfl⟩ | ⟨g, cap, cur, rfl, _, _, hnc, _⟩
 · simp [Builtin.append_, run_underlying ht, sizeOf, typeInfo, hi, Builtin.lenOf, Builtin.firstCells]
 · simp [Builtin.append_, run_underlying ht, sizeOf, typeInfo, hi, Builtin.lenOf, Builtin.firstCells, hnc, storeCells]

theorem run_append_any (base : Nat) (t ty e : TypeId) (i : TypeInfo) (z : Value) (size bytes : Nat) (ht : P.underlying t = some (.slice e)) (hi : P.info? e = some i) (hz : i.zero = some z)
  (hsize : i.size = size) (hby : i.bytes = bytes) (hzs : z.cells.size = size) (hsz : 0 < size)
  (v : Value) (n : Nat) (xs : List Value) (hown : w.ownsRow base e size v n xs)
  (B : Nat) (A : Option Addr) (m c : Nat) (news : List Value) (hr : Reads w B size A m news) (h1 : ∀ u ∈ news, u.oneCell' = true)
  (h63 : n + m ≤ maxLen) (hbytes : (n + m) * bytes ≤ 140737488355328) (hbase : base ≤ w.heap.size) :
  ∃ v' w', (Builtin.append_ #[t, t] ty #[v, .slice A m c]).run P w = .ok v' w' ∧ w'.ownsRow base e size v' (n + m) (xs ++ news) ∧ w.grownBy w' v.ownBlock ∧
    (v'.ownBlock = v.ownBlock ∨ v'.ownBlock = some w.heap.size) := by
 rcases A with _ | ad
 · have hm : m = 0 := by
    rcases Nat.eq_zero_or_pos m with h0 | h0
    · exact h0
    · obtain ⟨ad, h, _⟩ := hr.2 h0
      cases h
   subst hm
   have hn : news = [] := List.eq_nil_of_length_eq_zero (by simpa using hr.1)
   subst hn
   exact ⟨v, w, run_append_of_nil w base t ty e i size ht hi v n xs hown c, by simpa using hown, World.grownBy.refl w _, .inl rfl⟩
 · have hcells : ∀ j u, news[j]? = some u → w.cell? (ad.add j) = some u := by
    intro j u hu
    rcases Nat.eq_zero_or_pos m with h0 | h0
    · subst h0
      have hn : news = [] := List.eq_nil_of_length_eq_zero (by simpa using hr.1)
      subst hn
      simp at hu
    · obtain ⟨ad', h, _, hc⟩ := hr.2 h0
      injection h with h
      subst h
      exact hc j u hu
   obtain ⟨v', w', hrun, h2, h3, _, h5⟩ := run_append_own_at (P := P) w base t ty e i z size bytes ht hi hz hsize hby hzs hsz v n xs hown ad m c news hr.1 hcells h1 h63 hbytes hbase
   exact ⟨v', w', hrun, h2, h3, h5⟩

theorem wp_append_any {o : Oper} {a : Act} {K : Act → World → Prop} {Q : Exit → Act → World → Prop} (s x : Operand) (t : TypeId)
  (ho : o.op = .call { callee := .builtin .append, args := #[s, x], argTypes := #[t, t] })
  (base : Nat) (e : TypeId) (i : TypeInfo) (z : Value) (size bytes : Nat) (ht : P.underlying t = some (.slice e)) (hi : P.info? e = some i) (hz : i.zero = some z)
  (hsize : i.size = size) (hby : i.bytes = bytes) (hzs : z.cells.size = size) (hsz : 0 < size)
  (v : Value) (n : Nat) (xs : List Value) (hs : a.eval s = v) (hown : w.ownsRow base e size v n xs)
  (B : Nat) (A : Option Addr) (m c : Nat) (news : List Value) (hx : a.eval x = .slice A m c) (hr : Reads w B size A m news) (h1 : ∀ u ∈ news, u.oneCell' = true)
  (h63 : n + m ≤ maxLen) (hbytes : (n + m) * bytes ≤ 140737488355328) (hbase : base ≤ w.heap.size)
  (h : ∀ v' w', w'.ownsRow base e size v' (n + m) (xs ++ news) → w.grownBy w' v.ownBlock → (v'.ownBlock = v.ownBlock ∨ v'.ownBlock = some w.heap.size) → K (a.put o.dst v') w') : o.wp P a w K Q := by
 obtain ⟨v', w', hrun, h2, h3, h4⟩ := run_append_any (P := P) w base t o.type e i z size bytes ht hi hz hsize hby hzs hsz v n xs hown B A m c news hr h1 h63 hbytes hbase
 unfold Oper.wp execOp
 simp only [ho, resolve, invoke, builtin, Sem.run_bind, Sem.run_pure, Result.andThen_ok, List.map_toArray, List.map_cons, List.map_nil, hs, hx, hrun]
 exact h v' w' h2 h3 h4

theorem wpList_append_any {ops : Array Oper} {rest : List Oper} {o : Oper} {a : Act} {Q : Exit → Act → World → Prop} (hgd : o.guard = none) (s x : Operand) (t : TypeId)
  (ho : o.op = .call { callee := .builtin .append, args := #[s, x], argTypes := #[t, t] })
  (base : Nat) (e : TypeId) (i : TypeInfo) (z : Value) (size bytes : Nat) (ht : P.underlying t = some (.slice e)) (hi : P.info? e = some i) (hz : i.zero = some z)
  (hsize : i.size = size) (hby : i.bytes = bytes) (hzs : z.cells.size = size) (hsz : 0 < size)
  (v : Value) (n : Nat) (xs : List Value) (hs : a.eval s = v) (hown : w.ownsRow base e size v n xs)
  (B : Nat) (A : Option Addr) (m c : Nat) (news : List Value) (hx : a.eval x = .slice A m c) (hr : Reads w B size A m news) (h1 : ∀ u ∈ news, u.oneCell' = true)
  (h63 : n + m ≤ maxLen) (hbytes : (n + m) * bytes ≤ 140737488355328) (hbase : base ≤ w.heap.size)
  (h : ∀ v' w', w'.ownsRow base e size v' (n + m) (xs ++ news) → w.grownBy w' v.ownBlock → (v'.ownBlock = v.ownBlock ∨ v'.ownBlock = some w.heap.size) → wpList P ops Q rest (a.put o.dst v') w') : wpList P ops Q (o :: rest) a w :=
 wpList_plain hgd fun _ hK => wp_append_any w s x t ho base e i z size bytes ht hi hz hsize hby hzs hsz v n xs hs hown B A m c news hx hr h1 h63 hbytes hbase fun v' w' h2 h3 h4 => hK _ _ (h v' w' h2 h3 h4)

theorem step_append_any {ops : Array Oper} {o : Oper} {a : Act} {K : Act → World → Prop} {Q : Exit → Act → World → Prop} {E : Prop} (hgd : o.guard = none) (s x : Operand) (t : TypeId)
  (ho : o.op = .call { callee := .builtin .append, args := #[s, x], argTypes := #[t, t] })
  (base : Nat) (e : TypeId) (i : TypeInfo) (z : Value) (size bytes : Nat) (ht : P.underlying t = some (.slice e)) (hi : P.info? e = some i) (hz : i.zero = some z)
  (hsize : i.size = size) (hby : i.bytes = bytes) (hzs : z.cells.size = size) (hsz : 0 < size)
  (v : Value) (n : Nat) (xs : List Value) (hs : a.eval s = v) (hown : w.ownsRow base e size v n xs)
  (B : Nat) (A : Option Addr) (m c : Nat) (news : List Value) (hx : a.eval x = .slice A m c) (hr : Reads w B size A m news) (h1 : ∀ u ∈ news, u.oneCell' = true)
  (h63 : n + m ≤ maxLen) (hbytes : (n + m) * bytes ≤ 140737488355328) (hbase : base ≤ w.heap.size)
  (h : ∀ v' w', w'.ownsRow base e size v' (n + m) (xs ++ news) → w.grownBy w' v.ownBlock → (v'.ownBlock = v.ownBlock ∨ v'.ownBlock = some w.heap.size) → K (a.put o.dst v') w') :
  if Region.wanted o (yielded ops a.tmps) = true then Oper.wp P o a w K Q else E := by
 have hw : Region.wanted o (yielded ops a.tmps) = true := by simp [Region.wanted, hgd]
 rw [if_pos hw]
 exact wp_append_any w s x t ho base e i z size bytes ht hi hz hsize hby hzs hsz v n xs hs hown B A m c news hx hr h1 h63 hbytes hbase h
end

end Go.Proofs.YteikakoheibnjaaDoor
namespace Go.Proofs
open Go.Shelf
def Tryd.lays197_ren : Go.Shelf.Ren := ⟨fun | 197 => 90 | 260 => 116 | n => n, fun | 9 => 9 | 21 => 21 | 3 => 3 | 4 => 4 | 5 => 5 | 105 => 118 | 119 => 154 | 0 => 0 | 46 => 143 | 139 => 157 | 138 => 156 | n => n, fun | 3 => 2 | 4 => 3 | n => n⟩
theorem Tryd.lays197 : Go.Proofs.Lays.n197 Tryd.prog Tryd.lays197_ren := {
 mixed := by kernel_rfl
 f197 := Tryd.func90.trans (congrArg some (by kernel_rfl))
 f260 := Tryd.func116.trans (congrArg some (by kernel_rfl))
 t0 := Tryd.underlying0
 a0 := Tryd.isAgg0
 z0 := Tryd.sizeOf0
 v0 := Tryd.zeroValue0
 t3 := Tryd.underlying3
 a3 := Tryd.isAgg3
 z3 := Tryd.sizeOf3
 v3 := Tryd.zeroValue3
 t4 := Tryd.underlying4
 a4 := Tryd.isAgg4
 z4 := Tryd.sizeOf4
 v4 := Tryd.zeroValue4
 t5 := Tryd.underlying5
 a5 := Tryd.isAgg5
 z5 := Tryd.sizeOf5
 v5 := Tryd.zeroValue5
 t9 := Tryd.underlying9
 a9 := Tryd.isAgg9
 z9 := Tryd.sizeOf9
 v9 := Tryd.zeroValue9
 t21 := Tryd.underlying21
 a21 := Tryd.isAgg21
 z21 := Tryd.sizeOf21
 v21 := Tryd.zeroValue21
 t46 := Tryd.underlying143
 a46 := Tryd.isAgg143
 z46 := Tryd.sizeOf143
 v46 := Tryd.zeroValue143
 t105 := Tryd.underlying118
 a105 := Tryd.isAgg118
 z105 := Tryd.sizeOf118
 v105 := Tryd.zeroValue118
 t119 := Tryd.underlying154
 a119 := Tryd.isAgg154
 z119 := Tryd.sizeOf154
 t138 := Tryd.underlying156
 a138 := Tryd.isAgg156
 z138 := Tryd.sizeOf156
 v138 := Tryd.zeroValue156
 t139 := Tryd.underlying157
 a139 := Tryd.isAgg157
 z139 := Tryd.sizeOf157
 v139 := Tryd.zeroValue157
 g3 := by kernel_rfl
 g4 := by kernel_rfl }
open Go.RowKit Go.Lib in
theorem Tryd.utf8_DecodeRuneInString (s : ByteArray) (w : World) (hT : Lib.Utf8Tabs 2 3 w) :
  Calls Tryd.prog 90 #[.string s] w fun e w' => e = .returned (.tuple #[.int .i32 (Lib.decodeGo s).1, .int .i64 (Lib.decodeGo s).2]) ∧ Below w.heap.size w w' := Any.utf8_DecodeRuneInString Tryd.lays197 s w hT
end Go.Proofs
namespace Go.Proofs.YteikakoheibnjaaDoor
open Go Go.RowKit

theorem inf_rune : (Tryd.prog.info? 121).map (fun i => (i.zero, i.size, i.bytes)) = some (some (.agg #[.int .i32 0, .int .i64 0]), 2, 16) := by kernel_rfl
theorem und_runes : Tryd.prog.underlying 101 = some (.slice 121) := by kernel_rfl
abbrev Tab8 (w : World) : Prop := Lib.Utf8Tabs 2 3 w

def cellsR : Nat → List Ru → List Value
 | _, [] => []
 | p, r :: R => .int .i32 (r.1 : Nat) :: .int .i64 (p : Nat) :: cellsR (p + r.2.length) R
theorem cellsR_snoc (r : Ru) : ∀ (R : List Ru) (p : Nat), cellsR p (R ++ [r]) = cellsR p R ++ [.int .i32 (r.1 : Nat), .int .i64 ((p + (flat R).length : Nat) : Int)]
 | [], p => by simp [cellsR, flat_nil]
 | x :: R, p => by
   have := cellsR_snoc r R (p + x.2.length)
   simp only [List.cons_append, cellsR, this, flat_cons, List.length_append, Nat.add_assoc]
theorem cellsR_at : ∀ (R : List Ru) (p k : Nat) (hk : k < R.length), (cellsR p R)[2 * k]? = some (.int .i32 (R[k].1 : Nat)) ∧ (cellsR p R)[2 * k + 1]? = some (.int .i64 ((p + (flat (R.take k)).length : Nat) : Int))
 | x :: R, p, 0, _ => by simp [cellsR, flat_nil]
 | x :: R, p, k + 1, hk => by
   have := cellsR_at R (p + x.2.length) k (by simpa using hk)
   rw [show 2 * (k + 1) = 2 * k + 1 + 1 by omega]
   simp only [cellsR, List.getElem?_cons_succ, List.getElem_cons_succ, List.take_succ_cons, flat_cons, List.length_append, ← Nat.add_assoc]
   exact this

theorem ext_drop (l : List UInt8) (i : Nat) : (ByteArray.extract ⟨l.toArray⟩ i (ByteArray.size ⟨l.toArray⟩)) = ⟨(l.drop i).toArray⟩ := by
 refine bytes_of ?_
 rw [Lib.extract_data, List.take_of_length_le]
 show ((l.toArray.toList).drop i).length ≤ l.toArray.size - i
 simp
theorem dgo (l : List UInt8) (h : l ≠ []) : Lib.decodeGo ⟨l.toArray⟩ = dec l := by
 unfold Lib.decodeGo
 rw [if_neg, decode_drop, List.drop_zero]
 intro e
 have : l.toArray.size = 0 := e
 simp at this
 exact h this
theorem dec_call (S : ByteArray) (l : List UInt8) (hS : S = ⟨l.toArray⟩) (i : Nat) (h : l.drop i ≠ []) (w : World) (hT : Tab8 w) :
  Calls Tryd.prog 90 #[.string (S.extract i S.size)] w fun e w' => e = .returned (.tuple #[.int .i32 ((dec (l.drop i)).1 : Nat), .int .i64 ((dec (l.drop i)).2 : Nat)]) ∧ Below w.heap.size w w' := by
 subst hS
 rw [ext_drop]
 have := Tryd.utf8_DecodeRuneInString ⟨(l.drop i).toArray⟩ w hT
 rw [dgo _ h] at this
 exact this
theorem rune_one (r p : Int) : ∀ u ∈ ([.int .i32 r, .int .i64 p] : List Value), u.oneCell' = true := by
 intro u hu
 simp at hu
 rcases hu with rfl | rfl <;> rfl
def EachPost (w : World) (l : List UInt8) (e : Ending) (w' : World) : Prop :=
 ∃ A c bad, e = .returned (.tuple #[.slice A (each l).1.length c, .int .i64 bad]) ∧ (if (each l).2 = true then bad = ((flat (each l).1).length : Nat) else bad = -1) ∧
   w'.ownsRow w.heap.size 121 2 (.slice A (each l).1.length c) (each l).1.length (cellsR 0 (each l).1) ∧ Below w.heap.size w w'
theorem own_slice {w : World} {base n size : Nat} {e : TypeId} {v : Value} {xs : List Value} (h : w.ownsRow base e size v n xs) : ∃ A c, v = .slice A n c := by
 rcases h.2 with ⟨rfl, hn⟩ | ⟨g, cap, _, rfl, _⟩
 · subst hn
   exact ⟨none, 0, rfl⟩
 · exact ⟨_, _, rfl⟩
theorem heap_new_at {w : World} {o : Obj} {j : Nat} (h : w.heap.size = j) : (w.alloc o).heap[j]? = some o := by subst h; exact heap_alloc_new w o
theorem reads_two {w : World} {h : Nat} {t : TypeId} {u v : Value} (hb : w.heap[h]? = some (.cells #[u, v] t (0, 0))) : Reads w (h + 1) 2 (some ⟨h, 0, none⟩) 1 [u, v] := by
 refine ⟨rfl, fun _ => ⟨_, rfl, by simp, fun j x hx => ?_⟩⟩
 have hj : j < 2 := (List.getElem?_eq_some_iff.1 hx).1
 have e : (⟨h, 0, none⟩ : Addr).add j = ⟨h, j, none⟩ := by
  unfold Addr.add
  split
  · next h0 => rw [h0]
  · simp
 rw [e, cell_of_row w h j #[u, v] t (0, 0) hb, ← hx]
 simp
set_option maxHeartbeats 2000000 in
theorem each_any (l : List UInt8) (hl : l.length ≤ 2000) (w : World) (hT : Tab8 w) : Calls Tryd.prog 68 #[.string ⟨l.toArray⟩] w (EachPost w l) := by
 generalize hS : (⟨l.toArray⟩ : ByteArray) = S
 have HSS := Lib.hid hS.symm
 have HT := Lib.hid (fun W (hW : Below w.heap.size w W) => Go.Proofs.Utf8Tabs_below hT hW)
 obtain ⟨i0, hi, hz0, hz1, hz2⟩ := info_parts inf_rune
 have hsz : S.size = l.length := by rw [← hS]; show l.toArray.size = _; simp
 have HSZ := Lib.hid hsz
 clear hT hsz hS
 go_enter Tryd.func68, Tryd.ntmps68
 go_wp2_with fail
 go_loopg [4, 5] l.length (fun q v i wr => ∃ (acc : List Ru) (rest : List UInt8), Hid (l = flat acc ++ rest) ∧ Hid (each l = (acc ++ (each rest).1, (each rest).2)) ∧ q = rest.length ∧ i = .int .i64 ((flat acc).length : Nat) ∧
  Hid (wr.ownsRow w.heap.size 121 2 v acc.length (cellsR 0 acc)) ∧ Below w.heap.size w wr)
 case atStart => exact ⟨[], l, Lib.hid rfl, Lib.hid rfl, rfl, rfl, Lib.hid ⟨rfl, .inl ⟨rfl, rfl⟩⟩, Below.refl _ _⟩
 case round =>
  obtain ⟨acc, rest, HA, HE, hq, rfl, HO, hb⟩ := hrel
  have HQ := Lib.hid hq
  have HB := Lib.hid hb
  have hws := hb.size
  have hlen : l.length = (flat acc).length + rest.length := by have := congrArg List.length HA.out; rwa [List.length_append] at this
  have hacc : acc.length ≤ l.length := by
   have h1 := each_len l
   rw [HE.out] at h1
   simp at h1
   omega
  have HLN := Lib.hid hlen
  have hp1 : (flat acc).length ≤ 2000 := by omega
  have hacc2 : acc.length ≤ 2000 := by omega
  clear hq hb hlen
  by_cases hr : rest = []
  · have HF := Lib.hid (show each l = (acc, false) by rw [HE.out, hr]; simp [each_nil])
    have g : decide ((((flat acc).length : Nat) : Int) < ((S.size : Nat) : Int)) = false := decide_eq_false (by
     have := HLN.out
     have := HSZ.out
     rw [hr] at *
     simp at *
     omega)
    have g2 : decide ((flat acc).length < S.size) = false := decide_eq_false (by
     have := HLN.out
     have := HSZ.out
     rw [hr] at *
     simp at *
     omega)
    clear hr
    go_wp2_with fail
    go_ret2
    obtain ⟨A, c, rfl⟩ := own_slice HO.out
    unfold EachPost
    rw [HF.out]
    exact ⟨A, c, -1, rfl, rfl, HO.out, HB.out⟩
  · have hdr : l.drop (flat acc).length = rest := by rw [HA.out, List.drop_left]
    have hpos : 1 ≤ rest.length := by cases rest with | nil => exact absurd rfl hr | cons => simp
    have hd1 := dec_pos rest
    have hd2 := dec_le rest hr
    have hd3 := dec_lt rest
    have hlt0 : (flat acc).length < S.size := by
     have := HLN.out
     have := HSZ.out
     omega
    have g : decide ((((flat acc).length : Nat) : Int) < ((S.size : Nat) : Int)) = true := decide_eq_true (by omega)
    have hle0 : (((flat acc).length : Nat) : Int) ≤ ((S.size : Nat) : Int) := by omega
    have HD := Lib.hid (fun W (hW : Below w.heap.size w W) => by
     have := dec_call S l HSS.out (flat acc).length (by rw [hdr]; exact hr) W (HT.out W hW)
     rw [hdr] at this
     exact this)
    have HSTEP := Lib.hid (fun hb => each_step hr hb)
    have HBAD := Lib.hid (fun hb => each_bad hr hb)
    have HDR := Lib.hid (show ((rest.take (dec rest).2).length = (dec rest).2) by simp; omega)
    have HR := Lib.hid hr
    clear hdr hr
    generalize hdd : dec rest = d at *
    clear hdd
    obtain ⟨r, n⟩ := d
    simp only at hd1 hd2 hd3 HDR HSTEP HBAD HD
    have hz : ((r : Nat) : Int) < 2097152 := by omega
    by_cases hb : r = 65533 ∧ n < 2
    · have g3 : ((r : Int) == 65533) = true := by rw [hb.1]; rfl
      have g4 : decide ((n : Int) < 2) = true := decide_eq_true (by omega)
      have HF := Lib.hid (show each l = (acc, true) by rw [HE.out, HBAD.out hb]; simp)
      clear hb
      go_wp2_with (
       go_at_call 90
       refine (HD.out _ HB.out).mono ?_
       rintro e w2 ⟨rfl, hb2⟩
       have HB2 := Lib.hid (HB.out.trans (hb2.mono hws))
       have HO2 := Lib.hid ((Fr.of_below hb2).own HO.out (fun k hk => by have := (HO.out.lt k hk).2; omega))
       clear hb2)
      go_ret2
      obtain ⟨A, c, rfl⟩ := own_slice HO2.out
      unfold EachPost
      rw [HF.out]
      exact ⟨A, c, _, rfl, rfl, HO2.out, HB2.out⟩
    · have HS := Lib.hid (HSTEP.out hb)
      have HNB := Lib.hid hb
      by_cases h5 : r = 65533
      · subst h5
        have g4 : decide ((n : Int) < 2) = false := decide_eq_false (by omega)
        clear hb
        go_wp2_with (first
         | (
           go_at_call 90
           refine (HD.out _ HB.out).mono ?_
           rintro e w2 ⟨rfl, hb2⟩
           have HB2 := Lib.hid (HB.out.trans (hb2.mono hws))
           have HO2 := Lib.hid ((Fr.of_below hb2).own HO.out (fun k hk => by have := (HO.out.lt k hk).2; omega))
           have hs2 := hb2.size
           clear hb2)
         | (at_builtin; refine wpList_append_any _ rfl (.tmp 27) (.tmp 31) 101 rfl w.heap.size 121 i0 _ 2 16 und_runes hi hz0 hz1 hz2 rfl (by decide) _ acc.length (cellsR 0 acc) rfl (HO2.out.alloc _) (w2.heap.size + 1) (some ⟨w2.heap.size, 0, none⟩) 1 1 [.int .i32 65533, .int .i64 ((flat acc).length : Nat)] rfl ?_ (rune_one _ _) (by simp only [maxLen]; omega) (by omega) (by have := hs2; simp <;> omega) ?_))
        · exact reads_two (heap_new_at rfl)
        intro v3 w3 hown3 hg3 _
        have HO3 := Lib.hid (show w3.ownsRow w.heap.size 121 2 v3 (acc ++ [((65533 : Nat), rest.take n)]).length (cellsR 0 (acc ++ [((65533 : Nat), rest.take n)])) by
         rw [cellsR_snoc, List.length_append, Nat.zero_add]
         exact hown3)
        have HB3 := Lib.hid ((HB2.out.alloc HB2.out.size _).grown hg3 (by have := HB2.out.size; simp <;> omega) (fun k hk => (HO2.out.lt k hk).1))
        clear hown3 hg3
        go_wp2_with fail
        go_roundg (rest.drop n).length
        case measure =>
         have := HQ.out
         simp
         omega
        case rel =>
         refine ⟨acc ++ [(65533, rest.take n)], rest.drop n, Lib.hid ?_, Lib.hid ?_, rfl, ?_, HO3, HB3.out⟩
         · rw [flat_app, flat_cons, flat_nil, List.append_nil, List.append_assoc, List.take_append_drop]
           exact HA.out
         · rw [HE.out, HS.out]
           simp
         · rw [flat_app, flat_cons, flat_nil, List.append_nil, List.length_append, HDR.out]
           exact congrArg (Value.int .i64) (by omega)
      · have g3 : ((r : Int) == 65533) = false := by simp; omega
        clear hb
        go_wp2_with (first
         | (
           go_at_call 90
           refine (HD.out _ HB.out).mono ?_
           rintro e w2 ⟨rfl, hb2⟩
           have HB2 := Lib.hid (HB.out.trans (hb2.mono hws))
           have HO2 := Lib.hid ((Fr.of_below hb2).own HO.out (fun k hk => by have := (HO.out.lt k hk).2; omega))
           have hs2 := hb2.size
           clear hb2)
         | (at_builtin; refine wpList_append_any _ rfl (.tmp 27) (.tmp 31) 101 rfl w.heap.size 121 i0 _ 2 16 und_runes hi hz0 hz1 hz2 rfl (by decide) _ acc.length (cellsR 0 acc) rfl (HO2.out.alloc _) (w2.heap.size + 1) (some ⟨w2.heap.size, 0, none⟩) 1 1 [.int .i32 (r : Nat), .int .i64 ((flat acc).length : Nat)] rfl ?_ (rune_one _ _) (by simp only [maxLen]; omega) (by omega) (by have := hs2; simp <;> omega) ?_))
        · exact reads_two (heap_new_at rfl)
        intro v3 w3 hown3 hg3 _
        have HO3 := Lib.hid (show w3.ownsRow w.heap.size 121 2 v3 (acc ++ [((r : Nat), rest.take n)]).length (cellsR 0 (acc ++ [((r : Nat), rest.take n)])) by
         rw [cellsR_snoc, List.length_append, Nat.zero_add]
         exact hown3)
        have HB3 := Lib.hid ((HB2.out.alloc HB2.out.size _).grown hg3 (by have := HB2.out.size; simp <;> omega) (fun k hk => (HO2.out.lt k hk).1))
        clear hown3 hg3
        go_wp2_with fail
        go_roundg (rest.drop n).length
        case measure =>
         have := HQ.out
         simp
         omega
        case rel =>
         refine ⟨acc ++ [(r, rest.take n)], rest.drop n, Lib.hid ?_, Lib.hid ?_, rfl, ?_, HO3, HB3.out⟩
         · rw [flat_app, flat_cons, flat_nil, List.append_nil, List.append_assoc, List.take_append_drop]
           exact HA.out
         · rw [HE.out, HS.out]
           simp
         · rw [flat_app, flat_cons, flat_nil, List.append_nil, List.length_append, HDR.out]
           exact congrArg (Value.int .i64) (by omega)
end Go.Proofs.YteikakoheibnjaaDoor
namespace Go.Proofs.YteikakoheibnjaaDoor
open Go Go.RowKit

theorem quiet_add_same {P : Program} {f : FuncId} {args : Array Value} {w : World} {a n : Nat} {v : Value}
  (h : Calls P f args (w.drewN (a + n)) fun e w' => e = .returned v ∧ w' = w.drewN (a + n)) :
  Calls P f args (w.drewN (a + n)) fun e w'' => e = .returned v ∧ ∃ m, w'' = w.drewN (a + m) :=
 h.mono fun _ _ ⟨he, hm⟩ => ⟨he, n, hm⟩
theorem drew2 (w : World) (a b : Nat) : (w.drewN a).drewN b = w.drewN (a + b) := by rw [World.drewN_drewN]
def posn (R : List Ru) (j : Nat) : Nat := (flat (R.take j)).length
def clsAt (R : List Ru) (j : Nat) : Int := if h : j < R.length then (cls R[j].1 : Nat) else -1
def isAt (R : List Ru) (j c : Nat) : Bool := if h : j < R.length then R[j].1 == c else false
def atAt (R : List Ru) (n j : Nat) : Nat := if j < R.length then posn R j else n
structure Rd (w : World) (B q : Nat) (S : ByteArray) (R : List Ru) (A : Option Addr) (c : Nat) (bad : Int) (i : Nat) : Prop where
 blk : Blk w q 103 #[.string S, .slice A R.length c, .int .i64 bad, .int .i64 i]
 runes : ∀ j (h : j < R.length), ∃ g, A = some ⟨g, 0, none⟩ ∧ g ≠ q ∧ g < B ∧ w.cell? ⟨g, j * 2, none⟩ = some (.int .i32 (R[j].1 : Nat)) ∧ w.cell? ⟨g, j * 2 + 1, none⟩ = some (.int .i64 (posn R j : Nat))
 qlt : q < B
 small : ∀ r ∈ R, r.1 < 2097152
 len : R.length ≤ 2000
section
variable {w w' : World} {B q : Nat} {S : ByteArray} {R : List Ru} {A : Option Addr} {c : Nat} {bad : Int} {i : Nat}
theorem Rd.drewN (h : Rd w B q S R A c bad i) (n : Nat) : Rd (w.drewN n) B q S R A c bad i := ⟨h.blk, h.runes, h.qlt, h.small, h.len⟩
theorem Rd.cells (h : Rd w B q S R A c bad i) : w.cell? ⟨q, 0, none⟩ = some (.string S) ∧ w.cell? ⟨q, 1, none⟩ = some (.slice A R.length c) ∧ w.cell? ⟨q, 2, none⟩ = some (.int .i64 bad) ∧ w.cell? ⟨q, 3, none⟩ = some (.int .i64 i) :=
 ⟨h.blk.cell 0, h.blk.cell 1, h.blk.cell 2, h.blk.cell 3⟩
theorem Rd.alloc (h : Rd w B q S R A c bad i) (o : Obj) : Rd (w.alloc o) B q S R A c bad i :=
 ⟨(Below.heap_alloc w o q h.blk.lt).trans h.blk, fun j hj => by
   obtain ⟨g, e, hg, hgB, h1, h2⟩ := h.runes j hj
   exact ⟨g, e, hg, hgB, by rw [World.cell?_alloc_lt _ _ _ (World.block_lt_of_cell? _ _ h1)]; exact h1, by rw [World.cell?_alloc_lt _ _ _ (World.block_lt_of_cell? _ _ h2)]; exact h2⟩, h.qlt, h.small, h.len⟩
theorem Rd.below (h : Rd w B q S R A c bad i) (hb : Below w.heap.size w w') : Rd w' B q S R A c bad i :=
 ⟨(hb.block q h.blk.lt).trans h.blk, fun j hj => by
   obtain ⟨g, e, hg, hgB, h1, h2⟩ := h.runes j hj
   exact ⟨g, e, hg, hgB, (hb.cell (World.block_lt_of_cell? _ _ h1)).trans h1, (hb.cell (World.block_lt_of_cell? _ _ h2)).trans h2⟩, h.qlt, h.small, h.len⟩
theorem Rd.set_ (h : Rd w B q S R A c bad i) (k : Nat) : Rd (w.setCell ⟨q, 3, none⟩ (.int .i64 (k : Nat))) B q S R A c bad k :=
 ⟨h.blk.set_ 3 _, fun j hj => by
  obtain ⟨g, e, hg, hgB, h1, h2⟩ := h.runes j hj
  exact ⟨g, e, hg, hgB, (World.cell?_setCell_other _ _ _ _ (by simp <;> omega)).trans h1, (World.cell?_setCell_other _ _ _ _ (by simp <;> omega)).trans h2⟩, h.qlt, h.small, h.len⟩
theorem Rd.far (h : Rd w B q S R A c bad i) {p : Addr} (hp : B ≤ p.block) (u : Value) : Rd (w.setCell p u) B q S R A c bad i :=
 ⟨(Below.heap_setCell w p u q (by have := h.qlt; omega)).trans h.blk, fun j hj => by
   obtain ⟨g, e, hg, hgB, h1, h2⟩ := h.runes j hj
   exact ⟨g, e, hg, hgB, (World.cell?_setCell_other _ _ _ _ (by rintro rfl; simp at hp; omega)).trans h1, (World.cell?_setCell_other _ _ _ _ (by rintro rfl; simp at hp; omega)).trans h2⟩, h.qlt, h.small, h.len⟩
end

set_option maxHeartbeats 1000000 in
theorem class_any {w : World} {B q : Nat} {S : ByteArray} {R : List Ru} {A : Option Addr} {c : Nat} {bad : Int} {i : Nat} (h : Rd w B q S R A c bad i) (k : Nat) (hi : i ≤ 2000) (hk : k ≤ 2000) :
  Calls Tryd.prog 91 #[.pointer (some ⟨q, 0, none⟩), .int .i64 k] w fun e w' => e = .returned (.int .i64 (clsAt R (i + k))) ∧ ∃ n, w' = w.drewN n := by
 obtain ⟨c0, c1, c2, c3⟩ := h.cells
 have hl := h.len
 by_cases hj : i + k < R.length
 · obtain ⟨g, e, hg, _, h1, h2⟩ := h.runes _ hj
   have HV := Lib.hid (show (cls R[i + k].1 : Int) = clsAt R (i + k) by unfold clsAt; rw [dif_pos hj])
   have HC := Lib.hid (fun W => cls_any R[i + k].1 (h.small _ (List.getElem_mem hj)) W)
   subst e
   generalize clsAt R (i + k) = V at *
   generalize R[i + k].1 = r at *
   have g1 : decide ((R.length : Int) ≤ (i : Int) + (k : Int)) = false := decide_eq_false (by omega)
   have hp0 : (0 : Int) ≤ (i : Int) + (k : Int) := by omega
   have hp1 : (i : Int) + (k : Int) < (R.length : Int) := by omega
   clear h
   go_enter Tryd.func91, Tryd.ntmps91
   go_wp2_with fail
   go_quiet (fail)
   go_wp2_with fail
   go_quiet ((go_at_call 117; exact quiet_add_same (HC.out _)))
   go_wp2_with fail
   go_ret
   exact ⟨congrArg (fun x : Int => Ending.returned (.int .i64 x)) HV.out, _, drew2 _ _ _⟩
 · have HV := Lib.hid (show -1 = clsAt R (i + k) by unfold clsAt; rw [dif_neg hj])
   generalize clsAt R (i + k) = V at *
   have g1 : decide ((R.length : Int) ≤ (i : Int) + (k : Int)) = true := decide_eq_true (by omega)
   clear h
   go_enter Tryd.func91, Tryd.ntmps91
   go_wp2_with fail
   go_quiet (fail)
   go_wp2_with fail
   go_ret
   exact ⟨congrArg (fun x : Int => Ending.returned (.int .i64 x)) HV.out, _, rfl⟩
set_option maxHeartbeats 1000000 in
theorem rdis_any {w : World} {B q : Nat} {S : ByteArray} {R : List Ru} {A : Option Addr} {c : Nat} {bad : Int} {i : Nat} (h : Rd w B q S R A c bad i) (k x : Nat) (hi : i ≤ 2000) (hk : k ≤ 2000) :
  Calls Tryd.prog 92 #[.pointer (some ⟨q, 0, none⟩), .int .i64 k, .int .i32 x] w fun e w' => e = .returned (.bool (isAt R (i + k) x)) ∧ ∃ n, w' = w.drewN n := by
 obtain ⟨c0, c1, c2, c3⟩ := h.cells
 have hl := h.len
 by_cases hj : i + k < R.length
 · obtain ⟨g, e, hg, _, h1, h2⟩ := h.runes _ hj
   have HV := Lib.hid (show ((R[i + k].1 : Int) == (x : Int)) = isAt R (i + k) x by
    unfold isAt
    rw [dif_pos hj, Bool.eq_iff_iff, beq_iff_eq, beq_iff_eq]
    omega)
   subst e
   generalize isAt R (i + k) x = V at *
   generalize R[i + k].1 = r at *
   have g1 : decide ((i : Int) + (k : Int) < (R.length : Int)) = true := decide_eq_true (by omega)
   have hp0 : (0 : Int) ≤ (i : Int) + (k : Int) := by omega
   have hp1 : (i : Int) + (k : Int) < (R.length : Int) := by omega
   clear h
   go_enter Tryd.func92, Tryd.ntmps92
   go_wp2_with fail
   go_quiet (fail)
   go_wp2_with fail
   go_ret
   exact ⟨congrArg (fun x : Bool => Ending.returned (.bool x)) HV.out, _, rfl⟩
 · have HV := Lib.hid (show false = isAt R (i + k) x by unfold isAt; rw [dif_neg hj])
   generalize isAt R (i + k) x = V at *
   have g1 : decide ((i : Int) + (k : Int) < (R.length : Int)) = false := decide_eq_false (by omega)
   clear h
   go_enter Tryd.func92, Tryd.ntmps92
   go_wp2_with fail
   go_quiet (fail)
   go_wp2_with fail
   go_ret
   exact ⟨congrArg (fun x : Bool => Ending.returned (.bool x)) HV.out, _, rfl⟩
set_option maxHeartbeats 1000000 in
theorem rdat_any {w : World} {B q : Nat} {S : ByteArray} {R : List Ru} {A : Option Addr} {c : Nat} {bad : Int} {i : Nat} (h : Rd w B q S R A c bad i) (k : Nat) (hi : i ≤ 2000) (hk : k ≤ 2000) :
  Calls Tryd.prog 70 #[.pointer (some ⟨q, 0, none⟩), .int .i64 k] w fun e w' => e = .returned (.int .i64 (atAt R S.size (i + k) : Nat)) ∧ ∃ n, w' = w.drewN n := by
 obtain ⟨c0, c1, c2, c3⟩ := h.cells
 have hl := h.len
 by_cases hj : i + k < R.length
 · obtain ⟨g, e, hg, _, h1, h2⟩ := h.runes _ hj
   have HV := Lib.hid (show posn R (i + k) = atAt R S.size (i + k) by unfold atAt; rw [if_pos hj])
   subst e
   generalize atAt R S.size (i + k) = V at *
   generalize posn R (i + k) = r at *
   have g1 : decide ((R.length : Int) ≤ (i : Int) + (k : Int)) = false := decide_eq_false (by omega)
   have hp0 : (0 : Int) ≤ (i : Int) + (k : Int) := by omega
   have hp1 : (i : Int) + (k : Int) < (R.length : Int) := by omega
   clear h
   go_enter Tryd.func70, Tryd.ntmps70
   go_wp2_with fail
   go_quiet (fail)
   go_wp2_with fail
   go_quiet (fail)
   go_wp2_with fail
   go_ret
   exact ⟨congrArg (fun x : Nat => Ending.returned (.int .i64 (x : Int))) HV.out, _, drew2 _ _ _⟩
 · have HV := Lib.hid (show S.size = atAt R S.size (i + k) by unfold atAt; rw [if_neg hj])
   generalize atAt R S.size (i + k) = V at *
   have g1 : decide ((R.length : Int) ≤ (i : Int) + (k : Int)) = true := decide_eq_true (by omega)
   clear h
   go_enter Tryd.func70, Tryd.ntmps70
   go_wp2_with fail
   go_quiet (fail)
   go_wp2_with fail
   go_ret
   exact ⟨congrArg (fun x : Nat => Ending.returned (.int .i64 (x : Int))) HV.out, _, rfl⟩
end Go.Proofs.YteikakoheibnjaaDoor
