/- Parts of the proof: Class. -/
import Derived.Test.YteikakoheibnjaaGreatDoorM2
namespace Go.Proofs.YteikakoheibnjaaGreatDoor
open Go Go.RowKit

def signsB : List UInt8 := [61, 126, 60, 62, 38, 124, 40, 41, 123, 125, 44, 59, 58, 43, 92, 35, 39]
theorem signs_at : ∀ k : Fin 17, (signsB.getD k.val 0).toNat = signs.getD k.val 0 := by decide
theorem signs_mem {r : Nat} (h : ∀ j, j < 17 → signs.getD j 0 ≠ r) : ¬ r ∈ signs := by
  intro hm
  obtain ⟨i, hi, e⟩ := List.getElem_of_mem hm
  refine h i hi ?_
  rw [List.getD_eq_getElem?_getD, List.getElem?_eq_getElem hi]
  exact e
theorem signs_in {r k : Nat} (h : k < 17) (e : signs.getD k 0 = r) : r ∈ signs := by
  rw [List.getD_eq_getElem?_getD, List.getElem?_eq_getElem (show k < signs.length from h)] at e
  rw [← e]
  exact List.getElem_mem (show k < signs.length from h)
theorem getB {S : ByteArray} (hS : S.data.toList = signsB) (k : Nat) (hk : k < S.size) : (S[k]'hk).toNat = signs.getD k 0 := by
  have h17 : k < 17 := by
    have : S.size = signsB.length := by rw [← hS, Array.length_toList]; rfl
    have e : signsB.length = 17 := rfl
    omega
  rw [← signs_at ⟨k, h17⟩, ← hS]
  rw [List.getD_eq_getElem?_getD, List.getElem?_eq_getElem (by rw [Array.length_toList]; exact hk)]
  rfl
theorem classS32 (w : World) : Calls Tryz.prog 124 #[.int .i32 32] w fun e w' => e = .returned (.int .i64 3) ∧ w' = w := by
  go_enter Tryz.func124, Tryz.ntmps124
  go_wp2_with fail
  go_ret
  exact ⟨rfl, rfl⟩

theorem classS9 (w : World) : Calls Tryz.prog 124 #[.int .i32 9] w fun e w' => e = .returned (.int .i64 3) ∧ w' = w := by
  go_enter Tryz.func124, Tryz.ntmps124
  go_wp2_with fail
  go_ret
  exact ⟨rfl, rfl⟩

theorem classS10 (w : World) : Calls Tryz.prog 124 #[.int .i32 10] w fun e w' => e = .returned (.int .i64 3) ∧ w' = w := by
  go_enter Tryz.func124, Tryz.ntmps124
  go_wp2_with fail
  go_ret
  exact ⟨rfl, rfl⟩

theorem classS13 (w : World) : Calls Tryz.prog 124 #[.int .i32 13] w fun e w' => e = .returned (.int .i64 3) ∧ w' = w := by
  go_enter Tryz.func124, Tryz.ntmps124
  go_wp2_with fail
  go_ret
  exact ⟨rfl, rfl⟩

set_option maxHeartbeats 1000000 in
theorem class0 (r : Nat) (h2 : r ≤ 47) (n1 : r ≠ 32) (n2 : r ≠ 9) (n3 : r ≠ 10) (n4 : r ≠ 13) (_hr : r < 2097152) (w : World) : Calls Tryz.prog 124 #[.int .i32 r] w fun e w' => e = .returned (.int .i64 (cls r : Nat)) ∧ w' = w := by
  have t0 : decide (97 ≤ (r : Int)) = false := decide_eq_false (by omega)
  have t1 : decide ((r : Int) ≤ 122) = true := decide_eq_true (by omega)
  have t2 : decide (65 ≤ (r : Int)) = false := decide_eq_false (by omega)
  have t3 : decide ((r : Int) ≤ 90) = true := decide_eq_true (by omega)
  have t4 : decide (945 ≤ (r : Int)) = false := decide_eq_false (by omega)
  have t5 : decide ((r : Int) ≤ 969) = true := decide_eq_true (by omega)
  have t6 : decide (48 ≤ (r : Int)) = false := decide_eq_false (by omega)
  have t7 : decide ((r : Int) ≤ 57) = true := decide_eq_true (by omega)
  have e32 : ((r : Int) == 32) = false := by simp; omega
  have e9 : ((r : Int) == 9) = false := by simp; omega
  have e10 : ((r : Int) == 10) = false := by simp; omega
  have e13 : ((r : Int) == 13) = false := by simp; omega
  have e95 : ((r : Int) == 95) = false := by simp <;> omega
  go_enter Tryz.func124, Tryz.ntmps124
  go_wp2_with fail
  generalize hS : (ByteArray.mk #[61, 126, 60, 62, 38, 124, 40, 41, 123, 125, 44, 59, 58, 43, 92, 35, 39]) = S
  have HS : Hid (S.data.toList = signsB) := Lib.hid (by rw [← hS]; rfl)
  have hk2 : S.size ≤ 17 := by rw [← hS]; exact Nat.le_refl _
  have hk3 : 17 ≤ S.size := by rw [← hS]; exact Nat.le_refl _
  clear hS
  go_loopg [4] 17 (fun q i wr => ∃ (k : Nat), k ≤ 17 ∧ q = 17 - k ∧ i = .int .i64 (k : Int) ∧ Hid (∀ j, j < k → signs.getD j 0 ≠ r) ∧ wr = w)
  case atStart => exact ⟨0, Nat.zero_le _, rfl, rfl, Lib.hid (fun j hj => absurd hj (by omega)), rfl⟩
  case round =>
    obtain ⟨k, hk, hq, rfl, HN, rfl⟩ := hrel
    have HQ := Lib.hid hq
    clear hq
    by_cases hlt : k < 17
    · have hks : k < S.size := by omega
      have HG := Lib.hid (getB HS.out k hks)
      have h256 := (S[k]'hks).toNat_lt
      by_cases he : (S[k]'hks).toNat = r
      · have HF := Lib.hid (show 4 = cls r by
          have hm : r ∈ signs := signs_in hlt (by rw [← HG.out]; exact he)
          unfold cls
          rw [if_neg (by omega), if_neg (by omega), if_neg (by omega), if_pos hm])
        have g : ((r : Int) == ((S[k]'hks).toNat : Int)) = true := by rw [he]; simp
        clear he
        go_wp2_with fail
        go_ret
        exact ⟨congrArg (fun x : Nat => Ending.returned (.int .i64 (x : Int))) HF.out, rfl⟩
      · have g : ((r : Int) == ((S[k]'hks).toNat : Int)) = false := by simp; omega
        have HE := Lib.hid he
        clear he
        go_wp2_with fail
        go_roundg (17 - (k + 1))
        case measure => have := HQ.out; omega
        case rel => exact ⟨k + 1, by omega, rfl, by go_num, Lib.hid (fun j hj => by
          rcases Nat.lt_or_ge j k with h | h
          · exact HN.out j h
          · obtain rfl : j = k := by omega
            rw [← HG.out]
            exact HE.out), rfl⟩
    · have g : decide ((k : Int) < 17) = false := decide_eq_false (by omega)
      have HF := Lib.hid (show 0 = cls r by
        have hm := signs_mem (fun j hj => HN.out j (by omega))
        unfold cls
        rw [if_neg (by omega), if_neg (by omega), if_neg (by omega), if_neg hm])
      go_wp2_with fail
      go_ret
      exact ⟨congrArg (fun x : Nat => Ending.returned (.int .i64 (x : Int))) HF.out, rfl⟩

set_option maxHeartbeats 1000000 in
theorem class1 (r : Nat) (h1 : 48 ≤ r) (h2 : r ≤ 57) (_hr : r < 2097152) (w : World) : Calls Tryz.prog 124 #[.int .i32 r] w fun e w' => e = .returned (.int .i64 (cls r : Nat)) ∧ w' = w := by
  have t0 : decide (97 ≤ (r : Int)) = false := decide_eq_false (by omega)
  have t1 : decide ((r : Int) ≤ 122) = true := decide_eq_true (by omega)
  have t2 : decide (65 ≤ (r : Int)) = false := decide_eq_false (by omega)
  have t3 : decide ((r : Int) ≤ 90) = true := decide_eq_true (by omega)
  have t4 : decide (945 ≤ (r : Int)) = false := decide_eq_false (by omega)
  have t5 : decide ((r : Int) ≤ 969) = true := decide_eq_true (by omega)
  have t6 : decide (48 ≤ (r : Int)) = true := decide_eq_true (by omega)
  have t7 : decide ((r : Int) ≤ 57) = true := decide_eq_true (by omega)
  have e95 : ((r : Int) == 95) = false := by simp <;> omega
  have HF := Lib.hid (show 2 = cls r by
    unfold cls
    first | rw [if_pos (by omega)] | rw [if_neg (by omega), if_pos (by omega)])
  go_enter Tryz.func124, Tryz.ntmps124
  go_wp2_with fail
  go_ret
  exact ⟨congrArg (fun x : Nat => Ending.returned (.int .i64 (x : Int))) HF.out, rfl⟩

set_option maxHeartbeats 1000000 in
theorem class2 (r : Nat) (h1 : 58 ≤ r) (h2 : r ≤ 64) (_hr : r < 2097152) (w : World) : Calls Tryz.prog 124 #[.int .i32 r] w fun e w' => e = .returned (.int .i64 (cls r : Nat)) ∧ w' = w := by
  have t0 : decide (97 ≤ (r : Int)) = false := decide_eq_false (by omega)
  have t1 : decide ((r : Int) ≤ 122) = true := decide_eq_true (by omega)
  have t2 : decide (65 ≤ (r : Int)) = false := decide_eq_false (by omega)
  have t3 : decide ((r : Int) ≤ 90) = true := decide_eq_true (by omega)
  have t4 : decide (945 ≤ (r : Int)) = false := decide_eq_false (by omega)
  have t5 : decide ((r : Int) ≤ 969) = true := decide_eq_true (by omega)
  have t6 : decide (48 ≤ (r : Int)) = true := decide_eq_true (by omega)
  have t7 : decide ((r : Int) ≤ 57) = false := decide_eq_false (by omega)
  have e95 : ((r : Int) == 95) = false := by simp <;> omega
  have e32 : ((r : Int) == 32) = false := by simp <;> omega
  have e9 : ((r : Int) == 9) = false := by simp <;> omega
  have e10 : ((r : Int) == 10) = false := by simp <;> omega
  have e13 : ((r : Int) == 13) = false := by simp <;> omega
  go_enter Tryz.func124, Tryz.ntmps124
  go_wp2_with fail
  generalize hS : (ByteArray.mk #[61, 126, 60, 62, 38, 124, 40, 41, 123, 125, 44, 59, 58, 43, 92, 35, 39]) = S
  have HS : Hid (S.data.toList = signsB) := Lib.hid (by rw [← hS]; rfl)
  have hk2 : S.size ≤ 17 := by rw [← hS]; exact Nat.le_refl _
  have hk3 : 17 ≤ S.size := by rw [← hS]; exact Nat.le_refl _
  clear hS
  go_loopg [4] 17 (fun q i wr => ∃ (k : Nat), k ≤ 17 ∧ q = 17 - k ∧ i = .int .i64 (k : Int) ∧ Hid (∀ j, j < k → signs.getD j 0 ≠ r) ∧ wr = w)
  case atStart => exact ⟨0, Nat.zero_le _, rfl, rfl, Lib.hid (fun j hj => absurd hj (by omega)), rfl⟩
  case round =>
    obtain ⟨k, hk, hq, rfl, HN, rfl⟩ := hrel
    have HQ := Lib.hid hq
    clear hq
    by_cases hlt : k < 17
    · have hks : k < S.size := by omega
      have HG := Lib.hid (getB HS.out k hks)
      have h256 := (S[k]'hks).toNat_lt
      by_cases he : (S[k]'hks).toNat = r
      · have HF := Lib.hid (show 4 = cls r by
          have hm : r ∈ signs := signs_in hlt (by rw [← HG.out]; exact he)
          unfold cls
          rw [if_neg (by omega), if_neg (by omega), if_neg (by omega), if_pos hm])
        have g : ((r : Int) == ((S[k]'hks).toNat : Int)) = true := by rw [he]; simp
        clear he
        go_wp2_with fail
        go_ret
        exact ⟨congrArg (fun x : Nat => Ending.returned (.int .i64 (x : Int))) HF.out, rfl⟩
      · have g : ((r : Int) == ((S[k]'hks).toNat : Int)) = false := by simp; omega
        have HE := Lib.hid he
        clear he
        go_wp2_with fail
        go_roundg (17 - (k + 1))
        case measure => have := HQ.out; omega
        case rel => exact ⟨k + 1, by omega, rfl, by go_num, Lib.hid (fun j hj => by
          rcases Nat.lt_or_ge j k with h | h
          · exact HN.out j h
          · obtain rfl : j = k := by omega
            rw [← HG.out]
            exact HE.out), rfl⟩
    · have g : decide ((k : Int) < 17) = false := decide_eq_false (by omega)
      have HF := Lib.hid (show 0 = cls r by
        have hm := signs_mem (fun j hj => HN.out j (by omega))
        unfold cls
        rw [if_neg (by omega), if_neg (by omega), if_neg (by omega), if_neg hm])
      go_wp2_with fail
      go_ret
      exact ⟨congrArg (fun x : Nat => Ending.returned (.int .i64 (x : Int))) HF.out, rfl⟩

set_option maxHeartbeats 1000000 in
theorem class3 (r : Nat) (h1 : 65 ≤ r) (h2 : r ≤ 90) (_hr : r < 2097152) (w : World) : Calls Tryz.prog 124 #[.int .i32 r] w fun e w' => e = .returned (.int .i64 (cls r : Nat)) ∧ w' = w := by
  have t0 : decide (97 ≤ (r : Int)) = false := decide_eq_false (by omega)
  have t1 : decide ((r : Int) ≤ 122) = true := decide_eq_true (by omega)
  have t2 : decide (65 ≤ (r : Int)) = true := decide_eq_true (by omega)
  have t3 : decide ((r : Int) ≤ 90) = true := decide_eq_true (by omega)
  have t4 : decide (945 ≤ (r : Int)) = false := decide_eq_false (by omega)
  have t5 : decide ((r : Int) ≤ 969) = true := decide_eq_true (by omega)
  have t6 : decide (48 ≤ (r : Int)) = true := decide_eq_true (by omega)
  have t7 : decide ((r : Int) ≤ 57) = false := decide_eq_false (by omega)
  have e95 : ((r : Int) == 95) = false := by simp <;> omega
  have HF := Lib.hid (show 1 = cls r by
    unfold cls
    first | rw [if_pos (by omega)] | rw [if_neg (by omega), if_pos (by omega)])
  go_enter Tryz.func124, Tryz.ntmps124
  go_wp2_with fail
  go_ret
  exact ⟨congrArg (fun x : Nat => Ending.returned (.int .i64 (x : Int))) HF.out, rfl⟩

set_option maxHeartbeats 1000000 in
theorem class4 (r : Nat) (h1 : 91 ≤ r) (h2 : r ≤ 94) (_hr : r < 2097152) (w : World) : Calls Tryz.prog 124 #[.int .i32 r] w fun e w' => e = .returned (.int .i64 (cls r : Nat)) ∧ w' = w := by
  have t0 : decide (97 ≤ (r : Int)) = false := decide_eq_false (by omega)
  have t1 : decide ((r : Int) ≤ 122) = true := decide_eq_true (by omega)
  have t2 : decide (65 ≤ (r : Int)) = true := decide_eq_true (by omega)
  have t3 : decide ((r : Int) ≤ 90) = false := decide_eq_false (by omega)
  have t4 : decide (945 ≤ (r : Int)) = false := decide_eq_false (by omega)
  have t5 : decide ((r : Int) ≤ 969) = true := decide_eq_true (by omega)
  have t6 : decide (48 ≤ (r : Int)) = true := decide_eq_true (by omega)
  have t7 : decide ((r : Int) ≤ 57) = false := decide_eq_false (by omega)
  have e95 : ((r : Int) == 95) = false := by simp <;> omega
  have e32 : ((r : Int) == 32) = false := by simp <;> omega
  have e9 : ((r : Int) == 9) = false := by simp <;> omega
  have e10 : ((r : Int) == 10) = false := by simp <;> omega
  have e13 : ((r : Int) == 13) = false := by simp <;> omega
  go_enter Tryz.func124, Tryz.ntmps124
  go_wp2_with fail
  generalize hS : (ByteArray.mk #[61, 126, 60, 62, 38, 124, 40, 41, 123, 125, 44, 59, 58, 43, 92, 35, 39]) = S
  have HS : Hid (S.data.toList = signsB) := Lib.hid (by rw [← hS]; rfl)
  have hk2 : S.size ≤ 17 := by rw [← hS]; exact Nat.le_refl _
  have hk3 : 17 ≤ S.size := by rw [← hS]; exact Nat.le_refl _
  clear hS
  go_loopg [4] 17 (fun q i wr => ∃ (k : Nat), k ≤ 17 ∧ q = 17 - k ∧ i = .int .i64 (k : Int) ∧ Hid (∀ j, j < k → signs.getD j 0 ≠ r) ∧ wr = w)
  case atStart => exact ⟨0, Nat.zero_le _, rfl, rfl, Lib.hid (fun j hj => absurd hj (by omega)), rfl⟩
  case round =>
    obtain ⟨k, hk, hq, rfl, HN, rfl⟩ := hrel
    have HQ := Lib.hid hq
    clear hq
    by_cases hlt : k < 17
    · have hks : k < S.size := by omega
      have HG := Lib.hid (getB HS.out k hks)
      have h256 := (S[k]'hks).toNat_lt
      by_cases he : (S[k]'hks).toNat = r
      · have HF := Lib.hid (show 4 = cls r by
          have hm : r ∈ signs := signs_in hlt (by rw [← HG.out]; exact he)
          unfold cls
          rw [if_neg (by omega), if_neg (by omega), if_neg (by omega), if_pos hm])
        have g : ((r : Int) == ((S[k]'hks).toNat : Int)) = true := by rw [he]; simp
        clear he
        go_wp2_with fail
        go_ret
        exact ⟨congrArg (fun x : Nat => Ending.returned (.int .i64 (x : Int))) HF.out, rfl⟩
      · have g : ((r : Int) == ((S[k]'hks).toNat : Int)) = false := by simp; omega
        have HE := Lib.hid he
        clear he
        go_wp2_with fail
        go_roundg (17 - (k + 1))
        case measure => have := HQ.out; omega
        case rel => exact ⟨k + 1, by omega, rfl, by go_num, Lib.hid (fun j hj => by
          rcases Nat.lt_or_ge j k with h | h
          · exact HN.out j h
          · obtain rfl : j = k := by omega
            rw [← HG.out]
            exact HE.out), rfl⟩
    · have g : decide ((k : Int) < 17) = false := decide_eq_false (by omega)
      have HF := Lib.hid (show 0 = cls r by
        have hm := signs_mem (fun j hj => HN.out j (by omega))
        unfold cls
        rw [if_neg (by omega), if_neg (by omega), if_neg (by omega), if_neg hm])
      go_wp2_with fail
      go_ret
      exact ⟨congrArg (fun x : Nat => Ending.returned (.int .i64 (x : Int))) HF.out, rfl⟩

set_option maxHeartbeats 1000000 in
theorem class5 (r : Nat) (h1 : 95 ≤ r) (h2 : r ≤ 95) (_hr : r < 2097152) (w : World) : Calls Tryz.prog 124 #[.int .i32 r] w fun e w' => e = .returned (.int .i64 (cls r : Nat)) ∧ w' = w := by
  have t0 : decide (97 ≤ (r : Int)) = false := decide_eq_false (by omega)
  have t1 : decide ((r : Int) ≤ 122) = true := decide_eq_true (by omega)
  have t2 : decide (65 ≤ (r : Int)) = true := decide_eq_true (by omega)
  have t3 : decide ((r : Int) ≤ 90) = false := decide_eq_false (by omega)
  have t4 : decide (945 ≤ (r : Int)) = false := decide_eq_false (by omega)
  have t5 : decide ((r : Int) ≤ 969) = true := decide_eq_true (by omega)
  have t6 : decide (48 ≤ (r : Int)) = true := decide_eq_true (by omega)
  have t7 : decide ((r : Int) ≤ 57) = false := decide_eq_false (by omega)
  have e95 : ((r : Int) == 95) = true := by simp <;> omega
  have HF := Lib.hid (show 1 = cls r by
    unfold cls
    first | rw [if_pos (by omega)] | rw [if_neg (by omega), if_pos (by omega)])
  go_enter Tryz.func124, Tryz.ntmps124
  go_wp2_with fail
  go_ret
  exact ⟨congrArg (fun x : Nat => Ending.returned (.int .i64 (x : Int))) HF.out, rfl⟩

set_option maxHeartbeats 1000000 in
theorem class6 (r : Nat) (h1 : 96 ≤ r) (h2 : r ≤ 96) (_hr : r < 2097152) (w : World) : Calls Tryz.prog 124 #[.int .i32 r] w fun e w' => e = .returned (.int .i64 (cls r : Nat)) ∧ w' = w := by
  have t0 : decide (97 ≤ (r : Int)) = false := decide_eq_false (by omega)
  have t1 : decide ((r : Int) ≤ 122) = true := decide_eq_true (by omega)
  have t2 : decide (65 ≤ (r : Int)) = true := decide_eq_true (by omega)
  have t3 : decide ((r : Int) ≤ 90) = false := decide_eq_false (by omega)
  have t4 : decide (945 ≤ (r : Int)) = false := decide_eq_false (by omega)
  have t5 : decide ((r : Int) ≤ 969) = true := decide_eq_true (by omega)
  have t6 : decide (48 ≤ (r : Int)) = true := decide_eq_true (by omega)
  have t7 : decide ((r : Int) ≤ 57) = false := decide_eq_false (by omega)
  have e95 : ((r : Int) == 95) = false := by simp <;> omega
  have e32 : ((r : Int) == 32) = false := by simp <;> omega
  have e9 : ((r : Int) == 9) = false := by simp <;> omega
  have e10 : ((r : Int) == 10) = false := by simp <;> omega
  have e13 : ((r : Int) == 13) = false := by simp <;> omega
  go_enter Tryz.func124, Tryz.ntmps124
  go_wp2_with fail
  generalize hS : (ByteArray.mk #[61, 126, 60, 62, 38, 124, 40, 41, 123, 125, 44, 59, 58, 43, 92, 35, 39]) = S
  have HS : Hid (S.data.toList = signsB) := Lib.hid (by rw [← hS]; rfl)
  have hk2 : S.size ≤ 17 := by rw [← hS]; exact Nat.le_refl _
  have hk3 : 17 ≤ S.size := by rw [← hS]; exact Nat.le_refl _
  clear hS
  go_loopg [4] 17 (fun q i wr => ∃ (k : Nat), k ≤ 17 ∧ q = 17 - k ∧ i = .int .i64 (k : Int) ∧ Hid (∀ j, j < k → signs.getD j 0 ≠ r) ∧ wr = w)
  case atStart => exact ⟨0, Nat.zero_le _, rfl, rfl, Lib.hid (fun j hj => absurd hj (by omega)), rfl⟩
  case round =>
    obtain ⟨k, hk, hq, rfl, HN, rfl⟩ := hrel
    have HQ := Lib.hid hq
    clear hq
    by_cases hlt : k < 17
    · have hks : k < S.size := by omega
      have HG := Lib.hid (getB HS.out k hks)
      have h256 := (S[k]'hks).toNat_lt
      by_cases he : (S[k]'hks).toNat = r
      · have HF := Lib.hid (show 4 = cls r by
          have hm : r ∈ signs := signs_in hlt (by rw [← HG.out]; exact he)
          unfold cls
          rw [if_neg (by omega), if_neg (by omega), if_neg (by omega), if_pos hm])
        have g : ((r : Int) == ((S[k]'hks).toNat : Int)) = true := by rw [he]; simp
        clear he
        go_wp2_with fail
        go_ret
        exact ⟨congrArg (fun x : Nat => Ending.returned (.int .i64 (x : Int))) HF.out, rfl⟩
      · have g : ((r : Int) == ((S[k]'hks).toNat : Int)) = false := by simp; omega
        have HE := Lib.hid he
        clear he
        go_wp2_with fail
        go_roundg (17 - (k + 1))
        case measure => have := HQ.out; omega
        case rel => exact ⟨k + 1, by omega, rfl, by go_num, Lib.hid (fun j hj => by
          rcases Nat.lt_or_ge j k with h | h
          · exact HN.out j h
          · obtain rfl : j = k := by omega
            rw [← HG.out]
            exact HE.out), rfl⟩
    · have g : decide ((k : Int) < 17) = false := decide_eq_false (by omega)
      have HF := Lib.hid (show 0 = cls r by
        have hm := signs_mem (fun j hj => HN.out j (by omega))
        unfold cls
        rw [if_neg (by omega), if_neg (by omega), if_neg (by omega), if_neg hm])
      go_wp2_with fail
      go_ret
      exact ⟨congrArg (fun x : Nat => Ending.returned (.int .i64 (x : Int))) HF.out, rfl⟩

set_option maxHeartbeats 1000000 in
theorem class7 (r : Nat) (h1 : 97 ≤ r) (h2 : r ≤ 122) (_hr : r < 2097152) (w : World) : Calls Tryz.prog 124 #[.int .i32 r] w fun e w' => e = .returned (.int .i64 (cls r : Nat)) ∧ w' = w := by
  have t0 : decide (97 ≤ (r : Int)) = true := decide_eq_true (by omega)
  have t1 : decide ((r : Int) ≤ 122) = true := decide_eq_true (by omega)
  have t2 : decide (65 ≤ (r : Int)) = true := decide_eq_true (by omega)
  have t3 : decide ((r : Int) ≤ 90) = false := decide_eq_false (by omega)
  have t4 : decide (945 ≤ (r : Int)) = false := decide_eq_false (by omega)
  have t5 : decide ((r : Int) ≤ 969) = true := decide_eq_true (by omega)
  have t6 : decide (48 ≤ (r : Int)) = true := decide_eq_true (by omega)
  have t7 : decide ((r : Int) ≤ 57) = false := decide_eq_false (by omega)
  have e95 : ((r : Int) == 95) = false := by simp <;> omega
  have HF := Lib.hid (show 1 = cls r by
    unfold cls
    first | rw [if_pos (by omega)] | rw [if_neg (by omega), if_pos (by omega)])
  go_enter Tryz.func124, Tryz.ntmps124
  go_wp2_with fail
  go_ret
  exact ⟨congrArg (fun x : Nat => Ending.returned (.int .i64 (x : Int))) HF.out, rfl⟩

set_option maxHeartbeats 1000000 in
theorem class8 (r : Nat) (h1 : 123 ≤ r) (h2 : r ≤ 944) (_hr : r < 2097152) (w : World) : Calls Tryz.prog 124 #[.int .i32 r] w fun e w' => e = .returned (.int .i64 (cls r : Nat)) ∧ w' = w := by
  have t0 : decide (97 ≤ (r : Int)) = true := decide_eq_true (by omega)
  have t1 : decide ((r : Int) ≤ 122) = false := decide_eq_false (by omega)
  have t2 : decide (65 ≤ (r : Int)) = true := decide_eq_true (by omega)
  have t3 : decide ((r : Int) ≤ 90) = false := decide_eq_false (by omega)
  have t4 : decide (945 ≤ (r : Int)) = false := decide_eq_false (by omega)
  have t5 : decide ((r : Int) ≤ 969) = true := decide_eq_true (by omega)
  have t6 : decide (48 ≤ (r : Int)) = true := decide_eq_true (by omega)
  have t7 : decide ((r : Int) ≤ 57) = false := decide_eq_false (by omega)
  have e95 : ((r : Int) == 95) = false := by simp <;> omega
  have e32 : ((r : Int) == 32) = false := by simp <;> omega
  have e9 : ((r : Int) == 9) = false := by simp <;> omega
  have e10 : ((r : Int) == 10) = false := by simp <;> omega
  have e13 : ((r : Int) == 13) = false := by simp <;> omega
  go_enter Tryz.func124, Tryz.ntmps124
  go_wp2_with fail
  generalize hS : (ByteArray.mk #[61, 126, 60, 62, 38, 124, 40, 41, 123, 125, 44, 59, 58, 43, 92, 35, 39]) = S
  have HS : Hid (S.data.toList = signsB) := Lib.hid (by rw [← hS]; rfl)
  have hk2 : S.size ≤ 17 := by rw [← hS]; exact Nat.le_refl _
  have hk3 : 17 ≤ S.size := by rw [← hS]; exact Nat.le_refl _
  clear hS
  go_loopg [4] 17 (fun q i wr => ∃ (k : Nat), k ≤ 17 ∧ q = 17 - k ∧ i = .int .i64 (k : Int) ∧ Hid (∀ j, j < k → signs.getD j 0 ≠ r) ∧ wr = w)
  case atStart => exact ⟨0, Nat.zero_le _, rfl, rfl, Lib.hid (fun j hj => absurd hj (by omega)), rfl⟩
  case round =>
    obtain ⟨k, hk, hq, rfl, HN, rfl⟩ := hrel
    have HQ := Lib.hid hq
    clear hq
    by_cases hlt : k < 17
    · have hks : k < S.size := by omega
      have HG := Lib.hid (getB HS.out k hks)
      have h256 := (S[k]'hks).toNat_lt
      by_cases he : (S[k]'hks).toNat = r
      · have HF := Lib.hid (show 4 = cls r by
          have hm : r ∈ signs := signs_in hlt (by rw [← HG.out]; exact he)
          unfold cls
          rw [if_neg (by omega), if_neg (by omega), if_neg (by omega), if_pos hm])
        have g : ((r : Int) == ((S[k]'hks).toNat : Int)) = true := by rw [he]; simp
        clear he
        go_wp2_with fail
        go_ret
        exact ⟨congrArg (fun x : Nat => Ending.returned (.int .i64 (x : Int))) HF.out, rfl⟩
      · have g : ((r : Int) == ((S[k]'hks).toNat : Int)) = false := by simp; omega
        have HE := Lib.hid he
        clear he
        go_wp2_with fail
        go_roundg (17 - (k + 1))
        case measure => have := HQ.out; omega
        case rel => exact ⟨k + 1, by omega, rfl, by go_num, Lib.hid (fun j hj => by
          rcases Nat.lt_or_ge j k with h | h
          · exact HN.out j h
          · obtain rfl : j = k := by omega
            rw [← HG.out]
            exact HE.out), rfl⟩
    · have g : decide ((k : Int) < 17) = false := decide_eq_false (by omega)
      have HF := Lib.hid (show 0 = cls r by
        have hm := signs_mem (fun j hj => HN.out j (by omega))
        unfold cls
        rw [if_neg (by omega), if_neg (by omega), if_neg (by omega), if_neg hm])
      go_wp2_with fail
      go_ret
      exact ⟨congrArg (fun x : Nat => Ending.returned (.int .i64 (x : Int))) HF.out, rfl⟩

set_option maxHeartbeats 1000000 in
theorem class9 (r : Nat) (h1 : 945 ≤ r) (h2 : r ≤ 969) (_hr : r < 2097152) (w : World) : Calls Tryz.prog 124 #[.int .i32 r] w fun e w' => e = .returned (.int .i64 (cls r : Nat)) ∧ w' = w := by
  have t0 : decide (97 ≤ (r : Int)) = true := decide_eq_true (by omega)
  have t1 : decide ((r : Int) ≤ 122) = false := decide_eq_false (by omega)
  have t2 : decide (65 ≤ (r : Int)) = true := decide_eq_true (by omega)
  have t3 : decide ((r : Int) ≤ 90) = false := decide_eq_false (by omega)
  have t4 : decide (945 ≤ (r : Int)) = true := decide_eq_true (by omega)
  have t5 : decide ((r : Int) ≤ 969) = true := decide_eq_true (by omega)
  have t6 : decide (48 ≤ (r : Int)) = true := decide_eq_true (by omega)
  have t7 : decide ((r : Int) ≤ 57) = false := decide_eq_false (by omega)
  have e95 : ((r : Int) == 95) = false := by simp <;> omega
  have HF := Lib.hid (show 1 = cls r by
    unfold cls
    first | rw [if_pos (by omega)] | rw [if_neg (by omega), if_pos (by omega)])
  go_enter Tryz.func124, Tryz.ntmps124
  go_wp2_with fail
  go_ret
  exact ⟨congrArg (fun x : Nat => Ending.returned (.int .i64 (x : Int))) HF.out, rfl⟩

set_option maxHeartbeats 1000000 in
theorem class10 (r : Nat) (h1 : 970 ≤ r) (hr : r < 2097152) (w : World) : Calls Tryz.prog 124 #[.int .i32 r] w fun e w' => e = .returned (.int .i64 (cls r : Nat)) ∧ w' = w := by
  have t0 : decide (97 ≤ (r : Int)) = true := decide_eq_true (by omega)
  have t1 : decide ((r : Int) ≤ 122) = false := decide_eq_false (by omega)
  have t2 : decide (65 ≤ (r : Int)) = true := decide_eq_true (by omega)
  have t3 : decide ((r : Int) ≤ 90) = false := decide_eq_false (by omega)
  have t4 : decide (945 ≤ (r : Int)) = true := decide_eq_true (by omega)
  have t5 : decide ((r : Int) ≤ 969) = false := decide_eq_false (by omega)
  have t6 : decide (48 ≤ (r : Int)) = true := decide_eq_true (by omega)
  have t7 : decide ((r : Int) ≤ 57) = false := decide_eq_false (by omega)
  have e95 : ((r : Int) == 95) = false := by simp <;> omega
  have e32 : ((r : Int) == 32) = false := by simp <;> omega
  have e9 : ((r : Int) == 9) = false := by simp <;> omega
  have e10 : ((r : Int) == 10) = false := by simp <;> omega
  have e13 : ((r : Int) == 13) = false := by simp <;> omega
  go_enter Tryz.func124, Tryz.ntmps124
  go_wp2_with fail
  generalize hS : (ByteArray.mk #[61, 126, 60, 62, 38, 124, 40, 41, 123, 125, 44, 59, 58, 43, 92, 35, 39]) = S
  have HS : Hid (S.data.toList = signsB) := Lib.hid (by rw [← hS]; rfl)
  have hk2 : S.size ≤ 17 := by rw [← hS]; exact Nat.le_refl _
  have hk3 : 17 ≤ S.size := by rw [← hS]; exact Nat.le_refl _
  clear hS
  go_loopg [4] 17 (fun q i wr => ∃ (k : Nat), k ≤ 17 ∧ q = 17 - k ∧ i = .int .i64 (k : Int) ∧ Hid (∀ j, j < k → signs.getD j 0 ≠ r) ∧ wr = w)
  case atStart => exact ⟨0, Nat.zero_le _, rfl, rfl, Lib.hid (fun j hj => absurd hj (by omega)), rfl⟩
  case round =>
    obtain ⟨k, hk, hq, rfl, HN, rfl⟩ := hrel
    have HQ := Lib.hid hq
    clear hq
    by_cases hlt : k < 17
    · have hks : k < S.size := by omega
      have HG := Lib.hid (getB HS.out k hks)
      have h256 := (S[k]'hks).toNat_lt
      by_cases he : (S[k]'hks).toNat = r
      · have HF := Lib.hid (show 4 = cls r by
          have hm : r ∈ signs := signs_in hlt (by rw [← HG.out]; exact he)
          unfold cls
          rw [if_neg (by omega), if_neg (by omega), if_neg (by omega), if_pos hm])
        have g : ((r : Int) == ((S[k]'hks).toNat : Int)) = true := by rw [he]; simp
        clear he
        go_wp2_with fail
        go_ret
        exact ⟨congrArg (fun x : Nat => Ending.returned (.int .i64 (x : Int))) HF.out, rfl⟩
      · have g : ((r : Int) == ((S[k]'hks).toNat : Int)) = false := by simp; omega
        have HE := Lib.hid he
        clear he
        go_wp2_with fail
        go_roundg (17 - (k + 1))
        case measure => have := HQ.out; omega
        case rel => exact ⟨k + 1, by omega, rfl, by go_num, Lib.hid (fun j hj => by
          rcases Nat.lt_or_ge j k with h | h
          · exact HN.out j h
          · obtain rfl : j = k := by omega
            rw [← HG.out]
            exact HE.out), rfl⟩
    · have g : decide ((k : Int) < 17) = false := decide_eq_false (by omega)
      have HF := Lib.hid (show 0 = cls r by
        have hm := signs_mem (fun j hj => HN.out j (by omega))
        unfold cls
        rw [if_neg (by omega), if_neg (by omega), if_neg (by omega), if_neg hm])
      go_wp2_with fail
      go_ret
      exact ⟨congrArg (fun x : Nat => Ending.returned (.int .i64 (x : Int))) HF.out, rfl⟩

theorem cls_any (r : Nat) (hr : r < 2097152) (w : World) : Calls Tryz.prog 124 #[.int .i32 r] w fun e w' => e = .returned (.int .i64 (cls r : Nat)) ∧ w' = w := by
  by_cases a1 : r ≤ 47
  · by_cases s1 : r = 32
    · subst s1; exact classS32 w
    by_cases s2 : r = 9
    · subst s2; exact classS9 w
    by_cases s3 : r = 10
    · subst s3; exact classS10 w
    by_cases s4 : r = 13
    · subst s4; exact classS13 w
    exact class0 r a1 s1 s2 s3 s4 hr w
  by_cases a2 : r ≤ 57
  · exact class1 r (by omega) a2 hr w
  by_cases a3 : r ≤ 64
  · exact class2 r (by omega) a3 hr w
  by_cases a4 : r ≤ 90
  · exact class3 r (by omega) a4 hr w
  by_cases a5 : r ≤ 94
  · exact class4 r (by omega) a5 hr w
  by_cases a6 : r ≤ 95
  · exact class5 r (by omega) a6 hr w
  by_cases a7 : r ≤ 96
  · exact class6 r (by omega) a7 hr w
  by_cases a8 : r ≤ 122
  · exact class7 r (by omega) a8 hr w
  by_cases a9 : r ≤ 944
  · exact class8 r (by omega) a9 hr w
  by_cases a10 : r ≤ 969
  · exact class9 r (by omega) a10 hr w
  exact class10 r (by omega) hr w
end Go.Proofs.YteikakoheibnjaaGreatDoor
