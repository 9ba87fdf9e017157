/- The walk over sibylref14.Add. -/
import Derived.Test.YtgbkmlnecooeaaaDoorNew
import Derived.Test.YtgbkmlnecooeaaaDoorApp
import Derived.Test.YtgbkmlnecooeaaaDoorRefPure
import Derived.Deep.RegionLaw
import Derived.BigRegion
import Derived.Handy
namespace Go.Proofs.YtgbkmlnecooeaaaDoor
open Go Go.RowKit

/-- A slice value of the call's own that holds these ints. -/
def Row (w : World) (base : Nat) (A : Option Addr) (c : Nat) (xs : List Int) : Prop := w.ownsRow base 3 1 (.slice A xs.length c) xs.length (ints xs)
theorem Row.reads {w : World} {base : Nat} {A : Option Addr} {c : Nat} {xs : List Int} (h : Row w base A c xs) : Reads w w.heap.size 1 A xs.length (ints xs) := Reads.of_own h
theorem Row.cap {w : World} {base : Nat} {A : Option Addr} {c : Nat} {xs : List Int} (h : Row w base A c xs) : xs.length ≤ c := by
  rcases h.2 with ⟨_, e2⟩ | ⟨g, cap, _, e, _, _, e2, _⟩
  · omega
  · injection e; omega
theorem Row.below {w w' : World} {base : Nat} {A : Option Addr} {c : Nat} {xs : List Int} (h : Row w base A c xs) (hb : Below w.heap.size w w') : Row w' base A c xs :=
  (Fr.of_below hb).own h (fun k hk => by have := (h.lt k hk).2; omega)
theorem ints_one (xs : List Int) : ∀ u ∈ ints xs, u.oneCell' = true := by
  intro u hu
  simp [ints] at hu
  obtain ⟨n, _, rfl⟩ := hu
  rfl

def RefAdded (w : World) (base : Nat) (xs : List Int) (n : Int) (e : Ending) (w' : World) : Prop :=
  ∃ A' c', e = .returned (.tuple #[.slice A' (refAdd xs n).1.length c', .bool (refAdd xs n).2]) ∧ Row w' base A' c' (refAdd xs n).1 ∧ Below w.heap.size w w'

theorem refAdded_same {w : World} {base : Nat} {A : Option Addr} {c : Nat} {xs : List Int} {n : Int} (h : Row w base A c xs) (e : refAdd xs n = (xs, false)) :
    RefAdded w base xs n (.returned (.tuple #[.slice A xs.length c, .bool false])) w := by
  refine ⟨A, c, by rw [e], ?_, Below.refl _ _⟩
  rw [e]; exact h

theorem heap_new_at {w : World} {o : Obj} {j : Nat} (h : w.heap.size = j) : (w.alloc o).heap[j]? = some o := by subst h; exact heap_alloc_new w o
theorem heap_old_at {w : World} {o x : Obj} {j : Nat} (h : w.heap[j]? = some x) (hj : j < w.heap.size) : (w.alloc o).heap[j]? = some x := (Below.heap_alloc w o j hj).trans h
theorem reads_one {w : World} {h : Nat} {t : TypeId} {v : Value} (hb : w.heap[h]? = some (.cells #[v] t (0, 0))) : Reads w (h + 1) 1 (some ⟨h, 0, none⟩) 1 [v] := by
  refine ⟨rfl, fun _ => ⟨_, rfl, by simp, fun j u hu => ?_⟩⟩
  match j, hu with
  | 0, hu =>
    simp at hu
    subst hu
    have := cell_of_row w h 0 #[v] t (0, 0) hb
    simpa [Addr.add] using this
theorem reads_take {w : World} {B : Nat} {A : Option Addr} {xs : List Int} {k : Nat} (h : Reads w B 1 A xs.length (ints xs)) (hk : k ≤ xs.length) : Reads w B 1 A k (ints (xs.take k)) := by
  refine ⟨by simp; omega, fun hp => ?_⟩
  obtain ⟨ad, e, hb, hc⟩ := h.2 (by omega)
  refine ⟨ad, e, hb, fun j u hu => hc j u ?_⟩
  have hj : j < (ints (xs.take k)).length := (List.getElem?_eq_some_iff.1 hu).1
  simp at hj
  rw [show ints (xs.take k) = (ints xs).take k by simp [ints, List.map_take], List.getElem?_take, if_pos (by omega)] at hu
  exact hu
theorem reads_drop {w : World} {B c : Nat} {ad : Addr} {xs : List Int} {k : Nat} (h : Reads w B 1 (some ad) xs.length (ints xs)) (hk : k ≤ xs.length) (hck : ¬ c = k) : Reads w B 1 (some (ad.add k)) (xs.length - k) (ints (xs.drop k)) := by
  refine ⟨by simp, fun hp => ?_⟩
  obtain ⟨ad', e, hb, hc⟩ := h.2 (by omega)
  obtain rfl := Option.some.inj e
  refine ⟨_, rfl, by rw [block_of_add]; exact hb, fun j u hu => ?_⟩
  rw [add_of_add]
  refine hc _ u ?_
  rw [show ints (xs.drop k) = (ints xs).drop k by simp [ints, List.map_drop], List.getElem?_drop] at hu
  exact hu

theorem refAdded_yes {w w3 : World} {base k m : Nat} {xs : List Int} {n : Int} {v3 : Value} {ys : List Value} (e : refAdd xs n = (xs.take k ++ [n] ++ xs.drop k, true)) (hk : k ≤ xs.length) (hbase : base ≤ w.heap.size)
    (hb : Below w.heap.size w w3) (hown : w3.ownsRow base 3 1 v3 m ys) (hm : m = 0 + k + 1 + (xs.length - k) := by rfl) (hy : ys = [] ++ ints (xs.take k) ++ [.int .i64 n] ++ ints (xs.drop k) := by rfl) :
    RefAdded w base xs n (.returned (.tuple #[v3, .bool true])) w3 := by
  obtain ⟨A', c', rfl⟩ := own_slice hown
  have hl : m = (xs.take k ++ [n] ++ xs.drop k).length := by rw [hm]; simp; omega
  refine ⟨A', c', by rw [e, hl], ?_, hb⟩
  rw [e]
  unfold Row
  simp only
  rw [← hl]
  rw [hy] at hown
  have e2 : ints (xs.take k ++ [n] ++ xs.drop k) = [] ++ ints (xs.take k) ++ [.int .i64 n] ++ ints (xs.drop k) := by
    rw [ints_append, ints_append]; rfl
  rw [e2]
  exact hown

set_option maxHeartbeats 4000000 in
theorem refAdd_any {w : World} {base : Nat} {A : Option Addr} {c : Nat} {xs : List Int} {n : Int} (h : Row w base A c xs) (hbase : base ≤ w.heap.size) (hl : xs.length ≤ 10000000) :
    Calls Tryd.prog 16 #[.slice A xs.length c, .int .i64 n] w (RefAdded w base xs n) := by
  obtain ⟨i0, hi, hz0, hz1, hz2⟩ := info_parts Tryd.info3
  have HH := Lib.hid h
  have HR := Lib.hid h.reads
  have hcap := h.cap
  clear h
  by_cases h0 : n < 0
  · have HE := Lib.hid (show refAdd xs n = (xs, false) by unfold refAdd; rw [if_pos (.inl h0)])
    go_enter Tryd.func16, Tryd.ntmps16
    go_wp2
    go_ret2
    exact refAdded_same HH.out HE.out
  by_cases h1 : 100000 < n
  · have HE := Lib.hid (show refAdd xs n = (xs, false) by unfold refAdd; rw [if_pos (.inr h1)])
    go_enter Tryd.func16, Tryd.ntmps16
    go_wp2
    go_ret2
    exact refAdded_same HH.out HE.out
  go_enter Tryd.func16, Tryd.ntmps16
  go_wp2_with fail
  go_loopg [6] xs.length (fun m i wr => wr = w ∧ ∃ k : Nat, k ≤ lowN xs n ∧ m = xs.length - k ∧ i = .int .i64 (k : Int))
  case atStart => exact ⟨rfl, 0, Nat.zero_le _, rfl, rfl⟩
  case round =>
    obtain ⟨rfl, k, hk, hm, rfl⟩ := hrel
    have hkl := lowN_le xs n
    have HM := Lib.hid hm
    have HK := Lib.hid hk
    clear hm
    by_cases hlt : k < xs.length
    · obtain ⟨ad, u, rfl, _, hu, hcu⟩ := HR.out.at_ (k := k) hlt
      rw [ints_at _ _ hlt] at hu
      obtain rfl := Option.some.inj hu
      clear hu
      by_cases hx : xs[k] < n
      · have hk2 : k + 1 ≤ lowN xs n := by
          have := lowN_ge xs n
          rcases Nat.lt_or_ge k (lowN xs n) with h | h
          · exact h
          · obtain rfl : k = lowN xs n := by omega
            exact absurd hx (this hlt)
        have HK2 := Lib.hid hk2
        generalize xs[k] = x at *
        clear hk hk2
        go_wp2
        go_roundg (xs.length - (k + 1))
        case measure => have := HM.out; omega
        case rel => exact ⟨rfl, k + 1, HK2.out, rfl, by go_num⟩
      · have hke : k = lowN xs n := by
          rcases Nat.lt_or_ge k (lowN xs n) with h | h
          · exact absurd (lowN_lt xs n k h hlt) hx
          · omega
        by_cases he : xs[k] = n
        · have HE := Lib.hid (show refAdd xs n = (xs, false) by
            unfold refAdd
            rw [if_neg (by omega), ← hke, if_pos (by rw [List.getElem?_eq_getElem hlt, he])])
          have hb : (xs[k] == n) = true := by simp [he]
          clear he hke
          generalize xs[k] = x at *
          go_wp2
          go_ret2
          exact refAdded_same HH.out HE.out
        · have HE := Lib.hid (show refAdd xs n = (xs.take k ++ [n] ++ xs.drop k, true) by
            unfold refAdd
            rw [if_neg (by omega), ← hke, if_neg (by rw [List.getElem?_eq_getElem hlt]; intro e; exact he (Option.some.inj e))])
          have hb : (xs[k] == n) = false := by simp [he]
          clear he hke hk HK
          have hkc : k ≤ c := by omega
          have hck : ¬ c = k := by omega
          have hkl2 : k ≤ xs.length := by omega
          have hk0 : (0 : Int) ≤ (k : Int) := Int.natCast_nonneg _
          have hk1 : (k : Int) ≤ (xs.length : Int) := by omega
          have hk2 : (xs.length : Int) ≤ (c : Int) := by omega
          have HT := Lib.hid (reads_take HR.out hkl2)
          have HD := Lib.hid (reads_drop HR.out hkl2 hck)
          generalize xs[k] = x at *
          go_wp2_with fail
          go_region_law (first
            | (refine step_append_any _ (by rfl) (.tmp 41) (.tmp 44) 22 (by rfl) base 3 i0 (.int .i64 0) 1 8 Tryd.underlying22 hi hz0 hz1 hz2 rfl (by decide) (.slice (some ⟨_, 0, none⟩) 0 0) 0 [] (by rfl) (own_of_heap (by first | exact heap_new_at (by go_size) | exact heap_old_at (heap_new_at (by go_size)) (by go_size)) (by go_size)) wr.heap.size _ k _ (ints (xs.take k)) (by rfl) (HT.out.below (by go_grown)) (ints_one _) (by simp only [maxLen]; omega) (by omega) (by go_size) ?_
               intro v1 w1 hown1 hg1 hat1
               have hb1 : Below wr.heap.size wr w1 := Below.grown (by go_grown) hg1 (by go_size) (fun j hj => by simp only [Value.ownBlock, Option.some.injEq] at hj; omega)
               have hs1 := hb1.size
               have hr1 : ∀ j, v1.ownBlock = some j → wr.heap.size ≤ j := fun j hj => by (rcases hat1 with e | e <;> rw [e] at hj <;> simp [Value.ownBlock] at hj <;> omega))
            | (refine step_append_any _ (by rfl) (.tmp 45) (.tmp 47) 22 (by rfl) base 3 i0 (.int .i64 0) 1 8 Tryd.underlying22 hi hz0 hz1 hz2 rfl (by decide) v1 (0 + k) ([] ++ ints (xs.take k)) (by rfl) (by first | exact hown1 | exact hown1.alloc _) _ (some ⟨_, 0, none⟩) 1 1 [.int .i64 n] (by rfl)
                 (reads_one (by first | exact heap_new_at (by go_size) | exact (hg1.block _ (by go_size) (by simp [Value.ownBlock])).trans (heap_new_at (by go_size)) | exact (hg1.block _ (by go_size) (by simp [Value.ownBlock])).trans (heap_old_at (heap_new_at (by go_size)) (by go_size)))) (ints_one [n]) (by simp only [maxLen]; omega) (by omega) (by go_size) ?_
               intro v2 w2 hown2 hg2 hat2
               have hb2 : Below wr.heap.size wr w2 := Below.grown (by go_grown) hg2 (by go_size) hr1
               have hr2 : ∀ j, v2.ownBlock = some j → wr.heap.size ≤ j := fun j hj => by (rcases hat2 with e | e <;> rw [e] at hj <;> first | exact hr1 j hj | (simp at hj; omega)))
            | (refine step_append_any _ (by rfl) (.tmp 48) (.tmp 51) 22 (by rfl) base 3 i0 (.int .i64 0) 1 8 Tryd.underlying22 hi hz0 hz1 hz2 rfl (by decide) v2 (0 + k + 1) ([] ++ ints (xs.take k) ++ [.int .i64 n]) (by rfl) hown2 wr.heap.size _ (xs.length - k) _ (ints (xs.drop k)) (by rfl) (HD.out.below hb2) (ints_one _) (by simp only [maxLen]; omega) (by omega) (by have := hb2.size; omega) ?_
               intro v3 w3 hown3 hg3 hat3
               have hb3 : Below wr.heap.size wr w3 := Below.grown hb2 hg3 hb2.size hr2)
            | fail)
          all_goals go_wp2
          all_goals go_ret2
          all_goals exact refAdded_yes HE.out hkl2 hbase hb3 hown3
    · have hke : k = lowN xs n := by omega
      have HE := Lib.hid (show refAdd xs n = (xs.take k ++ [n] ++ xs.drop k, true) by
        unfold refAdd
        rw [if_neg (by omega), ← hke, if_neg (by rw [List.getElem?_eq_none (by omega)]; intro e; cases e)])
      have hkc : k ≤ c := by omega
      have hkl2 : k ≤ xs.length := by omega
      clear hke hk HK
      have hk0 : (0 : Int) ≤ (k : Int) := Int.natCast_nonneg _
      have hk1 : (k : Int) ≤ (xs.length : Int) := by omega
      have hk2 : (xs.length : Int) ≤ (c : Int) := by omega
      have hk3 : (xs.length : Int) ≤ (k : Int) := by omega
      have HT := Lib.hid (reads_take HR.out hkl2)
      rcases A with _ | ad
      · obtain ⟨rfl, hx0⟩ : c = 0 ∧ xs = [] := by
          rcases HH.out.2 with ⟨e, e2⟩ | ⟨_, _, _, e, _⟩
          · simp only [Value.slice.injEq, true_and] at e
            exact ⟨e.2, List.eq_nil_of_length_eq_zero e2⟩
          · simp at e
        subst hx0
        obtain rfl : k = 0 := by simpa using hkl2
        have HD := Lib.hid (show Reads wr wr.heap.size 1 none (([] : List Int).length - 0) (ints (List.drop 0 ([] : List Int))) from Reads.none_)
        go_wp2_with fail
        go_region_law (first
          | (refine step_append_any _ (by rfl) (.tmp 41) (.tmp 44) 22 (by rfl) base 3 i0 (.int .i64 0) 1 8 Tryd.underlying22 hi hz0 hz1 hz2 rfl (by decide) (.slice (some ⟨_, 0, none⟩) 0 0) 0 [] (by rfl) (own_of_heap (by first | exact heap_new_at (by go_size) | exact heap_old_at (heap_new_at (by go_size)) (by go_size)) (by go_size)) wr.heap.size _ 0 _ (ints (List.take 0 [])) (by rfl) (HT.out.below (by go_grown)) (ints_one _) (by simp only [maxLen]; omega) (by omega) (by go_size) ?_
             intro v1 w1 hown1 hg1 hat1
             have hb1 : Below wr.heap.size wr w1 := Below.grown (by go_grown) hg1 (by go_size) (fun j hj => by simp only [Value.ownBlock, Option.some.injEq] at hj; omega)
             have hs1 := hb1.size
             have hr1 : ∀ j, v1.ownBlock = some j → wr.heap.size ≤ j := fun j hj => by (rcases hat1 with e | e <;> rw [e] at hj <;> simp [Value.ownBlock] at hj <;> omega))
          | (refine step_append_any _ (by rfl) (.tmp 45) (.tmp 47) 22 (by rfl) base 3 i0 (.int .i64 0) 1 8 Tryd.underlying22 hi hz0 hz1 hz2 rfl (by decide) v1 (0 + 0) ([] ++ ints (List.take 0 [])) (by rfl) (by first | exact hown1 | exact hown1.alloc _) _ (some ⟨_, 0, none⟩) 1 1 [.int .i64 n] (by rfl)
               (reads_one (by first | exact heap_new_at (by go_size) | exact (hg1.block _ (by go_size) (by simp [Value.ownBlock])).trans (heap_new_at (by go_size)) | exact (hg1.block _ (by go_size) (by simp [Value.ownBlock])).trans (heap_old_at (heap_new_at (by go_size)) (by go_size)))) (ints_one [n]) (by simp only [maxLen]; omega) (by omega) (by go_size) ?_
             intro v2 w2 hown2 hg2 hat2
             have hb2 : Below wr.heap.size wr w2 := Below.grown (by go_grown) hg2 (by go_size) hr1
             have hr2 : ∀ j, v2.ownBlock = some j → wr.heap.size ≤ j := fun j hj => by (rcases hat2 with e | e <;> rw [e] at hj <;> first | exact hr1 j hj | (simp at hj; omega)))
          | (refine step_append_any _ (by rfl) (.tmp 48) (.tmp 51) 22 (by rfl) base 3 i0 (.int .i64 0) 1 8 Tryd.underlying22 hi hz0 hz1 hz2 rfl (by decide) v2 (0 + 0 + 1) ([] ++ ints (List.take 0 []) ++ [.int .i64 n]) (by rfl) hown2 wr.heap.size _ (0 - 0) _ (ints (List.drop 0 [])) (by rfl) (HD.out.below hb2) (ints_one _) (by simp only [maxLen]; omega) (by omega) (by have := hb2.size; omega) ?_
             intro v3 w3 hown3 hg3 hat3
             have hb3 : Below wr.heap.size wr w3 := Below.grown hb2 hg3 hb2.size hr2)
          | fail)
        all_goals go_wp2
        all_goals go_ret2
        all_goals exact refAdded_yes HE.out hkl2 hbase hb3 hown3
      · have hrd0 : ∀ a, Reads wr wr.heap.size 1 (some a) (xs.length - k) (ints (xs.drop k)) := fun a => ⟨by simp, fun hp => absurd hp (by omega)⟩
        by_cases hck : c = k
        · have HD := Lib.hid (hrd0 ad)
          clear hrd0
          go_wp2_with fail
          go_region_law (first
            | (refine step_append_any _ (by rfl) (.tmp 41) (.tmp 44) 22 (by rfl) base 3 i0 (.int .i64 0) 1 8 Tryd.underlying22 hi hz0 hz1 hz2 rfl (by decide) (.slice (some ⟨_, 0, none⟩) 0 0) 0 [] (by rfl) (own_of_heap (by first | exact heap_new_at (by go_size) | exact heap_old_at (heap_new_at (by go_size)) (by go_size)) (by go_size)) wr.heap.size _ k _ (ints (xs.take k)) (by rfl) (HT.out.below (by go_grown)) (ints_one _) (by simp only [maxLen]; omega) (by omega) (by go_size) ?_
               intro v1 w1 hown1 hg1 hat1
               have hb1 : Below wr.heap.size wr w1 := Below.grown (by go_grown) hg1 (by go_size) (fun j hj => by simp only [Value.ownBlock, Option.some.injEq] at hj; omega)
               have hs1 := hb1.size
               have hr1 : ∀ j, v1.ownBlock = some j → wr.heap.size ≤ j := fun j hj => by (rcases hat1 with e | e <;> rw [e] at hj <;> simp [Value.ownBlock] at hj <;> omega))
            | (refine step_append_any _ (by rfl) (.tmp 45) (.tmp 47) 22 (by rfl) base 3 i0 (.int .i64 0) 1 8 Tryd.underlying22 hi hz0 hz1 hz2 rfl (by decide) v1 (0 + k) ([] ++ ints (xs.take k)) (by rfl) (by first | exact hown1 | exact hown1.alloc _) _ (some ⟨_, 0, none⟩) 1 1 [.int .i64 n] (by rfl)
                 (reads_one (by first | exact heap_new_at (by go_size) | exact (hg1.block _ (by go_size) (by simp [Value.ownBlock])).trans (heap_new_at (by go_size)) | exact (hg1.block _ (by go_size) (by simp [Value.ownBlock])).trans (heap_old_at (heap_new_at (by go_size)) (by go_size)))) (ints_one [n]) (by simp only [maxLen]; omega) (by omega) (by go_size) ?_
               intro v2 w2 hown2 hg2 hat2
               have hb2 : Below wr.heap.size wr w2 := Below.grown (by go_grown) hg2 (by go_size) hr1
               have hr2 : ∀ j, v2.ownBlock = some j → wr.heap.size ≤ j := fun j hj => by (rcases hat2 with e | e <;> rw [e] at hj <;> first | exact hr1 j hj | (simp at hj; omega)))
            | (refine step_append_any _ (by rfl) (.tmp 48) (.tmp 51) 22 (by rfl) base 3 i0 (.int .i64 0) 1 8 Tryd.underlying22 hi hz0 hz1 hz2 rfl (by decide) v2 (0 + k + 1) ([] ++ ints (xs.take k) ++ [.int .i64 n]) (by rfl) hown2 wr.heap.size _ (xs.length - k) _ (ints (xs.drop k)) (by rfl) (HD.out.below hb2) (ints_one _) (by simp only [maxLen]; omega) (by omega) (by have := hb2.size; omega) ?_
               intro v3 w3 hown3 hg3 hat3
               have hb3 : Below wr.heap.size wr w3 := Below.grown hb2 hg3 hb2.size hr2)
            | fail)
          all_goals go_wp2
          all_goals go_ret2
          all_goals exact refAdded_yes HE.out hkl2 hbase hb3 hown3
        · have HD := Lib.hid (hrd0 (ad.add k))
          clear hrd0
          go_wp2_with fail
          go_region_law (first
            | (refine step_append_any _ (by rfl) (.tmp 41) (.tmp 44) 22 (by rfl) base 3 i0 (.int .i64 0) 1 8 Tryd.underlying22 hi hz0 hz1 hz2 rfl (by decide) (.slice (some ⟨_, 0, none⟩) 0 0) 0 [] (by rfl) (own_of_heap (by first | exact heap_new_at (by go_size) | exact heap_old_at (heap_new_at (by go_size)) (by go_size)) (by go_size)) wr.heap.size _ k _ (ints (xs.take k)) (by rfl) (HT.out.below (by go_grown)) (ints_one _) (by simp only [maxLen]; omega) (by omega) (by go_size) ?_
               intro v1 w1 hown1 hg1 hat1
               have hb1 : Below wr.heap.size wr w1 := Below.grown (by go_grown) hg1 (by go_size) (fun j hj => by simp only [Value.ownBlock, Option.some.injEq] at hj; omega)
               have hs1 := hb1.size
               have hr1 : ∀ j, v1.ownBlock = some j → wr.heap.size ≤ j := fun j hj => by (rcases hat1 with e | e <;> rw [e] at hj <;> simp [Value.ownBlock] at hj <;> omega))
            | (refine step_append_any _ (by rfl) (.tmp 45) (.tmp 47) 22 (by rfl) base 3 i0 (.int .i64 0) 1 8 Tryd.underlying22 hi hz0 hz1 hz2 rfl (by decide) v1 (0 + k) ([] ++ ints (xs.take k)) (by rfl) (by first | exact hown1 | exact hown1.alloc _) _ (some ⟨_, 0, none⟩) 1 1 [.int .i64 n] (by rfl)
                 (reads_one (by first | exact heap_new_at (by go_size) | exact (hg1.block _ (by go_size) (by simp [Value.ownBlock])).trans (heap_new_at (by go_size)) | exact (hg1.block _ (by go_size) (by simp [Value.ownBlock])).trans (heap_old_at (heap_new_at (by go_size)) (by go_size)))) (ints_one [n]) (by simp only [maxLen]; omega) (by omega) (by go_size) ?_
               intro v2 w2 hown2 hg2 hat2
               have hb2 : Below wr.heap.size wr w2 := Below.grown (by go_grown) hg2 (by go_size) hr1
               have hr2 : ∀ j, v2.ownBlock = some j → wr.heap.size ≤ j := fun j hj => by (rcases hat2 with e | e <;> rw [e] at hj <;> first | exact hr1 j hj | (simp at hj; omega)))
            | (refine step_append_any _ (by rfl) (.tmp 48) (.tmp 51) 22 (by rfl) base 3 i0 (.int .i64 0) 1 8 Tryd.underlying22 hi hz0 hz1 hz2 rfl (by decide) v2 (0 + k + 1) ([] ++ ints (xs.take k) ++ [.int .i64 n]) (by rfl) hown2 wr.heap.size _ (xs.length - k) _ (ints (xs.drop k)) (by rfl) (HD.out.below hb2) (ints_one _) (by simp only [maxLen]; omega) (by omega) (by have := hb2.size; omega) ?_
               intro v3 w3 hown3 hg3 hat3
               have hb3 : Below wr.heap.size wr w3 := Below.grown hb2 hg3 hb2.size hr2)
            | fail)
          all_goals go_wp2
          all_goals go_ret2
          all_goals exact refAdded_yes HE.out hkl2 hbase hb3 hown3
end Go.Proofs.YtgbkmlnecooeaaaDoor
