/- The walk over sibyllaw14.BitsOfNothing. -/
import Derived.Test.YtgbkmlnecooeaaaDoorLawBoth
namespace Go.Proofs.YtgbkmlnecooeaaaDoor
open Go Go.RowKit

theorem PtrTo.nil (w : World) : PtrTo w none [] := .inl ⟨rfl, rfl⟩
theorem new_none (w : World) : Calls Tryd.prog 7 #[.slice none 0 0] w (MadeSet w []) :=
  new_b (xs := []) (B := 0) Reads.none_ (Nat.zero_le _) (by simp)
theorem new_four (w W : World) (h : Nat) (hh : W.heap[h]? = some (.cells #[.int .i64 4] 3 (0, 0))) :
    Calls Tryd.prog 7 #[.slice (some ⟨h, 0, none⟩) 1 1] W (MadeSet W [16]) := by
  have hlt : h < W.heap.size := (Array.getElem?_eq_some_iff.1 hh).1
  have hr : Reads W (h + 1) 1 (some ⟨h, 0, none⟩) [(4 : Int)].length (ints [4]) := reads_lit hh
  exact new_b (xs := [4]) hr (by omega) (by simp)
theorem all_none (w : World) (hT : Tab w) : Calls Tryd.prog 12 #[.pointer none] w (MadeRow w []) := all_b (PtrTo.nil w) hT Good.nil

set_option maxHeartbeats 4000000 in
theorem nothing_law (n : Int) (w : World) (hn : n ≤ 9223372036854775807) (hT : Tab w) : Calls Tryd.prog 6 #[.int .i64 n] w (Yes w) := by
  have HT := Lib.hid hT
  clear hT
  go_enter Tryd.func6, Tryd.ntmps6
  go_wp2_with fail
  refine (add_nil n w).mono ?_
  rintro e w' ⟨rfl, rfl⟩
  go_wp2_with fail
  refine (has_nil n w hn).mono ?_
  rintro e w' ⟨rfl, rfl⟩
  go_wp2_with fail
  refine (len_any (PtrTo.nil w)).mono ?_
  rintro e w' ⟨rfl, rfl⟩
  rw [show lenTo [] ([] : List Nat).length = 0 from rfl]
  go_wp2_with fail
  refine (all_none w HT.out).mono ?_
  rintro e w1 ⟨A1, c1, rfl, hr, hb⟩
  have B1 := Lib.hid hb
  clear hr hb
  go_wp2_with fail
  refine (new_none w1).mono ?_
  rintro e w2 ⟨g2, v2, rfl, hs, hb⟩
  have S2 := Lib.hid hs
  have B2 := Lib.hid (bt B1.out hb)
  clear hs hb B1
  go_wp2_with fail
  refine (same_b (b := true) (PtrTo.nil w2) S2.out.ptr (by rfl)).mono ?_
  rintro e w3 ⟨rfl, hb⟩
  have B3 := Lib.hid (bt B2.out hb)
  clear hb B2 S2
  go_wp2_with fail
  refine (new_none w3).mono ?_
  rintro e w4 ⟨g4, v4, rfl, hs, hb⟩
  have S4 := Lib.hid hs
  have B4 := Lib.hid (bt B3.out hb)
  clear hs hb B3
  go_wp2_with fail
  refine (same_b (b := true) S4.out.ptr (PtrTo.nil w4) (by rfl)).mono ?_
  rintro e w5 ⟨rfl, hb⟩
  have B5 := Lib.hid (bt B4.out hb)
  clear hb B4 S4
  go_wp2_with fail
  refine (new_four w _ w5.heap.size (heap_alloc_new w5 _)).mono ?_
  rintro e w6 ⟨g6, v6, rfl, hs, hb⟩
  have S6 := Lib.hid hs
  have B6 := Lib.hid (B5.out.trans (((Below.refl _ _).alloc B5.out.size _).trans (hb.mono (by have := B5.out.size; simp; omega))))
  clear hs hb B5
  go_wp2_with fail
  refine (same_b (b := false) (PtrTo.nil w6) S6.out.ptr (by rfl)).mono ?_
  rintro e w7 ⟨rfl, hb⟩
  have B7 := Lib.hid (bt B6.out hb)
  clear hb B6 S6
  go_wp2_with fail
  refine (new_four w _ w7.heap.size (heap_alloc_new w7 _)).mono ?_
  rintro e w8 ⟨g8, v8, rfl, hs, hb⟩
  have S8 := Lib.hid hs
  have B8 := Lib.hid (B7.out.trans (((Below.refl _ _).alloc B7.out.size _).trans (hb.mono (by have := B7.out.size; simp; omega))))
  clear hs hb B7
  go_wp2_with fail
  refine (or_b (PtrTo.nil w8) S8.out.ptr).mono ?_
  rintro e w9 ⟨g9, v9, rfl, hs, hb⟩
  have S9 := Lib.hid hs
  have B9 := Lib.hid (bt B8.out hb)
  clear hs hb B8 S8
  go_wp2_with fail
  refine (has_any S9.out 4 (by omega)).mono ?_
  rintro e w' ⟨rfl, rfl⟩
  rw [show hasI (orW [] [16]) 4 = true from by decide]
  go_wp2_with fail
  refine (new_four w _ w9.heap.size (heap_alloc_new w9 _)).mono ?_
  rintro e w10 ⟨g10, v10, rfl, hs, hb⟩
  have S10 := Lib.hid hs
  have B10 := Lib.hid (B9.out.trans (((Below.refl _ _).alloc B9.out.size _).trans (hb.mono (by have := B9.out.size; simp; omega))))
  clear hs hb B9 S9
  go_wp2_with fail
  refine (and_b (PtrTo.nil w10) S10.out.ptr).mono ?_
  rintro e w11 ⟨g11, v11, rfl, hs, hb⟩
  have S11 := Lib.hid hs
  have B11 := Lib.hid (bt B10.out hb)
  clear hs hb B10 S10
  go_wp2_with fail
  refine (len_any S11.out.ptr).mono ?_
  rintro e w' ⟨rfl, rfl⟩
  rw [show lenTo (andW [] [16]) (andW [] [16]).length = 0 from by decide]
  go_wp2_with fail
  refine (known_any w11 (HT.out.below B11.out)).mono ?_
  rintro e w12 ⟨rfl, hb⟩
  have B12 := Lib.hid (bt B11.out hb)
  clear hb B11 S11
  go_wp2
  go_ret
  exact ⟨rfl, B12.out⟩
end Go.Proofs.YtgbkmlnecooeaaaDoor
