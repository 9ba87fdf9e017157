/- The walks over sibylref14.And and sibyllaw14.known. -/
import Derived.Test.YtgbkmlnecooeaaaDoorRef2
import Derived.Test.YtgbkmlnecooeaaaDoorAnd
namespace Go.Proofs.YtgbkmlnecooeaaaDoor
open Go Go.RowKit

def RefAndSt (w : World) (a b : List Int) (v i : Value) (wr : World) (m : Nat) : Prop :=
  ∃ (A : Option Addr) (c k : Nat), k ≤ a.length ∧ m = a.length - k ∧ i = .int .i64 (k : Int) ∧ v = .slice A (refAnd (a.take k) b).length c ∧ Row wr w.heap.size A c (refAnd (a.take k) b) ∧ Below w.heap.size w wr

theorem refAnd_yes (a b : List Int) (k : Nat) (h : k < a.length) (hm : decide (a[k] ∈ b) = true) : refAnd (a.take (k + 1)) b = refAnd (a.take k) b ++ [a[k]] := by
  unfold refAnd
  rw [List.take_succ_eq_append_getElem h, List.filter_append, List.filter_cons, if_pos hm]
  rfl
theorem refAnd_no (a b : List Int) (k : Nat) (h : k < a.length) (hm : decide (a[k] ∈ b) = false) : refAnd (a.take (k + 1)) b = refAnd (a.take k) b := by
  unfold refAnd
  rw [List.take_succ_eq_append_getElem h, List.filter_append, List.filter_cons, if_neg (by rw [hm]; decide)]
  simp
theorem refAnd_length (a b : List Int) : (refAnd a b).length ≤ a.length := List.length_filter_le _ _

theorem refAndSt_yes {w wr w1 : World} {a b : List Int} {k c : Nat} {A : Option Addr} {v1 : Value} {o : Obj} (h : k < a.length) (hm : decide (a[k] ∈ b) = true) (hrow : Row wr w.heap.size A c (refAnd (a.take k) b)) (hb : Below w.heap.size w wr)
    (hg : (wr.alloc o).grownBy w1 (Value.slice A (refAnd (a.take k) b).length c).ownBlock)
    (hown : w1.ownsRow w.heap.size 3 1 v1 ((refAnd (a.take k) b).length + 1) (ints (refAnd (a.take k) b) ++ [.int .i64 a[k]])) :
    RefAndSt w a b v1 (.int .i64 ((k : Int) + 1)) w1 (a.length - (k + 1)) := by
  obtain ⟨A1, c1, rfl⟩ := own_slice hown
  refine ⟨A1, c1, k + 1, by omega, rfl, by simp, by rw [refAnd_yes a b k h hm]; simp, ?_, (hb.alloc hb.size o).grown hg (by have := hb.size; simp; omega) (fun j hj => (World.ownsRow.lt hrow j hj).1)⟩
  rw [refAnd_yes a b k h hm]
  unfold Row
  rw [ints_append, List.length_append]
  exact hown

set_option maxHeartbeats 1000000 in
theorem refAnd_any {w : World} {B1 B2 : Nat} {A B : Option Addr} {c d : Nat} {a b : List Int} (h : Reads w B1 1 A a.length (ints a)) (hB1 : B1 ≤ w.heap.size) (k : Reads w B2 1 B b.length (ints b)) (hB2 : B2 ≤ w.heap.size)
    (hl : a.length ≤ 1000000) (hl2 : b.length ≤ 1000000) :
    Calls Tryd.prog 13 #[.slice A a.length c, .slice B b.length d] w fun e w' => ∃ A' c', e = .returned (.slice A' (refAnd a b).length c') ∧ Row w' w.heap.size A' c' (refAnd a b) ∧ Below w.heap.size w w' := by
  obtain ⟨i0, hi, hz0, hz1, hz2⟩ := info_parts Tryd.info3
  have HR := Lib.hid h
  have KR := Lib.hid k
  clear h k
  go_enter Tryd.func13, Tryd.ntmps13
  go_wp2
  go_loopg [5, 6] a.length (fun m v i wr => RefAndSt w a b v i wr m)
  case atStart => exact ⟨none, 0, 0, Nat.zero_le _, rfl, rfl, rfl, World.ownsRow_nil _ _ _ _, Below.refl _ _⟩
  case round =>
    obtain ⟨A1, c1, k, hk, hm, rfl, rfl, hrow, hb⟩ := hrel
    have HM := Lib.hid hm
    have HO := Lib.hid hrow
    have HB := Lib.hid hb
    clear hm hrow hb
    by_cases hlt : k < a.length
    · obtain ⟨ad, u, rfl, hlo, hu, hcu⟩ := HR.out.at_ (k := k) hlt
      rw [ints_at _ _ hlt] at hu
      obtain rfl := Option.some.inj hu
      clear hu
      have hcu2 := (HB.out.cell (p := ad.add k) (by rw [block_of_add]; omega)).trans hcu
      have hal := refAnd_length (a.take k) b
      have htl : (a.take k).length ≤ k := List.length_take_le _ _
      have HH := Lib.hid (refHas_any (n := a[k]) (c := d) (KR.out.below (HB.out.mono hB2)) (by omega))
      clear hcu
      by_cases hm : decide (a[k] ∈ b) = true
      · have HX := Lib.hid (fun v1 w1 => refAndSt_yes (v1 := v1) (w1 := w1) (o := .cells #[.int .i64 a[k]] 3) hlt hm HO.out HB.out)
        rw [hm] at HH
        clear hm
        generalize a[k] = x at *
        go_wp2_with (first | (go_at_call 18; refine HH.out.mono ?_; rintro e w' ⟨rfl, rfl⟩) | (at_builtin; refine wpList_append_own _ rfl (.tmp 19) (.tmp 24) 22 rfl w.heap.size 3 i0 (.int .i64 0) 1 8 Tryd.underlying22 hi hz0 hz1 hz2 rfl (by decide) _ (refAnd (a.take k) b).length _ rfl (World.ownsRow.alloc HO.out _) ⟨wr.heap.size, 0, none⟩ 1 1 [.int .i64 x] rfl rfl ?c1 ?c2 ?c3 ?c4 ?c5 ?_))
        case c1 => exact cell_one_new _ _ _
        case c2 => intro u hu; simp at hu; subst hu; rfl
        case c3 => simp only [maxLen]; omega
        case c4 => omega
        case c5 => have := HB.out.size; simp; omega
        intro v1 w1 hown1 hg1 _
        have HX1 := Lib.hid (HX.out v1 w1 hg1 hown1)
        clear hown1 hg1 HX
        go_wp2
        go_roundg (a.length - (k + 1))
        case measure => have := HM.out; omega
        case rel => exact HX1.out
      · have hm : decide (a[k] ∈ b) = false := by simpa using hm
        have HS := Lib.hid (refAnd_no a b k hlt hm)
        rw [hm] at HH
        clear hm
        generalize a[k] = x at *
        go_wp2_with (go_at_call 18; refine HH.out.mono ?_; rintro e w' ⟨rfl, rfl⟩)
        go_roundg (a.length - (k + 1))
        case measure => have := HM.out; omega
        case rel => exact ⟨A1, c1, k + 1, by omega, rfl, by go_num, by rw [HS.out], by rw [HS.out]; exact HO.out, HB.out⟩
    · go_wp2
      go_ret
      refine ⟨A1, c1, ?_, ?_, HB.out⟩
      · rw [List.take_of_length_le (by omega)]; rfl
      · have := HO.out
        rwa [List.take_of_length_le (by omega)] at this

theorem reads_lit {w : World} {h : Nat} {xs : List Int} {t : TypeId} (hb : w.heap[h]? = some (.cells (ints xs).toArray t (0, 0))) : Reads w (h + 1) 1 (some ⟨h, 0, none⟩) xs.length (ints xs) := by
  refine ⟨by simp, fun _ => ⟨_, rfl, by simp, fun j u hu => ?_⟩⟩
  have := cell_of_row w h j (ints xs).toArray t (0, 0) hb
  have e : (⟨h, 0, none⟩ : Addr).add j = ⟨h, j, none⟩ := by unfold Addr.add; split <;> simp_all
  rw [e, this]
  simpa using hu

theorem known_new : newI [70, 3] = [8, 64] := by decide
theorem known_all : allTo [8, 64] 2 = [3, 70] := by decide

/-- A quiet call, and what it makes: true. -/
def Yes (w : World) (e : Ending) (w' : World) : Prop := e = .returned (.bool true) ∧ Below w.heap.size w w'

theorem below_drewN {B : Nat} {a w : World} (h : Below B a w) (n : Nat) : Below B a (w.drewN n) := ⟨h.os, h.tape, h.output, h.size, h.block⟩

def MadeSet (w : World) (ws : List Nat) (e : Ending) (w' : World) : Prop := ∃ g v, e = .returned (.pointer (some ⟨g, 0, none⟩)) ∧ SetAt w' w.heap.size g v ws ∧ Below w.heap.size w w'
def MadeRow (w : World) (xs : List Int) (e : Ending) (w' : World) : Prop := ∃ A c, e = .returned (.slice A xs.length c) ∧ Row w' w.heap.size A c xs ∧ Below w.heap.size w w'

theorem known_a (w W : World) (h : Nat) (hh : W.heap[h]? = some (.cells #[.int .i64 70, .int .i64 3] 3 (0, 0))) (hb : Below w.heap.size w W) :
    Calls Tryd.prog 7 #[.slice (some ⟨h, 0, none⟩) 2 2] W (MadeSet w [8, 64]) := by
  have hlt : h < W.heap.size := (Array.getElem?_eq_some_iff.1 hh).1
  have hr : Reads W (h + 1) 1 (some ⟨h, 0, none⟩) [(70 : Int), 3].length (ints [70, 3]) := reads_lit hh
  refine (new_any (some ⟨h, 0, none⟩) 2 (h + 1) [70, 3] W hr (by omega) (by simp)).mono ?_
  rintro e w1 ⟨rfl, v, hs, hb1⟩
  rw [known_new] at hs
  exact ⟨_, v, rfl, ⟨by have := hs.lo; have := hb.size; omega, hs.blk, (by
    have := hs.own
    refine ⟨this.1, ?_⟩
    rcases this.2 with h | ⟨g, cap, cur, e, hg, r⟩
    · exact .inl h
    · exact .inr ⟨g, cap, cur, e, by have := hb.size; omega, r⟩), hs.len, hs.ok⟩, hb.trans (hb1.mono hb.size)⟩
theorem known_b (w W : World) (g : Nat) (v : Value) (hs : SetAt W w.heap.size g v [8, 64]) (hT : Tab W) (hb : Below w.heap.size w W) :
    Calls Tryd.prog 12 #[.pointer (some ⟨g, 0, none⟩)] W (MadeRow w [3, 70]) := by
  refine (all_any (w := W) (.inr ⟨_, _, v, rfl, hs⟩) hT).mono ?_
  rintro e w2 ⟨A, c, rfl, hown, hb2⟩
  have hl : (allTo [8, 64] [8, 64].length).length = 2 := by decide
  have he : allTo [8, 64] [8, 64].length = [3, 70] := known_all
  rw [he] at hown
  rw [hl]
  refine ⟨A, c, rfl, ⟨hown.1, ?_⟩, hb.trans (hb2.mono hb.size)⟩
  rcases hown.2 with h | ⟨g, cap, cur, e, hg, r⟩
  · exact .inl h
  · exact .inr ⟨g, cap, cur, e, by have := hb.size; omega, r⟩
theorem known_c (w W : World) (A : Option Addr) (c h : Nat) (hrow : Row W w.heap.size A c [3, 70]) (hh : W.heap[h]? = some (.cells #[.int .i64 3, .int .i64 70] 3 (0, 0))) :
    Calls Tryd.prog 11 #[.slice A 2 c, .slice (some ⟨h, 0, none⟩) 2 2] W fun e w' => e = .returned (.bool true) ∧ ∃ n, w' = W.drewN n :=
  (sameI_any W _ _ A _ c 2 [3, 70] [3, 70] hrow.reads (reads_lit hh) (by simp) (by simp)).mono fun e w' ⟨he, hw⟩ => ⟨by rw [he]; rfl, hw⟩

set_option maxHeartbeats 1000000 in
theorem known_any (w : World) (hT : Tab w) : Calls Tryd.prog 15 #[] w (Yes w) := by
  have HT := Lib.hid hT
  clear hT
  go_enter Tryd.func15, Tryd.ntmps15
  go_wp2_with fail
  refine (known_a w _ w.heap.size (heap_alloc_new w _) ((Below.refl _ _).alloc (Nat.le_refl _) _)).mono ?_
  rintro e w1 ⟨g, v, rfl, hs, hb⟩
  have HS := Lib.hid hs
  have HB := Lib.hid hb
  clear hs hb
  go_wp2_with fail
  refine (known_b w w1 g v HS.out (HT.out.below HB.out) HB.out).mono ?_
  rintro e w2 ⟨A, c, rfl, hrow, hb⟩
  have HO := Lib.hid hrow
  have HB2 := Lib.hid hb
  clear hrow hb
  go_wp2_with fail
  refine (known_c w _ A c w2.heap.size (World.ownsRow.alloc HO.out _) (heap_alloc_new w2 _)).mono ?_
  rintro e w3 ⟨rfl, n, rfl⟩
  go_wp2
  go_ret
  exact ⟨rfl, below_drewN (HB2.out.alloc HB2.out.size _) _⟩
end Go.Proofs.YtgbkmlnecooeaaaDoor
