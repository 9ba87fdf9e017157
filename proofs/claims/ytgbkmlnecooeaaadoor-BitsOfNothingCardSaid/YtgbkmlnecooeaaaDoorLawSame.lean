/- The walk over sibyllaw14.BitsSame. -/
import Derived.Test.YtgbkmlnecooeaaaDoorRef3
import Derived.Test.YtgbkmlnecooeaaaDoorGood
namespace Go.Proofs.YtgbkmlnecooeaaaDoor
open Go Go.RowKit

theorem bt {a b c : World} (h : Below a.heap.size a b) (k : Below b.heap.size b c) : Below a.heap.size a c := h.trans (k.mono h.size)
theorem SetAt.bel {w w' : World} {base g : Nat} {v : Value} {ws : List Nat} (h : SetAt w base g v ws) (hb : Below w.heap.size w w') : SetAt w' base g v ws :=
  h.below hb (fun k hk => (h.lt k hk).2)
theorem SetAt.ptr {w : World} {base g : Nat} {v : Value} {ws : List Nat} (h : SetAt w base g v ws) : PtrTo w (some ⟨g, 0, none⟩) ws := .inr ⟨base, g, v, rfl, h⟩

theorem same_b {w : World} {P Q : Option Addr} {ws vs : List Nat} (h : PtrTo w P ws) (k : PtrTo w Q vs) {b : Bool} (hb : decide (ws = vs) = b) :
    Calls Tryd.prog 20 #[.pointer P, .pointer Q] w fun e w' => e = .returned (.bool b) ∧ Below w.heap.size w w' :=
  (same_any h k).mono fun _ _ ⟨he, n, hw⟩ => ⟨by rw [he, hb], by rw [hw]; exact below_drewN (Below.refl _ _) n⟩
theorem sameI_b {w : World} {B1 B2 : Nat} {A B : Option Addr} {c d : Nat} {xs ys : List Int} (hr : Reads w B1 1 A xs.length (ints xs)) (hs : Reads w B2 1 B ys.length (ints ys))
    (hl1 : xs.length ≤ 10000000) (hl2 : ys.length ≤ 10000000) {b : Bool} (hb : decide (xs = ys) = b) :
    Calls Tryd.prog 11 #[.slice A xs.length c, .slice B ys.length d] w fun e w' => e = .returned (.bool b) ∧ Below w.heap.size w w' :=
  (sameI_any w B1 B2 A B c d xs ys hr hs hl1 hl2).mono fun _ _ ⟨he, n, hw⟩ => ⟨by rw [he, hb], by rw [hw]; exact below_drewN (Below.refl _ _) n⟩
theorem new_b {w : World} {A : Option Addr} {c B : Nat} {xs : List Int} (hr : Reads w B 1 A xs.length (ints xs)) (hB : B ≤ w.heap.size) (hl : xs.length ≤ 1000000) :
    Calls Tryd.prog 7 #[.slice A xs.length c] w (MadeSet w (newI xs)) :=
  (new_any A c B xs w hr hB hl).mono fun _ _ ⟨he, v, hs, hb⟩ => ⟨_, v, he, hs, hb⟩
theorem refNew_b {w : World} {A : Option Addr} {c B : Nat} {xs : List Int} (hr : Reads w B 1 A xs.length (ints xs)) (hB : B ≤ w.heap.size) (hl : xs.length ≤ 1000000) :
    Calls Tryd.prog 8 #[.slice A xs.length c] w (MadeRow w (refNew xs)) := refNew_any hr hB hl
theorem or_b {w : World} {P Q : Option Addr} {ws vs : List Nat} (h : PtrTo w P ws) (k : PtrTo w Q vs) :
    Calls Tryd.prog 9 #[.pointer P, .pointer Q] w (MadeSet w (orW ws vs)) := or_any h k
theorem and_b {w : World} {P Q : Option Addr} {ws vs : List Nat} (h : PtrTo w P ws) (k : PtrTo w Q vs) :
    Calls Tryd.prog 10 #[.pointer P, .pointer Q] w (MadeSet w (andW ws vs)) := and_any h k
theorem all_b {w : World} {P : Option Addr} {ws : List Nat} {xs : List Int} (h : PtrTo w P ws) (hT : Tab w) (hg : Good ws xs) :
    Calls Tryd.prog 12 #[.pointer P] w (MadeRow w xs) := by
  refine (all_any h hT).mono ?_
  rintro e w' ⟨A, c, rfl, hown, hb⟩
  have e1 := hg.all
  have e2 : (allTo ws ws.length).length = xs.length := by rw [← e1, List.length_map]
  refine ⟨A, c, by rw [e2], ?_, hb⟩
  rw [e2] at hown
  unfold nats at hown
  rw [e1] at hown
  exact hown

theorem or_self (l : List Int) : decide (newI l = orW (newI l) (newI l)) = true := by
  have h := Good.new l
  refine decide_eq_true (norm_ext _ _ h.ok (wOk_orW _ _ h.ok h.ok) h.norm (norm_orW _ _ h.norm h.norm) fun n => ?_)
  rw [wHas_orW, Bool.or_self]
theorem and_self (l : List Int) : decide (newI l = andW (newI l) (newI l)) = true := by
  have h := Good.new l
  refine decide_eq_true (norm_ext _ _ h.ok (h.and h).ok h.norm (norm_trimW _) fun n => ?_)
  rw [wHas_andW, Bool.and_self]

theorem same_long (A B : Option Addr) (n m c d : Nat) (w : World) (h : 100 < n ∨ 100 < m) (h1 : n ≤ 9223372036854775807) (h2 : m ≤ 9223372036854775807) :
    Calls Tryd.prog 5 #[.slice A n c, .slice B m d] w (Yes w) := by
  rcases Nat.lt_or_ge 100 n with hn | hn
  · go_enter Tryd.func5, Tryd.ntmps5
    go_wp2_with fail
    go_ret
    exact ⟨rfl, Below.refl _ _⟩
  · have hm : 100 < m := by omega
    go_enter Tryd.func5, Tryd.ntmps5
    go_wp2_with fail
    go_ret
    exact ⟨rfl, Below.refl _ _⟩

set_option maxHeartbeats 2000000 in
theorem same_law (A B : Option Addr) (c d : Nat) (xs ys : List Int) (w : World) (hr : Reads w w.heap.size 1 A xs.length (ints xs)) (hs : Reads w w.heap.size 1 B ys.length (ints ys)) (hT : Tab w)
    (h1 : xs.length ≤ 100) (h2 : ys.length ≤ 100) :
    Calls Tryd.prog 5 #[.slice A xs.length c, .slice B ys.length d] w (Yes w) := by
  have HR := Lib.hid hr
  have KR := Lib.hid hs
  have HT := Lib.hid hT
  have G1 := Lib.hid (Good.new xs)
  have G2 := Lib.hid (Good.new ys)
  have l1 := refNew_length xs
  have l2 := refNew_length ys
  obtain ⟨p, hp⟩ : ∃ p, decide (newI xs = newI ys) = p := ⟨_, rfl⟩
  have HP := Lib.hid hp
  have HP2 := Lib.hid (show decide (newI ys = newI xs) = p by rw [← hp]; exact decide_eq_decide.2 ⟨Eq.symm, Eq.symm⟩)
  have HP3 := Lib.hid (show decide (refNew xs = refNew ys) = p by rw [← hp]; exact ((Good.new xs).same (Good.new ys)).symm)
  have hpp : (p == p) = true := by simp
  clear hr hs hT hp
  go_enter Tryd.func5, Tryd.ntmps5
  go_wp2_with fail
  refine (new_b HR.out (Nat.le_refl _) (by omega)).mono ?_
  rintro e w1 ⟨g1, v1, rfl, hs1, hb1⟩
  have S1 := Lib.hid hs1
  have B1 := Lib.hid hb1
  clear hs1 hb1
  go_wp2_with fail
  refine (new_b (KR.out.below B1.out) B1.out.size (by omega)).mono ?_
  rintro e w2 ⟨g2, v2, rfl, hs2, hb2⟩
  have S2 := Lib.hid hs2
  have B2 := Lib.hid (bt B1.out hb2)
  have C1 := Lib.hid hb2
  clear hs2 hb2
  go_wp2_with fail
  refine (same_b (S1.out.bel C1.out).ptr S2.out.ptr HP.out).mono ?_
  rintro e w3 ⟨rfl, hb⟩
  have B3 := Lib.hid (bt B2.out hb)
  have T1 := Lib.hid ((S1.out.bel C1.out).bel hb)
  have T2 := Lib.hid (S2.out.bel hb)
  clear hb S1 S2 C1 B2 B1
  go_wp2_with fail
  refine (refNew_b (HR.out.below B3.out) B3.out.size (by omega)).mono ?_
  rintro e w4 ⟨A4, c4, rfl, hr4, hb⟩
  have B4 := Lib.hid (bt B3.out hb)
  have U1 := Lib.hid (T1.out.bel hb)
  have U2 := Lib.hid (T2.out.bel hb)
  have R4 := Lib.hid hr4
  clear hb hr4 T1 T2 B3
  go_wp2_with fail
  refine (refNew_b (KR.out.below B4.out) B4.out.size (by omega)).mono ?_
  rintro e w5 ⟨A5, c5, rfl, hr5, hb⟩
  have B5 := Lib.hid (bt B4.out hb)
  have T1 := Lib.hid (U1.out.bel hb)
  have T2 := Lib.hid (U2.out.bel hb)
  have Q4 := Lib.hid (R4.out.below hb)
  have R5 := Lib.hid hr5
  clear hb hr5 U1 U2 B4 R4
  go_wp2_with fail
  refine (sameI_b Q4.out.reads R5.out.reads (by omega) (by omega) HP3.out).mono ?_
  rintro e w6 ⟨rfl, hb⟩
  have B6 := Lib.hid (bt B5.out hb)
  have U1 := Lib.hid (T1.out.bel hb)
  have U2 := Lib.hid (T2.out.bel hb)
  clear hb T1 T2 B5 Q4 R5
  go_wp2_with fail
  refine (same_b U1.out.ptr U2.out.ptr HP.out).mono ?_
  rintro e w7 ⟨rfl, hb⟩
  have B7 := Lib.hid (bt B6.out hb)
  have T1 := Lib.hid (U1.out.bel hb)
  have T2 := Lib.hid (U2.out.bel hb)
  clear hb U1 U2 B6
  go_wp2_with fail
  refine (same_b T2.out.ptr T1.out.ptr HP2.out).mono ?_
  rintro e w8 ⟨rfl, hb⟩
  have B8 := Lib.hid (bt B7.out hb)
  have U1 := Lib.hid (T1.out.bel hb)
  clear hb T1 T2 B7
  go_wp2_with fail
  refine (or_b U1.out.ptr U1.out.ptr).mono ?_
  rintro e w9 ⟨g9, v9, rfl, hs9, hb⟩
  have B9 := Lib.hid (bt B8.out hb)
  have T1 := Lib.hid (U1.out.bel hb)
  have S9 := Lib.hid hs9
  clear hb U1 B8 hs9
  go_wp2_with fail
  refine (same_b T1.out.ptr S9.out.ptr (or_self xs)).mono ?_
  rintro e w10 ⟨rfl, hb⟩
  have B10 := Lib.hid (bt B9.out hb)
  have U1 := Lib.hid (T1.out.bel hb)
  clear hb T1 S9 B9
  go_wp2_with fail
  refine (and_b U1.out.ptr U1.out.ptr).mono ?_
  rintro e w11 ⟨g11, v11, rfl, hs11, hb⟩
  have B11 := Lib.hid (bt B10.out hb)
  have T1 := Lib.hid (U1.out.bel hb)
  have S11 := Lib.hid hs11
  clear hb U1 B10 hs11
  go_wp2_with fail
  refine (same_b T1.out.ptr S11.out.ptr (and_self xs)).mono ?_
  rintro e w12 ⟨rfl, hb⟩
  have B12 := Lib.hid (bt B11.out hb)
  clear hb T1 S11 B11
  go_wp2_with fail
  refine (known_any w12 (HT.out.below B12.out)).mono ?_
  rintro e w13 ⟨rfl, hb⟩
  have B13 := Lib.hid (bt B12.out hb)
  clear hb B12
  go_wp2
  go_ret
  exact ⟨rfl, B13.out⟩
end Go.Proofs.YtgbkmlnecooeaaaDoor
