/- The walk over sibyllaw14.BitsAdds. -/
import Derived.Test.YtgbkmlnecooeaaaDoorLawBoth
import Derived.Deep.RegionHeld3
import Derived.Deep.DrawnRows
namespace Go.Proofs.YtgbkmlnecooeaaaDoor
open Go Go.RowKit
attribute [local go_sem ↓] Go.wp_at_zero Go.wp_at_succ

theorem own_heap {w w' : World} {base n : Nat} {e : TypeId} {v : Value} {xs : List Value} (h : w.ownsRow base e 1 v n xs) (hh : w'.heap = w.heap) : w'.ownsRow base e 1 v n xs := by
  obtain ⟨h1, h2⟩ := h
  refine ⟨h1, ?_⟩
  rcases h2 with h2 | ⟨g, cap, cur, e1, e2, e3, r⟩
  · exact .inl h2
  · exact .inr ⟨g, cap, cur, e1, e2, by rw [hh]; exact e3, r⟩
theorem SetAt.heap {w w' : World} {base g : Nat} {v : Value} {ws : List Nat} (h : SetAt w base g v ws) (hh : w'.heap = w.heap) : SetAt w' base g v ws :=
  ⟨h.lo, by unfold Blk; rw [hh]; exact h.blk, own_heap h.own hh, h.len, h.ok⟩
theorem Row.heap {w w' : World} {base : Nat} {A : Option Addr} {c : Nat} {xs : List Int} (h : Row w base A c xs) (hh : w'.heap = w.heap) : Row w' base A c xs := own_heap h hh
theorem own_own_ne {w : World} {b1 b2 n1 n2 : Nat} {e1 e2 : TypeId} {v1 v2 : Value} {xs ys : List Value} (h : w.ownsRow b1 e1 1 v1 n1 xs) (k : w.ownsRow b2 e2 1 v2 n2 ys) (hne : e1 ≠ e2) (j : Nat) (hj : v1.ownBlock = some j) : v2.ownBlock ≠ some j := by
  rcases h.2 with ⟨rfl, _⟩ | ⟨g, cap, cur, rfl, _, hg, _⟩
  · simp [Value.ownBlock] at hj
  · simp [Value.ownBlock] at hj
    subst hj
    exact own_blk_ne k hg (Ne.symm hne)

def AddsSt (w0 : World) (g : Nat) (more : List Int) (x i : Value) (W : World) (m : Nat) : Prop :=
  ∃ (v : Value) (ws : List Nat) (xs : List Int) (A : Option Addr) (c k : Nat), x = .slice A xs.length c ∧ i = .int .i64 (k : Int) ∧ k ≤ more.length ∧ m = more.length - k ∧ Good ws xs ∧ xs.length ≤ 100 + k ∧
    SetAt W w0.heap.size g v ws ∧ Row W w0.heap.size A c xs ∧ Tab W ∧ Below w0.heap.size w0 W

/-- What is there behind a call of Add on the set. -/
theorem adds_after {w0 W V W' : World} {g : Nat} {v : Value} {ws ws' : List Nat} {xs : List Int} {A : Option Addr} {c : Nat} (hh : V.heap = W.heap) (ho : V.os = W.os ∧ V.tape = W.tape ∧ V.output = W.output)
    (hs : SetAt W w0.heap.size g v ws) (hr : Row W w0.heap.size A c xs) (hT : Tab W) (hb : Below w0.heap.size w0 W) (hp : 0 < w0.heap.size) (ha : Added V W' w0.heap.size g v ws') :
    ∃ v', SetAt W' w0.heap.size g v' ws' ∧ Row W' w0.heap.size A c xs ∧ Tab W' ∧ Below w0.heap.size w0 W' ∧ Below w0.heap.size V W' := by
  obtain ⟨v', hs', hf, _⟩ := ha
  have hVs := hs.heap hh
  have hbV : Below w0.heap.size w0 V := ⟨ho.1.trans hb.os, ho.2.1.trans hb.tape, ho.2.2.trans hb.output, by rw [hh]; exact hb.size, fun k hk => by rw [hh]; exact hb.block k hk⟩
  have hb2 : Below w0.heap.size V W' := hf.below (fun k hk hS => by have := (hVs.lt k hS).1; omega) hbV.size
  refine ⟨v', hs', hf.own (hr.heap hh) ?_, ?_, hbV.trans hb2, hb2⟩
  · rintro k hk (rfl | hv)
    · exact own_blk_ne (hr.heap hh) hVs.blk (by decide) hk
    · exact own_own_ne (hr.heap hh) hVs.own (by decide) k hk hv
  · intro j hj
    have e : V.cell? ⟨0, j, none⟩ = W.cell? ⟨0, j, none⟩ := by simp [World.cell?, hh]
    exact (hb2.cell (p := ⟨0, j, none⟩) hp).trans (e.trans (hT j hj))

theorem below_heap {B : Nat} {a w w' : World} (h : Below B a w) (hh : w'.heap = w.heap) (h1 : w'.os = w.os) (h2 : w'.tape = w.tape) (h3 : w'.output = w.output) : Below B a w' :=
  ⟨h1.trans h.os, h2.trans h.tape, h3.trans h.output, by rw [hh]; exact h.size, fun k hk => by rw [hh]; exact h.block k hk⟩

theorem adds_long (A B : Option Addr) (n m c d : Nat) (w : World) (h : 100 < n ∨ 100 < m) (h1 : n ≤ 9223372036854775807) (h2 : m ≤ 9223372036854775807) :
    Calls Tryd.prog 4 #[.slice A n c, .slice B m d] w (Yes w) := by
  rcases Nat.lt_or_ge 100 n with hn | hn
  · go_enter Tryd.func4, Tryd.ntmps4
    go_wp2_with fail
    go_ret
    exact ⟨rfl, Below.refl _ _⟩
  · have hm : 100 < m := by omega
    go_enter Tryd.func4, Tryd.ntmps4
    go_wp2_with fail
    go_ret
    exact ⟨rfl, Below.refl _ _⟩

/-- Add on the set, and a cell below the set's blocks that stays. -/
theorem add_cell {W V : World} {base g : Nat} {v : Value} {ws : List Nat} (h : SetAt W base g v ws) (hV : V.heap = W.heap) (x : Int) {p : Addr} (hp : p.block < base) {u : Value} (hu : W.cell? p = some u) :
    Calls Tryd.prog 14 #[.pointer (some ⟨g, 0, none⟩), .int .i64 x] V fun e w' => e = .returned (.bool (addI ws x).2) ∧ Added V w' base g v (addI ws x).1 ∧ w'.cell? p = some u := by
  refine (add_any (h.heap hV) x).mono ?_
  rintro e w' ⟨he, ha⟩
  refine ⟨he, ha, ?_⟩
  obtain ⟨v', hs', hf, _⟩ := ha
  have hVs := h.heap hV
  have hb : Below base V w' := hf.below (fun k hk hS => by have := (hVs.lt k hS).1; omega) (by have := hVs.lo; have := hVs.blk.lt; omega)
  rw [hb.cell hp]
  have : V.cell? p = W.cell? p := by simp [World.cell?, hV]
  rw [this, hu]

set_option maxHeartbeats 4000000 in
theorem adds_law (A B : Option Addr) (c d : Nat) (l more : List Int) (w : World) (hr : Reads w w.heap.size 1 A l.length (ints l)) (hs : Reads w w.heap.size 1 B more.length (ints more)) (hT : Tab w)
    (hx : ∀ x ∈ more, x ≤ 9223372036854775807) (h1 : l.length ≤ 100) (h2 : more.length ≤ 100) :
    Calls Tryd.prog 4 #[.slice A l.length c, .slice B more.length d] w (Yes w) := by
  have HR := Lib.hid hr
  have KR := Lib.hid hs
  have HT := Lib.hid hT
  have HX := Lib.hid hx
  have G1 := Lib.hid (Good.new l)
  have l1 := refNew_length l
  have hp := Lib.hid hT.pos
  clear hr hs hT hx
  go_enter Tryd.func4, Tryd.ntmps4
  go_wp2_with fail
  refine (new_b HR.out (Nat.le_refl _) (by omega)).mono ?_
  rintro e w1 ⟨g1, v1, rfl, hs1, hb1⟩
  have S1 := Lib.hid hs1
  have B1 := Lib.hid hb1
  clear hs1 hb1
  go_wp2_with fail
  refine (refNew_b (HR.out.below B1.out) B1.out.size (by omega)).mono ?_
  rintro e w2 ⟨A2, c2, rfl, hr2, hb⟩
  have T1 := Lib.hid (S1.out.bel hb)
  have R2 := Lib.hid hr2
  have B2 := Lib.hid (bt B1.out hb)
  clear hr2 hb S1
  go_wp2_with fail
  go_loopg [6, 7] more.length (fun m x i W => AddsSt w g1 more x i W m)
  case atStart =>
    refine ⟨v1, newI l, refNew l, A2, c2, 0, rfl, rfl, Nat.zero_le _, rfl, G1.out, by omega, T1.out, ?_, HT.out.below B2.out, B2.out⟩
    have h := R2.out
    refine ⟨h.1, ?_⟩
    rcases h.2 with h | ⟨g, cap, cur, e1, e2, r⟩
    · exact .inl h
    · exact .inr ⟨g, cap, cur, e1, by have := B1.out.size; omega, r⟩
  case round =>
    obtain ⟨v, ws, xs, A0, c0, k, rfl, rfl, hk, hm, hg, hl, hset, hrow, htab, hbel⟩ := hrel
    have HM := Lib.hid hm
    have HG := Lib.hid hg
    have HS := Lib.hid hset
    have HO := Lib.hid hrow
    have HTb := Lib.hid htab
    have HB := Lib.hid hbel
    clear hm hg hset hrow htab hbel B1 B2 T1 R2
    by_cases hlt : k < more.length
    · obtain ⟨ad, u, rfl, hlo, hu, hcu⟩ := KR.out.at_ (k := k) hlt
      rw [ints_at _ _ hlt] at hu
      obtain rfl := Option.some.inj hu
      have hcu2 := (HB.out.cell (p := ad.add k) (by rw [block_of_add]; exact hlo)).trans hcu
      have hxle := HX.out _ (List.getElem_mem hlt)
      clear hu hcu
      generalize more[k] = x at *
      have hk0 : (0 : Int) ≤ (k : Int) := Int.natCast_nonneg _
      have hk1 : (k : Int) < (more.length : Int) := by omega
      go_wp2_with fail
      refine (refAdd_any HO.out HB.out.size (by omega)).mono ?_
      rintro e w3 ⟨A3, c3, rfl, hr3, hb3⟩
      have C3 := Lib.hid ((hb3.cell (p := ad.add k) (by rw [block_of_add]; have := HB.out.size; omega)).trans hcu2)
      have l3 := refAdd_length xs x
      have S3 := Lib.hid (HS.out.bel hb3)
      have O3 := Lib.hid (HO.out.below hb3)
      have R3 := Lib.hid hr3
      have T3 := Lib.hid (HTb.out.below hb3)
      have B3 := Lib.hid (HB.out.trans (hb3.mono HB.out.size))
      obtain ⟨hG2, hok⟩ := HG.out.add x
      have G2 := Lib.hid hG2
      clear hcu2 hr3 hb3 HS HO HTb HB hG2
      have HH1 := Lib.hid (fun (V : World) (hV : V.heap = w3.heap) => has_any (S3.out.heap hV) x hxle)
      have HH2 := Lib.hid (fun (V : World) (hV : V.heap = w3.heap) => refHas_any (n := x) (c := c0) ((O3.out.heap hV).reads) (by omega))
      have HA := Lib.hid (fun (V : World) (hV : V.heap = w3.heap) => add_cell S3.out hV x (p := ad.add k) (by rw [block_of_add]; exact hlo) C3.out)
      rw [HG.out.has] at HH2
      rw [hok] at HA
      have hb0 : ∀ b : Bool, (b != b) = false := by intro b; cases b <;> rfl
      have hb1 := hb0 (hasI ws x)
      have hb2 := hb0 (refAdd xs x).2
      have LO := Lib.hid (show (ad.add k).block < w.heap.size by rw [block_of_add]; exact hlo)
      clear hb0 hok
      generalize hasI ws x = p at *
      generalize hq : (refAdd xs x).2 = q at *
      clear hq
      have c3' := C3.out
      go_wp2_with fail
      go_region_held3 (fun w' => w'.cell? (ad.add k) = some (.int .i64 x)) (first | go_keep | exact hcell)
        (first
          | (go_at_call 17; refine (HH1.out _ ?_).mono ?_; (rfl); rintro e w' ⟨rfl, rfl⟩)
          | (go_at_call 18; refine (HH2.out _ ?_).mono ?_; (rfl); rintro e w' ⟨rfl, rfl⟩)
          | (go_at_call 14; refine (HA.out _ ?_).mono ?_; (rfl); rintro e w4 ⟨rfl, hadd, hcell⟩; have HD := Lib.hid hadd; clear hadd))
      all_goals go_wp2_with fail
      all_goals
        obtain ⟨v4, hs4, hr4, ht4, hb4, _⟩ := adds_after (by rfl) ⟨by rfl, by rfl, by rfl⟩ S3.out R3.out T3.out B3.out hp.out HD.out
        have S4 := Lib.hid hs4
        have R4 := Lib.hid hr4
        have T4 := Lib.hid ht4
        have B4 := Lib.hid hb4
        clear hs4 hr4 ht4 hb4 HD S3 R3 T3 B3 O3 HH1 HH2 HA C3 c3'
        have HH1 := Lib.hid (fun (V : World) (hV : V.heap = w4.heap) => has_any (S4.out.heap hV) x hxle)
        have HH2 := Lib.hid (fun (V : World) (hV : V.heap = w4.heap) => refHas_any (n := x) (c := c3) ((R4.out.heap hV).reads) (by omega))
        have HA := Lib.hid (fun (V : World) (hV : V.heap = w4.heap) => len_any (S4.out.heap hV).ptr)
        rw [G2.out.has] at HH2
        rw [G2.out.len] at HA
        have hb0 : ∀ b : Bool, (b != b) = false := by intro b; cases b <;> rfl
        have hb3 := hb0 (hasI (addI ws x).1 x)
        have hb4 : (((refAdd xs x).1.length : Int) != ((refAdd xs x).1.length : Int)) = false := by simp
        clear hb0
        generalize hasI (addI ws x).1 x = p2 at *
        go_region_held3 (fun w' => w'.cell? (ad.add k) = some (.int .i64 x)) (go_keep)
          (first
            | (go_at_call 17; refine (HH1.out _ ?_).mono ?_; (rfl); rintro e w' ⟨rfl, rfl⟩)
            | (go_at_call 18; refine (HH2.out _ ?_).mono ?_; (rfl); rintro e w' ⟨rfl, rfl⟩)
            | (go_at_call 19; refine (HA.out _ ?_).mono ?_; (rfl); rintro e w' ⟨rfl, rfl⟩))
        all_goals go_wp2_with fail
        all_goals
          go_roundg (more.length - (k + 1))
          case measure => have := HM.out; omega
          case rel => exact ⟨v4, (addI ws x).1, (refAdd xs x).1, A3, c3, k + 1, rfl, by go_num, by omega, rfl, G2.out, by omega, S4.out.heap (by rfl), R4.out.heap (by rfl), T4.out, below_heap B4.out (by rfl) (by rfl) (by rfl) (by rfl)⟩
    · go_wp2_with fail
      refine (all_b HS.out.ptr HTb.out HG.out).mono ?_
      rintro e w5 ⟨A5, c5, rfl, hr5, hb5⟩
      have R5 := Lib.hid hr5
      have B5 := Lib.hid (HB.out.trans (hb5.mono HB.out.size))
      have O5 := Lib.hid (HO.out.below hb5)
      have T5 := Lib.hid (HTb.out.below hb5)
      clear hr5 hb5 HB HO HTb HS
      go_wp2_with fail
      refine (sameI_b R5.out.reads O5.out.reads (by omega) (by omega) (decide_eq_true rfl)).mono ?_
      rintro e w6 ⟨rfl, hb6⟩
      have B6 := Lib.hid (B5.out.trans (hb6.mono B5.out.size))
      have T6 := Lib.hid (T5.out.below hb6)
      clear hb6 B5 T5 R5 O5
      go_wp2_with fail
      refine (known_any w6 T6.out).mono ?_
      rintro e w7 ⟨rfl, hb7⟩
      have B7 := Lib.hid (B6.out.trans (hb7.mono B6.out.size))
      clear hb7 B6 T6
      go_wp2
      go_ret
      exact ⟨rfl, B7.out⟩
end Go.Proofs.YtgbkmlnecooeaaaDoor
