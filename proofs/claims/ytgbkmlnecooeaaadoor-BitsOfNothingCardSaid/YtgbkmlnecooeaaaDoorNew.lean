/- The walks over bits.Add (every case) and bits.New. -/
import Derived.Test.YtgbkmlnecooeaaaDoorSets
namespace Go.Proofs.YtgbkmlnecooeaaaDoor
open Go Go.RowKit

def ints (xs : List Int) : List Value := xs.map (Value.int .i64)
@[simp] theorem ints_length (xs : List Int) : (ints xs).length = xs.length := by simp [ints]
theorem ints_append (a b : List Int) : ints (a ++ b) = ints a ++ ints b := by simp [ints]
theorem ints_at (xs : List Int) (i : Nat) (h : i < xs.length) : (ints xs)[i]? = some (.int .i64 xs[i]) := by simp [ints, h]

theorem add_nil (x : Int) (w : World) : Calls Tryd.prog 14 #[.pointer none, .int .i64 x] w fun e w' => e = .returned (.bool false) ∧ w = w' := by
  go_enter Tryd.func14, Tryd.ntmps14
  go_wp2_with fail
  go_ret
  exact ⟨rfl, rfl⟩

theorem add_neg (g : Nat) (x : Int) (w : World) (h : x < 0) : Calls Tryd.prog 14 #[.pointer (some ⟨g, 0, none⟩), .int .i64 x] w fun e w' => e = .returned (.bool false) ∧ w = w' := by
  go_enter Tryd.func14, Tryd.ntmps14
  go_wp2_with fail
  go_ret
  exact ⟨rfl, rfl⟩

theorem add_big (g : Nat) (x : Int) (w : World) (h0 : 0 ≤ x) (h : 100000 < x) : Calls Tryd.prog 14 #[.pointer (some ⟨g, 0, none⟩), .int .i64 x] w fun e w' => e = .returned (.bool false) ∧ w = w' := by
  go_enter Tryd.func14, Tryd.ntmps14
  go_wp2_with fail
  go_ret
  exact ⟨rfl, rfl⟩

theorem add_old (g : Nat) (x : Int) (w : World) (h0 : 0 ≤ x) (h : x ≤ 100000)
    (hh : Calls Tryd.prog 17 #[.pointer (some ⟨g, 0, none⟩), .int .i64 x] w fun e w' => e = .returned (.bool true) ∧ w = w') :
    Calls Tryd.prog 14 #[.pointer (some ⟨g, 0, none⟩), .int .i64 x] w fun e w' => e = .returned (.bool false) ∧ w = w' := by
  have HH := Lib.hid hh
  clear hh
  go_enter Tryd.func14, Tryd.ntmps14
  go_wp2_with (go_at_call 17; refine HH.out.mono ?_; rintro e w' ⟨rfl, rfl⟩)
  go_ret
  exact ⟨rfl, rfl⟩

theorem add_any {w : World} {base g : Nat} {v : Value} {ws : List Nat} (h : SetAt w base g v ws) (x : Int) :
    Calls Tryd.prog 14 #[.pointer (some ⟨g, 0, none⟩), .int .i64 x] w fun e w' => e = .returned (.bool (addI ws x).2) ∧ Added w w' base g v (addI ws x).1 := by
  have same : ∀ e w', (e = Ending.returned (.bool false) ∧ w = w') → addI ws x = (ws, false) → e = .returned (.bool (addI ws x).2) ∧ Added w w' base g v (addI ws x).1 := by
    rintro e w' ⟨rfl, rfl⟩ e2
    rw [e2]
    exact ⟨rfl, v, h, Fr.refl _ _, .inl rfl⟩
  by_cases h0 : x < 0
  · exact (add_neg g x w h0).mono fun e w' hq => same e w' hq (addI_no _ _ (.inl h0))
  by_cases h1 : 100000 < x
  · exact (add_big g x w (by omega) h1).mono fun e w' hq => same e w' hq (addI_no _ _ (.inr (.inl h1)))
  have hc := has_any h x (by omega)
  by_cases h2 : hasI ws x = true
  · rw [h2] at hc
    exact (add_old g x w (by omega) (by omega) hc).mono fun e w' hq => same e w' hq (addI_no _ _ (.inr (.inr h2)))
  · have h2 : hasI ws x = false := by simpa using h2
    obtain ⟨A, c, rfl⟩ := h.slice
    obtain ⟨n, rfl⟩ := Int.eq_ofNat_of_zero_le (by omega : 0 ≤ x)
    rw [addI_eq _ _ (by omega) (by omega) h2]
    exact add_new base g A c n ws w h (by omega) h2

def NewSt (w : World) (xs : List Int) (i : Value) (wr : World) (n : Nat) : Prop :=
  ∃ k v, k ≤ xs.length ∧ i = .int .i64 (k : Int) ∧ n = xs.length - k ∧ SetAt wr w.heap.size w.heap.size v (newI (xs.take k)) ∧ Below w.heap.size w wr

theorem newSt_step {w wr w' : World} {xs : List Int} {k : Nat} {v : Value} (hk : k < xs.length) (hs : SetAt wr w.heap.size w.heap.size v (newI (xs.take k))) (hb : Below w.heap.size w wr)
    (ha : Added wr w' w.heap.size w.heap.size v (addI (newI (xs.take k)) xs[k]).1) : NewSt w xs (.int .i64 ((k : Int) + 1)) w' (xs.length - (k + 1)) := by
  obtain ⟨v', hs', hf, _⟩ := ha
  refine ⟨k + 1, v', hk, by simp, rfl, ?_, hb.trans (hf.below (fun j hj hS => ?_) hb.size)⟩
  · rw [take_snoc xs k hk, newI_snoc]; exact hs'
  · have := (hs.lt j hS).1; omega

set_option maxHeartbeats 1000000 in
theorem new_any (A : Option Addr) (c B : Nat) (xs : List Int) (w : World) (hr : Reads w B 1 A xs.length (ints xs)) (hB : B ≤ w.heap.size) (hl : xs.length ≤ 1000000) :
    Calls Tryd.prog 7 #[.slice A xs.length c] w fun e w' => e = .returned (.pointer (some ⟨w.heap.size, 0, none⟩)) ∧ ∃ v, SetAt w' w.heap.size w.heap.size v (newI xs) ∧ Below w.heap.size w w' := by
  have HR := Lib.hid hr
  clear hr
  go_enter Tryd.func7, Tryd.ntmps7
  go_wp2
  go_loopg [10] (xs.length) (fun n i wr => NewSt w xs i wr n)
  case atStart =>
    refine ⟨0, .slice none 0 0, Nat.zero_le _, rfl, rfl, ⟨Nat.le_refl _, Blk.new _ _ _, World.ownsRow_nil _ _ _ _, by simp [newI], by intro u hu; simp [newI] at hu⟩, (Below.refl _ _).alloc (Nat.le_refl _) _⟩
  case round =>
    obtain ⟨k, v, hk, rfl, hn, hs, hb⟩ := hrel
    have HN := Lib.hid hn
    have HS := Lib.hid hs
    have HB := Lib.hid hb
    clear hn hs hb
    by_cases hlt : k < xs.length
    · obtain ⟨ad, u, rfl, hlo, hu, hcu⟩ := HR.out.at_ (k := k) hlt
      rw [ints_at _ _ hlt] at hu
      obtain rfl := Option.some.inj hu
      have hc := (HB.out.cell (p := ad.add k) (by rw [block_of_add]; omega)).trans hcu
      clear hcu
      generalize hx : xs[k] = x at *
      have HX := Lib.hid hx
      clear hx hu
      go_wp2_with (go_at_call 14; refine (add_any HS.out x).mono ?_; rintro e w' ⟨rfl, ha⟩; have HA := Lib.hid ha; clear ha)
      go_roundg (xs.length - (k + 1))
      case measure => have := HN.out; omega
      case rel =>
        have hx := HX.out
        subst hx
        exact newSt_step hlt HS.out HB.out HA.out
    · go_wp2
      go_ret
      refine ⟨rfl, v, ?_, HB.out⟩
      have := HS.out
      rwa [List.take_of_length_le (by omega)] at this
end Go.Proofs.YtgbkmlnecooeaaaDoor
