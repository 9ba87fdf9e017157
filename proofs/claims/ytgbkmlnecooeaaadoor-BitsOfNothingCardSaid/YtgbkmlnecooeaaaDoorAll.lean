/- The walks over (*bits.Set).Len, All, slices.Equal and Same. -/
import Derived.Test.YtgbkmlnecooeaaaDoorCount
import Derived.Deep.QuietTactic
import Derived.BigQuiet
namespace Go.Proofs.YtgbkmlnecooeaaaDoor
open Go Go.RowKit

/-- A pointer to a Set that reads as these words; nil reads as none. -/
def PtrTo (w : World) (P : Option Addr) (ws : List Nat) : Prop := (P = none ∧ ws = []) ∨ ∃ base g v, P = some ⟨g, 0, none⟩ ∧ SetAt w base g v ws
theorem PtrTo.len {w : World} {P : Option Addr} {ws : List Nat} (h : PtrTo w P ws) : ws.length ≤ 1563 := by
  rcases h with ⟨_, rfl⟩ | ⟨_, _, _, _, h⟩
  · simp
  · exact h.len
theorem PtrTo.ok {w : World} {P : Option Addr} {ws : List Nat} (h : PtrTo w P ws) : wOk ws := by
  rcases h with ⟨_, rfl⟩ | ⟨_, _, _, _, h⟩
  · intro u hu; simp at hu
  · exact h.ok
theorem PtrTo.words {w : World} {P : Option Addr} {ws : List Nat} (h : PtrTo w P ws) :
    ∃ A c, Calls Tryd.prog 21 #[.pointer P] w (fun e w' => e = .returned (.slice A ws.length c) ∧ w = w') ∧ Reads w w.heap.size 1 A ws.length (u64s ws) ∧ ws.length ≤ c := by
  rcases h with ⟨rfl, rfl⟩ | ⟨base, g, v, rfl, h⟩
  · exact ⟨none, 0, words_nil w, Reads.none_, Nat.le_refl _⟩
  · obtain ⟨A, c, rfl⟩ := h.slice
    refine ⟨A, c, words_some _ _ _ _ w (by simpa using h.blk.cell 0), Reads.of_own h.own, ?_⟩
    rcases h.own.2 with ⟨e, e2⟩ | ⟨g, cap, _, e, _, _, e2, _⟩
    · omega
    · injection e; omega
theorem PtrTo.has {w : World} {P : Option Addr} {ws : List Nat} (h : PtrTo w P ws) (x : Int) (hx : x ≤ 9223372036854775807) :
    Calls Tryd.prog 17 #[.pointer P, .int .i64 x] w fun e w' => e = .returned (.bool (hasI ws x)) ∧ w = w' := by
  rcases h with ⟨rfl, rfl⟩ | ⟨base, g, v, rfl, h⟩
  · have : hasI [] x = false := by unfold hasI wHas; simp
    rw [this]
    exact has_nil x w hx
  · exact has_any h x hx

set_option maxHeartbeats 1000000 in
theorem len_any {w : World} {P : Option Addr} {ws : List Nat} (h : PtrTo w P ws) :
    Calls Tryd.prog 19 #[.pointer P] w fun e w' => e = .returned (.int .i64 (lenTo ws ws.length : Nat)) ∧ w = w' := by
  obtain ⟨A, c, hw, hr, _⟩ := h.words
  have hl := h.len
  have HW := Lib.hid hw
  have HR := Lib.hid hr
  have HOK := Lib.hid h.ok
  clear hw hr h
  go_enter Tryd.func19, Tryd.ntmps19
  go_wp2_with (go_at_call 21; refine HW.out.mono ?_; rintro e w' ⟨rfl, rfl⟩)
  go_loopg [3, 9] ws.length (fun n m i wr => wr = w ∧ ∃ k : Nat, k ≤ ws.length ∧ n = ws.length - k ∧ i = .int .i64 k ∧ m = .int .i64 (lenTo ws k : Nat))
  case atStart => exact ⟨rfl, 0, Nat.zero_le _, rfl, rfl, rfl⟩
  case round =>
    obtain ⟨rfl, k, hk, hn, rfl, rfl⟩ := hrel
    have HN := Lib.hid hn
    clear hn
    by_cases hlt : k < ws.length
    · obtain ⟨ad, u, rfl, _, hu, hcu⟩ := HR.out.at_ (k := k) hlt
      rw [u64s_at _ _ hlt] at hu
      obtain rfl := Option.some.inj hu
      have hb1 := bc_le 64 (ws.getD k 0)
      have hb2 := lenTo_le ws k
      have HS := Lib.hid (lenTo_succ ws k)
      have hx := wOk_getD ws HOK.out k
      have HX := Lib.hid hx
      clear hx hu
      generalize hy : ws.getD k 0 = y at *
      generalize hz : bc 64 y = z at *
      have HZ := Lib.hid hz
      clear hz hy
      go_wp2_with (go_at_call 24; refine (ones_any y _ HX.out).mono ?_; rw [HZ.out]; rintro e w' ⟨rfl, rfl⟩)
      go_roundg (ws.length - (k + 1))
      case measure => have := HN.out; omega
      case rel => exact ⟨rfl, k + 1, by omega, rfl, by go_num, by rw [HS.out]; go_num⟩
    · go_wp2
      go_ret
      obtain rfl : k = ws.length := by omega
      exact ⟨rfl, rfl⟩
end Go.Proofs.YtgbkmlnecooeaaaDoor
