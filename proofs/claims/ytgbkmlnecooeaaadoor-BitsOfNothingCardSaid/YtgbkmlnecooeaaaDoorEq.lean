/- The walks over slices.Equal at []uint64, (*bits.Set).Same, sibylref11.Same. -/
import Derived.Test.YtgbkmlnecooeaaaDoorRow
namespace Go.Proofs.YtgbkmlnecooeaaaDoor
open Go Go.RowKit

theorem take_eq_step (xs ys : List Nat) (k : Nat) (h1 : k < xs.length) (h2 : k < ys.length) (h : xs.take k = ys.take k) (he : xs.getD k 0 = ys.getD k 0) : xs.take (k + 1) = ys.take (k + 1) := by
  rw [take_snoc xs k h1, take_snoc ys k h2, h]
  rw [getD_in _ _ h1, getD_in _ _ h2] at he
  rw [he]

set_option maxHeartbeats 1000000 in
theorem equal_any (w : World) (A B : Option Addr) (c d : Nat) (ws vs : List Nat) (hr : Reads w w.heap.size 1 A ws.length (u64s ws)) (hs : Reads w w.heap.size 1 B vs.length (u64s vs))
    (hl1 : ws.length ≤ 1563) (hl2 : vs.length ≤ 1563) :
    Calls Tryd.prog 25 #[.slice A ws.length c, .slice B vs.length d] w fun e w' => e = .returned (.bool (decide (ws = vs))) ∧ ∃ n, w' = w.drewN n := by
  have HR := Lib.hid hr
  have HS := Lib.hid hs
  clear hr hs
  by_cases hlen : ws.length = vs.length
  · have hb : ((ws.length : Int) != (vs.length : Int)) = false := by simp [hlen]
    have HL := Lib.hid hlen
    clear hlen
    go_enter Tryd.func25, Tryd.ntmps25
    go_wp2
    go_loopg [13] ws.length (fun n i wr => ∃ k : Nat, k ≤ ws.length ∧ n = ws.length - k ∧ i = .int .i64 k ∧ ws.take k = vs.take k ∧ ∃ j, wr = w.drewN j)
    case atStart => exact ⟨0, Nat.zero_le _, rfl, rfl, rfl, 0, rfl⟩
    case round =>
      obtain ⟨k, hk, hn, rfl, ht, j, rfl⟩ := hrel
      have HN := Lib.hid hn
      have HT := Lib.hid ht
      clear hn ht
      by_cases hlt : k < ws.length
      · have hlt2 : k < vs.length := by have := HL.out; omega
        obtain ⟨ad, u, rfl, _, hu, hcu⟩ := HR.out.at_ (k := k) hlt
        obtain ⟨ad2, u2, rfl, _, hu2, hcu2⟩ := HS.out.at_ (k := k) hlt2
        rw [u64s_at _ _ hlt] at hu
        rw [u64s_at _ _ hlt2] at hu2
        obtain rfl := Option.some.inj hu
        obtain rfl := Option.some.inj hu2
        clear hu hu2
        by_cases he : ws.getD k 0 = vs.getD k 0
        · have HST := Lib.hid (take_eq_step ws vs k hlt hlt2 HT.out he)
          have hbb : (((ws.getD k 0 : Nat) : Int) != ((vs.getD k 0 : Nat) : Int)) = false := by simp only [he]; simp
          clear he
          generalize ws.getD k 0 = x at *
          generalize vs.getD k 0 = y at *
          go_wp2_with fail
          go_quiet (fail)
          go_wp2
          go_roundg (ws.length - (k + 1))
          case measure => have := HN.out; omega
          case rel => exact ⟨k + 1, by omega, rfl, by go_num, HST.out, _, rfl⟩
        · have hbb : (((ws.getD k 0 : Nat) : Int) != ((vs.getD k 0 : Nat) : Int)) = true := by simp only [bne_iff_ne]; omega
          have hne : ws ≠ vs := fun e => he (by rw [e])
          have HNE := Lib.hid hne
          clear he hne
          generalize ws.getD k 0 = x at *
          generalize vs.getD k 0 = y at *
          go_wp2_with fail
          go_quiet (fail)
          go_wp2
          go_ret
          exact ⟨by rw [decide_eq_false HNE.out]; rfl, _, World.drewN_drewN _ _ _⟩
      · go_wp2
        go_ret
        refine ⟨?_, _, rfl⟩
        have h1 := HT.out
        have h2 := HL.out
        rw [List.take_of_length_le (by omega), List.take_of_length_le (by omega)] at h1
        rw [decide_eq_true h1]
        rfl
  · have hb : ((ws.length : Int) != (vs.length : Int)) = true := by simp only [bne_iff_ne]; omega
    have hne : ws ≠ vs := fun e => hlen (by rw [e])
    have HNE := Lib.hid hne
    clear hlen hne
    go_enter Tryd.func25, Tryd.ntmps25
    go_wp2
    go_ret
    exact ⟨by rw [decide_eq_false HNE.out]; rfl, 0, rfl⟩

theorem same_any {w : World} {P Q : Option Addr} {ws vs : List Nat} (h : PtrTo w P ws) (k : PtrTo w Q vs) :
    Calls Tryd.prog 20 #[.pointer P, .pointer Q] w fun e w' => e = .returned (.bool (decide (ws = vs))) ∧ ∃ n, w' = w.drewN n := by
  obtain ⟨A, c, hw, hr, _⟩ := h.words
  obtain ⟨B, d, kw, kr, _⟩ := k.words
  have HE := Lib.hid (equal_any w A B c d ws vs hr kr h.len k.len)
  have HW := Lib.hid hw
  have KW := Lib.hid kw
  clear hw hr kw kr h k
  generalize decide (ws = vs) = b at *
  go_enter Tryd.func20, Tryd.ntmps20
  go_wp2_with fail
  refine HW.out.mono ?_
  rintro e w' ⟨rfl, rfl⟩
  go_wp2_with fail
  refine KW.out.mono ?_
  rintro e w' ⟨rfl, rfl⟩
  go_wp2_with fail
  refine HE.out.mono ?_
  rintro e w' ⟨rfl, n, rfl⟩
  go_wp2
  go_ret
  exact ⟨rfl, n, rfl⟩
end Go.Proofs.YtgbkmlnecooeaaaDoor
