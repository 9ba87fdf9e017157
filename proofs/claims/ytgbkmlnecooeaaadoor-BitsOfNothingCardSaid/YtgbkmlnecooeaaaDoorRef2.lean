/- The walks over sibylref14.New, Has and sibylref11.Same. -/
import Derived.Test.YtgbkmlnecooeaaaDoorRef
import Derived.Deep.QuietTactic
import Derived.BigQuiet
namespace Go.Proofs.YtgbkmlnecooeaaaDoor
open Go Go.RowKit

set_option maxHeartbeats 1000000 in
theorem refHas_any {w : World} {B : Nat} {A : Option Addr} {c : Nat} {xs : List Int} {n : Int} (h : Reads w B 1 A xs.length (ints xs)) (hl : xs.length ≤ 10000000) :
    Calls Tryd.prog 18 #[.slice A xs.length c, .int .i64 n] w fun e w' => e = .returned (.bool (decide (n ∈ xs))) ∧ w = w' := by
  have HR := Lib.hid h
  clear h
  generalize hb : decide (n ∈ xs) = b
  have HB := Lib.hid hb
  clear hb
  go_enter Tryd.func18, Tryd.ntmps18
  go_wp2
  go_loopg [5] xs.length (fun m i wr => wr = w ∧ ∃ k : Nat, k ≤ xs.length ∧ m = xs.length - k ∧ i = .int .i64 (k : Int) ∧ n ∉ xs.take k)
  case atStart => exact ⟨rfl, 0, Nat.zero_le _, rfl, rfl, by simp⟩
  case round =>
    obtain ⟨rfl, k, hk, hm, rfl, hn⟩ := hrel
    have HM := Lib.hid hm
    have HN := Lib.hid hn
    clear hm hn
    by_cases hlt : k < xs.length
    · obtain ⟨ad, u, rfl, _, hu, hcu⟩ := HR.out.at_ (k := k) hlt
      rw [ints_at _ _ hlt] at hu
      obtain rfl := Option.some.inj hu
      clear hu
      by_cases he : xs[k] = n
      · have hmem : n ∈ xs := by rw [← he]; exact List.getElem_mem hlt
        have HMEM := Lib.hid hmem
        have hbb : (xs[k] == n) = true := by simp [he]
        clear hmem he
        generalize xs[k] = x at *
        go_wp2
        go_ret
        exact ⟨by rw [← HB.out, decide_eq_true HMEM.out]; rfl, rfl⟩
      · have hmem : n ∉ xs.take (k + 1) := by
          rw [List.take_succ_eq_append_getElem hlt]
          simp only [List.mem_append, List.mem_singleton, not_or]
          exact ⟨HN.out, fun e => he e.symm⟩
        have HMEM := Lib.hid hmem
        have hbb : (xs[k] == n) = false := by simp [he]
        clear hmem he
        generalize xs[k] = x at *
        go_wp2
        go_roundg (xs.length - (k + 1))
        case measure => have := HM.out; omega
        case rel => exact ⟨rfl, k + 1, by omega, rfl, by go_num, HMEM.out⟩
    · go_wp2
      go_ret
      have hn := HN.out
      rw [List.take_of_length_le (by omega)] at hn
      exact ⟨by rw [← HB.out, decide_eq_false hn]; rfl, rfl⟩

def RefNewSt (w : World) (l : List Int) (v i : Value) (wr : World) (m : Nat) : Prop :=
  ∃ (A : Option Addr) (c k : Nat), k ≤ l.length ∧ m = l.length - k ∧ i = .int .i64 (k : Int) ∧ v = .slice A (refNew (l.take k)).length c ∧ Row wr w.heap.size A c (refNew (l.take k)) ∧ Below w.heap.size w wr

set_option maxHeartbeats 1000000 in
theorem refNew_any {w : World} {B : Nat} {A : Option Addr} {c : Nat} {l : List Int} (h : Reads w B 1 A l.length (ints l)) (hB : B ≤ w.heap.size) (hl : l.length ≤ 1000000) :
    Calls Tryd.prog 8 #[.slice A l.length c] w fun e w' => ∃ A' c', e = .returned (.slice A' (refNew l).length c') ∧ Row w' w.heap.size A' c' (refNew l) ∧ Below w.heap.size w w' := by
  have HR := Lib.hid h
  clear h
  go_enter Tryd.func8, Tryd.ntmps8
  go_wp2
  go_loopg [3, 4] l.length (fun m v i wr => RefNewSt w l v i wr m)
  case atStart => exact ⟨none, 0, 0, Nat.zero_le _, rfl, rfl, rfl, World.ownsRow_nil _ _ _ _, Below.refl _ _⟩
  case round =>
    obtain ⟨A1, c1, k, hk, hm, rfl, rfl, hrow, hb⟩ := hrel
    have HM := Lib.hid hm
    have HO := Lib.hid hrow
    have HB := Lib.hid hb
    clear hm hrow hb
    by_cases hlt : k < l.length
    · obtain ⟨ad, u, rfl, hlo, hu, hcu⟩ := HR.out.at_ (k := k) hlt
      rw [ints_at _ _ hlt] at hu
      obtain rfl := Option.some.inj hu
      clear hu
      have hcu2 := (HB.out.cell (p := ad.add k) (by rw [block_of_add]; omega)).trans hcu
      have hrl := refNew_length (l.take k)
      have htl : (l.take k).length ≤ k := List.length_take_le _ _
      have HA := Lib.hid (refAdd_any (n := l[k]) HO.out HB.out.size (by omega))
      have HS := Lib.hid (show refNew (l.take (k + 1)) = (refAdd (refNew (l.take k)) l[k]).1 by rw [List.take_succ_eq_append_getElem hlt, refNew_snoc])
      clear hcu
      generalize l[k] = x at *
      go_wp2_with fail
      refine HA.out.mono ?_
      rintro e w2 ⟨A2, c2, rfl, hrow2, hb2⟩
      have HO2 := Lib.hid hrow2
      have HB2 := Lib.hid hb2
      clear hrow2 hb2
      go_wp2
      go_roundg (l.length - (k + 1))
      case measure => have := HM.out; omega
      case rel =>
        refine ⟨A2, c2, k + 1, by omega, rfl, by go_num, by rw [HS.out], by rw [HS.out]; exact HO2.out, HB.out.trans (HB2.out.mono HB.out.size)⟩
    · go_wp2
      go_ret
      refine ⟨A1, c1, ?_, ?_, HB.out⟩
      · rw [List.take_of_length_le (by omega)]; rfl
      · have := HO.out
        rwa [List.take_of_length_le (by omega)] at this

theorem take_eq_stepI (xs ys : List Int) (k : Nat) (h1 : k < xs.length) (h2 : k < ys.length) (h : xs.take k = ys.take k) (he : xs[k] = ys[k]) : xs.take (k + 1) = ys.take (k + 1) := by
  rw [List.take_succ_eq_append_getElem h1, List.take_succ_eq_append_getElem h2, h, he]

set_option maxHeartbeats 1000000 in
theorem sameI_any (w : World) (B1 B2 : Nat) (A B : Option Addr) (c d : Nat) (xs ys : List Int) (hr : Reads w B1 1 A xs.length (ints xs)) (hs : Reads w B2 1 B ys.length (ints ys))
    (hl1 : xs.length ≤ 10000000) (hl2 : ys.length ≤ 10000000) :
    Calls Tryd.prog 11 #[.slice A xs.length c, .slice B ys.length d] w fun e w' => e = .returned (.bool (decide (xs = ys))) ∧ ∃ n, w' = w.drewN n := by
  have HR := Lib.hid hr
  have HS := Lib.hid hs
  clear hr hs
  by_cases hlen : xs.length = ys.length
  · have hb : ((xs.length : Int) != (ys.length : Int)) = false := by simp [hlen]
    have HL := Lib.hid hlen
    clear hlen
    go_enter Tryd.func11, Tryd.ntmps11
    go_wp2
    go_loopg [5] xs.length (fun n i wr => ∃ k : Nat, k ≤ xs.length ∧ n = xs.length - k ∧ i = .int .i64 k ∧ xs.take k = ys.take k ∧ ∃ j, wr = w.drewN j)
    case atStart => exact ⟨0, Nat.zero_le _, rfl, rfl, rfl, 0, rfl⟩
    case round =>
      obtain ⟨k, hk, hn, rfl, ht, j, rfl⟩ := hrel
      have HN := Lib.hid hn
      have HT := Lib.hid ht
      clear hn ht
      by_cases hlt : k < xs.length
      · have hlt2 : k < ys.length := by have := HL.out; omega
        obtain ⟨ad, u, rfl, _, hu, hcu⟩ := HR.out.at_ (k := k) hlt
        obtain ⟨ad2, u2, rfl, _, hu2, hcu2⟩ := HS.out.at_ (k := k) hlt2
        rw [ints_at _ _ hlt] at hu
        rw [ints_at _ _ hlt2] at hu2
        obtain rfl := Option.some.inj hu
        obtain rfl := Option.some.inj hu2
        clear hu hu2
        by_cases he : xs[k] = ys[k]
        · have HST := Lib.hid (take_eq_stepI xs ys k hlt hlt2 HT.out he)
          have hbb : (xs[k] != ys[k]) = false := by simp only [he]; simp
          clear he
          generalize xs[k] = x at *
          generalize ys[k] = y at *
          go_wp2_with fail
          go_quiet (fail)
          go_wp2
          go_roundg (xs.length - (k + 1))
          case measure => have := HN.out; omega
          case rel => exact ⟨k + 1, by omega, rfl, by go_num, HST.out, _, rfl⟩
        · have hbb : (xs[k] != ys[k]) = true := by simp only [bne_iff_ne]; exact he
          have hne : xs ≠ ys := fun e => he (by subst e; rfl)
          have HNE := Lib.hid hne
          clear he hne
          generalize xs[k] = x at *
          generalize ys[k] = y at *
          go_wp2_with fail
          go_quiet (fail)
          go_wp2
          go_ret
          exact ⟨by rw [decide_eq_false HNE.out]; rfl, _, World.drewN_drewN _ _ _⟩
      · go_wp2
        go_ret
        refine ⟨?_, _, rfl⟩
        have h1 := HT.out
        have h2 := HL.out
        rw [List.take_of_length_le (by omega), List.take_of_length_le (by omega)] at h1
        rw [decide_eq_true h1]
        rfl
  · have hb : ((xs.length : Int) != (ys.length : Int)) = true := by simp only [bne_iff_ne]; omega
    have hne : xs ≠ ys := fun e => hlen (by rw [e])
    have HNE := Lib.hid hne
    clear hlen hne
    go_enter Tryd.func11, Tryd.ntmps11
    go_wp2
    go_ret
    exact ⟨by rw [decide_eq_false HNE.out]; rfl, 0, rfl⟩
end Go.Proofs.YtgbkmlnecooeaaaDoor
