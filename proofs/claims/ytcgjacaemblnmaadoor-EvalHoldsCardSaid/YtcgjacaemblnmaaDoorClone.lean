/- The walk over slices.Clone at []int; the slice grown by one. -/
import Derived.Test.YtcgjacaemblnmaaDoorAnyI
import Derived.Test.YtcgjacaemblnmaaDoorApp
namespace Go.Proofs.YtcgjacaemblnmaaDoor
open Go Go.RowKit

theorem Tryd.info3 : (Tryd.prog.info? 3).map (fun i => (i.zero, i.size, i.bytes)) = some (some (.int .i64 0), 1, 8) := by kernel_rfl
theorem und25 : Tryd.prog.underlying 25 = some (.slice 3) := by kernel_rfl
/-- Ints as cells. -/
def i64s (xs : List Int) : List Value := xs.map fun x => .int .i64 x
theorem i64s_length (xs : List Int) : (i64s xs).length = xs.length := by simp [i64s]
theorem i64s_one (xs : List Int) : ∀ u ∈ i64s xs, u.oneCell' = true := by
  intro u hu
  simp [i64s] at hu
  obtain ⟨n, _, rfl⟩ := hu
  rfl
theorem own_slice {w : World} {base n : Nat} {e : TypeId} {v : Value} {xs : List Value} (h : w.ownsRow base e 1 v n xs) : ∃ A c, v = .slice A n c := by
  rcases h.2 with ⟨rfl, rfl⟩ | ⟨g, cap, _, rfl, _⟩
  · exact ⟨_, _, rfl⟩
  · exact ⟨_, _, rfl⟩
theorem reads_of_ints {w : World} {B : Nat} {A : Option Addr} {xs : List Int} (h : IntsAt w B A xs) : Reads w B 1 A xs.length (i64s xs) := by
  refine ⟨by simp [i64s_length], fun h0 => ?_⟩
  obtain ⟨b, off, e, hlt, hc⟩ := h h0
  refine ⟨_, e, hlt, fun j u hu => ?_⟩
  have hj : j < xs.length := by
    have := (List.getElem?_eq_some_iff.1 hu).1
    rwa [i64s_length] at this
  have e1 : u = .int .i64 xs[j] := by
    rw [List.getElem?_eq_getElem (by rw [i64s_length]; exact hj)] at hu
    simp [i64s] at hu
    exact hu.symm
  rw [e1]
  have := hc j hj
  unfold Addr.add
  split
  · next h => subst h; exact this
  · exact this
theorem ints_of_own {w : World} {base n c : Nat} {A : Option Addr} {xs : List Int} (h : w.ownsRow base 3 1 (.slice A n c) n (i64s xs)) : IntsAt w w.heap.size A xs := by
  intro h0
  have hn : xs.length = n := by have := h.1; rwa [i64s_length, Nat.mul_one] at this
  have hr := Reads.of_own h
  obtain ⟨g, cap, hv, _, hlt⟩ := h.form (by omega)
  have hA : A = some ⟨g, 0, none⟩ := by injection hv
  subst hA
  refine ⟨g, 0, rfl, hlt, fun j hj => ?_⟩
  have := h.cells (g := g) rfl j (.int .i64 xs[j]) (by simp [i64s, hj])
  rw [Nat.zero_add]
  unfold Addr.add at this
  split at this
  · next h => subst h; exact this
  · simpa using this

theorem clone_nil (c : Nat) (w : World) : Calls Tryd.prog 43 #[.slice none 0 c] w fun e w' => e = .returned (.slice none 0 0) ∧ w = w' := by
  have hn := Lib.run_eql_slice_nil (P := Tryd.prog) w 25 3 none 0 c 0 0 und25
  go_enter Tryd.func43, Tryd.ntmps43
  go_wp2
  go_ret
  exact ⟨rfl, rfl⟩
set_option maxHeartbeats 1000000 in
theorem clone_any {w : World} {A : Option Addr} {c : Nat} {xs : List Int} (hr : Reads w w.heap.size 1 A xs.length (i64s xs)) (hl : xs.length ≤ 1000) :
    Calls Tryd.prog 43 #[.slice A xs.length c] w fun e w' => ∃ A' c', e = .returned (.slice A' xs.length c') ∧ w'.ownsRow w.heap.size 3 1 (.slice A' xs.length c') xs.length (i64s xs) ∧ Below w.heap.size w w' := by
  rcases A with _ | ad
  · have h0 : xs.length = 0 := by
      rcases Nat.eq_zero_or_pos xs.length with h | h
      · exact h
      · obtain ⟨_, h, _⟩ := hr.2 h; cases h
    obtain rfl := List.eq_nil_of_length_eq_zero h0
    refine (clone_nil c w).mono ?_
    rintro e w' ⟨rfl, rfl⟩
    exact ⟨none, 0, rfl, World.ownsRow_nil _ _ _ _, Below.refl _ _⟩
  · obtain ⟨i0, hi, hz0, hz1, hz2⟩ := info_parts Tryd.info3
    have hn := Lib.run_eql_slice_nil (P := Tryd.prog) w 25 3 (some ad) xs.length c 0 0 und25
    have HR := Lib.hid hr
    clear hr
    go_enter Tryd.func43, Tryd.ntmps43
    go_wp2_with (at_builtin; refine wpList_append_any _ rfl (.tmp 5) (.tmp 6) 25 rfl w.heap.size 3 i0 (.int .i64 0) 1 8 und25 hi hz0 hz1 hz2 rfl (by decide) (.slice (some ⟨w.heap.size, 0, none⟩) 0 0) 0 [] rfl ?c0 w.heap.size (some ad) xs.length c (i64s xs) rfl ?c1 ?c2 ?c3 ?c4 ?c5 ?_)
    case c0 => exact own_of_heap (heap_alloc_new w _) (Nat.le_refl _)
    case c1 => exact HR.out.below ((Below.refl _ _).alloc (Nat.le_refl _) _)
    case c2 => exact i64s_one xs
    case c3 => simp only [maxLen]; omega
    case c4 => omega
    case c5 => exact Nat.le_of_lt (by show _ < (w.heap.push _).size; simp)
    intro v1 w1 hown1 hg1 _
    try simp only [Nat.zero_add, List.nil_append] at hown1
    obtain ⟨A1, c1, rfl⟩ := own_slice hown1
    have HO1 := Lib.hid hown1
    have HG1 := Lib.hid hg1
    clear hown1 hg1
    go_wp2
    go_ret
    exact ⟨A1, c1, rfl, HO1.out, ((Below.refl _ _).alloc (Nat.le_refl _) _).grown HG1.out (by simp) (by intro k hk; simp [Value.ownBlock] at hk; omega)⟩
end Go.Proofs.YtcgjacaemblnmaaDoor
