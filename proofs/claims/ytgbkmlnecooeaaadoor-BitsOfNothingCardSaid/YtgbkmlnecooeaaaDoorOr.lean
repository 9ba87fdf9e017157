/- The walks over slices.Clone at []uint64 and (*bits.Set).Or. -/
import Derived.Test.YtgbkmlnecooeaaaDoorEq
import Derived.Test.YtgbkmlnecooeaaaDoorApp
namespace Go.Proofs.YtgbkmlnecooeaaaDoor
open Go Go.RowKit

theorem clone_nil (c : Nat) (w : World) : Calls Tryd.prog 22 #[.slice none 0 c] w fun e w' => e = .returned (.slice none 0 0) ∧ w = w' := by
  have hn := Lib.run_eql_slice_nil (P := Tryd.prog) w 37 42 none 0 c 0 0 Tryd.underlying37
  go_enter Tryd.func22, Tryd.ntmps22
  go_wp2
  go_ret
  exact ⟨rfl, rfl⟩

theorem u64s_one (ws : List Nat) : ∀ u ∈ u64s ws, u.oneCell' = true := by
  intro u hu
  simp [u64s] at hu
  obtain ⟨n, _, rfl⟩ := hu
  rfl

set_option maxHeartbeats 1000000 in
theorem clone_any {w : World} {A : Option Addr} {c : Nat} {ws : List Nat} (hr : Reads w w.heap.size 1 A ws.length (u64s ws)) (hl : ws.length ≤ 1563) :
    Calls Tryd.prog 22 #[.slice A ws.length c] w fun e w' => ∃ A' c', e = .returned (.slice A' ws.length c') ∧ w'.ownsRow w.heap.size 42 1 (.slice A' ws.length c') ws.length (u64s ws) ∧ Below w.heap.size w w' := by
  rcases A with _ | ad
  · have h0 : ws.length = 0 := by
      rcases Nat.eq_zero_or_pos ws.length with h | h
      · exact h
      · obtain ⟨_, h, _⟩ := hr.2 h; cases h
    obtain rfl := List.eq_nil_of_length_eq_zero h0
    refine (clone_nil c w).mono ?_
    rintro e w' ⟨rfl, rfl⟩
    exact ⟨none, 0, rfl, World.ownsRow_nil _ _ _ _, Below.refl _ _⟩
  · obtain ⟨i0, hi, hz0, hz1, hz2⟩ := info_parts Tryd.info42
    have hn := Lib.run_eql_slice_nil (P := Tryd.prog) w 37 42 (some ad) ws.length c 0 0 Tryd.underlying37
    have HR := Lib.hid hr
    clear hr
    go_enter Tryd.func22, Tryd.ntmps22
    go_wp2_with (at_builtin; refine wpList_append_any _ rfl (.tmp 5) (.tmp 6) 37 rfl w.heap.size 42 i0 (.int .u64 0) 1 8 Tryd.underlying37 hi hz0 hz1 hz2 rfl (by decide) (.slice (some ⟨w.heap.size, 0, none⟩) 0 0) 0 [] rfl ?c0 w.heap.size (some ad) ws.length c (u64s ws) rfl ?c1 ?c2 ?c3 ?c4 ?c5 ?_)
    case c0 => exact own_of_heap (heap_alloc_new w _) (Nat.le_refl _)
    case c1 => exact HR.out.below ((Below.refl _ _).alloc (Nat.le_refl _) _)
    case c2 => exact u64s_one ws
    case c3 => simp only [maxLen]; omega
    case c4 => omega
    case c5 => exact Nat.le_of_lt (by show _ < (w.heap.push _).size; simp)
    intro v1 w1 hown1 hg1 _
    try simp only [Nat.zero_add, List.nil_append] at hown1
    obtain ⟨A1, c1, rfl⟩ := own_slice hown1
    have HO1 := Lib.hid hown1
    have HG1 := Lib.hid hg1
    clear hown1 hg1
    go_wp2
    go_ret
    exact ⟨A1, c1, rfl, HO1.out, ((Below.refl _ _).alloc (Nat.le_refl _) _).grown HG1.out (by simp) (by intro k hk; simp [Value.ownBlock] at hk; omega)⟩

def OrSt (w : World) (a b : List Nat) (v i : Value) (wr : World) (n : Nat) : Prop :=
  ∃ k : Nat, k ≤ b.length ∧ n = b.length - k ∧ i = .int .i64 (k : Int) ∧ wr.ownsRow w.heap.size 42 1 v a.length (u64s (orTo a b k)) ∧ Below w.heap.size w wr

theorem orSt_step {w wr : World} {a b : List Nat} {k r c : Nat} (hown : wr.ownsRow w.heap.size 42 1 (.slice (some ⟨r, 0, none⟩) a.length c) a.length (u64s (orTo a b k))) (hb : Below w.heap.size w wr)
    (ha : wOk a) (hbb : wOk b) (hk : k < b.length) :
    OrSt w a b (.slice (some ⟨r, 0, none⟩) a.length c) (.int .i64 ((k : Int) + 1)) (wr.setCell ⟨r, k, none⟩ (.int .u64 (bits BinOp.or IntKind.u64 ((a.getD k 0 : Nat) : Int) ((b.getD k 0 : Nat) : Int)))) (b.length - (k + 1)) := by
  rw [bits_or_u64_nat _ _ (wOk_getD a ha k) (wOk_getD b hbb k)]
  have hst := hown.stored k (.int .u64 ((a.getD k 0 ||| b.getD k 0 : Nat) : Int))
  rw [u64s_set, orTo_succ] at hst
  exact ⟨k + 1, hk, rfl, by simp, hst.1, hb.setCell (p := ⟨r, k, none⟩) (hown.lt r rfl).1 _⟩
theorem or_end {w wr : World} {a b : List Nat} {A : Option Addr} {c : Nat} (hle : b.length ≤ a.length) (hal : a.length ≤ 1563) (ha : wOk a) (hbb : wOk b)
    (hown : wr.ownsRow w.heap.size 42 1 (.slice A a.length c) a.length (u64s (orTo a b b.length))) (hb : Below w.heap.size w wr) :
    ∃ g v, Ending.returned (.pointer (some ⟨wr.heap.size, 0, none⟩)) = .returned (.pointer (some ⟨g, 0, none⟩)) ∧ SetAt (wr.alloc (.cells #[.slice A a.length c] 39)) w.heap.size g v (orW a b) ∧ Below w.heap.size w (wr.alloc (.cells #[.slice A a.length c] 39)) := by
  rw [orTo_end a b hle] at hown
  have hl : (orW a b).length = a.length := by rw [orW_length]; omega
  refine ⟨_, .slice A a.length c, rfl, ⟨hb.size, Blk.new _ _ _, ?_, by omega, wOk_orW a b ha hbb⟩, hb.alloc hb.size _⟩
  rw [hl]
  exact hown.alloc _
theorem or_end2 {w wr : World} {a b : List Nat} {A : Option Addr} {c : Nat} (hle : b.length ≤ a.length) (hal : a.length ≤ 1563) (ha : wOk a) (hbb : wOk b)
    (hown : wr.ownsRow w.heap.size 42 1 (.slice A a.length c) a.length (u64s (orTo a b b.length))) (hb : Below w.heap.size w wr) :
    ∃ g v, Ending.returned (.pointer (some ⟨wr.heap.size, 0, none⟩)) = .returned (.pointer (some ⟨g, 0, none⟩)) ∧ SetAt (wr.alloc (.cells #[.slice A a.length c] 39)) w.heap.size g v (orW b a) ∧ Below w.heap.size w (wr.alloc (.cells #[.slice A a.length c] 39)) := by
  rw [orW_comm b a]
  exact or_end hle hal ha hbb hown hb

set_option maxHeartbeats 2000000 in
theorem or_any {w : World} {P Q : Option Addr} {ws vs : List Nat} (h : PtrTo w P ws) (k : PtrTo w Q vs) :
    Calls Tryd.prog 9 #[.pointer P, .pointer Q] w fun e w' => ∃ g v, e = .returned (.pointer (some ⟨g, 0, none⟩)) ∧ SetAt w' w.heap.size g v (orW ws vs) ∧ Below w.heap.size w w' := by
  obtain ⟨A, c, hw, hr, hcap⟩ := h.words
  obtain ⟨B, d, kw, kr, kcap⟩ := k.words
  have hl := h.len
  have kl := k.len
  have HOK := Lib.hid h.ok
  have KOK := Lib.hid k.ok
  have HW := Lib.hid hw
  have KW := Lib.hid kw
  have HR := Lib.hid hr
  have KR := Lib.hid kr
  clear hw hr kw kr h k
  by_cases hlt : ws.length < vs.length
  all_goals
    go_enter Tryd.func9, Tryd.ntmps9
    go_wp2_with fail
    refine HW.out.mono ?_
    rintro e w' ⟨rfl, rfl⟩
    go_wp2_with fail
    refine KW.out.mono ?_
    rintro e w' ⟨rfl, rfl⟩
    go_wp2_with fail
    clear HW KW
  · obtain ⟨a, rfl⟩ : ∃ a, a = vs := ⟨_, rfl⟩
    obtain ⟨b, rfl⟩ : ∃ b, b = ws := ⟨_, rfl⟩
    obtain ⟨Aa, rfl⟩ : ∃ x, x = B := ⟨_, rfl⟩
    obtain ⟨Ab, rfl⟩ : ∃ x, x = A := ⟨_, rfl⟩
    have hal := kl
    have HRa := KR
    have HRb := HR
    have HOa := KOK
    have HOb := HOK
    clear KR HR KOK HOK
    have or_end := @or_end2
    have hle : b.length ≤ a.length := by omega
    clear hlt
    refine (clone_any HRa.out hal).mono ?_
    rintro e w1 ⟨A1, c1, rfl, hown1, hb1⟩
    have HO1 := Lib.hid hown1
    have HB1 := Lib.hid hb1
    clear hown1 hb1
    go_wp2_with fail
    go_loopg [25] b.length (fun n i wr => OrSt w a b (.slice A1 a.length c1) i wr n)
    case atStart => exact ⟨0, Nat.zero_le _, rfl, rfl, by rw [orTo_zero]; exact HO1.out, HB1.out⟩
    case round =>
      obtain ⟨k, hk, hn, rfl, hown, hb⟩ := hrel
      have HN := Lib.hid hn
      have HO := Lib.hid hown
      have HB := Lib.hid hb
      clear hn hown hb
      by_cases hlt : k < b.length
      · obtain ⟨ad, u, rfl, hlo, hu, hcu⟩ := HRb.out.at_ (k := k) hlt
        rw [u64s_at _ _ hlt] at hu
        obtain rfl := Option.some.inj hu
        have hcu2 := (HB.out.cell (p := ad.add k) (by rw [block_of_add]; exact hlo)).trans hcu
        obtain ⟨r, cr, hv, hr, hrl⟩ := HO.out.form (by omega)
        simp only [Value.slice.injEq, true_and] at hv
        obtain ⟨rfl, rfl⟩ := hv
        have h1 := HO.out.cellAt k (by omega)
        have h2 := HO.out.frozenAt k
        rw [u64s_at _ _ (by simp; omega), orTo_getD _ _ _ (by omega)] at h1
        clear hcu hu
        have hka : k < a.length := by omega
        have HX := Lib.hid (orSt_step HO.out HB.out HOa.out HOb.out hlt)
        generalize ha : a.getD k 0 = x at *
        generalize hbb : b.getD k 0 = y at *
        clear ha hbb
        go_wp2
        go_roundg (b.length - (k + 1))
        case measure => have := HN.out; omega
        case rel => exact HX.out
      · go_wp2
        refine bodyPost_ret (results_tmp rfl _ _ _) rfl ?_
        obtain rfl : k = b.length := by omega
        exact or_end hle hal HOa.out HOb.out HO.out HB.out
  · obtain ⟨a, rfl⟩ : ∃ a, a = ws := ⟨_, rfl⟩
    obtain ⟨b, rfl⟩ : ∃ b, b = vs := ⟨_, rfl⟩
    obtain ⟨Aa, rfl⟩ : ∃ x, x = A := ⟨_, rfl⟩
    obtain ⟨Ab, rfl⟩ : ∃ x, x = B := ⟨_, rfl⟩
    have hal := hl
    have HRa := HR
    have HRb := KR
    have HOa := HOK
    have HOb := KOK
    clear KR HR KOK HOK
    have hle : b.length ≤ a.length := by omega
    clear hlt
    refine (clone_any HRa.out hal).mono ?_
    rintro e w1 ⟨A1, c1, rfl, hown1, hb1⟩
    have HO1 := Lib.hid hown1
    have HB1 := Lib.hid hb1
    clear hown1 hb1
    go_wp2_with fail
    go_loopg [25] b.length (fun n i wr => OrSt w a b (.slice A1 a.length c1) i wr n)
    case atStart => exact ⟨0, Nat.zero_le _, rfl, rfl, by rw [orTo_zero]; exact HO1.out, HB1.out⟩
    case round =>
      obtain ⟨k, hk, hn, rfl, hown, hb⟩ := hrel
      have HN := Lib.hid hn
      have HO := Lib.hid hown
      have HB := Lib.hid hb
      clear hn hown hb
      by_cases hlt : k < b.length
      · obtain ⟨ad, u, rfl, hlo, hu, hcu⟩ := HRb.out.at_ (k := k) hlt
        rw [u64s_at _ _ hlt] at hu
        obtain rfl := Option.some.inj hu
        have hcu2 := (HB.out.cell (p := ad.add k) (by rw [block_of_add]; exact hlo)).trans hcu
        obtain ⟨r, cr, hv, hr, hrl⟩ := HO.out.form (by omega)
        simp only [Value.slice.injEq, true_and] at hv
        obtain ⟨rfl, rfl⟩ := hv
        have h1 := HO.out.cellAt k (by omega)
        have h2 := HO.out.frozenAt k
        rw [u64s_at _ _ (by simp; omega), orTo_getD _ _ _ (by omega)] at h1
        clear hcu hu
        have hka : k < a.length := by omega
        have HX := Lib.hid (orSt_step HO.out HB.out HOa.out HOb.out hlt)
        generalize ha : a.getD k 0 = x at *
        generalize hbb : b.getD k 0 = y at *
        clear ha hbb
        go_wp2
        go_roundg (b.length - (k + 1))
        case measure => have := HN.out; omega
        case rel => exact HX.out
      · go_wp2
        refine bodyPost_ret (results_tmp rfl _ _ _) rfl ?_
        obtain rfl : k = b.length := by omega
        exact or_end hle hal HOa.out HOb.out HO.out HB.out
end Go.Proofs.YtgbkmlnecooeaaaDoor
