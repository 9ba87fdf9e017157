/- The walk over (*bits.Set).And. -/
import Derived.Test.YtgbkmlnecooeaaaDoorOr
import Derived.Deep.RegionHeld3
import Derived.Deep.RegionLaw
import Derived.BigRegion
namespace Go.Proofs.YtgbkmlnecooeaaaDoor
open Go Go.RowKit

def AndSt (w : World) (a b : List Nat) (m : Nat) (g : Nat) (i : Value) (wr : World) (n : Nat) : Prop :=
  ∃ (A : Option Addr) (c k : Nat), k ≤ m ∧ n = m - k ∧ i = .int .i64 (k : Int) ∧ Blk wr g 39 #[.slice A k c] ∧ wr.ownsRow w.heap.size 42 1 (.slice A k c) k (u64s (andTo a b k)) ∧ Below w.heap.size w wr
def TrimSt (w : World) (l : List Nat) (g : Nat) (wr : World) (n : Nat) : Prop :=
  ∃ (A : Option Addr) (c : Nat), n ≤ l.length ∧ trimN l l.length = trimN l n ∧ Blk wr g 39 #[.slice A n c] ∧ wr.ownsRow w.heap.size 42 1 (.slice A n c) n (u64s (l.take n)) ∧ Below w.heap.size w wr

theorem andSt_step {w wr w1 : World} {a b : List Nat} {m k c1 gg cap : Nat} {A1 : Option Addr} {o : Obj} (ha : wOk a) (hb2 : wOk b) (hk : k < m) (hb : Below w.heap.size w wr)
    (hblk : Blk wr w.heap.size 39 #[.slice A1 k c1]) (hown : wr.ownsRow w.heap.size 42 1 (.slice A1 k c1) k (u64s (andTo a b k)))
    (hg : (wr.alloc o).drew.grownBy w1 (Value.slice A1 k c1).ownBlock)
    (hown1 : w1.ownsRow w.heap.size 42 1 (.slice (some ⟨gg, 0, none⟩) (k + 1) cap) (k + 1) (u64s (andTo a b k) ++ [.int .u64 (bits BinOp.and IntKind.u64 ((a.getD k 0 : Nat) : Int) ((b.getD k 0 : Nat) : Int))])) :
    AndSt w a b m w.heap.size (.int .i64 ((k : Int) + 1)) (w1.setCell ⟨w.heap.size, 0, none⟩ (.slice (some ⟨gg, 0, none⟩) (k + 1) cap)) (m - (k + 1)) := by
  have hne : (Value.slice A1 k c1).ownBlock ≠ some w.heap.size := own_blk_ne hown hblk (by decide)
  have hB1 : Blk w1 w.heap.size 39 #[.slice A1 k c1] := (hg.block w.heap.size (by have := hblk.lt; simp; omega) (Ne.symm hne)).trans ((Below.heap_alloc _ _ _ hblk.lt).trans hblk)
  rw [bits_and_u64_nat _ _ (wOk_getD a ha k) (wOk_getD b hb2 k)] at hown1
  refine ⟨_, _, k + 1, hk, rfl, by simp, hB1.set_ 0 _, ?_, ?_⟩
  · rw [andTo_succ, u64s_append]
    have hf : Fr (fun b => b = w.heap.size) w1 (w1.setCell ⟨w.heap.size, 0, none⟩ (.slice (some ⟨gg, 0, none⟩) (k + 1) cap)) := Fr.setCell (S := fun b => b = w.heap.size) (Fr.refl _ _) (.inl rfl) _
    exact hf.own hown1 (fun j hj hj2 => own_blk_ne hown1 hB1 (by decide) (by subst hj2; exact hj))
  · exact (((hb.alloc hb.size o).drew).grown hg (by have := hb.size; simp; omega) (fun j hj => (hown.lt j hj).1)).setCell (by simp) _

theorem trimSt_step {w wr : World} {l : List Nat} {g r n c : Nat} (hl : n + 1 ≤ l.length) (hg : w.heap.size ≤ g) (ht : trimN l l.length = trimN l (n + 1)) (hz : l.getD n 0 = 0) (hb : Below w.heap.size w wr)
    (hblk : Blk wr g 39 #[.slice (some ⟨r, 0, none⟩) (n + 1) c]) (hown : wr.ownsRow w.heap.size 42 1 (.slice (some ⟨r, 0, none⟩) (n + 1) c) (n + 1) (u64s (l.take (n + 1)))) (j : Nat) :
    TrimSt w l g ((wr.drewN j).setCell ⟨g, 0, none⟩ (.slice (some ⟨r, 0, none⟩) n c)) n := by
  refine ⟨_, c, by omega, ?_, Blk.set_ (w := wr.drewN j) hblk 0 _, ?_, (Below.setCell (w := wr.drewN j) ⟨hb.os, hb.tape, hb.output, hb.size, hb.block⟩ (p := ⟨g, 0, none⟩) hg _)⟩
  · rw [ht]
    conv => lhs; unfold trimN
    rw [if_pos hz]
  · have hf : Fr (fun b => b = g) wr ((wr.drewN j).setCell ⟨g, 0, none⟩ (.slice (some ⟨r, 0, none⟩) n c)) := Fr.setCell (S := fun b => b = g) ((Fr.refl _ _).drewN j) (.inl rfl) _
    have h2 : wr.ownsRow w.heap.size 42 1 (.slice (some ⟨r, 0, none⟩) n c) n (u64s (l.take n)) := by
      obtain ⟨h1, h2⟩ := hown
      rcases h2 with ⟨e, _⟩ | ⟨g', cap, cur, e, hb', hh, hnc, hcm, hcs, htk⟩
      · simp at e
      · simp only [Value.slice.injEq, Option.some.injEq, Addr.mk.injEq, and_true, true_and] at e
        obtain ⟨rfl, rfl⟩ := e
        refine ⟨by simp; omega, .inr ⟨r, c, cur, rfl, hb', hh, by omega, hcm, hcs, ?_⟩⟩
        have e2 : l.take n = (l.take (n + 1)).take n := by rw [List.take_take]; congr 1; omega
        have e3 : u64s ((l.take (n + 1)).take n) = (u64s (l.take (n + 1))).take n := by simp [u64s, List.map_take]
        rw [e2, e3, ← htk, List.take_take]
        congr 1
        omega
    exact hf.own h2 (fun j hj hj2 => own_blk_ne hown hblk (by decide) (by subst hj2; exact hj))

theorem and_end {w wr : World} {a b : List Nat} {g n c : Nat} {A : Option Addr} (ha : wOk a) (hg : w.heap.size ≤ g) (hl : a.length ≤ 1563) (hn : n ≤ (andTo a b (min a.length b.length)).length)
    (ht : trimN (andTo a b (min a.length b.length)) (andTo a b (min a.length b.length)).length = trimN (andTo a b (min a.length b.length)) n)
    (hz : n = 0 ∨ (andTo a b (min a.length b.length)).getD (n - 1) 0 ≠ 0) (hb : Below w.heap.size w wr)
    (hblk : Blk wr g 39 #[.slice A n c]) (hown : wr.ownsRow w.heap.size 42 1 (.slice A n c) n (u64s ((andTo a b (min a.length b.length)).take n))) (j : Nat) :
    ∃ g' v, Ending.returned (.pointer (some ⟨g, 0, none⟩)) = .returned (.pointer (some ⟨g', 0, none⟩)) ∧ SetAt (wr.drewN j) w.heap.size g' v (andW a b) ∧ Below w.heap.size w (wr.drewN j) := by
  have e : andW a b = (andTo a b (min a.length b.length)).take n := trimW_of _ _ ht hn hz
  have hl2 : (andW a b).length = n := by rw [e]; simp at hn ⊢; omega
  refine ⟨g, .slice A n c, rfl, ⟨hg, hblk, ?_, ?_, ?_⟩, ⟨hb.os, hb.tape, hb.output, hb.size, hb.block⟩⟩
  · rw [hl2, e]; exact hown
  · rw [hl2]; simp at hn; omega
  · rw [e]; exact wOk_take _ (wOk_andTo a b ha _) _

set_option maxHeartbeats 2000000 in
set_option maxRecDepth 100000 in
theorem and_any {w : World} {P Q : Option Addr} {ws vs : List Nat} (h : PtrTo w P ws) (k : PtrTo w Q vs) :
    Calls Tryd.prog 10 #[.pointer P, .pointer Q] w fun e w' => ∃ g v, e = .returned (.pointer (some ⟨g, 0, none⟩)) ∧ SetAt w' w.heap.size g v (andW ws vs) ∧ Below w.heap.size w w' := by
  obtain ⟨i0, hi, hz0, hz1, hz2⟩ := info_parts Tryd.info42
  obtain ⟨A, c, hw, hr, hcap⟩ := h.words
  obtain ⟨B, d, kw, kr, kcap⟩ := k.words
  have hl := h.len
  have kl := k.len
  have HOK := Lib.hid h.ok
  have KOK := Lib.hid k.ok
  have HW := Lib.hid hw
  have KW := Lib.hid kw
  have HR := Lib.hid hr
  have KR := Lib.hid kr
  clear hw hr kw kr h k
  by_cases hle : ws.length ≤ vs.length
  all_goals
    go_enter Tryd.func10, Tryd.ntmps10
    go_wp2_with fail
    refine HW.out.mono ?_
    rintro e w' ⟨rfl, rfl⟩
    go_wp2_with fail
    refine KW.out.mono ?_
    rintro e w' ⟨rfl, rfl⟩
    go_wp2_with fail
    clear HW KW
    go_loopg [20] (min ws.length vs.length) (fun n i wr => AndSt w ws vs (min ws.length vs.length) w.heap.size i wr n)
    case atStart => exact ⟨none, 0, 0, Nat.zero_le _, rfl, rfl, Blk.new _ _ _, World.ownsRow_nil _ _ _ _, (Below.refl _ _).alloc (Nat.le_refl _) _⟩
    case round =>
      obtain ⟨A1, c1, k, hk, hn, rfl, hblk, hown, hb⟩ := hrel
      have hcell := hblk.cell 0
      have hfro := hblk.frozen 0
      simp only [List.getElem?_toArray, List.getElem?_cons_zero] at hcell
      have HN := Lib.hid hn
      have HO := Lib.hid hown
      have HB := Lib.hid hb
      have HK := Lib.hid hblk
      clear hn hown hb hblk
      by_cases hlt : k < min ws.length vs.length
      · obtain ⟨ad, u, rfl, hlo, hu, hcu⟩ := HR.out.at_ (k := k) (by omega)
        obtain ⟨ad2, u2, rfl, hlo2, hu2, hcu2⟩ := KR.out.at_ (k := k) (by omega)
        rw [u64s_at _ _ (by omega)] at hu hu2
        obtain rfl := Option.some.inj hu
        obtain rfl := Option.some.inj hu2
        have hc1 := (HB.out.cell (p := ad.add k) (by rw [block_of_add]; exact hlo)).trans hcu
        have hc2 := (HB.out.cell (p := ad2.add k) (by rw [block_of_add]; exact hlo2)).trans hcu2
        clear hcu hcu2 hu hu2
        have hk0 : (0 : Int) ≤ (k : Int) := Int.natCast_nonneg _
        have hk1 : (k : Int) < (ws.length : Int) := by omega
        have hk2 : (k : Int) < (vs.length : Int) := by omega
        have hne : (Value.slice A1 k c1).ownBlock ≠ some w.heap.size := own_blk_ne HO.out HK.out (by decide)
        have HX := Lib.hid hne
        have hlt1 := HK.out.lt
        clear hne
        have lo1 : (ad.add k).block < wr.heap.size := by rw [block_of_add]; omega
        have lo2 : (ad2.add k).block < wr.heap.size := by rw [block_of_add]; omega
        have n1 : some (ad.add k).block ≠ (Value.slice A1 k c1).ownBlock := fun e => by
          have := (HO.out.lt _ e.symm).1
          rw [block_of_add] at this; omega
        have n2 : some (ad2.add k).block ≠ (Value.slice A1 k c1).ownBlock := fun e => by
          have := (HO.out.lt _ e.symm).1
          rw [block_of_add] at this; omega
        have HN1 := Lib.hid n1
        have HN2 := Lib.hid n2
        have HBS := Lib.hid HB.out.size
        clear n1 n2
        generalize hx : ws.getD k 0 = x at *
        generalize hy : vs.getD k 0 = y at *
        have HXX := Lib.hid hx
        have HYY := Lib.hid hy
        clear hx hy
        go_wp2_with fail
        go_region_law (
          (refine step_append_lies _ (by rfl) (.tmp 27) (.tmp 37) 37 (by rfl) w.heap.size 42 i0 _ 1 8 Tryd.underlying37 hi hz0 hz1 hz2 rfl (by omega) (.slice A1 k c1) k _ (by rfl) ((HO.out.alloc _).drew)
              ⟨wr.heap.size, 0, none⟩ 1 1 [.int .u64 (bits BinOp.and IntKind.u64 (x : Int) (y : Int))] (by rfl) (by rfl) (World.news_of_block (cs := #[.int .u64 (bits BinOp.and IntKind.u64 (x : Int) (y : Int))]) (t := 42) (fr := (0, 0)) (heap_alloc_new wr _)) (by simp [Value.oneCell'])
              (by omega) (by simp only [maxLen]; omega) (by omega) (by have := HBS.out; simp; omega) (wr.heap.size + 1) (by simp) ?_
           intro gg cap w1 hown1 hgrow hat hlt9
           have hf1 : w1.frozen? ⟨w.heap.size, 0, none⟩ = false := by (rw [hgrow.frozen_far _ (by simp; omega) (Ne.symm HX.out)]; exact (World.frozen?_of_block (Below.heap_alloc _ _ _ hlt1)).trans hfro)
           have hf2 : w1.cell? ⟨w.heap.size, 0, none⟩ = some (.slice A1 k c1) := by (rw [hgrow.cell_far _ (by simp; omega) (Ne.symm HX.out)]; exact (World.cell?_of_block (Below.heap_alloc _ _ _ hlt1)).trans hcell)))
        all_goals go_wp2
        all_goals
          have hxx := HXX.out
          have hyy := HYY.out
          subst hxx hyy
          go_roundg (min ws.length vs.length - (k + 1))
          case measure => have := HN.out; omega
          case rel => exact andSt_step HOK.out KOK.out hlt HB.out HK.out HO.out hgrow hown1
      · obtain rfl : k = min ws.length vs.length := by omega
        clear hcell hfro
        go_wp2_with fail
        go_loopg [] (min ws.length vs.length) (fun n wr => TrimSt w (andTo ws vs (min ws.length vs.length)) w.heap.size wr n)
        case atStart =>
          refine ⟨A1, c1, by simp, by simp, HK.out, ?_, HB.out⟩
          rw [List.take_of_length_le (by simp)]
          exact HO.out
        case round =>
          obtain ⟨A2, c2, hn2, ht2, hblk2, hown2, hb2⟩ := hrel
          have hcell := hblk2.cell 0
          have hfro := hblk2.frozen 0
          simp only [List.getElem?_toArray, List.getElem?_cons_zero] at hcell
          have HT2 := Lib.hid ht2
          have HO2 := Lib.hid hown2
          have HB2 := Lib.hid hb2
          have HK2 := Lib.hid hblk2
          clear ht2 hown2 hb2 hblk2
          rw [andTo_length] at hn2
          rcases gk with _ | n
          · have hd : decide ((0 : Int) < ((0 : Nat) : Int)) = false := rfl
            go_wp2_with fail
            go_quiet (fail)
            go_wp2
            refine bodyPost_ret (results_tmp rfl _ _ _) rfl ?_
            exact and_end HOK.out (Nat.le_refl _) hl (by simp) HT2.out (.inl rfl) HB2.out HK2.out HO2.out _
          · obtain ⟨r, cr, hv, hr, hrl⟩ := HO2.out.form (by omega)
            simp only [Value.slice.injEq, true_and] at hv
            obtain ⟨rfl, rfl⟩ := hv
            have hcap2 : n + 1 ≤ c2 := by
              rcases HO2.out.2 with ⟨e, _⟩ | ⟨_, _, _, e, _, _, e2, _⟩
              · simp at e
              · simp only [Value.slice.injEq] at e
                omega
            have hne : r ≠ w.heap.size := by have := own_blk_ne HO2.out HK2.out (by decide); simpa [Value.ownBlock] using this
            have h1 := HO2.out.cellAt n (by omega)
            rw [u64s_at _ _ (by simp; omega)] at h1
            have e0 : ((andTo ws vs (min ws.length vs.length)).take (n + 1)).getD n 0 = (andTo ws vs (min ws.length vs.length)).getD n 0 := by
              rw [getD_in _ _ (by simp; omega), getD_in _ _ (by simp; omega), List.getElem_take]
            rw [e0] at h1
            clear e0
            have hd : decide ((0 : Int) < ((n : Int) + 1)) = true := decide_eq_true (by omega)
            have hi0 : (0 : Int) ≤ (n : Int) := Int.natCast_nonneg _
            have hi1 : (n : Int) < (n : Int) + 1 := by omega
            by_cases hz : (andTo ws vs (min ws.length vs.length)).getD n 0 = 0
            · have HZ := Lib.hid hz
              rw [hz] at h1
              clear hz
              go_wp2_with fail
              go_quiet (fail)
              go_wp2_with fail
              go_region
              go_wp2
              go_roundg n
              case measure => omega
              case rel => exact trimSt_step (by simp; omega) (Nat.le_refl _) HT2.out HZ.out HB2.out HK2.out HO2.out _
            · generalize hy : (andTo ws vs (min ws.length vs.length)).getD n 0 = y at *
              have HY := Lib.hid hy
              have HZ := Lib.hid hz
              clear hy
              have hyy : ((y : Int) == 0) = false := by simp; exact hz
              clear hz
              go_wp2_with fail
              go_quiet (fail)
              go_wp2
              refine bodyPost_ret (results_tmp rfl _ _ _) rfl ?_
              exact and_end HOK.out (Nat.le_refl _) hl (by simp; omega) HT2.out (.inr (by rw [Nat.add_sub_cancel, HY.out]; exact HZ.out)) HB2.out HK2.out HO2.out _
end Go.Proofs.YtgbkmlnecooeaaaDoor
