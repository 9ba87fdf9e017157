/- The walk over core.Same. -/
import Derived.Test.YtcgjacaemblnmaaDoorSame
import Derived.Test.YtcgjacaemblnmaaDoorEqOp
import Derived.Test.YtcgjacaemblnmaaDoorAtom
import Derived.Deep.RegionHeld3
import Derived.Deep.QuietTactic
import Derived.BigQuiet
namespace Go.Proofs.YtcgjacaemblnmaaDoor
open Go Go.RowKit

theorem two_boxes {w W : World} {o o2 : List UInt8} {a b c m a2 b2 c2 m2 : Int} {l l2 : Nat} {A B : Option Addr} {cap cap2 : Nat} (h : Below (w.heap.size + 1 + 1) ((w.alloc (.cells #[.string ⟨o.toArray⟩, .int .i64 a, .int .i64 b, .int .i64 c, .int .i64 m, .slice A l cap] 24)).alloc (.cells #[.string ⟨o2.toArray⟩, .int .i64 a2, .int .i64 b2, .int .i64 c2, .int .i64 m2, .slice B l2 cap2] 24)) W) :
    (W.cell? ⟨w.heap.size, 0, none⟩ = some (.string ⟨o.toArray⟩) ∧ W.cell? ⟨w.heap.size, 1, none⟩ = some (.int .i64 a) ∧ W.cell? ⟨w.heap.size, 2, none⟩ = some (.int .i64 b) ∧ W.cell? ⟨w.heap.size, 3, none⟩ = some (.int .i64 c) ∧ W.cell? ⟨w.heap.size, 4, none⟩ = some (.int .i64 m) ∧ W.cell? ⟨w.heap.size, 5, none⟩ = some (.slice A l cap)) ∧ (W.cell? ⟨w.heap.size + 1, 0, none⟩ = some (.string ⟨o2.toArray⟩) ∧ W.cell? ⟨w.heap.size + 1, 1, none⟩ = some (.int .i64 a2) ∧ W.cell? ⟨w.heap.size + 1, 2, none⟩ = some (.int .i64 b2) ∧ W.cell? ⟨w.heap.size + 1, 3, none⟩ = some (.int .i64 c2) ∧ W.cell? ⟨w.heap.size + 1, 4, none⟩ = some (.int .i64 m2) ∧ W.cell? ⟨w.heap.size + 1, 5, none⟩ = some (.slice B l2 cap2)) := by
  have s1 : (w.alloc (.cells #[.string ⟨o.toArray⟩, .int .i64 a, .int .i64 b, .int .i64 c, .int .i64 m, .slice A l cap] 24)).heap.size = w.heap.size + 1 := by simp
  have e : ∀ (j : Nat) (u : Value), (#[.string ⟨o.toArray⟩, .int .i64 a, .int .i64 b, .int .i64 c, .int .i64 m, .slice A l cap] : Array Value)[j]? = some u → W.cell? ⟨w.heap.size, j, none⟩ = some u := fun j u hu =>
    (h.cell (p := ⟨w.heap.size, j, none⟩) (by show w.heap.size < _; omega)).trans ((World.cell?_alloc_lt _ _ ⟨w.heap.size, j, none⟩ (by show w.heap.size < _; omega)).trans ((cell_of_row _ w.heap.size j _ 24 (0, 0) (heap_alloc_new w _)).trans hu))
  have f : ∀ (j : Nat) (u : Value), (#[.string ⟨o2.toArray⟩, .int .i64 a2, .int .i64 b2, .int .i64 c2, .int .i64 m2, .slice B l2 cap2] : Array Value)[j]? = some u → W.cell? ⟨w.heap.size + 1, j, none⟩ = some u := fun j u hu => by
    have h1 := cell_of_row ((w.alloc (.cells #[.string ⟨o.toArray⟩, .int .i64 a, .int .i64 b, .int .i64 c, .int .i64 m, .slice A l cap] 24)).alloc (.cells #[.string ⟨o2.toArray⟩, .int .i64 a2, .int .i64 b2, .int .i64 c2, .int .i64 m2, .slice B l2 cap2] 24)) (w.alloc (.cells #[.string ⟨o.toArray⟩, .int .i64 a, .int .i64 b, .int .i64 c, .int .i64 m, .slice A l cap] 24)).heap.size j _ 24 (0, 0) (heap_alloc_new (w.alloc (.cells #[.string ⟨o.toArray⟩, .int .i64 a, .int .i64 b, .int .i64 c, .int .i64 m, .slice A l cap] 24)) _)
    rw [s1] at h1
    exact (h.cell (p := ⟨w.heap.size + 1, j, none⟩) (Nat.lt_succ_self _)).trans (h1.trans hu)
  exact ⟨⟨e 0 _ rfl, e 1 _ rfl, e 2 _ rfl, e 3 _ rfl, e 4 _ rfl, e 5 _ rfl⟩, ⟨f 0 _ rfl, f 1 _ rfl, f 2 _ rfl, f 3 _ rfl, f 4 _ rfl, f 5 _ rfl⟩⟩

set_option maxHeartbeats 40000000 in
theorem same_any : ∀ (s t : Core) (A B : Option Addr) (cap cap2 : Nat) (w : World), CoreAt w w.heap.size s A cap → CoreAt w w.heap.size t B cap2 →
    Calls Tryd.prog 23 #[coreW s.op s.va s.vb s.vc s.vn s.kids.length A cap, coreW t.op t.va t.vb t.vc t.vn t.kids.length B cap2] w fun e w' => e = .returned (.bool (sameB s t)) ∧ Below w.heap.size w w' := by
  intro s
  induction s using Core.ind with
  | h o a b c m ks ih =>
    intro t A B cap cap2 w h h2
    cases t with
    | node o2 a2 b2 c2 m2 ls =>
      have HC := Lib.hid (fun W (hW : Below w.heap.size w W) => h.later hW hW.size)
      have HC2 := Lib.hid (fun W (hW : Below w.heap.size w W) => h2.later hW hW.size)
      have HEQ := Lib.hid (fun W hA hB => eqf_any ks ls o o2 a b c m a2 b2 c2 m2 A B cap cap2 W hA hB (fun k hk t A B cap cap2 W hk1 hk2 => ih k hk t A B cap cap2 W hk1 hk2))
      have HV1 := Lib.hid (fun W => vars_any o a b c m ks.length A cap W)
      have HV2 := Lib.hid (fun W => vars_any o2 a2 b2 c2 m2 ls.length B cap2 W)
      have HR := Lib.hid (show sameB (.node o a b c m ks) (.node o2 a2 b2 c2 m2 ls) = (decide (o = o2) && decide (a = a2) && decide (b = b2) && decide (c = c2) && decide (m = m2) && sameL ks ls) by rw [sameB])
      clear h h2 ih
      generalize sameB (.node o a b c m ks) (.node o2 a2 b2 c2 m2 ls) = R at *
      generalize sameL ks ls = L at *
      simp only [coreW, Core.op, Core.va, Core.vb, Core.vc, Core.vn, Core.kids] at HV1 HV2 ⊢
      have HX := Lib.hid (fun W (hW : Below (w.heap.size + 1 + 1) ((w.alloc (.cells #[.string ⟨o.toArray⟩, .int .i64 a, .int .i64 b, .int .i64 c, .int .i64 m, .slice A ks.length cap] 24)).alloc (.cells #[.string ⟨o2.toArray⟩, .int .i64 a2, .int .i64 b2, .int .i64 c2, .int .i64 m2, .slice B ls.length cap2] 24)) W) => two_boxes hW)
      have HW := Lib.hid (fun W (hW : Below (w.heap.size + 1 + 1) ((w.alloc (.cells #[.string ⟨o.toArray⟩, .int .i64 a, .int .i64 b, .int .i64 c, .int .i64 m, .slice A ks.length cap] 24)).alloc (.cells #[.string ⟨o2.toArray⟩, .int .i64 a2, .int .i64 b2, .int .i64 c2, .int .i64 m2, .slice B ls.length cap2] 24)) W) => ((((Below.refl w.heap.size w).alloc (Nat.le_refl _) (.cells #[.string ⟨o.toArray⟩, .int .i64 a, .int .i64 b, .int .i64 c, .int .i64 m, .slice A ks.length cap] 24)).alloc (by simp) (.cells #[.string ⟨o2.toArray⟩, .int .i64 a2, .int .i64 b2, .int .i64 c2, .int .i64 m2, .slice B ls.length cap2] 24)).trans (hW.mono (by omega)) : Below w.heap.size w W))
      have HG := Lib.hid (fun W W' (hW : Below (w.heap.size + 1 + 1) ((w.alloc (.cells #[.string ⟨o.toArray⟩, .int .i64 a, .int .i64 b, .int .i64 c, .int .i64 m, .slice A ks.length cap] 24)).alloc (.cells #[.string ⟨o2.toArray⟩, .int .i64 a2, .int .i64 b2, .int .i64 c2, .int .i64 m2, .slice B ls.length cap2] 24)) W) (hb : Below W.heap.size W W') => (hW.trans (hb.mono (Nat.le_trans (by simp) hW.size)) : Below (w.heap.size + 1 + 1) ((w.alloc (.cells #[.string ⟨o.toArray⟩, .int .i64 a, .int .i64 b, .int .i64 c, .int .i64 m, .slice A ks.length cap] 24)).alloc (.cells #[.string ⟨o2.toArray⟩, .int .i64 a2, .int .i64 b2, .int .i64 c2, .int .i64 m2, .slice B ls.length cap2] 24)) W'))
      have hB0 := Below.refl (w.heap.size + 1 + 1) ((w.alloc (.cells #[.string ⟨o.toArray⟩, .int .i64 a, .int .i64 b, .int .i64 c, .int .i64 m, .slice A ks.length cap] 24)).alloc (.cells #[.string ⟨o2.toArray⟩, .int .i64 a2, .int .i64 b2, .int .i64 c2, .int .i64 m2, .slice B ls.length cap2] 24))
      have HSS := Lib.hid (fun W (hW : Below (w.heap.size + 1 + 1) ((w.alloc (.cells #[.string ⟨o.toArray⟩, .int .i64 a, .int .i64 b, .int .i64 c, .int .i64 m, .slice A ks.length cap] 24)).alloc (.cells #[.string ⟨o2.toArray⟩, .int .i64 a2, .int .i64 b2, .int .i64 c2, .int .i64 m2, .slice B ls.length cap2] 24)) W) => (⟨hW, two_boxes hW⟩ : (fun W => Below (w.heap.size + 1 + 1) ((w.alloc (.cells #[.string ⟨o.toArray⟩, .int .i64 a, .int .i64 b, .int .i64 c, .int .i64 m, .slice A ks.length cap] 24)).alloc (.cells #[.string ⟨o2.toArray⟩, .int .i64 a2, .int .i64 b2, .int .i64 c2, .int .i64 m2, .slice B ls.length cap2] 24)) W ∧ (W.cell? ⟨w.heap.size, 0, none⟩ = some (.string ⟨o.toArray⟩) ∧ W.cell? ⟨w.heap.size, 1, none⟩ = some (.int .i64 a) ∧ W.cell? ⟨w.heap.size, 2, none⟩ = some (.int .i64 b) ∧ W.cell? ⟨w.heap.size, 3, none⟩ = some (.int .i64 c) ∧ W.cell? ⟨w.heap.size, 4, none⟩ = some (.int .i64 m) ∧ W.cell? ⟨w.heap.size, 5, none⟩ = some (.slice A ks.length cap)) ∧ (W.cell? ⟨w.heap.size + 1, 0, none⟩ = some (.string ⟨o2.toArray⟩) ∧ W.cell? ⟨w.heap.size + 1, 1, none⟩ = some (.int .i64 a2) ∧ W.cell? ⟨w.heap.size + 1, 2, none⟩ = some (.int .i64 b2) ∧ W.cell? ⟨w.heap.size + 1, 3, none⟩ = some (.int .i64 c2) ∧ W.cell? ⟨w.heap.size + 1, 4, none⟩ = some (.int .i64 m2) ∧ W.cell? ⟨w.heap.size + 1, 5, none⟩ = some (.slice B ls.length cap2))) W))
      have HG2 := Lib.hid (fun W W' (hS : (fun W => Below (w.heap.size + 1 + 1) ((w.alloc (.cells #[.string ⟨o.toArray⟩, .int .i64 a, .int .i64 b, .int .i64 c, .int .i64 m, .slice A ks.length cap] 24)).alloc (.cells #[.string ⟨o2.toArray⟩, .int .i64 a2, .int .i64 b2, .int .i64 c2, .int .i64 m2, .slice B ls.length cap2] 24)) W ∧ (W.cell? ⟨w.heap.size, 0, none⟩ = some (.string ⟨o.toArray⟩) ∧ W.cell? ⟨w.heap.size, 1, none⟩ = some (.int .i64 a) ∧ W.cell? ⟨w.heap.size, 2, none⟩ = some (.int .i64 b) ∧ W.cell? ⟨w.heap.size, 3, none⟩ = some (.int .i64 c) ∧ W.cell? ⟨w.heap.size, 4, none⟩ = some (.int .i64 m) ∧ W.cell? ⟨w.heap.size, 5, none⟩ = some (.slice A ks.length cap)) ∧ (W.cell? ⟨w.heap.size + 1, 0, none⟩ = some (.string ⟨o2.toArray⟩) ∧ W.cell? ⟨w.heap.size + 1, 1, none⟩ = some (.int .i64 a2) ∧ W.cell? ⟨w.heap.size + 1, 2, none⟩ = some (.int .i64 b2) ∧ W.cell? ⟨w.heap.size + 1, 3, none⟩ = some (.int .i64 c2) ∧ W.cell? ⟨w.heap.size + 1, 4, none⟩ = some (.int .i64 m2) ∧ W.cell? ⟨w.heap.size + 1, 5, none⟩ = some (.slice B ls.length cap2))) W) (hb : Below W.heap.size W W') => HG.out W W' hS.1 hb)
      have HWS := Lib.hid (fun W (hS : (fun W => Below (w.heap.size + 1 + 1) ((w.alloc (.cells #[.string ⟨o.toArray⟩, .int .i64 a, .int .i64 b, .int .i64 c, .int .i64 m, .slice A ks.length cap] 24)).alloc (.cells #[.string ⟨o2.toArray⟩, .int .i64 a2, .int .i64 b2, .int .i64 c2, .int .i64 m2, .slice B ls.length cap2] 24)) W ∧ (W.cell? ⟨w.heap.size, 0, none⟩ = some (.string ⟨o.toArray⟩) ∧ W.cell? ⟨w.heap.size, 1, none⟩ = some (.int .i64 a) ∧ W.cell? ⟨w.heap.size, 2, none⟩ = some (.int .i64 b) ∧ W.cell? ⟨w.heap.size, 3, none⟩ = some (.int .i64 c) ∧ W.cell? ⟨w.heap.size, 4, none⟩ = some (.int .i64 m) ∧ W.cell? ⟨w.heap.size, 5, none⟩ = some (.slice A ks.length cap)) ∧ (W.cell? ⟨w.heap.size + 1, 0, none⟩ = some (.string ⟨o2.toArray⟩) ∧ W.cell? ⟨w.heap.size + 1, 1, none⟩ = some (.int .i64 a2) ∧ W.cell? ⟨w.heap.size + 1, 2, none⟩ = some (.int .i64 b2) ∧ W.cell? ⟨w.heap.size + 1, 3, none⟩ = some (.int .i64 c2) ∧ W.cell? ⟨w.heap.size + 1, 4, none⟩ = some (.int .i64 m2) ∧ W.cell? ⟨w.heap.size + 1, 5, none⟩ = some (.slice B ls.length cap2))) W) => HW.out W hS.1)
      by_cases ho : o = o2
      · rw [decide_eq_true ho] at HR
        have gO : (o == o2) = true := by rw [ho]; exact beq_self_eq_true _
        clear ho
        by_cases hv : (a = a2 ∧ b = b2) ∧ c = c2
        · obtain ⟨⟨rfl, rfl⟩, rfl⟩ := hv
          have E46 := Lib.hid (show (a == a && b == b && c == c) = true by simp)
          rw [decide_eq_true (rfl : a = a), decide_eq_true (rfl : b = b), decide_eq_true (rfl : c = c)] at HR
          by_cases hm : m = m2
          · subst hm
            rw [decide_eq_true (rfl : m = m)] at HR
            have HF := Lib.hid (show R = L by rw [HR.out]; simp)
            clear HR
            go_enter Tryd.func23, Tryd.ntmps23
            go_upto_region 1 with fail
            generalize ((w.alloc (.cells #[.string ⟨o.toArray⟩, .int .i64 a, .int .i64 b, .int .i64 c, .int .i64 m, .slice A ks.length cap] 24)).alloc (.cells #[.string ⟨o2.toArray⟩, .int .i64 a, .int .i64 b, .int .i64 c, .int .i64 m, .slice B ls.length cap2] 24)) = Z at *
            refine wp_region_noPanic ?_
            refine wp_region_held_drew (S := (fun W => Below (w.heap.size + 1 + 1) Z W ∧ (W.cell? ⟨w.heap.size, 0, none⟩ = some (.string ⟨o.toArray⟩) ∧ W.cell? ⟨w.heap.size, 1, none⟩ = some (.int .i64 a) ∧ W.cell? ⟨w.heap.size, 2, none⟩ = some (.int .i64 b) ∧ W.cell? ⟨w.heap.size, 3, none⟩ = some (.int .i64 c) ∧ W.cell? ⟨w.heap.size, 4, none⟩ = some (.int .i64 m) ∧ W.cell? ⟨w.heap.size, 5, none⟩ = some (.slice A ks.length cap)) ∧ (W.cell? ⟨w.heap.size + 1, 0, none⟩ = some (.string ⟨o2.toArray⟩) ∧ W.cell? ⟨w.heap.size + 1, 1, none⟩ = some (.int .i64 a) ∧ W.cell? ⟨w.heap.size + 1, 2, none⟩ = some (.int .i64 b) ∧ W.cell? ⟨w.heap.size + 1, 3, none⟩ = some (.int .i64 c) ∧ W.cell? ⟨w.heap.size + 1, 4, none⟩ = some (.int .i64 m) ∧ W.cell? ⟨w.heap.size + 1, 5, none⟩ = some (.slice B ls.length cap2)))) (by kernel_rfl) (HSS.out _ hB0.drew) (fun hHeld => ?_)
            refine wpAnyH_take (i := 0) (v := ?vvx40) rfl (by kernel_rfl) (by kernel_rfl) (by kernel_rfl) (fun _ _ _ h => h) (Or.inl ⟨by rfl, ?hyx40⟩) (by assumption) ?rrx40
            case hyx40 =>
              intro W hS
              try dsimp only at hS
              go_simp
              try with_reducible rfl
            case rrx40 =>
            try simp only [Act.put, List.getElem_toArray, List.getElem_cons_zero, List.setIfInBounds_toArray, List.set_cons_zero, List.set_cons_succ]
            refine wpAnyH_take (i := 1) (v := ?vvx41) rfl (by kernel_rfl) (by kernel_rfl) (by kernel_rfl) (fun _ _ _ h => h) (Or.inl ⟨by rfl, ?hyx41⟩) (by assumption) ?rrx41
            case hyx41 =>
              intro W hS
              try dsimp only at hS
              go_simp
              try with_reducible rfl
            case rrx41 =>
            try simp only [Act.put, List.getElem_toArray, List.getElem_cons_succ, List.getElem_cons_zero, List.setIfInBounds_toArray, List.set_cons_zero, List.set_cons_succ]
            refine wpAnyH_take (i := 2) (v := ?vvx42) rfl (by kernel_rfl) (by kernel_rfl) (by kernel_rfl) (fun _ _ _ h => h) (Or.inl ⟨by rfl, ?hyx42⟩) (by assumption) ?rrx42
            case hyx42 =>
              intro W hS
              try dsimp only at hS
              go_simp
              try with_reducible rfl
            case rrx42 =>
            try simp only [Act.put, List.getElem_toArray, List.getElem_cons_succ, List.getElem_cons_zero, List.setIfInBounds_toArray, List.set_cons_zero, List.set_cons_succ]
            refine wpAnyH_take (i := 3) (v := ?vvx43) rfl (by kernel_rfl) (by kernel_rfl) (by kernel_rfl) (fun _ _ _ h => h) (Or.inl ⟨by rfl, ?hyx43⟩) (by assumption) ?rrx43
            case hyx43 =>
              intro W hS
              try dsimp only at hS
              go_simp
              try with_reducible rfl
            case rrx43 =>
            try simp only [Act.put, List.getElem_toArray, List.getElem_cons_succ, List.getElem_cons_zero, List.setIfInBounds_toArray, List.set_cons_zero, List.set_cons_succ]
            refine wpAnyH_take (i := 4) (v := ?vvx44) rfl (by kernel_rfl) (by kernel_rfl) (by kernel_rfl) (fun _ _ _ h => h) (Or.inl ⟨by rfl, ?hyx44⟩) (by assumption) ?rrx44
            case hyx44 =>
              intro W hS
              try dsimp only at hS
              go_simp
              try with_reducible rfl
            case rrx44 =>
            try simp only [Act.put, List.getElem_toArray, List.getElem_cons_succ, List.getElem_cons_zero, List.setIfInBounds_toArray, List.set_cons_zero, List.set_cons_succ]
            refine wpAnyH_take (i := 5) (v := ?vvx45) rfl (by kernel_rfl) (by kernel_rfl) (by kernel_rfl) (fun _ _ _ h => h) (Or.inl ⟨by rfl, ?hyx45⟩) (by assumption) ?rrx45
            case hyx45 =>
              intro W hS
              try dsimp only at hS
              go_simp
              try with_reducible rfl
            case rrx45 =>
            try simp only [Act.put, List.getElem_toArray, List.getElem_cons_succ, List.getElem_cons_zero, List.setIfInBounds_toArray, List.set_cons_zero, List.set_cons_succ]
            refine wpAnyH_take (i := 6) (v := ?vvx46) rfl (by kernel_rfl) (by kernel_rfl) (by kernel_rfl) (fun _ _ _ h => h) (Or.inl ⟨by rfl, ?hyx46⟩) (by assumption) ?rrx46
            case hyx46 =>
              intro W hS
              try dsimp only at hS
              go_simp
              try with_reducible rfl
            case rrx46 =>
            try simp only [Act.put, List.getElem_toArray, List.getElem_cons_succ, List.getElem_cons_zero, List.setIfInBounds_toArray, List.set_cons_zero, List.set_cons_succ]
            refine wpAnyH_take (i := 8) (v := ?vvx48) rfl (by kernel_rfl) (by kernel_rfl) (by kernel_rfl) (fun _ _ _ h => h) (Or.inl ⟨by rfl, ?hyx48⟩) (by assumption) ?rrx48
            case hyx48 =>
              intro W hS
              try dsimp only at hS
              go_simp
              try with_reducible rfl
            case rrx48 =>
            try simp only [Act.put, List.getElem_toArray, List.getElem_cons_succ, List.getElem_cons_zero, List.setIfInBounds_toArray, List.set_cons_zero, List.set_cons_succ]
            refine wpAnyH_ready (rs := [7]) (by kernel_rfl) (by simp) ?_
            refine AllReadyH.cons rfl (fun K hK => ?_) AllReadyH.nil
            go_simp
            refine (HV1.out _).mono ?_
            rintro e w4 ⟨rfl, hb⟩
            have hB4 := HG2.out _ _ (by assumption) hb
            clear hb
            refine hK.out _ _ (HSS.out _ hB4) (fun hHeld => ?_)
            clear hK K
            try simp only [Act.put, List.getElem_toArray, List.getElem_cons_succ, List.getElem_cons_zero, List.setIfInBounds_toArray, List.set_cons_zero, List.set_cons_succ]
            refine wpAnyH_ready (rs := [9]) (by kernel_rfl) (by simp) ?_
            refine AllReadyH.cons rfl (fun K hK => ?_) AllReadyH.nil
            go_simp
            refine (HV2.out _).mono ?_
            rintro e w4 ⟨rfl, hb⟩
            have hB4 := HG2.out _ _ (by assumption) hb
            clear hb
            refine hK.out _ _ (HSS.out _ hB4) (fun hHeld => ?_)
            clear hK K
            try simp only [Act.put, List.getElem_toArray, List.getElem_cons_succ, List.getElem_cons_zero, List.setIfInBounds_toArray, List.set_cons_zero, List.set_cons_succ]
            refine wpAnyH_take (i := 10) (v := .bool true) rfl (by kernel_rfl) (by kernel_rfl) (by kernel_rfl) (fun _ _ _ h => h) (Or.inl ⟨by rfl, ?hyx410⟩) (by assumption) ?rrx410
            case hyx410 =>
              intro W hS
              exact (op46 _ _ (.tmp 12) (.tmp 14) rfl a b c a b c rfl rfl W).trans (congrArg (fun v : Bool => Result.ok (Next.value (Value.bool v)) W) E46.out)
            case rrx410 =>
            try simp only [Act.put, List.getElem_toArray, List.getElem_cons_succ, List.getElem_cons_zero, List.setIfInBounds_toArray, List.set_cons_zero, List.set_cons_succ]
            refine wpAnyH_take (i := 11) (v := ?vvx411) rfl (by kernel_rfl) (by kernel_rfl) (by kernel_rfl) (fun _ _ _ h => h) (Or.inl ⟨by rfl, ?hyx411⟩) (by assumption) ?rrx411
            case hyx411 =>
              intro W hS
              try dsimp only at hS
              go_simp
              try with_reducible rfl
            case rrx411 =>
            try simp only [Act.put, List.getElem_toArray, List.getElem_cons_succ, List.getElem_cons_zero, List.setIfInBounds_toArray, List.set_cons_zero, List.set_cons_succ]
            refine wpAnyH_take (i := 12) (v := ?vvx412) rfl (by kernel_rfl) (by kernel_rfl) (by kernel_rfl) (fun _ _ _ h => h) (Or.inl ⟨by rfl, ?hyx412⟩) (by assumption) ?rrx412
            case hyx412 =>
              intro W hS
              try dsimp only at hS
              go_simp
              try with_reducible rfl
            case rrx412 =>
            try simp only [Act.put, List.getElem_toArray, List.getElem_cons_succ, List.getElem_cons_zero, List.setIfInBounds_toArray, List.set_cons_zero, List.set_cons_succ]
            refine wpAnyH_take (i := 13) (v := ?vvx413) rfl (by kernel_rfl) (by kernel_rfl) (by kernel_rfl) (fun _ _ _ h => h) (Or.inl ⟨by rfl, ?hyx413⟩) (by assumption) ?rrx413
            case hyx413 =>
              intro W hS
              try dsimp only at hS
              go_simp
              try with_reducible rfl
            case rrx413 =>
            try simp only [Act.put, List.getElem_toArray, List.getElem_cons_succ, List.getElem_cons_zero, List.setIfInBounds_toArray, List.set_cons_zero, List.set_cons_succ]
            refine wpAnyH_take (i := 14) (v := ?vvx414) rfl (by kernel_rfl) (by kernel_rfl) (by kernel_rfl) (fun _ _ _ h => h) (Or.inl ⟨by rfl, ?hyx414⟩) (by assumption) ?rrx414
            case hyx414 =>
              intro W hS
              try dsimp only at hS
              go_simp
              try with_reducible rfl
            case rrx414 =>
            try simp only [Act.put, List.getElem_toArray, List.getElem_cons_succ, List.getElem_cons_zero, List.setIfInBounds_toArray, List.set_cons_zero, List.set_cons_succ]
            refine wpAnyH_take (i := 15) (v := ?vvx415) rfl (by kernel_rfl) (by kernel_rfl) (by kernel_rfl) (fun _ _ _ h => h) (Or.inl ⟨by rfl, ?hyx415⟩) (by assumption) ?rrx415
            case hyx415 =>
              intro W hS
              try dsimp only at hS
              go_simp
              try with_reducible rfl
            case rrx415 =>
            try simp only [Act.put, List.getElem_toArray, List.getElem_cons_succ, List.getElem_cons_zero, List.setIfInBounds_toArray, List.set_cons_zero, List.set_cons_succ]
            refine wpAnyH_take (i := 16) (v := ?vvx416) rfl (by kernel_rfl) (by kernel_rfl) (by kernel_rfl) (fun _ _ _ h => h) (Or.inl ⟨by rfl, ?hyx416⟩) (by assumption) ?rrx416
            case hyx416 =>
              intro W hS
              try dsimp only at hS
              go_simp
              try with_reducible rfl
            case rrx416 =>
            try simp only [Act.put, List.getElem_toArray, List.getElem_cons_succ, List.getElem_cons_zero, List.setIfInBounds_toArray, List.set_cons_zero, List.set_cons_succ]
            refine wpAnyH_take (i := 17) (v := ?vvx417) rfl (by kernel_rfl) (by kernel_rfl) (by kernel_rfl) (fun _ _ _ h => h) (Or.inl ⟨by rfl, ?hyx417⟩) (by assumption) ?rrx417
            case hyx417 =>
              intro W hS
              try dsimp only at hS
              go_simp
              try with_reducible rfl
            case rrx417 =>
            try simp only [Act.put, List.getElem_toArray, List.getElem_cons_succ, List.getElem_cons_zero, List.setIfInBounds_toArray, List.set_cons_zero, List.set_cons_succ]
            refine wpAnyH_take (i := 18) (v := ?vvx418) rfl (by kernel_rfl) (by kernel_rfl) (by kernel_rfl) (fun _ _ _ h => h) (Or.inl ⟨by rfl, ?hyx418⟩) (by assumption) ?rrx418
            case hyx418 =>
              intro W hS
              try dsimp only at hS
              go_simp
              try with_reducible rfl
            case rrx418 =>
            try simp only [Act.put, List.getElem_toArray, List.getElem_cons_succ, List.getElem_cons_zero, List.setIfInBounds_toArray, List.set_cons_zero, List.set_cons_succ]
            refine wpAnyH_take (i := 19) (v := ?vvx419) rfl (by kernel_rfl) (by kernel_rfl) (by kernel_rfl) (fun _ _ _ h => h) (Or.inl ⟨by rfl, ?hyx419⟩) (by assumption) ?rrx419
            case hyx419 =>
              intro W hS
              try dsimp only at hS
              go_simp
              try with_reducible rfl
            case rrx419 =>
            try simp only [Act.put, List.getElem_toArray, List.getElem_cons_succ, List.getElem_cons_zero, List.setIfInBounds_toArray, List.set_cons_zero, List.set_cons_succ]
            refine wpAnyH_take (i := 20) (v := ?vvx420) rfl (by kernel_rfl) (by kernel_rfl) (by kernel_rfl) (fun _ _ _ h => h) (Or.inl ⟨by rfl, ?hyx420⟩) (by assumption) ?rrx420
            case hyx420 =>
              intro W hS
              try dsimp only at hS
              go_simp
              try with_reducible rfl
            case rrx420 =>
            try simp only [Act.put, List.getElem_toArray, List.getElem_cons_succ, List.getElem_cons_zero, List.setIfInBounds_toArray, List.set_cons_zero, List.set_cons_succ]
            refine wpAnyH_take (i := 21) (v := ?vvx421) rfl (by kernel_rfl) (by kernel_rfl) (by kernel_rfl) (fun _ _ _ h => h) (Or.inl ⟨by rfl, ?hyx421⟩) (by assumption) ?rrx421
            case hyx421 =>
              intro W hS
              try dsimp only at hS
              go_simp
              try with_reducible rfl
            case rrx421 =>
            try simp only [Act.put, List.getElem_toArray, List.getElem_cons_succ, List.getElem_cons_zero, List.setIfInBounds_toArray, List.set_cons_zero, List.set_cons_succ]
            refine wpAnyH_take (i := 22) (v := ?vvx422) rfl (by kernel_rfl) (by kernel_rfl) (by kernel_rfl) (fun _ _ _ h => h) (Or.inl ⟨by rfl, ?hyx422⟩) (by assumption) ?rrx422
            case hyx422 =>
              intro W hS
              try dsimp only at hS
              go_simp
              try with_reducible rfl
            case rrx422 =>
            try simp only [Act.put, List.getElem_toArray, List.getElem_cons_succ, List.getElem_cons_zero, List.setIfInBounds_toArray, List.set_cons_zero, List.set_cons_succ]
            refine wpAnyH_take (i := 23) (v := ?vvx423) rfl (by kernel_rfl) (by kernel_rfl) (by kernel_rfl) (fun _ _ _ h => h) (Or.inl ⟨by rfl, ?hyx423⟩) (by assumption) ?rrx423
            case hyx423 =>
              intro W hS
              try dsimp only at hS
              go_simp
              try with_reducible rfl
            case rrx423 =>
            try simp only [Act.put, List.getElem_toArray, List.getElem_cons_succ, List.getElem_cons_zero, List.setIfInBounds_toArray, List.set_cons_zero, List.set_cons_succ]
            refine wpAnyH_ready (rs := [24]) (by kernel_rfl) (by simp) ?_
            refine AllReadyH.cons rfl (fun K hK => ?_) AllReadyH.nil
            go_simp
            have hq := HWS.out _ (by assumption)
            refine (HEQ.out _ (HC.out _ hq) (HC2.out _ hq)).mono ?_
            rintro e w4 ⟨rfl, hb⟩
            have hB4 := HG2.out _ _ (by assumption) hb
            clear hb
            refine hK.out _ _ (HSS.out _ hB4) (fun hHeld => ?_)
            clear hK K
            try simp only [Act.put, List.getElem_toArray, List.getElem_cons_succ, List.getElem_cons_zero, List.setIfInBounds_toArray, List.set_cons_zero, List.set_cons_succ]
            refine wpAnyH_take (i := 25) (v := ?vvx425) rfl (by kernel_rfl) (by kernel_rfl) (by kernel_rfl) (fun _ _ _ h => h) (Or.inl ⟨by rfl, ?hyx425⟩) (by assumption) ?rrx425
            case hyx425 =>
              intro W hS
              try dsimp only at hS
              go_simp
              try with_reducible rfl
            case rrx425 =>
            try simp only [Act.put, List.getElem_toArray, List.getElem_cons_succ, List.getElem_cons_zero, List.setIfInBounds_toArray, List.set_cons_zero, List.set_cons_succ]
            refine wpAnyH_take (i := 26) (v := ?vvx426) rfl (by kernel_rfl) (by kernel_rfl) (by kernel_rfl) (fun _ _ _ h => h) (Or.inl ⟨by rfl, ?hyx426⟩) (by assumption) ?rrx426
            case hyx426 =>
              intro W hS
              try dsimp only at hS
              go_simp
              try with_reducible rfl
            case rrx426 =>
            try simp only [Act.put, List.getElem_toArray, List.getElem_cons_succ, List.getElem_cons_zero, List.setIfInBounds_toArray, List.set_cons_zero, List.set_cons_succ]
            refine wpAnyH_done (by kernel_rfl) ?_ _
            refine NoPanic.normal ?_
            go_wp2_with fail
            go_ret
            exact ⟨congrArg (fun x : Bool => Ending.returned (.bool x)) HF.out.symm, HWS.out _ (by assumption)⟩
          · have gm : (m == m2) = false := beq_false_of_ne hm
            rw [decide_eq_false hm] at HR
            clear hm
            have HF := Lib.hid (show R = false by rw [HR.out]; simp)
            clear HR
            go_enter Tryd.func23, Tryd.ntmps23
            go_upto_region 1 with fail
            generalize ((w.alloc (.cells #[.string ⟨o.toArray⟩, .int .i64 a, .int .i64 b, .int .i64 c, .int .i64 m, .slice A ks.length cap] 24)).alloc (.cells #[.string ⟨o2.toArray⟩, .int .i64 a, .int .i64 b, .int .i64 c, .int .i64 m2, .slice B ls.length cap2] 24)) = Z at *
            refine wp_region_noPanic ?_
            refine wp_region_held_drew (S := (fun W => Below (w.heap.size + 1 + 1) Z W ∧ (W.cell? ⟨w.heap.size, 0, none⟩ = some (.string ⟨o.toArray⟩) ∧ W.cell? ⟨w.heap.size, 1, none⟩ = some (.int .i64 a) ∧ W.cell? ⟨w.heap.size, 2, none⟩ = some (.int .i64 b) ∧ W.cell? ⟨w.heap.size, 3, none⟩ = some (.int .i64 c) ∧ W.cell? ⟨w.heap.size, 4, none⟩ = some (.int .i64 m) ∧ W.cell? ⟨w.heap.size, 5, none⟩ = some (.slice A ks.length cap)) ∧ (W.cell? ⟨w.heap.size + 1, 0, none⟩ = some (.string ⟨o2.toArray⟩) ∧ W.cell? ⟨w.heap.size + 1, 1, none⟩ = some (.int .i64 a) ∧ W.cell? ⟨w.heap.size + 1, 2, none⟩ = some (.int .i64 b) ∧ W.cell? ⟨w.heap.size + 1, 3, none⟩ = some (.int .i64 c) ∧ W.cell? ⟨w.heap.size + 1, 4, none⟩ = some (.int .i64 m2) ∧ W.cell? ⟨w.heap.size + 1, 5, none⟩ = some (.slice B ls.length cap2)))) (by kernel_rfl) (HSS.out _ hB0.drew) (fun hHeld => ?_)
            refine wpAnyH_take (i := 0) (v := ?vvx30) rfl (by kernel_rfl) (by kernel_rfl) (by kernel_rfl) (fun _ _ _ h => h) (Or.inl ⟨by rfl, ?hyx30⟩) (by assumption) ?rrx30
            case hyx30 =>
              intro W hS
              try dsimp only at hS
              go_simp
              try with_reducible rfl
            case rrx30 =>
            try simp only [Act.put, List.getElem_toArray, List.getElem_cons_zero, List.setIfInBounds_toArray, List.set_cons_zero, List.set_cons_succ]
            refine wpAnyH_take (i := 1) (v := ?vvx31) rfl (by kernel_rfl) (by kernel_rfl) (by kernel_rfl) (fun _ _ _ h => h) (Or.inl ⟨by rfl, ?hyx31⟩) (by assumption) ?rrx31
            case hyx31 =>
              intro W hS
              try dsimp only at hS
              go_simp
              try with_reducible rfl
            case rrx31 =>
            try simp only [Act.put, List.getElem_toArray, List.getElem_cons_succ, List.getElem_cons_zero, List.setIfInBounds_toArray, List.set_cons_zero, List.set_cons_succ]
            refine wpAnyH_take (i := 2) (v := ?vvx32) rfl (by kernel_rfl) (by kernel_rfl) (by kernel_rfl) (fun _ _ _ h => h) (Or.inl ⟨by rfl, ?hyx32⟩) (by assumption) ?rrx32
            case hyx32 =>
              intro W hS
              try dsimp only at hS
              go_simp
              try with_reducible rfl
            case rrx32 =>
            try simp only [Act.put, List.getElem_toArray, List.getElem_cons_succ, List.getElem_cons_zero, List.setIfInBounds_toArray, List.set_cons_zero, List.set_cons_succ]
            refine wpAnyH_take (i := 3) (v := ?vvx33) rfl (by kernel_rfl) (by kernel_rfl) (by kernel_rfl) (fun _ _ _ h => h) (Or.inl ⟨by rfl, ?hyx33⟩) (by assumption) ?rrx33
            case hyx33 =>
              intro W hS
              try dsimp only at hS
              go_simp
              try with_reducible rfl
            case rrx33 =>
            try simp only [Act.put, List.getElem_toArray, List.getElem_cons_succ, List.getElem_cons_zero, List.setIfInBounds_toArray, List.set_cons_zero, List.set_cons_succ]
            refine wpAnyH_take (i := 4) (v := ?vvx34) rfl (by kernel_rfl) (by kernel_rfl) (by kernel_rfl) (fun _ _ _ h => h) (Or.inl ⟨by rfl, ?hyx34⟩) (by assumption) ?rrx34
            case hyx34 =>
              intro W hS
              try dsimp only at hS
              go_simp
              try with_reducible rfl
            case rrx34 =>
            try simp only [Act.put, List.getElem_toArray, List.getElem_cons_succ, List.getElem_cons_zero, List.setIfInBounds_toArray, List.set_cons_zero, List.set_cons_succ]
            refine wpAnyH_take (i := 5) (v := ?vvx35) rfl (by kernel_rfl) (by kernel_rfl) (by kernel_rfl) (fun _ _ _ h => h) (Or.inl ⟨by rfl, ?hyx35⟩) (by assumption) ?rrx35
            case hyx35 =>
              intro W hS
              try dsimp only at hS
              go_simp
              try with_reducible rfl
            case rrx35 =>
            try simp only [Act.put, List.getElem_toArray, List.getElem_cons_succ, List.getElem_cons_zero, List.setIfInBounds_toArray, List.set_cons_zero, List.set_cons_succ]
            refine wpAnyH_take (i := 6) (v := ?vvx36) rfl (by kernel_rfl) (by kernel_rfl) (by kernel_rfl) (fun _ _ _ h => h) (Or.inl ⟨by rfl, ?hyx36⟩) (by assumption) ?rrx36
            case hyx36 =>
              intro W hS
              try dsimp only at hS
              go_simp
              try with_reducible rfl
            case rrx36 =>
            try simp only [Act.put, List.getElem_toArray, List.getElem_cons_succ, List.getElem_cons_zero, List.setIfInBounds_toArray, List.set_cons_zero, List.set_cons_succ]
            refine wpAnyH_take (i := 8) (v := ?vvx38) rfl (by kernel_rfl) (by kernel_rfl) (by kernel_rfl) (fun _ _ _ h => h) (Or.inl ⟨by rfl, ?hyx38⟩) (by assumption) ?rrx38
            case hyx38 =>
              intro W hS
              try dsimp only at hS
              go_simp
              try with_reducible rfl
            case rrx38 =>
            try simp only [Act.put, List.getElem_toArray, List.getElem_cons_succ, List.getElem_cons_zero, List.setIfInBounds_toArray, List.set_cons_zero, List.set_cons_succ]
            refine wpAnyH_ready (rs := [7]) (by kernel_rfl) (by simp) ?_
            refine AllReadyH.cons rfl (fun K hK => ?_) AllReadyH.nil
            go_simp
            refine (HV1.out _).mono ?_
            rintro e w4 ⟨rfl, hb⟩
            have hB4 := HG2.out _ _ (by assumption) hb
            clear hb
            refine hK.out _ _ (HSS.out _ hB4) (fun hHeld => ?_)
            clear hK K
            try simp only [Act.put, List.getElem_toArray, List.getElem_cons_succ, List.getElem_cons_zero, List.setIfInBounds_toArray, List.set_cons_zero, List.set_cons_succ]
            refine wpAnyH_ready (rs := [9]) (by kernel_rfl) (by simp) ?_
            refine AllReadyH.cons rfl (fun K hK => ?_) AllReadyH.nil
            go_simp
            refine (HV2.out _).mono ?_
            rintro e w4 ⟨rfl, hb⟩
            have hB4 := HG2.out _ _ (by assumption) hb
            clear hb
            refine hK.out _ _ (HSS.out _ hB4) (fun hHeld => ?_)
            clear hK K
            try simp only [Act.put, List.getElem_toArray, List.getElem_cons_succ, List.getElem_cons_zero, List.setIfInBounds_toArray, List.set_cons_zero, List.set_cons_succ]
            refine wpAnyH_take (i := 10) (v := .bool true) rfl (by kernel_rfl) (by kernel_rfl) (by kernel_rfl) (fun _ _ _ h => h) (Or.inl ⟨by rfl, ?hyx310⟩) (by assumption) ?rrx310
            case hyx310 =>
              intro W hS
              exact (op46 _ _ (.tmp 12) (.tmp 14) rfl a b c a b c rfl rfl W).trans (congrArg (fun v : Bool => Result.ok (Next.value (Value.bool v)) W) E46.out)
            case rrx310 =>
            try simp only [Act.put, List.getElem_toArray, List.getElem_cons_succ, List.getElem_cons_zero, List.setIfInBounds_toArray, List.set_cons_zero, List.set_cons_succ]
            refine wpAnyH_take (i := 11) (v := ?vvx311) rfl (by kernel_rfl) (by kernel_rfl) (by kernel_rfl) (fun _ _ _ h => h) (Or.inl ⟨by rfl, ?hyx311⟩) (by assumption) ?rrx311
            case hyx311 =>
              intro W hS
              try dsimp only at hS
              go_simp
              try with_reducible rfl
            case rrx311 =>
            try simp only [Act.put, List.getElem_toArray, List.getElem_cons_succ, List.getElem_cons_zero, List.setIfInBounds_toArray, List.set_cons_zero, List.set_cons_succ]
            refine wpAnyH_take (i := 12) (v := ?vvx312) rfl (by kernel_rfl) (by kernel_rfl) (by kernel_rfl) (fun _ _ _ h => h) (Or.inl ⟨by rfl, ?hyx312⟩) (by assumption) ?rrx312
            case hyx312 =>
              intro W hS
              try dsimp only at hS
              go_simp
              try with_reducible rfl
            case rrx312 =>
            try simp only [Act.put, List.getElem_toArray, List.getElem_cons_succ, List.getElem_cons_zero, List.setIfInBounds_toArray, List.set_cons_zero, List.set_cons_succ]
            refine wpAnyH_take (i := 13) (v := ?vvx313) rfl (by kernel_rfl) (by kernel_rfl) (by kernel_rfl) (fun _ _ _ h => h) (Or.inl ⟨by rfl, ?hyx313⟩) (by assumption) ?rrx313
            case hyx313 =>
              intro W hS
              try dsimp only at hS
              go_simp
              try with_reducible rfl
            case rrx313 =>
            try simp only [Act.put, List.getElem_toArray, List.getElem_cons_succ, List.getElem_cons_zero, List.setIfInBounds_toArray, List.set_cons_zero, List.set_cons_succ]
            refine wpAnyH_take (i := 14) (v := ?vvx314) rfl (by kernel_rfl) (by kernel_rfl) (by kernel_rfl) (fun _ _ _ h => h) (Or.inl ⟨by rfl, ?hyx314⟩) (by assumption) ?rrx314
            case hyx314 =>
              intro W hS
              try dsimp only at hS
              go_simp
              try with_reducible rfl
            case rrx314 =>
            try simp only [Act.put, List.getElem_toArray, List.getElem_cons_succ, List.getElem_cons_zero, List.setIfInBounds_toArray, List.set_cons_zero, List.set_cons_succ]
            refine wpAnyH_take (i := 15) (v := ?vvx315) rfl (by kernel_rfl) (by kernel_rfl) (by kernel_rfl) (fun _ _ _ h => h) (Or.inl ⟨by rfl, ?hyx315⟩) (by assumption) ?rrx315
            case hyx315 =>
              intro W hS
              try dsimp only at hS
              go_simp
              try with_reducible rfl
            case rrx315 =>
            try simp only [Act.put, List.getElem_toArray, List.getElem_cons_succ, List.getElem_cons_zero, List.setIfInBounds_toArray, List.set_cons_zero, List.set_cons_succ]
            refine wpAnyH_take (i := 16) (v := ?vvx316) rfl (by kernel_rfl) (by kernel_rfl) (by kernel_rfl) (fun _ _ _ h => h) (Or.inl ⟨by rfl, ?hyx316⟩) (by assumption) ?rrx316
            case hyx316 =>
              intro W hS
              try dsimp only at hS
              go_simp
              try with_reducible rfl
            case rrx316 =>
            try simp only [Act.put, List.getElem_toArray, List.getElem_cons_succ, List.getElem_cons_zero, List.setIfInBounds_toArray, List.set_cons_zero, List.set_cons_succ]
            refine wpAnyH_take (i := 17) (v := ?vvx317) rfl (by kernel_rfl) (by kernel_rfl) (by kernel_rfl) (fun _ _ _ h => h) (Or.inl ⟨by rfl, ?hyx317⟩) (by assumption) ?rrx317
            case hyx317 =>
              intro W hS
              try dsimp only at hS
              go_simp
              try with_reducible rfl
            case rrx317 =>
            try simp only [Act.put, List.getElem_toArray, List.getElem_cons_succ, List.getElem_cons_zero, List.setIfInBounds_toArray, List.set_cons_zero, List.set_cons_succ]
            refine wpAnyH_take (i := 18) (v := ?vvx318) rfl (by kernel_rfl) (by kernel_rfl) (by kernel_rfl) (fun _ _ _ h => h) (Or.inl ⟨by rfl, ?hyx318⟩) (by assumption) ?rrx318
            case hyx318 =>
              intro W hS
              try dsimp only at hS
              go_simp
              try with_reducible rfl
            case rrx318 =>
            try simp only [Act.put, List.getElem_toArray, List.getElem_cons_succ, List.getElem_cons_zero, List.setIfInBounds_toArray, List.set_cons_zero, List.set_cons_succ]
            refine wpAnyH_take (i := 19) (v := ?vvx319) rfl (by kernel_rfl) (by kernel_rfl) (by kernel_rfl) (fun _ _ _ h => h) (Or.inl ⟨by rfl, ?hyx319⟩) (by assumption) ?rrx319
            case hyx319 =>
              intro W hS
              try dsimp only at hS
              go_simp
              try with_reducible rfl
            case rrx319 =>
            try simp only [Act.put, List.getElem_toArray, List.getElem_cons_succ, List.getElem_cons_zero, List.setIfInBounds_toArray, List.set_cons_zero, List.set_cons_succ]
            refine wpAnyH_take (i := 20) rfl (by kernel_rfl) (by kernel_rfl) (by kernel_rfl) (fun _ _ _ h => h) (Or.inr ⟨by kernel_rfl, rfl⟩) (by assumption) ?_
            try simp only [Act.put, List.getElem_toArray, List.getElem_cons_succ, List.getElem_cons_zero, List.setIfInBounds_toArray, List.set_cons_zero, List.set_cons_succ]
            refine wpAnyH_take (i := 21) rfl (by kernel_rfl) (by kernel_rfl) (by kernel_rfl) (fun _ _ _ h => h) (Or.inr ⟨by kernel_rfl, rfl⟩) (by assumption) ?_
            try simp only [Act.put, List.getElem_toArray, List.getElem_cons_succ, List.getElem_cons_zero, List.setIfInBounds_toArray, List.set_cons_zero, List.set_cons_succ]
            refine wpAnyH_take (i := 22) rfl (by kernel_rfl) (by kernel_rfl) (by kernel_rfl) (fun _ _ _ h => h) (Or.inr ⟨by kernel_rfl, rfl⟩) (by assumption) ?_
            try simp only [Act.put, List.getElem_toArray, List.getElem_cons_succ, List.getElem_cons_zero, List.setIfInBounds_toArray, List.set_cons_zero, List.set_cons_succ]
            refine wpAnyH_take (i := 23) rfl (by kernel_rfl) (by kernel_rfl) (by kernel_rfl) (fun _ _ _ h => h) (Or.inr ⟨by kernel_rfl, rfl⟩) (by assumption) ?_
            try simp only [Act.put, List.getElem_toArray, List.getElem_cons_succ, List.getElem_cons_zero, List.setIfInBounds_toArray, List.set_cons_zero, List.set_cons_succ]
            refine wpAnyH_take (i := 24) rfl (by kernel_rfl) (by kernel_rfl) (by kernel_rfl) (fun _ _ _ h => h) (Or.inr ⟨by kernel_rfl, rfl⟩) (by assumption) ?_
            try simp only [Act.put, List.getElem_toArray, List.getElem_cons_succ, List.getElem_cons_zero, List.setIfInBounds_toArray, List.set_cons_zero, List.set_cons_succ]
            refine wpAnyH_take (i := 25) (v := ?vvx325) rfl (by kernel_rfl) (by kernel_rfl) (by kernel_rfl) (fun _ _ _ h => h) (Or.inl ⟨by rfl, ?hyx325⟩) (by assumption) ?rrx325
            case hyx325 =>
              intro W hS
              try dsimp only at hS
              go_simp
              try with_reducible rfl
            case rrx325 =>
            try simp only [Act.put, List.getElem_toArray, List.getElem_cons_succ, List.getElem_cons_zero, List.setIfInBounds_toArray, List.set_cons_zero, List.set_cons_succ]
            refine wpAnyH_take (i := 26) (v := ?vvx326) rfl (by kernel_rfl) (by kernel_rfl) (by kernel_rfl) (fun _ _ _ h => h) (Or.inl ⟨by rfl, ?hyx326⟩) (by assumption) ?rrx326
            case hyx326 =>
              intro W hS
              try dsimp only at hS
              go_simp
              try with_reducible rfl
            case rrx326 =>
            try simp only [Act.put, List.getElem_toArray, List.getElem_cons_succ, List.getElem_cons_zero, List.setIfInBounds_toArray, List.set_cons_zero, List.set_cons_succ]
            refine wpAnyH_done (by kernel_rfl) ?_ _
            refine NoPanic.normal ?_
            go_wp2_with fail
            go_ret
            exact ⟨congrArg (fun x : Bool => Ending.returned (.bool x)) HF.out.symm, HWS.out _ (by assumption)⟩
        · have E46 := Lib.hid (show (a == a2 && b == b2 && c == c2) = false by
            rw [← Bool.not_eq_true]
            intro h
            simp only [Bool.and_eq_true, beq_iff_eq] at h
            exact hv h)
          have HR2 := Lib.hid (show R = false by
            rw [HR.out, ← Bool.not_eq_true]
            intro h
            simp only [Bool.and_eq_true, decide_eq_true_eq] at h
            exact hv ⟨⟨h.1.1.1.1.2, h.1.1.1.2⟩, h.1.1.2⟩)
          clear hv HR
          have HF := HR2
          clear HR2
          go_enter Tryd.func23, Tryd.ntmps23
          go_upto_region 1 with fail
          generalize ((w.alloc (.cells #[.string ⟨o.toArray⟩, .int .i64 a, .int .i64 b, .int .i64 c, .int .i64 m, .slice A ks.length cap] 24)).alloc (.cells #[.string ⟨o2.toArray⟩, .int .i64 a2, .int .i64 b2, .int .i64 c2, .int .i64 m2, .slice B ls.length cap2] 24)) = Z at *
          refine wp_region_noPanic ?_
          refine wp_region_held_drew (S := (fun W => Below (w.heap.size + 1 + 1) Z W ∧ (W.cell? ⟨w.heap.size, 0, none⟩ = some (.string ⟨o.toArray⟩) ∧ W.cell? ⟨w.heap.size, 1, none⟩ = some (.int .i64 a) ∧ W.cell? ⟨w.heap.size, 2, none⟩ = some (.int .i64 b) ∧ W.cell? ⟨w.heap.size, 3, none⟩ = some (.int .i64 c) ∧ W.cell? ⟨w.heap.size, 4, none⟩ = some (.int .i64 m) ∧ W.cell? ⟨w.heap.size, 5, none⟩ = some (.slice A ks.length cap)) ∧ (W.cell? ⟨w.heap.size + 1, 0, none⟩ = some (.string ⟨o2.toArray⟩) ∧ W.cell? ⟨w.heap.size + 1, 1, none⟩ = some (.int .i64 a2) ∧ W.cell? ⟨w.heap.size + 1, 2, none⟩ = some (.int .i64 b2) ∧ W.cell? ⟨w.heap.size + 1, 3, none⟩ = some (.int .i64 c2) ∧ W.cell? ⟨w.heap.size + 1, 4, none⟩ = some (.int .i64 m2) ∧ W.cell? ⟨w.heap.size + 1, 5, none⟩ = some (.slice B ls.length cap2)))) (by kernel_rfl) (HSS.out _ hB0.drew) (fun hHeld => ?_)
          refine wpAnyH_take (i := 0) (v := ?vvx00) rfl (by kernel_rfl) (by kernel_rfl) (by kernel_rfl) (fun _ _ _ h => h) (Or.inl ⟨by rfl, ?hyx00⟩) (by assumption) ?rrx00
          case hyx00 =>
            intro W hS
            try dsimp only at hS
            go_simp
            try with_reducible rfl
          case rrx00 =>
          try simp only [Act.put, List.getElem_toArray, List.getElem_cons_zero, List.setIfInBounds_toArray, List.set_cons_zero, List.set_cons_succ]
          refine wpAnyH_take (i := 1) (v := ?vvx01) rfl (by kernel_rfl) (by kernel_rfl) (by kernel_rfl) (fun _ _ _ h => h) (Or.inl ⟨by rfl, ?hyx01⟩) (by assumption) ?rrx01
          case hyx01 =>
            intro W hS
            try dsimp only at hS
            go_simp
            try with_reducible rfl
          case rrx01 =>
          try simp only [Act.put, List.getElem_toArray, List.getElem_cons_succ, List.getElem_cons_zero, List.setIfInBounds_toArray, List.set_cons_zero, List.set_cons_succ]
          refine wpAnyH_take (i := 2) (v := ?vvx02) rfl (by kernel_rfl) (by kernel_rfl) (by kernel_rfl) (fun _ _ _ h => h) (Or.inl ⟨by rfl, ?hyx02⟩) (by assumption) ?rrx02
          case hyx02 =>
            intro W hS
            try dsimp only at hS
            go_simp
            try with_reducible rfl
          case rrx02 =>
          try simp only [Act.put, List.getElem_toArray, List.getElem_cons_succ, List.getElem_cons_zero, List.setIfInBounds_toArray, List.set_cons_zero, List.set_cons_succ]
          refine wpAnyH_take (i := 3) (v := ?vvx03) rfl (by kernel_rfl) (by kernel_rfl) (by kernel_rfl) (fun _ _ _ h => h) (Or.inl ⟨by rfl, ?hyx03⟩) (by assumption) ?rrx03
          case hyx03 =>
            intro W hS
            try dsimp only at hS
            go_simp
            try with_reducible rfl
          case rrx03 =>
          try simp only [Act.put, List.getElem_toArray, List.getElem_cons_succ, List.getElem_cons_zero, List.setIfInBounds_toArray, List.set_cons_zero, List.set_cons_succ]
          refine wpAnyH_take (i := 4) (v := ?vvx04) rfl (by kernel_rfl) (by kernel_rfl) (by kernel_rfl) (fun _ _ _ h => h) (Or.inl ⟨by rfl, ?hyx04⟩) (by assumption) ?rrx04
          case hyx04 =>
            intro W hS
            try dsimp only at hS
            go_simp
            try with_reducible rfl
          case rrx04 =>
          try simp only [Act.put, List.getElem_toArray, List.getElem_cons_succ, List.getElem_cons_zero, List.setIfInBounds_toArray, List.set_cons_zero, List.set_cons_succ]
          refine wpAnyH_take (i := 5) (v := ?vvx05) rfl (by kernel_rfl) (by kernel_rfl) (by kernel_rfl) (fun _ _ _ h => h) (Or.inl ⟨by rfl, ?hyx05⟩) (by assumption) ?rrx05
          case hyx05 =>
            intro W hS
            try dsimp only at hS
            go_simp
            try with_reducible rfl
          case rrx05 =>
          try simp only [Act.put, List.getElem_toArray, List.getElem_cons_succ, List.getElem_cons_zero, List.setIfInBounds_toArray, List.set_cons_zero, List.set_cons_succ]
          refine wpAnyH_take (i := 6) (v := ?vvx06) rfl (by kernel_rfl) (by kernel_rfl) (by kernel_rfl) (fun _ _ _ h => h) (Or.inl ⟨by rfl, ?hyx06⟩) (by assumption) ?rrx06
          case hyx06 =>
            intro W hS
            try dsimp only at hS
            go_simp
            try with_reducible rfl
          case rrx06 =>
          try simp only [Act.put, List.getElem_toArray, List.getElem_cons_succ, List.getElem_cons_zero, List.setIfInBounds_toArray, List.set_cons_zero, List.set_cons_succ]
          refine wpAnyH_take (i := 8) (v := ?vvx08) rfl (by kernel_rfl) (by kernel_rfl) (by kernel_rfl) (fun _ _ _ h => h) (Or.inl ⟨by rfl, ?hyx08⟩) (by assumption) ?rrx08
          case hyx08 =>
            intro W hS
            try dsimp only at hS
            go_simp
            try with_reducible rfl
          case rrx08 =>
          try simp only [Act.put, List.getElem_toArray, List.getElem_cons_succ, List.getElem_cons_zero, List.setIfInBounds_toArray, List.set_cons_zero, List.set_cons_succ]
          refine wpAnyH_ready (rs := [7]) (by kernel_rfl) (by simp) ?_
          refine AllReadyH.cons rfl (fun K hK => ?_) AllReadyH.nil
          go_simp
          refine (HV1.out _).mono ?_
          rintro e w4 ⟨rfl, hb⟩
          have hB4 := HG2.out _ _ (by assumption) hb
          clear hb
          refine hK.out _ _ (HSS.out _ hB4) (fun hHeld => ?_)
          clear hK K
          try simp only [Act.put, List.getElem_toArray, List.getElem_cons_succ, List.getElem_cons_zero, List.setIfInBounds_toArray, List.set_cons_zero, List.set_cons_succ]
          refine wpAnyH_ready (rs := [9]) (by kernel_rfl) (by simp) ?_
          refine AllReadyH.cons rfl (fun K hK => ?_) AllReadyH.nil
          go_simp
          refine (HV2.out _).mono ?_
          rintro e w4 ⟨rfl, hb⟩
          have hB4 := HG2.out _ _ (by assumption) hb
          clear hb
          refine hK.out _ _ (HSS.out _ hB4) (fun hHeld => ?_)
          clear hK K
          try simp only [Act.put, List.getElem_toArray, List.getElem_cons_succ, List.getElem_cons_zero, List.setIfInBounds_toArray, List.set_cons_zero, List.set_cons_succ]
          refine wpAnyH_take (i := 10) (v := .bool false) rfl (by kernel_rfl) (by kernel_rfl) (by kernel_rfl) (fun _ _ _ h => h) (Or.inl ⟨by rfl, ?hyx010⟩) (by assumption) ?rrx010
          case hyx010 =>
            intro W hS
            exact (op46 _ _ (.tmp 12) (.tmp 14) rfl a b c a2 b2 c2 rfl rfl W).trans (congrArg (fun v : Bool => Result.ok (Next.value (Value.bool v)) W) E46.out)
          case rrx010 =>
          try simp only [Act.put, List.getElem_toArray, List.getElem_cons_succ, List.getElem_cons_zero, List.setIfInBounds_toArray, List.set_cons_zero, List.set_cons_succ]
          refine wpAnyH_take (i := 11) (v := ?vvx011) rfl (by kernel_rfl) (by kernel_rfl) (by kernel_rfl) (fun _ _ _ h => h) (Or.inl ⟨by rfl, ?hyx011⟩) (by assumption) ?rrx011
          case hyx011 =>
            intro W hS
            try dsimp only at hS
            go_simp
            try with_reducible rfl
          case rrx011 =>
          try simp only [Act.put, List.getElem_toArray, List.getElem_cons_succ, List.getElem_cons_zero, List.setIfInBounds_toArray, List.set_cons_zero, List.set_cons_succ]
          refine wpAnyH_take (i := 12) (v := ?vvx012) rfl (by kernel_rfl) (by kernel_rfl) (by kernel_rfl) (fun _ _ _ h => h) (Or.inl ⟨by rfl, ?hyx012⟩) (by assumption) ?rrx012
          case hyx012 =>
            intro W hS
            try dsimp only at hS
            go_simp
            try with_reducible rfl
          case rrx012 =>
          try simp only [Act.put, List.getElem_toArray, List.getElem_cons_succ, List.getElem_cons_zero, List.setIfInBounds_toArray, List.set_cons_zero, List.set_cons_succ]
          refine wpAnyH_take (i := 13) rfl (by kernel_rfl) (by kernel_rfl) (by kernel_rfl) (fun _ _ _ h => h) (Or.inr ⟨by kernel_rfl, rfl⟩) (by assumption) ?_
          try simp only [Act.put, List.getElem_toArray, List.getElem_cons_succ, List.getElem_cons_zero, List.setIfInBounds_toArray, List.set_cons_zero, List.set_cons_succ]
          refine wpAnyH_take (i := 14) rfl (by kernel_rfl) (by kernel_rfl) (by kernel_rfl) (fun _ _ _ h => h) (Or.inr ⟨by kernel_rfl, rfl⟩) (by assumption) ?_
          try simp only [Act.put, List.getElem_toArray, List.getElem_cons_succ, List.getElem_cons_zero, List.setIfInBounds_toArray, List.set_cons_zero, List.set_cons_succ]
          refine wpAnyH_take (i := 15) rfl (by kernel_rfl) (by kernel_rfl) (by kernel_rfl) (fun _ _ _ h => h) (Or.inr ⟨by kernel_rfl, rfl⟩) (by assumption) ?_
          try simp only [Act.put, List.getElem_toArray, List.getElem_cons_succ, List.getElem_cons_zero, List.setIfInBounds_toArray, List.set_cons_zero, List.set_cons_succ]
          refine wpAnyH_take (i := 16) rfl (by kernel_rfl) (by kernel_rfl) (by kernel_rfl) (fun _ _ _ h => h) (Or.inr ⟨by kernel_rfl, rfl⟩) (by assumption) ?_
          try simp only [Act.put, List.getElem_toArray, List.getElem_cons_succ, List.getElem_cons_zero, List.setIfInBounds_toArray, List.set_cons_zero, List.set_cons_succ]
          refine wpAnyH_take (i := 17) rfl (by kernel_rfl) (by kernel_rfl) (by kernel_rfl) (fun _ _ _ h => h) (Or.inr ⟨by kernel_rfl, rfl⟩) (by assumption) ?_
          try simp only [Act.put, List.getElem_toArray, List.getElem_cons_succ, List.getElem_cons_zero, List.setIfInBounds_toArray, List.set_cons_zero, List.set_cons_succ]
          refine wpAnyH_take (i := 18) (v := ?vvx018) rfl (by kernel_rfl) (by kernel_rfl) (by kernel_rfl) (fun _ _ _ h => h) (Or.inl ⟨by rfl, ?hyx018⟩) (by assumption) ?rrx018
          case hyx018 =>
            intro W hS
            try dsimp only at hS
            go_simp
            try with_reducible rfl
          case rrx018 =>
          try simp only [Act.put, List.getElem_toArray, List.getElem_cons_succ, List.getElem_cons_zero, List.setIfInBounds_toArray, List.set_cons_zero, List.set_cons_succ]
          refine wpAnyH_take (i := 19) (v := ?vvx019) rfl (by kernel_rfl) (by kernel_rfl) (by kernel_rfl) (fun _ _ _ h => h) (Or.inl ⟨by rfl, ?hyx019⟩) (by assumption) ?rrx019
          case hyx019 =>
            intro W hS
            try dsimp only at hS
            go_simp
            try with_reducible rfl
          case rrx019 =>
          try simp only [Act.put, List.getElem_toArray, List.getElem_cons_succ, List.getElem_cons_zero, List.setIfInBounds_toArray, List.set_cons_zero, List.set_cons_succ]
          refine wpAnyH_take (i := 20) rfl (by kernel_rfl) (by kernel_rfl) (by kernel_rfl) (fun _ _ _ h => h) (Or.inr ⟨by kernel_rfl, rfl⟩) (by assumption) ?_
          try simp only [Act.put, List.getElem_toArray, List.getElem_cons_succ, List.getElem_cons_zero, List.setIfInBounds_toArray, List.set_cons_zero, List.set_cons_succ]
          refine wpAnyH_take (i := 21) rfl (by kernel_rfl) (by kernel_rfl) (by kernel_rfl) (fun _ _ _ h => h) (Or.inr ⟨by kernel_rfl, rfl⟩) (by assumption) ?_
          try simp only [Act.put, List.getElem_toArray, List.getElem_cons_succ, List.getElem_cons_zero, List.setIfInBounds_toArray, List.set_cons_zero, List.set_cons_succ]
          refine wpAnyH_take (i := 22) rfl (by kernel_rfl) (by kernel_rfl) (by kernel_rfl) (fun _ _ _ h => h) (Or.inr ⟨by kernel_rfl, rfl⟩) (by assumption) ?_
          try simp only [Act.put, List.getElem_toArray, List.getElem_cons_succ, List.getElem_cons_zero, List.setIfInBounds_toArray, List.set_cons_zero, List.set_cons_succ]
          refine wpAnyH_take (i := 23) rfl (by kernel_rfl) (by kernel_rfl) (by kernel_rfl) (fun _ _ _ h => h) (Or.inr ⟨by kernel_rfl, rfl⟩) (by assumption) ?_
          try simp only [Act.put, List.getElem_toArray, List.getElem_cons_succ, List.getElem_cons_zero, List.setIfInBounds_toArray, List.set_cons_zero, List.set_cons_succ]
          refine wpAnyH_take (i := 24) rfl (by kernel_rfl) (by kernel_rfl) (by kernel_rfl) (fun _ _ _ h => h) (Or.inr ⟨by kernel_rfl, rfl⟩) (by assumption) ?_
          try simp only [Act.put, List.getElem_toArray, List.getElem_cons_succ, List.getElem_cons_zero, List.setIfInBounds_toArray, List.set_cons_zero, List.set_cons_succ]
          refine wpAnyH_take (i := 25) (v := ?vvx025) rfl (by kernel_rfl) (by kernel_rfl) (by kernel_rfl) (fun _ _ _ h => h) (Or.inl ⟨by rfl, ?hyx025⟩) (by assumption) ?rrx025
          case hyx025 =>
            intro W hS
            try dsimp only at hS
            go_simp
            try with_reducible rfl
          case rrx025 =>
          try simp only [Act.put, List.getElem_toArray, List.getElem_cons_succ, List.getElem_cons_zero, List.setIfInBounds_toArray, List.set_cons_zero, List.set_cons_succ]
          refine wpAnyH_take (i := 26) (v := ?vvx026) rfl (by kernel_rfl) (by kernel_rfl) (by kernel_rfl) (fun _ _ _ h => h) (Or.inl ⟨by rfl, ?hyx026⟩) (by assumption) ?rrx026
          case hyx026 =>
            intro W hS
            try dsimp only at hS
            go_simp
            try with_reducible rfl
          case rrx026 =>
          try simp only [Act.put, List.getElem_toArray, List.getElem_cons_succ, List.getElem_cons_zero, List.setIfInBounds_toArray, List.set_cons_zero, List.set_cons_succ]
          refine wpAnyH_done (by kernel_rfl) ?_ _
          refine NoPanic.normal ?_
          go_wp2_with fail
          go_ret
          exact ⟨congrArg (fun x : Bool => Ending.returned (.bool x)) HF.out.symm, HWS.out _ (by assumption)⟩
      · rw [decide_eq_false ho] at HR
        have gO : (o == o2) = false := beq_false_of_ne ho
        clear ho
        have HF := Lib.hid (show R = false by rw [HR.out]; simp)
        clear HR
        go_enter Tryd.func23, Tryd.ntmps23
        go_upto_region 1 with fail
        go_quiet (fail)
        go_wp2_with fail
        go_ret
        exact ⟨congrArg (fun x : Bool => Ending.returned (.bool x)) HF.out.symm, Below.drewN_ (HW.out _ hB0) _⟩
end Go.Proofs.YtcgjacaemblnmaaDoor
