/- The walk over sibylref2.IsName. -/
import Derived.Test.YteikakoheibnjaaDoorTokens
namespace Go.Proofs.YteikakoheibnjaaDoor
open Go Go.RowKit

set_option maxHeartbeats 2000000 in
theorem isName_any (s : List UInt8) (hs : s.length ≤ 140737488355328) (w : World) (hT : Tab8 w) : Calls Tryd.prog 64 #[.string ⟨s.toArray⟩] w fun e w' => e = .returned (.bool (nameB s)) ∧ Below w.heap.size w w' := by
  have HTK := Lib.hid (fun W hW => tokens_any s hs W (Go.Proofs.Utf8Tabs_below hT hW))
  unfold ToksPost at HTK
  have HV := Lib.hid (show nameB s = ((tokens s).2.2 == 0 && (match (tokens s).1 with | [t, _] => t.kind == 1 && t.text == s | _ => false)) by
    unfold nameB
    generalize tokens s = x
    obtain ⟨l, p, e⟩ := x
    rfl)
  clear hT
  generalize nameB s = V at *
  generalize tokens s = x at *
  obtain ⟨l, p, er⟩ := x
  simp only at HTK HV
  have ARM : True := trivial
  by_cases he : er = 0
  · subst he
    by_cases hl : l.length = 2
    · obtain ⟨t0, t1, rfl⟩ : ∃ t0 t1, l = [t0, t1] := by
        match l, hl with
        | [a, b], _ => exact ⟨a, b, rfl⟩
      have HV2 := Lib.hid (show (t0.kind == 1 && t0.text == s) = V by rw [HV.out]; rfl)
      clear HV hl
      by_cases hk : t0.kind = 1
      · have gk : ((t0.kind : Int) == 1) = true := by rw [hk]; rfl
        have HV3 := Lib.hid (show (t0.text == s) = V by rw [← HV2.out, hk]; rfl)
        clear HV2 hk
        go_enter Tryd.func64, Tryd.ntmps64
        go_wp2_with (
          go_at_call 39
          refine (HTK.out _ (Below.refl _ _)).mono ?_
          intro e w2 hp
          obtain ⟨A, c, rfl, hown, hb⟩ := hp
          have HB := Lib.hid hb
          obtain ⟨g, cap, hv, _, hlt⟩ := hown.form (by simp)
          have hA : A = some ⟨g, 0, none⟩ := by injection hv
          subst hA
          have k0 : w2.cell? ⟨g, 0, none⟩ = some (.int .i64 t0.kind) := hown.cells (g := g) rfl 0 _ rfl
          have k1 : w2.cell? ⟨g, 1, none⟩ = some (.string ⟨t0.text.toArray⟩) := hown.cells (g := g) rfl 1 _ rfl
          clear hown hb hv)
        go_ret
        exact ⟨congrArg (fun x : Bool => Ending.returned (.bool x)) HV3.out, HB.out⟩
      · have gk : ((t0.kind : Int) == 1) = false := by simp; omega
        have HV3 := Lib.hid (show false = V by rw [← HV2.out, beq_false_of_ne hk]; rfl)
        clear HV2 hk
        go_enter Tryd.func64, Tryd.ntmps64
        go_wp2_with (
          go_at_call 39
          refine (HTK.out _ (Below.refl _ _)).mono ?_
          intro e w2 hp
          obtain ⟨A, c, rfl, hown, hb⟩ := hp
          have HB := Lib.hid hb
          obtain ⟨g, cap, hv, _, hlt⟩ := hown.form (by simp)
          have hA : A = some ⟨g, 0, none⟩ := by injection hv
          subst hA
          have k0 : w2.cell? ⟨g, 0, none⟩ = some (.int .i64 t0.kind) := hown.cells (g := g) rfl 0 _ rfl
          have k1 : w2.cell? ⟨g, 1, none⟩ = some (.string ⟨t0.text.toArray⟩) := hown.cells (g := g) rfl 1 _ rfl
          clear hown hb hv)
        go_ret
        exact ⟨congrArg (fun x : Bool => Ending.returned (.bool x)) HV3.out, HB.out⟩
    · have HV2 := Lib.hid (show false = V by
        rw [HV.out]
        match l, hl with
        | [], _ => rfl
        | [_], _ => rfl
        | [a, b], h => exact absurd rfl h
        | _ :: _ :: _ :: _, _ => rfl)
      have gl : ((l.length : Int) == 2) = false := by simp; omega
      clear HV hl
      go_enter Tryd.func64, Tryd.ntmps64
      go_wp2_with (
        go_at_call 39
        refine (HTK.out _ (Below.refl _ _)).mono ?_
        intro e w2 hp
        obtain ⟨A, c, rfl, hown, hb⟩ := hp
        have HB := Lib.hid hb
        clear hown hb)
      go_ret
      exact ⟨congrArg (fun x : Bool => Ending.returned (.bool x)) HV2.out, HB.out⟩
  · have HV2 := Lib.hid (show false = V by rw [HV.out, beq_false_of_ne he]; rfl)
    have ge : ((er : Int) == 0) = false := by simp; omega
    clear HV he
    go_enter Tryd.func64, Tryd.ntmps64
    go_wp2_with (
      go_at_call 39
      refine (HTK.out _ (Below.refl _ _)).mono ?_
      intro e w2 hp
      obtain ⟨A, c, rfl, hown, hb⟩ := hp
      have HB := Lib.hid hb
      clear hown hb)
    go_ret
    exact ⟨congrArg (fun x : Bool => Ending.returned (.bool x)) HV2.out, HB.out⟩
end Go.Proofs.YteikakoheibnjaaDoor
