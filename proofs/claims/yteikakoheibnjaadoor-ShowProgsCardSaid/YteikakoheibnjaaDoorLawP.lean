/- The walk over the law ShowProgs. -/
import Derived.Test.YteikakoheibnjaaDoorSProg
import Derived.Test.YteikakoheibnjaaDoorRProg
import Derived.Test.YteikakoheibnjaaDoorLawF
namespace Go.Proofs.YteikakoheibnjaaDoor
open Go Go.RowKit

/-- What 'fine' says. -/
theorem fine_parts {ds : List DeclP} {ps : List PredP} {t : Node} (h : fineB ⟨ds, ps, t⟩ = true) : ds.length ≤ 20 ∧ ps.length ≤ 10 ∧ nodes t ≤ 2000 ∧ (∀ x ∈ ps, nodes x.body ≤ 2000) ∧ progB ⟨ds, ps, t⟩ = true := by
  unfold fineB at h
  simp only [Bool.and_eq_true, decide_eq_true_eq, List.all_eq_true] at h
  obtain ⟨⟨⟨⟨h1, h2⟩, h3⟩, h4⟩, h5⟩ := h
  refine ⟨h1, h2, Nat.le_trans h3 (by omega), fun x hx => Nat.le_trans (h4 x hx) (by omega), h5⟩
set_option maxRecDepth 100000 in
set_option maxHeartbeats 4000000 in
theorem lawProgs_any (p : ProgP) (L : ProgL) (w : World) (h : ProgAt w w.heap.size p L) (hT : Tab8 w) :
    Calls Tryd.prog 4 #[progT p L] w fun e w' => e = .returned (.bool true) ∧ Below w.heap.size w w' := by
  obtain ⟨ds, ps, t⟩ := p
  cases t with
  | node o s n q ks =>
  simp only [progT, Node.op, Node.name, Node.num, Node.pos, Node.kids]
  have HF := Lib.hid (fun W (hW : Below w.heap.size w W) => fine_any ds ps o s n q ks L W (h.later hW hW.size) (Go.Proofs.Utf8Tabs_below hT hW))
  have HS := Lib.hid (fun (hf : fineB ⟨ds, ps, .node o s n q ks⟩ = true) W (hW : Below w.heap.size w W) => sprog_any ds ps o s n q ks L W (h.later hW hW.size) (fine_parts hf).2.2.2.2 (fine_parts hf).1 (fine_parts hf).2.1 (fine_parts hf).2.2.1 (fine_parts hf).2.2.2.1)
  have HR := Lib.hid (fun (hf : fineB ⟨ds, ps, .node o s n q ks⟩ = true) W (hW : Below w.heap.size w W) => rprog_any ds ps o s n q ks L W (h.later hW hW.size) (fine_parts hf).2.2.2.2 (fine_parts hf).1 (fine_parts hf).2.1 (fine_parts hf).2.2.1 (fine_parts hf).2.2.2.1)
  clear h hT
  generalize fineB ⟨ds, ps, .node o s n q ks⟩ = F at *
  generalize progS ⟨ds, ps, .node o s n q ks⟩ = Y at *
  have HSS := Lib.hid (fun W (hW : Below (w.heap.size + 1) (w.alloc (boxP ds.length ps.length o s n q ks.length L)) W) => (⟨hW, box7 hW⟩ : (fun W : World => Below (w.heap.size + 1) (w.alloc (boxP ds.length ps.length o s n q ks.length L)) W ∧ (W.cell? ⟨w.heap.size, 0, none⟩ = some (.slice L.Ad ds.length L.cd) ∧ W.cell? ⟨w.heap.size, 1, none⟩ = some (.slice L.Ap ps.length L.cp) ∧ W.cell? ⟨w.heap.size, 2, none⟩ = some (.string ⟨o.toArray⟩) ∧ W.cell? ⟨w.heap.size, 3, none⟩ = some (.string ⟨s.toArray⟩) ∧ W.cell? ⟨w.heap.size, 4, none⟩ = some (.int .i64 n) ∧ W.cell? ⟨w.heap.size, 5, none⟩ = some (.int .i64 q) ∧ W.cell? ⟨w.heap.size, 6, none⟩ = some (.slice L.Ak ks.length L.ck))) W))
  have HW := Lib.hid (fun W (hW : Below (w.heap.size + 1) (w.alloc (boxP ds.length ps.length o s n q ks.length L)) W) => fresh_w hW)
  have HG := Lib.hid (fun W W' (hW : Below (w.heap.size + 1) (w.alloc (boxP ds.length ps.length o s n q ks.length L)) W) (hb : Below W.heap.size W W') => fresh_more hW hb)
  have HB0 := Lib.hid (Below.refl (w.heap.size + 1) (w.alloc (boxP ds.length ps.length o s n q ks.length L)))
  simp only [progW] at HF HS HR ⊢
  cases F with
  | false =>
    clear HS HR
    go_enter Tryd.func4, Tryd.ntmps4
    go_wp2_with (
      go_at_call 16
      refine (HF.out _ (HW.out _ HB0.out)).mono ?_
      rintro e w2 ⟨rfl, hb⟩
      have HB2 := Lib.hid (HG.out _ _ HB0.out hb)
      clear hb)
    all_goals
      go_ret
      exact ⟨rfl, HW.out _ HB2.out⟩
  | true =>
    have HA := Lib.hid (HS.out rfl)
    have HC := Lib.hid (HR.out rfl)
    clear HS HR
    go_enter Tryd.func4, Tryd.ntmps4
    go_upto_region 3 with (
      go_at_call 16
      refine (HF.out _ (HW.out _ HB0.out)).mono ?_
      rintro e w2 ⟨rfl, hb⟩
      have HB2 := Lib.hid (HG.out _ _ HB0.out hb)
      clear hb)
    clear HF
    generalize (w.alloc (boxP ds.length ps.length o s n q ks.length L)) = Z at *
    have hyy : (Y == Y) = true := beq_self_eq_true Y
    go_region_held3 (fun W : World => Below (w.heap.size + 1) Z W ∧ (W.cell? ⟨w.heap.size, 0, none⟩ = some (.slice L.Ad ds.length L.cd) ∧ W.cell? ⟨w.heap.size, 1, none⟩ = some (.slice L.Ap ps.length L.cp) ∧ W.cell? ⟨w.heap.size, 2, none⟩ = some (.string ⟨o.toArray⟩) ∧ W.cell? ⟨w.heap.size, 3, none⟩ = some (.string ⟨s.toArray⟩) ∧ W.cell? ⟨w.heap.size, 4, none⟩ = some (.int .i64 n) ∧ W.cell? ⟨w.heap.size, 5, none⟩ = some (.int .i64 q) ∧ W.cell? ⟨w.heap.size, 6, none⟩ = some (.slice L.Ak ks.length L.ck))) (first | assumption | exact HSS.out _ hB9 | exact HSS.out _ HB2.out.drew | exact HSS.out _ HB2.out) (first
      | (go_at_call 17
         have hq : Below (w.heap.size + 1) Z _ := (show (fun W : World => Below (w.heap.size + 1) Z W ∧ (W.cell? ⟨w.heap.size, 0, none⟩ = some (.slice L.Ad ds.length L.cd) ∧ W.cell? ⟨w.heap.size, 1, none⟩ = some (.slice L.Ap ps.length L.cp) ∧ W.cell? ⟨w.heap.size, 2, none⟩ = some (.string ⟨o.toArray⟩) ∧ W.cell? ⟨w.heap.size, 3, none⟩ = some (.string ⟨s.toArray⟩) ∧ W.cell? ⟨w.heap.size, 4, none⟩ = some (.int .i64 n) ∧ W.cell? ⟨w.heap.size, 5, none⟩ = some (.int .i64 q) ∧ W.cell? ⟨w.heap.size, 6, none⟩ = some (.slice L.Ak ks.length L.ck))) _ by assumption).1
         refine (HA.out _ (HW.out _ hq)).mono ?_
         rintro e w9 ⟨rfl, hb⟩
         have hB9 := HG.out _ _ hq hb
         clear hb)
      | (go_at_call 18
         have hq : Below (w.heap.size + 1) Z _ := (show (fun W : World => Below (w.heap.size + 1) Z W ∧ (W.cell? ⟨w.heap.size, 0, none⟩ = some (.slice L.Ad ds.length L.cd) ∧ W.cell? ⟨w.heap.size, 1, none⟩ = some (.slice L.Ap ps.length L.cp) ∧ W.cell? ⟨w.heap.size, 2, none⟩ = some (.string ⟨o.toArray⟩) ∧ W.cell? ⟨w.heap.size, 3, none⟩ = some (.string ⟨s.toArray⟩) ∧ W.cell? ⟨w.heap.size, 4, none⟩ = some (.int .i64 n) ∧ W.cell? ⟨w.heap.size, 5, none⟩ = some (.int .i64 q) ∧ W.cell? ⟨w.heap.size, 6, none⟩ = some (.slice L.Ak ks.length L.ck))) _ by assumption).1
         refine (HC.out _ (HW.out _ hq)).mono ?_
         rintro e w9 ⟨rfl, hb⟩
         have hB9 := HG.out _ _ hq hb
         clear hb)
      | (go_at_call 15
         have hq : Below (w.heap.size + 1) Z _ := (show (fun W : World => Below (w.heap.size + 1) Z W ∧ (W.cell? ⟨w.heap.size, 0, none⟩ = some (.slice L.Ad ds.length L.cd) ∧ W.cell? ⟨w.heap.size, 1, none⟩ = some (.slice L.Ap ps.length L.cp) ∧ W.cell? ⟨w.heap.size, 2, none⟩ = some (.string ⟨o.toArray⟩) ∧ W.cell? ⟨w.heap.size, 3, none⟩ = some (.string ⟨s.toArray⟩) ∧ W.cell? ⟨w.heap.size, 4, none⟩ = some (.int .i64 n) ∧ W.cell? ⟨w.heap.size, 5, none⟩ = some (.int .i64 q) ∧ W.cell? ⟨w.heap.size, 6, none⟩ = some (.slice L.Ak ks.length L.ck))) _ by assumption).1
         refine (known5_any _).mono ?_
         rintro e w9 ⟨rfl, hb⟩
         have hB9 := HG.out _ _ hq hb
         clear hb))
    all_goals
      have hh := (show (fun W : World => Below (w.heap.size + 1) Z W ∧ (W.cell? ⟨w.heap.size, 0, none⟩ = some (.slice L.Ad ds.length L.cd) ∧ W.cell? ⟨w.heap.size, 1, none⟩ = some (.slice L.Ap ps.length L.cp) ∧ W.cell? ⟨w.heap.size, 2, none⟩ = some (.string ⟨o.toArray⟩) ∧ W.cell? ⟨w.heap.size, 3, none⟩ = some (.string ⟨s.toArray⟩) ∧ W.cell? ⟨w.heap.size, 4, none⟩ = some (.int .i64 n) ∧ W.cell? ⟨w.heap.size, 5, none⟩ = some (.int .i64 q) ∧ W.cell? ⟨w.heap.size, 6, none⟩ = some (.slice L.Ak ks.length L.ck))) _ by assumption).1
      go_wp2_with fail
      go_ret
      exact ⟨rfl, HW.out _ hh⟩
end Go.Proofs.YteikakoheibnjaaDoor
