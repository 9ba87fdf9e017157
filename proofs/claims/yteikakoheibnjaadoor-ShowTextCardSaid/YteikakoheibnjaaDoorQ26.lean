/- Parts of the proof: OpenP. -/
import Derived.Test.YteikakoheibnjaaDoorQ25
namespace Go.Proofs.YteikakoheibnjaaDoor
open Go Go.ChangeShapes Go.WideShapes Go.ChangeAt Go.RowKit

theorem cellsOfD : Tryd.prog.cellsOf 60 = 3 := by kernel_rfl
theorem bytesOfD : Tryd.prog.bytesOf 60 = 32 := by kernel_rfl
theorem cellsOfQ : Tryd.prog.cellsOf 54 = 8 := by kernel_rfl
theorem bytesOfQ : Tryd.prog.bytesOf 54 = 120 := by kernel_rfl
theorem cellsOfP : Tryd.prog.cellsOf 33 = 7 := by kernel_rfl
set_option maxRecDepth 100000 in
theorem decl_trod {H : Type} {enc : TypeId × Value → H} {W : World} (fuel : Nat) (cs : List Value) (x : DataW H × List MemPlace)
  (h : DataW.trod enc Tryd.prog W 0 (fun _ => true) true fuel 60 cs = some x) (hw : ∀ n ∈ x.1.weights Tryd.prog 60, n ≤ reachBytes) : ∃ d : DeclP, cs = [.string ⟨d.name.toArray⟩, .int .i64 d.order, .int .i64 d.at_] ∧ d.name.length ≤ 140737488355328 := by
 obtain ⟨xs, n, rfl, rfl, hl, hxl, hf⟩ := DataW.trod_struct Tryd.underlying60 h
 rw [cellsOfD] at hl
 match cs, hl with
 | [c0, c1, c2], _ =>
   match xs, hxl with
   | [y0, y1, y2], _ =>
     have g0 := hf 0 _ rfl
     have g1 := hf 1 _ rfl
     have g2 := hf 2 _ rfl
     clear hf
     have hw0 : ∀ n ∈ y0.1.weights Tryd.prog 9, n ≤ reachBytes := fun n hn => hw n (by simp [DataW.weights, Tryd.underlying60, DataW.weightsEach, hn])
     clear hw
     simp only [List.getElem?_cons_zero, List.getElem?_cons_succ] at g0 g1 g2
     obtain ⟨s, hs, hy0, _⟩ := DataW.trod_string Tryd.underlying9 g0
     obtain ⟨b, hb, _, _⟩ := DataW.trod_int Tryd.underlying3 g1
     obtain ⟨c, hc, _, _⟩ := DataW.trod_int Tryd.underlying3 g2
     injection hs with hs
     injection hb with hb
     injection hc with hc
     subst hs hb hc
     refine ⟨⟨s.data.toList, b, c⟩, by simp, ?_⟩
     show s.data.toList.length ≤ _
     rw [hy0] at hw0
     have h1 := hw0 s.data.toList.length (by simp [DataW.weights])
     have h2 := reachBytes_lt
     omega
set_option maxRecDepth 100000 in
theorem decls_trod {H : Type} {enc : TypeId × Value → H} {W : World} (fuel : Nat) (cs : List Value) (x : DataW H × List MemPlace)
  (h : DataW.trod enc Tryd.prog W 0 (fun _ => true) true fuel 30 cs = some x) (hw : ∀ n ∈ x.1.weights Tryd.prog 30, n ≤ reachBytes) : ∃ ds A cap, cs = [.slice A ds.length cap] ∧ DeclsAt W W.heap.size A cap ds := by
 rcases DataW.trod_slice Tryd.underlying30 h with ⟨hc, _⟩ | ⟨ad, len, cap, elems, rest, k, rfl, hc, hy, hb0, hle, hcap, hlen, hel, hrest, _⟩
 · exact ⟨[], none, 0, hc, Nat.le_refl _, by simp, by simp, fun k hk => absurd hk (by simp)⟩
 · rw [cellsOfD] at hel
   have hrl := (hrest rfl).1
   rw [hy] at hw
   have hcap2 : cap ≤ 140737488355328 := by
    have h1 := hw ((elems.length + rest.length) * 32) (by simp [DataW.weights, Tryd.underlying30, bytesOfD])
    have h2 := reachBytes_lt
    omega
   have hwe : ∀ (i : Nat) (y : DataW H × List MemPlace), elems[i]? = some y → ∀ n ∈ y.1.weights Tryd.prog 60, n ≤ reachBytes := fun i y hy n hn => hw n (by
    have : y.1 ∈ elems.map (·.1) := List.mem_map.2 ⟨y, List.mem_of_getElem? hy, rfl⟩
    simp only [DataW.weights, Tryd.underlying30, List.mem_cons, List.mem_append]
    exact Or.inr (Or.inl (weightsAll_mem this n hn)))
   have hspot0 : 0 < len → ad.spot = none := by
    intro h0
    have h1 := hel 0 h0
    rw [List.getElem?_eq_getElem (by omega)] at h1
    obtain ⟨cs', h2, h3⟩ := Option.bind_eq_some_iff.1 h1
    obtain ⟨d, rfl, _⟩ := decl_trod k _ _ h3 (hwe _ _ (List.getElem?_eq_getElem (by omega)))
    obtain ⟨_, _, hcell⟩ := World.cells?_some h2
    have e0 := hcell 0 (by omega)
    simp only [List.getElem?_cons_zero] at e0
    have h4 := World.cell?_spot e0
    rw [add_of_add] at h4
    simpa [Addr.add] using h4
   have each : ∀ i, i < len → ∃ d : DeclP, ∃ b off, ad = ⟨b, off, none⟩ ∧ b < W.heap.size ∧ (W.cell? ⟨b, off + i * 3, none⟩ = some (.string ⟨d.name.toArray⟩) ∧ W.cell? ⟨b, off + i * 3 + 1, none⟩ = some (.int .i64 d.order) ∧ W.cell? ⟨b, off + i * 3 + 2, none⟩ = some (.int .i64 d.at_)) ∧ d.name.length ≤ 140737488355328 := by
    intro i hi
    have h1 := hel i hi
    rw [List.getElem?_eq_getElem (by omega)] at h1
    obtain ⟨cs', h2, h3⟩ := Option.bind_eq_some_iff.1 h1
    obtain ⟨d, rfl, hd⟩ := decl_trod k _ _ h3 (hwe _ _ (List.getElem?_eq_getElem (by omega)))
    obtain ⟨_, _, hcell⟩ := World.cells?_some h2
    obtain ⟨b, off, spot⟩ := ad
    have e0 := hcell 0 (by omega)
    have e1 := hcell 1 (by omega)
    have e2 := hcell 2 (by omega)
    simp only [List.getElem?_cons_zero, List.getElem?_cons_succ] at e0 e1 e2
    have hspot : spot = none := hspot0 (by omega)
    subst hspot
    refine ⟨d, b, off, rfl, ?_, ⟨?_, ?_, ?_⟩, hd⟩
    · have := World.block_lt_of_cell? W _ e0
      rwa [block_of_add, block_of_add] at this
    · rw [Go.WideShapes.add_plain, Go.WideShapes.add_plain] at e0; exact e0
    · rw [Go.WideShapes.add_plain, Go.WideShapes.add_plain] at e1; exact e1
    · rw [Go.WideShapes.add_plain, Go.WideShapes.add_plain] at e2; exact e2
   haveI : Inhabited DeclP := ⟨⟨[], 0, 0⟩⟩
   obtain ⟨f, hf⟩ := Go.Deep.choose_lt each
   refine ⟨(List.range len).map f, some ad, cap, by rw [hc]; simp, by simpa using hle, (by simpa using Nat.le_trans hle hcap2), fun d hd => ?_, fun i hi => ?_⟩
   · obtain ⟨i, hi, rfl⟩ := List.mem_map.1 hd
     obtain ⟨_, _, _, _, _, hd⟩ := hf i (List.mem_range.1 hi)
     exact hd
   · have hi' : i < len := by simpa using hi
     obtain ⟨b, off, rfl, hb, hcell, _⟩ := hf i hi'
     refine ⟨b, off, rfl, hb, ?_⟩
     simpa using hcell
set_option maxRecDepth 100000 in
theorem pred_trod {H : Type} {enc : TypeId × Value → H} {W : World} (fuel : Nat) (cs : List Value) (x : DataW H × List MemPlace)
  (h : DataW.trod enc Tryd.prog W 0 (fun _ => true) true fuel 54 cs = some x) (hw : ∀ n ∈ x.1.weights Tryd.prog 54, n ≤ reachBytes) :
  ∃ (p : PredP) (A1 : Option Addr) (c1 : Nat) (A2 : Option Addr) (c2 : Nat), cs = [.string ⟨p.name.toArray⟩, .slice A1 p.params.length c1, .string ⟨p.body.op.toArray⟩, .string ⟨p.body.name.toArray⟩, .int .i64 p.body.num, .int .i64 p.body.pos, .slice A2 p.body.kids.length c2, .int .i64 p.at_] ∧
    p.name.length ≤ 140737488355328 ∧ DeclsAt W W.heap.size A1 c1 p.params ∧ NodeAt W W.heap.size p.body A2 c2 := by
 obtain ⟨xs, n, rfl, rfl, hl, hxl, hf⟩ := DataW.trod_struct Tryd.underlying54 h
 rw [cellsOfQ] at hl
 match cs, hl with
 | [c0, c1, c2, c3, c4, c5, c6, c7], _ =>
   match xs, hxl with
   | [y0, y1, y2, y3], _ =>
     have g0 := hf 0 _ rfl
     have g1 := hf 1 _ rfl
     have g2 := hf 2 _ rfl
     have g3 := hf 3 _ rfl
     clear hf
     have hw0 : ∀ n ∈ y0.1.weights Tryd.prog 9, n ≤ reachBytes := fun n hn => hw n (by simp [DataW.weights, Tryd.underlying54, DataW.weightsEach, hn])
     have hw1 : ∀ n ∈ y1.1.weights Tryd.prog 30, n ≤ reachBytes := fun n hn => hw n (by simp [DataW.weights, Tryd.underlying54, DataW.weightsEach, hn])
     have hw2 : ∀ n ∈ y2.1.weights Tryd.prog 24, n ≤ reachBytes := fun n hn => hw n (by simp [DataW.weights, Tryd.underlying54, DataW.weightsEach, hn])
     clear hw
     simp only [List.getElem?_cons_zero, List.getElem?_cons_succ] at g0 g1 g2 g3
     obtain ⟨s, hs, hy0, _⟩ := DataW.trod_string Tryd.underlying9 g0
     obtain ⟨ds, A1, cap1, e1, hD⟩ := decls_trod _ _ _ g1 hw1
     obtain ⟨t, A2, cap2, e2, hN⟩ := node_trod _ _ _ g2 hw2
     obtain ⟨c, hc, _, _⟩ := DataW.trod_int Tryd.underlying3 g3
     replace e2 : [c2, c3, c4, c5, c6] = cellsN t A2 cap2 := e2
     injection hs with hs
     injection e1 with e1
     injection hc with hc
     unfold cellsN at e2
     simp only [List.cons.injEq, and_true] at e2
     obtain ⟨e20, e21, e22, e23, e24⟩ := e2
     subst hs e1 hc e20 e21 e22 e23 e24
     refine ⟨⟨s.data.toList, ds, t, c⟩, A1, cap1, A2, cap2, by simp, ?_, hD, hN⟩
     show s.data.toList.length ≤ _
     rw [hy0] at hw0
     have h1 := hw0 s.data.toList.length (by simp [DataW.weights])
     have h2 := reachBytes_lt
     omega
set_option maxRecDepth 100000 in
theorem preds_trod {H : Type} {enc : TypeId × Value → H} {W : World} (fuel : Nat) (cs : List Value) (x : DataW H × List MemPlace)
  (h : DataW.trod enc Tryd.prog W 0 (fun _ => true) true fuel 31 cs = some x) (hw : ∀ n ∈ x.1.weights Tryd.prog 31, n ≤ reachBytes) : ∃ ps A cap, cs = [.slice A ps.length cap] ∧ PredsAt W W.heap.size A cap ps := by
 rcases DataW.trod_slice Tryd.underlying31 h with ⟨hc, _⟩ | ⟨ad, len, cap, elems, rest, k, rfl, hc, hy, hb0, hle, hcap, hlen, hel, hrest, _⟩
 · exact ⟨[], none, 0, hc, Nat.le_refl _, by simp, by simp, fun k hk => absurd hk (by simp)⟩
 · rw [cellsOfQ] at hel
   have hrl := (hrest rfl).1
   rw [hy] at hw
   have hcap2 : cap ≤ 140737488355328 := by
    have h1 := hw ((elems.length + rest.length) * 120) (by simp [DataW.weights, Tryd.underlying31, bytesOfQ])
    have h2 := reachBytes_lt
    omega
   have hwe : ∀ (i : Nat) (y : DataW H × List MemPlace), elems[i]? = some y → ∀ n ∈ y.1.weights Tryd.prog 54, n ≤ reachBytes := fun i y hy n hn => hw n (by
    have : y.1 ∈ elems.map (·.1) := List.mem_map.2 ⟨y, List.mem_of_getElem? hy, rfl⟩
    simp only [DataW.weights, Tryd.underlying31, List.mem_cons, List.mem_append]
    exact Or.inr (Or.inl (weightsAll_mem this n hn)))
   have hspot0 : 0 < len → ad.spot = none := by
    intro h0
    have h1 := hel 0 h0
    rw [List.getElem?_eq_getElem (by omega)] at h1
    obtain ⟨cs', h2, h3⟩ := Option.bind_eq_some_iff.1 h1
    obtain ⟨p, A1, c1, A2, c2, rfl, _⟩ := pred_trod k _ _ h3 (hwe _ _ (List.getElem?_eq_getElem (by omega)))
    obtain ⟨_, _, hcell⟩ := World.cells?_some h2
    have e0 := hcell 0 (by omega)
    simp only [List.getElem?_cons_zero] at e0
    have h4 := World.cell?_spot e0
    rw [add_of_add] at h4
    simpa [Addr.add] using h4
   have each : ∀ i, i < len → ∃ p : PredP, ∃ b off A1 c1 A2 c2, ad = ⟨b, off, none⟩ ∧ b < W.heap.size ∧ (W.cell? ⟨b, off + i * 8, none⟩ = some (.string ⟨p.name.toArray⟩) ∧ W.cell? ⟨b, off + i * 8 + 1, none⟩ = some (.slice A1 p.params.length c1) ∧
     W.cell? ⟨b, off + i * 8 + 2, none⟩ = some (.string ⟨p.body.op.toArray⟩) ∧ W.cell? ⟨b, off + i * 8 + 3, none⟩ = some (.string ⟨p.body.name.toArray⟩) ∧ W.cell? ⟨b, off + i * 8 + 4, none⟩ = some (.int .i64 p.body.num) ∧
     W.cell? ⟨b, off + i * 8 + 5, none⟩ = some (.int .i64 p.body.pos) ∧ W.cell? ⟨b, off + i * 8 + 6, none⟩ = some (.slice A2 p.body.kids.length c2) ∧ W.cell? ⟨b, off + i * 8 + 7, none⟩ = some (.int .i64 p.at_)) ∧
     p.name.length ≤ 140737488355328 ∧ DeclsAt W W.heap.size A1 c1 p.params ∧ NodeAt W W.heap.size p.body A2 c2 := by
    intro i hi
    have h1 := hel i hi
    rw [List.getElem?_eq_getElem (by omega)] at h1
    obtain ⟨cs', h2, h3⟩ := Option.bind_eq_some_iff.1 h1
    obtain ⟨p, A1, c1, A2, c2, rfl, hd, hD, hN⟩ := pred_trod k _ _ h3 (hwe _ _ (List.getElem?_eq_getElem (by omega)))
    obtain ⟨_, _, hcell⟩ := World.cells?_some h2
    obtain ⟨b, off, spot⟩ := ad
    have e0 := hcell 0 (by omega)
    have e1 := hcell 1 (by omega)
    have e2 := hcell 2 (by omega)
    have e3 := hcell 3 (by omega)
    have e4 := hcell 4 (by omega)
    have e5 := hcell 5 (by omega)
    have e6 := hcell 6 (by omega)
    have e7 := hcell 7 (by omega)
    simp only [List.getElem?_cons_zero, List.getElem?_cons_succ] at e0 e1 e2 e3 e4 e5 e6 e7
    have hspot : spot = none := hspot0 (by omega)
    subst hspot
    rw [Go.WideShapes.add_plain, Go.WideShapes.add_plain] at e0 e1 e2 e3 e4 e5 e6 e7
    exact ⟨p, b, off, A1, c1, A2, c2, rfl, World.block_lt_of_cell? W _ e0, ⟨e0, e1, e2, e3, e4, e5, e6, e7⟩, hd, hD, hN⟩
   haveI : Inhabited PredP := ⟨⟨[], [], .node [] [] 0 0 [], 0⟩⟩
   obtain ⟨f, hf⟩ := Go.Deep.choose_lt each
   refine ⟨(List.range len).map f, some ad, cap, by rw [hc]; simp, by simpa using hle, (by simpa using Nat.le_trans hle hcap2), fun d hd => ?_, fun i hi => ?_⟩
   · obtain ⟨i, hi, rfl⟩ := List.mem_map.1 hd
     obtain ⟨_, _, _, _, _, _, _, _, _, hd, _⟩ := hf i (List.mem_range.1 hi)
     exact hd
   · have hi' : i < len := by simpa using hi
     obtain ⟨b, off, A1, c1, A2, c2, rfl, hb, hcell, _, hD, hN⟩ := hf i hi'
     refine ⟨b, off, A1, c1, A2, c2, rfl, hb, ?_, ?_, ?_⟩
     · simpa using hcell
     · simpa using hD
     · simpa using hN
set_option maxRecDepth 100000 in
theorem prog_of {H : Type} {enc : TypeId × Value → H} {W : World} {base : Nat} {v : Value} {d : DataW H} {p : List MemPlace}
  (hv : Value.okWide Tryd.prog W .any base 33 v) (h : DataW.Trod enc Tryd.prog W 0 (fun _ => true) true 33 v d p) (hw : ∀ n ∈ d.weights Tryd.prog 33, n ≤ reachBytes) : ∃ t L, v = progT t L ∧ ProgAt W W.heap.size t L := by
 obtain ⟨cs, rfl, _⟩ := okWide_struct Tryd.underlying33 hv
 obtain ⟨fuel, hf⟩ := h
 obtain ⟨xs, n, hcs, hx, hl, hxl, hall⟩ := DataW.trod_struct Tryd.underlying33 hf
 rw [cellsOfP] at hl
 have hd : d = .agg (xs.map (·.1)) := congrArg Prod.fst hx
 subst hd
 clear hx hf
 have e0 : (Value.agg cs).cells.toList = cs.toList := by simp [Value.cells]
 rw [e0] at hall hl
 obtain ⟨l, rfl⟩ : ∃ l : List Value, cs = l.toArray := ⟨cs.toList, by simp⟩
 simp only [] at hall hl
 match l, hl with
 | [c0, c1, c2, c3, c4, c5, c6], _ =>
   match xs, hxl with
   | [y0, y1, y2], _ =>
     have g0 := hall 0 _ rfl
     have g1 := hall 1 _ rfl
     have g2 := hall 2 _ rfl
     clear hall
     have hw0 : ∀ n ∈ y0.1.weights Tryd.prog 30, n ≤ reachBytes := fun n hn => hw n (by simp [DataW.weights, Tryd.underlying33, DataW.weightsEach, hn])
     have hw1 : ∀ n ∈ y1.1.weights Tryd.prog 31, n ≤ reachBytes := fun n hn => hw n (by simp [DataW.weights, Tryd.underlying33, DataW.weightsEach, hn])
     have hw2 : ∀ n ∈ y2.1.weights Tryd.prog 24, n ≤ reachBytes := fun n hn => hw n (by simp [DataW.weights, Tryd.underlying33, DataW.weightsEach, hn])
     simp only [List.getElem?_cons_zero, List.getElem?_cons_succ] at g0 g1 g2
     obtain ⟨ds, A1, cap1, e1, hD⟩ := decls_trod _ _ _ g0 hw0
     obtain ⟨ps, A2, cap2, e2, hP⟩ := preds_trod _ _ _ g1 hw1
     obtain ⟨t, A3, cap3, e3, hN⟩ := node_trod _ _ _ g2 hw2
     replace e3 : [c2, c3, c4, c5, c6] = cellsN t A3 cap3 := e3
     injection e1 with e1
     injection e2 with e2
     unfold cellsN at e3
     simp only [List.cons.injEq, and_true] at e3
     obtain ⟨e30, e31, e32, e33, e34⟩ := e3
     subst e1 e2 e30 e31 e32 e33 e34
     exact ⟨⟨ds, ps, t⟩, ⟨A1, cap1, A2, cap2, A3, cap3⟩, rfl, hD, hP, hN⟩
end Go.Proofs.YteikakoheibnjaaDoor
