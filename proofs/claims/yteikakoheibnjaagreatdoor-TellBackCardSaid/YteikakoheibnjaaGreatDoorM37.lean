/- Parts of the proof: OpenR. -/
import Derived.ChangeOld
import Derived.Deep.Slices
import Derived.LaidMore
import Derived.OpenShut
import Derived.ProofKit
import Derived.SizedLaws
import Derived.Test.YteikakoheibnjaaGreatDoorM5
import Derived.Test.YteikakoheibnjaaGreatDoorRows
namespace Go.Proofs.YteikakoheibnjaaGreatDoor
open Go Go.ChangeShapes Go.WideShapes Go.ChangeAt Go.RowKit

theorem rcellsI : Tryz.prog.cellsOf 3 = 1 := by kernel_rfl
theorem rbytesI : Tryz.prog.bytesOf 3 = 8 := by kernel_rfl
theorem rcellsV : Tryz.prog.cellsOf 37 = 3 := by kernel_rfl
theorem rbytesV : Tryz.prog.bytesOf 37 = 48 := by kernel_rfl
theorem rcellsR : Tryz.prog.cellsOf 25 = 5 := by kernel_rfl
theorem rweights_mem {H : Type} {P : Program} {e : TypeId} : ∀ {l : List (DataW H)} {d : DataW H}, d ∈ l → ∀ n ∈ d.weights P e, n ∈ DataW.weightsAll P e l
  | d' :: r, d, hd, n, hn => by
    simp only [DataW.weightsAll, List.mem_append]
    rcases List.mem_cons.1 hd with rfl | h
    · exact Or.inl hn
    · exact Or.inr (rweights_mem h n hn)
set_option maxRecDepth 100000 in
/-- A row of numbers. -/
theorem rints_trod {H : Type} {enc : TypeId × Value → H} {W : World} (fuel : Nat) (cs : List Value) (x : DataW H × List MemPlace)
    (h : DataW.trod enc Tryz.prog W 0 (fun _ => true) true fuel 35 cs = some x) (hw : ∀ n ∈ x.1.weights Tryz.prog 35, n ≤ reachBytes) : ∃ ns A cap, cs = [.slice A (ns : List Int).length cap] ∧ IntsAt W W.heap.size A cap ns := by
  rcases DataW.trod_slice Tryz.underlying35 h with ⟨hc, _⟩ | ⟨ad, len, cap, elems, rest, k, rfl, hc, hy, hb0, hle, hcap, hlen, hel, hrest, _⟩
  · exact ⟨[], none, 0, hc, IntsAt.nil⟩
  · rw [rcellsI] at hel
    have hrl := (hrest rfl).1
    rw [hy] at hw
    have hcap2 : cap ≤ 140737488355328 := by
      have h1 := hw ((elems.length + rest.length) * 8) (by simp [DataW.weights, Tryz.underlying35, rbytesI])
      have h2 := reachBytes_lt
      omega
    have each0 : ∀ i, i < len → ∃ n : Int, W.cell? (ad.add i) = some (.int .i64 n) := by
      intro i hi
      have h1 := hel i hi
      rw [List.getElem?_eq_getElem (by omega)] at h1
      obtain ⟨cs', h2, h3⟩ := Option.bind_eq_some_iff.1 h1
      obtain ⟨n, hn, _, _⟩ := DataW.trod_int Tryz.underlying3 h3
      subst hn
      obtain ⟨_, _, hcell⟩ := World.cells?_some h2
      have e0 := hcell 0 (by omega)
      rw [add_of_add, Nat.mul_one, Nat.add_zero] at e0
      exact ⟨n, e0⟩
    have hspot0 : 0 < len → ad.spot = none := fun h0 => by
      obtain ⟨n, hn⟩ := each0 0 h0
      have h4 := World.cell?_spot hn
      simpa [Addr.add] using h4
    obtain ⟨f, hf⟩ := Go.Deep.choose_lt each0
    refine ⟨(List.range len).map f, some ad, cap, by rw [hc]; simp, by simpa using hle, (by simpa using Nat.le_trans hle hcap2), fun h0 => ?_⟩
    have hl0 : 0 < len := by simpa using h0
    obtain ⟨b, off, spot⟩ := ad
    have hspot : spot = none := hspot0 hl0
    subst hspot
    refine ⟨b, off, rfl, ?_, fun i hi => ?_⟩
    · have := World.block_lt_of_cell? W _ (hf 0 hl0)
      rwa [block_of_add] at this
    · have hi' : i < len := by simpa using hi
      have := hf i hi'
      rw [Go.WideShapes.add_plain] at this
      simpa using this
set_option maxRecDepth 100000 in
/-- One value. -/
theorem val_trod {H : Type} {enc : TypeId × Value → H} {W : World} (fuel : Nat) (cs : List Value) (x : DataW H × List MemPlace)
    (h : DataW.trod enc Tryz.prog W 0 (fun _ => true) true fuel 37 cs = some x) (hw : ∀ n ∈ x.1.weights Tryz.prog 37, n ≤ reachBytes) :
    ∃ (v : ValP) (A : Option Addr) (c : Nat), cs = [.string ⟨v.name.toArray⟩, .int .i64 v.order, .slice A v.set.length c] ∧ v.name.length ≤ 140737488355328 ∧ IntsAt W W.heap.size A c v.set := by
  obtain ⟨xs, n, rfl, rfl, hl, hxl, hf⟩ := DataW.trod_struct Tryz.underlying37 h
  rw [rcellsV] at hl
  match cs, hl with
  | [c0, c1, c2], _ =>
    match xs, hxl with
    | [y0, y1, y2], _ =>
      have g0 := hf 0 _ rfl
      have g1 := hf 1 _ rfl
      have g2 := hf 2 _ rfl
      clear hf
      have hw0 : ∀ n ∈ y0.1.weights Tryz.prog 9, n ≤ reachBytes := fun n hn => hw n (by simp [DataW.weights, Tryz.underlying37, DataW.weightsEach, hn])
      have hw2 : ∀ n ∈ y2.1.weights Tryz.prog 35, n ≤ reachBytes := fun n hn => hw n (by simp [DataW.weights, Tryz.underlying37, DataW.weightsEach, hn])
      clear hw
      simp only [List.getElem?_cons_zero, List.getElem?_cons_succ] at g0 g1 g2
      obtain ⟨s, hs, hy0, _⟩ := DataW.trod_string Tryz.underlying9 g0
      obtain ⟨b, hb, _, _⟩ := DataW.trod_int Tryz.underlying3 g1
      obtain ⟨ns, A, cap, e2, hI⟩ := rints_trod _ _ _ g2 hw2
      injection hs with hs
      injection hb with hb
      replace e2 : [c2] = [.slice A ns.length cap] := e2
      injection e2 with e2
      subst hs hb e2
      refine ⟨⟨s.data.toList, b, ns⟩, A, cap, by simp, ?_, hI⟩
      show s.data.toList.length ≤ _
      rw [hy0] at hw0
      have h1 := hw0 s.data.toList.length (by simp [DataW.weights])
      have h2 := reachBytes_lt
      omega
set_option maxRecDepth 100000 in
/-- A row of values. -/
theorem vals_trod {H : Type} {enc : TypeId × Value → H} {W : World} (fuel : Nat) (cs : List Value) (x : DataW H × List MemPlace)
    (h : DataW.trod enc Tryz.prog W 0 (fun _ => true) true fuel 23 cs = some x) (hw : ∀ n ∈ x.1.weights Tryz.prog 23, n ≤ reachBytes) : ∃ vs A cap, cs = [.slice A (vs : List ValP).length cap] ∧ ValsAt W W.heap.size A cap vs := by
  rcases DataW.trod_slice Tryz.underlying23 h with ⟨hc, _⟩ | ⟨ad, len, cap, elems, rest, k, rfl, hc, hy, hb0, hle, hcap, hlen, hel, hrest, _⟩
  · exact ⟨[], none, 0, hc, Nat.le_refl _, by simp, by simp, fun k hk => absurd hk (by simp)⟩
  · rw [rcellsV] at hel
    have hrl := (hrest rfl).1
    rw [hy] at hw
    have hcap2 : cap ≤ 140737488355328 := by
      have h1 := hw ((elems.length + rest.length) * 48) (by simp [DataW.weights, Tryz.underlying23, rbytesV])
      have h2 := reachBytes_lt
      omega
    have hwe : ∀ (i : Nat) (y : DataW H × List MemPlace), elems[i]? = some y → ∀ n ∈ y.1.weights Tryz.prog 37, n ≤ reachBytes := fun i y hy n hn => hw n (by
      have : y.1 ∈ elems.map (·.1) := List.mem_map.2 ⟨y, List.mem_of_getElem? hy, rfl⟩
      simp only [DataW.weights, Tryz.underlying23, List.mem_cons, List.mem_append]
      exact Or.inr (Or.inl (rweights_mem this n hn)))
    have hspot0 : 0 < len → ad.spot = none := by
      intro h0
      have h1 := hel 0 h0
      rw [List.getElem?_eq_getElem (by omega)] at h1
      obtain ⟨cs', h2, h3⟩ := Option.bind_eq_some_iff.1 h1
      obtain ⟨d, A, c, rfl, _⟩ := val_trod k _ _ h3 (hwe _ _ (List.getElem?_eq_getElem (by omega)))
      obtain ⟨_, _, hcell⟩ := World.cells?_some h2
      have e0 := hcell 0 (by omega)
      simp only [List.getElem?_cons_zero] at e0
      have h4 := World.cell?_spot e0
      rw [add_of_add] at h4
      simpa [Addr.add] using h4
    have each : ∀ i, i < len → ∃ v : ValP, ∃ b off A1 c1, ad = ⟨b, off, none⟩ ∧ b < W.heap.size ∧ (W.cell? ⟨b, off + i * 3, none⟩ = some (.string ⟨v.name.toArray⟩) ∧ W.cell? ⟨b, off + i * 3 + 1, none⟩ = some (.int .i64 v.order) ∧ W.cell? ⟨b, off + i * 3 + 2, none⟩ = some (.slice A1 v.set.length c1)) ∧
        v.name.length ≤ 140737488355328 ∧ IntsAt W W.heap.size A1 c1 v.set := by
      intro i hi
      have h1 := hel i hi
      rw [List.getElem?_eq_getElem (by omega)] at h1
      obtain ⟨cs', h2, h3⟩ := Option.bind_eq_some_iff.1 h1
      obtain ⟨d, A, c, rfl, hd, hI⟩ := val_trod k _ _ h3 (hwe _ _ (List.getElem?_eq_getElem (by omega)))
      obtain ⟨_, _, hcell⟩ := World.cells?_some h2
      obtain ⟨b, off, spot⟩ := ad
      have e0 := hcell 0 (by omega)
      have e1 := hcell 1 (by omega)
      have e2 := hcell 2 (by omega)
      simp only [List.getElem?_cons_zero, List.getElem?_cons_succ] at e0 e1 e2
      have hspot : spot = none := hspot0 (by omega)
      subst hspot
      rw [Go.WideShapes.add_plain, Go.WideShapes.add_plain] at e0 e1 e2
      exact ⟨d, b, off, A, c, rfl, World.block_lt_of_cell? W _ e0, ⟨e0, e1, e2⟩, hd, hI⟩
    haveI : Inhabited ValP := ⟨⟨[], 0, []⟩⟩
    obtain ⟨f, hf⟩ := Go.Deep.choose_lt each
    refine ⟨(List.range len).map f, some ad, cap, by rw [hc]; simp, by simpa using hle, (by simpa using Nat.le_trans hle hcap2), fun d hd => ?_, fun i hi => ?_⟩
    · obtain ⟨i, hi, rfl⟩ := List.mem_map.1 hd
      obtain ⟨_, _, _, _, _, _, _, hd, _⟩ := hf i (List.mem_range.1 hi)
      exact hd
    · have hi' : i < len := by simpa using hi
      obtain ⟨b, off, A1, c1, rfl, hb, ⟨h0, h1, h2⟩, _, hI⟩ := hf i hi'
      refine ⟨b, off, A1, c1, rfl, hb, ?_, ?_, ?_, ?_⟩
      · simpa using h0
      · simpa using h1
      · simpa using h2
      · simpa using hI
set_option maxRecDepth 100000 in
/-- A result. -/
theorem res_of {H : Type} {enc : TypeId × Value → H} {W : World} {base : Nat} {v : Value} {d : DataW H} {p : List MemPlace}
    (hv : Value.okWide Tryz.prog W .any base 25 v) (h : DataW.Trod enc Tryz.prog W 0 (fun _ => true) true 25 v d p) (hw : ∀ n ∈ d.weights Tryz.prog 25, n ≤ reachBytes) : ∃ r L, v = resT r L ∧ ResAt W W.heap.size r L := by
  obtain ⟨cs, rfl, _⟩ := okWide_struct Tryz.underlying25 hv
  obtain ⟨fuel, hf⟩ := h
  obtain ⟨xs, n, hcs, hx, hl, hxl, hall⟩ := DataW.trod_struct Tryz.underlying25 hf
  rw [rcellsR] at hl
  have hd : d = .agg (xs.map (·.1)) := congrArg Prod.fst hx
  subst hd
  clear hx hf
  have e0 : (Value.agg cs).cells.toList = cs.toList := by simp [Value.cells]
  rw [e0] at hall hl
  obtain ⟨l, rfl⟩ : ∃ l : List Value, cs = l.toArray := ⟨cs.toList, by simp⟩
  simp only [] at hall hl
  match l, hl with
  | [c0, c1, c2, c3, c4], _ =>
    match xs, hxl with
    | [y0, y1, y2, y3, y5], _ =>
      have g0 := hall 0 _ rfl
      have g1 := hall 1 _ rfl
      have g2 := hall 2 _ rfl
      have g3 := hall 3 _ rfl
      have g4 := hall 4 _ rfl
      clear hall
      have hw3 : ∀ n ∈ y3.1.weights Tryz.prog 23, n ≤ reachBytes := fun n hn => hw n (by simp [DataW.weights, Tryz.underlying25, DataW.weightsEach, hn])
      have hw4 : ∀ n ∈ y5.1.weights Tryz.prog 23, n ≤ reachBytes := fun n hn => hw n (by simp [DataW.weights, Tryz.underlying25, DataW.weightsEach, hn])
      simp only [List.getElem?_cons_zero, List.getElem?_cons_succ] at g0 g1 g2 g3 g4
      obtain ⟨a, ha, _, _⟩ := DataW.trod_int Tryz.underlying3 g0
      obtain ⟨b, hb, _, _⟩ := DataW.trod_int Tryz.underlying22 g1
      obtain ⟨c, hc, _, _⟩ := DataW.trod_int Tryz.underlying3 g2
      obtain ⟨ms, A1, cap1, e3, hM⟩ := vals_trod _ _ _ g3 hw3
      obtain ⟨us, A2, cap2, e4, hC⟩ := vals_trod _ _ _ g4 hw4
      replace e3 : [c3] = [.slice A1 ms.length cap1] := e3
      replace e4 : [c4] = [.slice A2 us.length cap2] := e4
      injection ha with ha
      injection hb with hb
      injection hc with hc
      injection e3 with e3
      injection e4 with e4
      subst ha hb hc e3 e4
      exact ⟨⟨a, b, c, ms, us⟩, ⟨A1, cap1, A2, cap2⟩, rfl, hM, hC⟩
end Go.Proofs.YteikakoheibnjaaGreatDoor
