/- A node that came in as an argument lies as a tree. -/
import Derived.Test.YteikakoheibnjaaDoorAt
import Derived.Test.YteikakoheibnjaaDoorRows
import Derived.Deep.Slices
import Derived.OpenShut
import Derived.LaidMore
import Derived.SizedLaws
import Derived.ProofKit
import Derived.ChangeOld
namespace Go.Proofs.YteikakoheibnjaaDoor
open Go Go.ChangeShapes Go.WideShapes Go.ChangeAt Go.RowKit

theorem KidsAt.mk {w : World} {B : Nat} {A : Option Addr} : ∀ (ks : List Node) (i : Nat), (∀ j (hj : j < ks.length), ∃ b off A' cap', A = some ⟨b, off, none⟩ ∧ b < B ∧ (∀ m u, (cellsN ks[j] A' cap')[m]? = some u → w.cell? ⟨b, off + (i + j) * 5 + m, none⟩ = some u) ∧ NodeAt w B ks[j] A' cap') → KidsAt w B A i ks
  | [], i, _ => by
    unfold KidsAt
    trivial
  | x :: r, i, h => by
    unfold KidsAt
    refine ⟨h 0 (by simp), KidsAt.mk r (i + 1) fun j hj => ?_⟩
    have := h (j + 1) (by simpa using hj)
    rw [show i + (j + 1) = i + 1 + j by omega] at this
    exact this

theorem cells24 : Tryd.prog.cellsOf 24 = 5 := by kernel_rfl
theorem bytes24 : Tryd.prog.bytesOf 24 = 72 := by kernel_rfl
theorem weightsAll_mem {H : Type} {P : Program} {e : TypeId} : ∀ {l : List (DataW H)} {d : DataW H}, d ∈ l → ∀ n ∈ d.weights P e, n ∈ DataW.weightsAll P e l
  | d' :: r, d, hd, n, hn => by
    simp only [DataW.weightsAll, List.mem_append]
    rcases List.mem_cons.1 hd with rfl | h
    · exact Or.inl hn
    · exact Or.inr (weightsAll_mem h n hn)
set_option maxRecDepth 100000 in
theorem node_trod {H : Type} {enc : TypeId × Value → H} {W : World} : ∀ (fuel : Nat) (cs : List Value) (x : DataW H × List MemPlace),
    DataW.trod enc Tryd.prog W 0 (fun _ => true) true fuel 24 cs = some x → (∀ n ∈ x.1.weights Tryd.prog 24, n ≤ reachBytes) → ∃ t A cap, cs = cellsN t A cap ∧ NodeAt W W.heap.size t A cap := by
  intro fuel
  induction fuel using Nat.strongRecOn with
  | ind fuel ih =>
    intro cs x h hw
    obtain ⟨xs, n, rfl, rfl, hl, hxl, hf⟩ := DataW.trod_struct Tryd.underlying24 h
    rw [cells24] at hl
    match cs, hl with
    | [c0, c1, c2, c3, c4], _ =>
      match xs, hxl with
      | [y0, y1, y2, y3, y5], _ =>
        have g0 := hf 0 _ rfl
        have g1 := hf 1 _ rfl
        have g2 := hf 2 _ rfl
        have g3 := hf 3 _ rfl
        have g5 := hf 4 _ rfl
        clear hf
        have hw0 : ∀ n ∈ y0.1.weights Tryd.prog 9, n ≤ reachBytes := fun n hn => hw n (by simp [DataW.weights, Tryd.underlying24, DataW.weightsEach, hn])
        have hw1 : ∀ n ∈ y1.1.weights Tryd.prog 9, n ≤ reachBytes := fun n hn => hw n (by simp [DataW.weights, Tryd.underlying24, DataW.weightsEach, hn])
        have hw5 : ∀ n ∈ y5.1.weights Tryd.prog 22, n ≤ reachBytes := fun n hn => hw n (by simp [DataW.weights, Tryd.underlying24, DataW.weightsEach, hn])
        clear hw
        simp only [List.getElem?_cons_zero, List.getElem?_cons_succ] at g0 g1 g2 g3 g5
        obtain ⟨s, hs, hy0, hsl⟩ := DataW.trod_string Tryd.underlying9 g0
        obtain ⟨s1, hs1, hy1, hsl1⟩ := DataW.trod_string Tryd.underlying9 g1
        obtain ⟨b, hb, _, _⟩ := DataW.trod_int Tryd.underlying3 g2
        obtain ⟨c, hc, _, _⟩ := DataW.trod_int Tryd.underlying3 g3
        injection hs with hs
        injection hs1 with hs1
        injection hb with hb
        injection hc with hc
        subst hs hs1 hb hc
        clear g0 g1 g2 g3
        have hsl' : s.data.toList.length ≤ 140737488355328 := by
          rw [hy0] at hw0
          have h1 := hw0 s.data.toList.length (by simp [DataW.weights])
          have h2 := reachBytes_lt
          omega
        have hsl1' : s1.data.toList.length ≤ 140737488355328 := by
          rw [hy1] at hw1
          have h1 := hw1 s1.data.toList.length (by simp [DataW.weights])
          have h2 := reachBytes_lt
          omega
        have es : (Value.string s) = strV s.data.toList := by simp [strV]
        have es1 : (Value.string s1) = strV s1.data.toList := by simp [strV]
        rcases DataW.trod_slice Tryd.underlying22 g5 with ⟨hc, _⟩ | ⟨ad, len, cap, elems, rest, k, rfl, hc, hy5, hb0, hle, hcap, hlen, hel, hrest, _⟩
        · injection hc with hc
          subst hc
          refine ⟨.node s.data.toList s1.data.toList b c [], none, 0, ?_, ?_⟩
          · rw [es, es1]
            rfl
          · unfold NodeAt KidsAt
            exact ⟨hsl', hsl1', by simp, by omega, trivial⟩
        · injection hc with hc
          subst hc
          rw [cells24] at hel
          have hrl := (hrest rfl).1
          rw [hy5] at hw5
          have hcap : cap ≤ 140737488355328 := by
            have h1 := hw5 ((elems.length + rest.length) * 72) (by simp [DataW.weights, Tryd.underlying22, bytes24])
            have h2 := reachBytes_lt
            omega
          have hwe : ∀ (i : Nat) (y : DataW H × List MemPlace), elems[i]? = some y → ∀ n ∈ y.1.weights Tryd.prog 24, n ≤ reachBytes := fun i y hy n hn => hw5 n (by
            have : y.1 ∈ elems.map (·.1) := List.mem_map.2 ⟨y, List.mem_of_getElem? hy, rfl⟩
            simp only [DataW.weights, Tryd.underlying22, List.mem_cons, List.mem_append]
            exact Or.inr (Or.inl (weightsAll_mem this n hn)))
          have hspot : 0 < len → ad.spot = none := by
            intro h0
            have h1 := hel 0 h0
            rw [List.getElem?_eq_getElem (by omega)] at h1
            obtain ⟨cs', h2, h3⟩ := Option.bind_eq_some_iff.1 h1
            obtain ⟨t, A, cp, rfl, hC⟩ := ih k (by omega) _ _ h3 (hwe _ _ (List.getElem?_eq_getElem (by omega)))
            obtain ⟨_, _, hcell⟩ := World.cells?_some h2
            have h0 := hcell 0 (by omega)
            have h00 : (cellsN t A cp)[0]? = some (strV t.op) := rfl
            rw [h00] at h0
            have h4 := World.cell?_spot h0
            rw [add_of_add] at h4
            simpa [Addr.add] using h4
          have each : ∀ i, i < len → ∃ q : Node × Option Addr × Nat, ∃ b off, ad = ⟨b, off, none⟩ ∧ b < W.heap.size ∧ (∀ m u, (cellsN q.1 q.2.1 q.2.2)[m]? = some u → W.cell? ⟨b, off + i * 5 + m, none⟩ = some u) ∧ NodeAt W W.heap.size q.1 q.2.1 q.2.2 := by
            intro i hi
            have h1 := hel i hi
            rw [List.getElem?_eq_getElem (by omega)] at h1
            obtain ⟨cs', h2, h3⟩ := Option.bind_eq_some_iff.1 h1
            obtain ⟨t, A, cp, rfl, hC⟩ := ih k (by omega) _ _ h3 (hwe _ _ (List.getElem?_eq_getElem (by omega)))
            obtain ⟨_, _, hcell⟩ := World.cells?_some h2
            obtain ⟨b, off, spot⟩ := ad
            have h0 := hcell 0 (by omega)
            have h00 : (cellsN t A cp)[0]? = some (strV t.op) := rfl
            rw [h00] at h0
            have hspot : spot = none := hspot (by omega)
            subst hspot
            refine ⟨(t, A, cp), b, off, rfl, ?_, fun m u hu => ?_, hC⟩
            · have := World.block_lt_of_cell? W _ h0
              rwa [block_of_add, block_of_add] at this
            · have hm : m < 5 := (List.getElem?_eq_some_iff.1 hu).1
              rw [← hu, ← hcell m hm, Go.WideShapes.add_plain, Go.WideShapes.add_plain]
          haveI : Inhabited (Node × Option Addr × Nat) := ⟨(.node [] [] 0 0 [], none, 0)⟩
          obtain ⟨q, hq⟩ := Go.Deep.choose_lt each
          refine ⟨.node s.data.toList s1.data.toList b c ((List.range len).map fun i => (q i).1), some ad, cap, ?_, ?_⟩
          · rw [es, es1]
            simp [cellsN, Node.op, Node.name, Node.num, Node.pos, Node.kids]
          · unfold NodeAt
            refine ⟨hsl', hsl1', by simpa using hle, hcap, KidsAt.mk _ _ fun j hj => ?_⟩
            have hj' : j < len := by simpa using hj
            obtain ⟨b, off, rfl, hb, hcell, hC⟩ := hq j hj'
            refine ⟨b, off, (q j).2.1, (q j).2.2, rfl, hb, ?_, ?_⟩
            · simpa using hcell
            · simpa using hC

set_option maxRecDepth 100000 in
/-- A formula that came in. -/
theorem node_of {H : Type} {enc : TypeId × Value → H} {W : World} {base : Nat} {v : Value} {d : DataW H} {p : List MemPlace}
    (hv : Value.okWide Tryd.prog W .any base 24 v) (h : DataW.Trod enc Tryd.prog W 0 (fun _ => true) true 24 v d p) (hw : ∀ n ∈ d.weights Tryd.prog 24, n ≤ reachBytes) : ∃ t A cap, v = nodeT t A cap ∧ NodeAt W W.heap.size t A cap := by
  obtain ⟨cs, rfl, _⟩ := okWide_struct Tryd.underlying24 hv
  obtain ⟨fuel, hf⟩ := h
  obtain ⟨t, A, cap, e, hC⟩ := node_trod fuel _ _ hf hw
  refine ⟨t, A, cap, ?_, hC⟩
  have e2 : cs = (cellsN t A cap).toArray := by rw [← e]; simp [Value.cells]
  rw [e2]
  rfl

end Go.Proofs.YteikakoheibnjaaDoor
