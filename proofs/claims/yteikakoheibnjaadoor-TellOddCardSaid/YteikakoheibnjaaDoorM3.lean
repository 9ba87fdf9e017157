/- Parts of the proof: At, Digits, Word. -/
import Derived.Deep.LoopGhost
import Derived.Laws.IdiomStrings
import Derived.Lib.Hide
import Derived.OwnWalk
import Derived.RegionTactic
import Derived.Test.YteikakoheibnjaaDoorM0
import Derived.Test.YteikakoheibnjaaDoorM2
import Derived.Test.YteikakoheibnjaaDoorRows
import Derived.WalkLawsBesides
namespace Go.Proofs.YteikakoheibnjaaDoor
open Go Go.RowKit

/-- A string value of these bytes. -/
abbrev strV (o : List UInt8) : Value := .string ⟨o.toArray⟩
/-- The five cells of a node whose kids lie at A. -/
def cellsN (t : Node) (A : Option Addr) (cap : Nat) : List Value :=
  [strV t.op, strV t.name, .int .i64 t.num, .int .i64 t.pos, .slice A t.kids.length cap]
mutual
/-- The node t lies in w below block B, its kids at A. -/
def NodeAt (w : World) (B : Nat) : Node → Option Addr → Nat → Prop
  | .node o s _ _ ks, A, cap => o.length ≤ 140737488355328 ∧ s.length ≤ 140737488355328 ∧ ks.length ≤ cap ∧ ks.length ≤ 140737488355328 ∧ KidsAt w B A 0 ks
def KidsAt (w : World) (B : Nat) (A : Option Addr) : Nat → List Node → Prop
  | _, [] => True
  | i, k :: r => (∃ b off A' cap', A = some ⟨b, off, none⟩ ∧ b < B ∧ (∀ j u, (cellsN k A' cap')[j]? = some u → w.cell? ⟨b, off + i * 5 + j, none⟩ = some u) ∧ NodeAt w B k A' cap') ∧ KidsAt w B A (i + 1) r
end
/-- A node's value, written out. -/
def nodeW (o s : List UInt8) (n p : Int) (l : Nat) (A : Option Addr) (cap : Nat) : Value :=
  .agg #[.string ⟨o.toArray⟩, .string ⟨s.toArray⟩, .int .i64 n, .int .i64 p, .slice A l cap]
/-- The value of t. -/
abbrev nodeT (t : Node) (A : Option Addr) (cap : Nat) : Value := nodeW t.op t.name t.num t.pos t.kids.length A cap

theorem NodeAt.keep {w w' : World} {B : Nat} (hk : ∀ p : Addr, p.block < B → w'.cell? p = w.cell? p) : ∀ (t : Node) (A : Option Addr) (cap : Nat), NodeAt w B t A cap → NodeAt w' B t A cap := by
  intro t
  induction t using Node.ind with
  | h o s n p ks ih =>
    intro A cap h
    unfold NodeAt at h ⊢
    refine ⟨h.1, h.2.1, h.2.2.1, h.2.2.2.1, ?_⟩
    have h3 := h.2.2.2.2
    clear h
    generalize 0 = i at *
    induction ks generalizing i with
    | nil => unfold KidsAt; trivial
    | cons x r ihr =>
      unfold KidsAt at h3 ⊢
      obtain ⟨⟨bb, off, A', cap', e, hb, hc, hx⟩, hr⟩ := h3
      refine ⟨⟨bb, off, A', cap', e, hb, fun j u hu => (hk _ hb).trans (hc j u hu), ih x (by simp) A' cap' hx⟩, ihr (fun k hk' => ih k (by simp [hk'])) _ hr⟩
theorem NodeAt.more {w : World} {B B' : Nat} (hB : B ≤ B') : ∀ (t : Node) (A : Option Addr) (cap : Nat), NodeAt w B t A cap → NodeAt w B' t A cap := by
  intro t
  induction t using Node.ind with
  | h o s n p ks ih =>
    intro A cap h
    unfold NodeAt at h ⊢
    refine ⟨h.1, h.2.1, h.2.2.1, h.2.2.2.1, ?_⟩
    have h3 := h.2.2.2.2
    clear h
    generalize 0 = i at *
    induction ks generalizing i with
    | nil => unfold KidsAt; trivial
    | cons x r ihr =>
      unfold KidsAt at h3 ⊢
      obtain ⟨⟨bb, off, A', cap', e, hb, hc, hx⟩, hr⟩ := h3
      exact ⟨⟨bb, off, A', cap', e, by omega, hc, ih x (by simp) A' cap' hx⟩, ihr (fun k hk' => ih k (by simp [hk'])) _ hr⟩
theorem NodeAt.below {w w' : World} {B : Nat} {t : Node} {A : Option Addr} {cap : Nat} (h : NodeAt w B t A cap) (hb : Below B w w') : NodeAt w' B t A cap := NodeAt.keep (fun _ hp => hb.cell hp) t A cap h
/-- The same node in a later world, below that world's end. -/
theorem NodeAt.later {w W : World} {B : Nat} {t : Node} {A : Option Addr} {cap : Nat} (h : NodeAt w B t A cap) (hb : Below B w W) (hB : B ≤ W.heap.size) : NodeAt W W.heap.size t A cap :=
  NodeAt.more hB t A cap (h.below hb)
theorem KidsAt.at_ {w : World} {B : Nat} {A : Option Addr} : ∀ (ks : List Node) (i j : Nat) (hj : j < ks.length), KidsAt w B A i ks →
    ∃ b off A' cap', A = some ⟨b, off, none⟩ ∧ b < B ∧ (∀ m u, (cellsN ks[j] A' cap')[m]? = some u → w.cell? ⟨b, off + (i + j) * 5 + m, none⟩ = some u) ∧ NodeAt w B ks[j] A' cap'
  | x :: r, i, 0, _, h => by
    unfold KidsAt at h
    exact h.1
  | x :: r, i, j + 1, hj, h => by
    unfold KidsAt at h
    obtain ⟨bb, off, A', cap', e, hb, hc, hx⟩ := KidsAt.at_ r (i + 1) j (by simpa using hj) h.2
    refine ⟨bb, off, A', cap', e, hb, ?_, hx⟩
    rw [show i + (j + 1) = i + 1 + j by omega]
    exact hc
theorem NodeAt.kid {w : World} {B : Nat} {o s : List UInt8} {n p : Int} {ks : List Node} {A : Option Addr} {cap : Nat} (h : NodeAt w B (.node o s n p ks) A cap) (j : Nat) (hj : j < ks.length) :
    ∃ b off A' cap', A = some ⟨b, off, none⟩ ∧ b < B ∧ (∀ m u, (cellsN ks[j] A' cap')[m]? = some u → w.cell? ⟨b, off + j * 5 + m, none⟩ = some u) ∧ NodeAt w B ks[j] A' cap' := by
  unfold NodeAt at h
  have := KidsAt.at_ ks 0 j hj h.2.2.2.2
  rw [Nat.zero_add] at this
  exact this
theorem NodeAt.len {w : World} {B : Nat} {o s : List UInt8} {n p : Int} {ks : List Node} {A : Option Addr} {cap : Nat} (h : NodeAt w B (.node o s n p ks) A cap) : ks.length ≤ cap ∧ ks.length ≤ 140737488355328 ∧ o.length ≤ 140737488355328 ∧ s.length ≤ 140737488355328 := by
  unfold NodeAt at h
  exact ⟨h.2.2.1, h.2.2.2.1, h.1, h.2.1⟩
/-- The five cells of a node, each by itself, in a later world. -/
theorem kid_cells {w wr : World} {bb q B : Nat} {o s : List UInt8} {n p : Int} {ks : List Node} {A : Option Addr} {cap : Nat} (hp : bb < B)
    (h : ∀ m u, (cellsN (.node o s n p ks) A cap)[m]? = some u → w.cell? ⟨bb, q + m, none⟩ = some u) (hb : Below B w wr) :
    wr.cell? ⟨bb, q, none⟩ = some (.string ⟨o.toArray⟩) ∧ wr.cell? ⟨bb, q + 1, none⟩ = some (.string ⟨s.toArray⟩) ∧ wr.cell? ⟨bb, q + 2, none⟩ = some (.int .i64 n) ∧ wr.cell? ⟨bb, q + 3, none⟩ = some (.int .i64 p) ∧
      wr.cell? ⟨bb, q + 4, none⟩ = some (.slice A ks.length cap) := by
  have cc : ∀ j u, (cellsN (.node o s n p ks) A cap)[j]? = some u → wr.cell? ⟨bb, q + j, none⟩ = some u := fun j u hu => (hb.cell (p := ⟨bb, q + j, none⟩) hp).trans (h j u hu)
  exact ⟨cc 0 _ rfl, cc 1 _ rfl, cc 2 _ rfl, cc 3 _ rfl, cc 4 _ rfl⟩
/-- The box of a node that the call itself lays. -/
abbrev boxN (o s : List UInt8) (n p : Int) (l : Nat) (A : Option Addr) (cap : Nat) : Obj := .cells #[.string ⟨o.toArray⟩, .string ⟨s.toArray⟩, .int .i64 n, .int .i64 p, .slice A l cap] 24
/-- Its cells, in a later world. -/
theorem box5 {w W : World} {o s : List UInt8} {n p : Int} {l : Nat} {A : Option Addr} {cap : Nat} (h : Below (w.heap.size + 1) (w.alloc (boxN o s n p l A cap)) W) :
    W.cell? ⟨w.heap.size, 0, none⟩ = some (.string ⟨o.toArray⟩) ∧ W.cell? ⟨w.heap.size, 1, none⟩ = some (.string ⟨s.toArray⟩) ∧ W.cell? ⟨w.heap.size, 2, none⟩ = some (.int .i64 n) ∧ W.cell? ⟨w.heap.size, 3, none⟩ = some (.int .i64 p) ∧
      W.cell? ⟨w.heap.size, 4, none⟩ = some (.slice A l cap) := by
  have e : ∀ j u, (#[.string ⟨o.toArray⟩, .string ⟨s.toArray⟩, .int .i64 n, .int .i64 p, .slice A l cap] : Array Value)[j]? = some u → W.cell? ⟨w.heap.size, j, none⟩ = some u := fun j u hu =>
    (h.cell (p := ⟨w.heap.size, j, none⟩) (Nat.lt_succ_self _)).trans ((cell_of_row _ w.heap.size j _ 24 (0, 0) (heap_alloc_new w _)).trans hu)
  exact ⟨e 0 _ rfl, e 1 _ rfl, e 2 _ rfl, e 3 _ rfl, e 4 _ rfl⟩
end Go.Proofs.YteikakoheibnjaaDoor
namespace Go.Proofs.YteikakoheibnjaaDoor
open Go Go.RowKit

theorem size_of {T : ByteArray} {X : List UInt8} (h : T.data.toList = X) : T.size = X.length := by
  rw [← h, Array.length_toList]
  rfl
theorem bytes_of {T : ByteArray} {X : List UInt8} (h : T.data.toList = X) : T = ⟨X.toArray⟩ := by
  subst h
  cases T with
  | mk d => exact congrArg ByteArray.mk (by rw [Array.toArray_toList])
/-- Two texts, one behind the other, where the lengths allow. -/
theorem add_ex (a b : ByteArray) {X Y : List UInt8} (ha : a.data.toList = X) (hb : b.data.toList = Y) (h : X.length + Y.length ≤ 100000000) :
    ∃ T : ByteArray, (∀ w : World, (Op.stringOp .add a b).run Tryd.prog w = .ok (.string T) w) ∧ T.data.toList = X ++ Y := by
  refine ⟨a ++ b, fun w => run_string_add_sum w a b ?_, ?_⟩
  · rw [size_of ha, size_of hb]
    omega
  · rw [ByteArray.data_append, Array.toList_append, ha, hb]


theorem dig_nat : ∀ d : Fin 10, (UInt8.ofNat (48 + d.val)).toNat = 48 + d.val := by decide
theorem digF_more : ∀ (f n : Nat), n < 10 ^ (f + 1) → digF (f + 2) n = digF (f + 1) n
  | 0, n, h => by
    have : n < 10 := by simpa using h
    simp [digF, this]
  | f + 1, n, h => by
    have ih := digF_more f (n / 10) (by
      rw [Nat.pow_succ] at h
      omega)
    conv => lhs; unfold digF
    conv => rhs; unfold digF
    rw [ih]
theorem digF_up : ∀ (d n : Nat), n < 1000000 → digF (6 + d) n = digF 6 n
  | 0, _, _ => rfl
  | d + 1, n, h => by
    rw [← digF_up d n h]
    have h1 := digF_more (5 + d) n (Nat.lt_of_lt_of_le (show n < 10 ^ 6 from h) (Nat.pow_le_pow_right (by decide) (by omega)))
    rw [show 6 + (d + 1) = 5 + d + 2 by omega, show 6 + d = 5 + d + 1 by omega]
    exact h1
theorem dig_step (n : Nat) (h : 10 ≤ n) (h2 : n < 1000000) : dig n = dig (n / 10) ++ [UInt8.ofNat (48 + n % 10)] := by
  unfold dig
  rw [digF_up 14 n h2, digF_up 14 (n / 10) (by omega), ← digF_up 1 n h2]
  conv => lhs; unfold digF
  rw [if_neg (by omega)]
theorem dig_small (n : Nat) (h : n < 10) : dig n = [UInt8.ofNat (48 + n % 10)] := by
  unfold dig digF
  rw [if_pos h, Nat.mod_eq_of_lt h]
theorem dig_len6 : ∀ n, n < 1000000 → (dig n).length ≤ 6 := by
  have step : ∀ k n, n < 10 ^ k → k ≤ 6 → (dig n).length ≤ max k 1 := by
    intro k
    induction k with
    | zero =>
      intro n h _
      rw [dig_small n (by simp at h; omega)]
      simp
    | succ k ih =>
      intro n h hk
      by_cases h10 : n < 10
      · rw [dig_small n h10]
        exact Nat.le_max_right _ _
      · have h3 : n < 10 ^ 6 := Nat.lt_of_lt_of_le h (Nat.pow_le_pow_right (by decide) hk)
        rw [dig_step n (by omega) h3]
        have := ih (n / 10) (by rw [Nat.pow_succ] at h; omega) (by omega)
        cases k with
        | zero => simp at h; omega
        | succ k =>
          simp
          omega
  intro n h
  have := step 6 n h (Nat.le_refl _)
  omega
/-- One byte as a text. -/
theorem conv_one (w : World) (i : Nat) : (convert 56 9 (.slice (some ⟨w.heap.size, 0, none⟩) 1 1)).run Tryd.prog (w.alloc (.cells #[.int .u8 (48 + (i : Int) % 10)] 5)) = .ok (.string ⟨[UInt8.ofNat (48 + i % 10)].toArray⟩) (w.alloc (.cells #[.int .u8 (48 + (i : Int) % 10)] 5)) := by
  refine run_convert_bytes_back _ 56 9 5 ⟨w.heap.size, 0, none⟩ 1 [UInt8.ofNat (48 + i % 10)] Tryd.underlying56 Tryd.underlying5 Tryd.underlying9 fun j hj => ?_
  have h0 : j = 0 := by simpa using hj
  subst h0
  have e := dig_nat ⟨i % 10, Nat.mod_lt _ (by decide)⟩
  simp only at e
  simp only [List.getElem_cons_zero]
  rw [e]
  have e2 : ((48 + i % 10 : Nat) : Int) = 48 + (i : Int) % 10 := by omega
  rw [e2]
  exact (cell_of_row _ w.heap.size 0 _ 5 (0, 0) (heap_alloc_new w _)).trans rfl

theorem digit_any (i : Nat) (h10 : i < 10) (w : World) : Calls Tryd.prog 30 #[.int .i64 i] w fun e w' => e = .returned (.string ⟨(dig i).toArray⟩) ∧ Below w.heap.size w w' := by
  have g : decide ((i : Int) < 10) = true := decide_eq_true (by omega)
  have hconv := conv_one w i
  rw [dig_small i h10]
  generalize UInt8.ofNat (48 + i % 10) = B at *
  go_enter Tryd.func30, Tryd.ntmps30
  go_wp2_with fail
  go_ret
  exact ⟨rfl, (Below.refl _ _).alloc (Nat.le_refl _) _⟩
/-- A number from 0 to 999999 in digits. -/
theorem digits_any : ∀ (n i : Nat), i ≤ n → i < 1000000 → ∀ (w : World), Calls Tryd.prog 30 #[.int .i64 i] w fun e w' => e = .returned (.string ⟨(dig i).toArray⟩) ∧ Below w.heap.size w w' := by
  intro n
  induction n with
  | zero =>
    intro i hin hi w
    exact digit_any i (by omega) w
  | succ n ih =>
    intro i hin hi w
    by_cases h10 : i < 10
    · exact digit_any i h10 w
    · have g : decide ((i : Int) < 10) = false := decide_eq_false (by omega)
      have hconv := conv_one w i
      rw [dig_step i (by omega) hi]
      have HH : Hid (∀ W, Calls Tryd.prog 30 #[.int .i64 ((i : Int) / 10)] W fun e w' => e = .returned (.string ⟨(dig (i / 10)).toArray⟩) ∧ Below W.heap.size W w') := Lib.hid (fun W => by
        have := ih (i / 10) (by omega) (by omega) W
        rw [show ((i / 10 : Nat) : Int) = (i : Int) / 10 by omega] at this
        exact this)
      have hl : (dig (i / 10)).length ≤ 6 := dig_len6 _ (by omega)
      generalize UInt8.ofNat (48 + i % 10) = B at *
      generalize dig (i / 10) = D at *
      obtain ⟨T, hadd, hT⟩ := add_ex ⟨D.toArray⟩ ⟨[B].toArray⟩ (X := D) (Y := [B]) rfl rfl (by simp; omega)
      have HT := Lib.hid (bytes_of hT)
      clear hT hl ih
      go_enter Tryd.func30, Tryd.ntmps30
      go_wp2_with (
        go_at_call 30
        refine (HH.out _).mono ?_
        rintro e w2 ⟨rfl, hb2⟩)
      go_ret
      exact ⟨congrArg (fun x : ByteArray => Ending.returned (.string x)) HT.out, ((Below.refl w.heap.size w).alloc (Nat.le_refl _) _).trans (hb2.mono (by simp))⟩
end Go.Proofs.YteikakoheibnjaaDoor
namespace Go.Proofs.YteikakoheibnjaaDoor
open Go Go.RowKit

/-- Texts as cells. -/
def strVs (l : List (List UInt8)) : List Value := l.map fun x => .string ⟨x.toArray⟩
theorem strVs_at (l : List (List UInt8)) (k : Nat) (hk : k < l.length) : (strVs l)[k]? = some (.string ⟨(l[k]).toArray⟩) := by simp [strVs, hk]
theorem words_any (w : World) : Calls Tryd.prog 138 #[] w fun e w' => e = .returned (.slice (some ⟨w.heap.size, 0, none⟩) 17 17) ∧ w' = w.alloc (.cells (strVs wordL).toArray 9) := by
  go_enter Tryd.func138, Tryd.ntmps138
  go_wp2_with fail
  go_ret
  exact ⟨rfl, rfl⟩
set_option maxHeartbeats 1000000 in
theorem word_any (l : List UInt8) (w : World) : Calls Tryd.prog 118 #[.string ⟨l.toArray⟩] w fun e w' => e = .returned (.bool (decide (l ∈ wordL))) ∧ Below w.heap.size w w' := by
  have HB := Lib.hid ((Below.refl w.heap.size w).alloc (Nat.le_refl _) (.cells (strVs wordL).toArray 9))
  have HC := Lib.hid (fun k (hk : k < wordL.length) => (show (w.alloc (.cells (strVs wordL).toArray 9)).cell? ⟨w.heap.size, k, none⟩ = some (.string ⟨(wordL[k]).toArray⟩) by
    rw [cell_of_row (w.alloc (.cells (strVs wordL).toArray 9)) w.heap.size k _ 9 (0, 0) (heap_alloc_new w _), List.getElem?_toArray]
    exact strVs_at wordL k hk))
  have HW := Lib.hid (fun W => words_any W)
  have h17 : wordL.length = 17 := rfl
  have HL := Lib.hid h17
  clear h17
  go_enter Tryd.func118, Tryd.ntmps118
  go_wp2_with (
    go_at_call 138
    refine (HW.out _).mono ?_
    rintro e w2 ⟨rfl, rfl⟩)
  generalize w.alloc (.cells (strVs wordL).toArray 9) = W at *
  go_loopg [4] 17 (fun g i wr => ∃ k : Nat, k ≤ 17 ∧ g = 17 - k ∧ i = .int .i64 (k : Int) ∧ Hid (¬ l ∈ wordL.take k) ∧ wr = W)
  case atStart => exact ⟨0, Nat.zero_le _, rfl, rfl, Lib.hid (by simp), rfl⟩
  case round =>
    obtain ⟨k, hk, hg, rfl, HN, rfl⟩ := hrel
    have HG := Lib.hid hg
    clear hg
    by_cases hlt : k < 17
    · have hkl : k < wordL.length := by rw [HL.out]; exact hlt
      have c0 := HC.out k hkl
      have HT := Lib.hid (List.take_succ_eq_append_getElem hkl)
      have HM := Lib.hid (List.getElem_mem hkl)
      generalize wordL[k]'hkl = x at *
      have g1 : decide ((k : Int) < 17) = true := decide_eq_true (by omega)
      by_cases hx : x = l
      · have HF := Lib.hid (show true = decide (l ∈ wordL) by rw [← hx]; exact (decide_eq_true HM.out).symm)
        have g2 : (x == l) = true := by rw [hx]; exact beq_self_eq_true _
        clear hx
        go_wp2_with fail
        go_ret
        exact ⟨congrArg (fun x : Bool => Ending.returned (.bool x)) HF.out, HB.out⟩
      · have g2 : (x == l) = false := beq_false_of_ne hx
        have HX := Lib.hid hx
        clear hx
        go_wp2_with fail
        go_roundg (17 - (k + 1))
        case measure => have := HG.out; omega
        case rel => exact ⟨k + 1, by omega, rfl, by go_num, Lib.hid (by
          rw [HT.out, List.mem_append, List.mem_singleton]
          rintro (h | h)
          · exact HN.out h
          · exact HX.out h.symm), rfl⟩
    · have g1 : decide ((k : Int) < 17) = false := decide_eq_false (by omega)
      have HF := Lib.hid (show false = decide (l ∈ wordL) by
        symm
        rw [decide_eq_false_iff_not]
        have := HN.out
        rw [List.take_of_length_le (by rw [HL.out]; omega)] at this
        exact this)
      go_wp2_with fail
      go_ret
      exact ⟨congrArg (fun x : Bool => Ending.returned (.bool x)) HF.out, HB.out⟩
end Go.Proofs.YteikakoheibnjaaDoor
