/- Parts of the proof: Mem, At, Digits, App, Word. -/
import Derived.Below
import Derived.Deep.AppendLies
import Derived.Deep.Draws
import Derived.Deep.LoopGhost
import Derived.Laws.IdiomStrings
import Derived.Laws.OwnMore
import Derived.Laws.Rows
import Derived.Lib.Hide
import Derived.Maps.AppendAt
import Derived.OwnWalk
import Derived.RegionTactic
import Derived.Test.YteikakoheibnjaaGreatDoorM1
import Derived.Test.YteikakoheibnjaaGreatDoorRows
import Derived.WalkKit
import Derived.WalkLawsBesides
import Derived.WalkSpells
namespace Go.Proofs.YteikakoheibnjaaGreatDoor
open Go Go.RowKit

theorem block_of_add (a : Addr) (n : Nat) : (a.add n).block = a.block := by unfold Addr.add; split <;> rfl
theorem add_of_add (a : Addr) (i j : Nat) : (a.add i).add j = a.add (i + j) := by
  unfold Addr.add
  by_cases hi : i = 0 <;> by_cases hj : j = 0 <;> simp [hi, hj, Nat.add_assoc]

/-- The slice value '.slice A n c' holds the cells xs, below block B. -/
def Reads (w : World) (B size : Nat) (A : Option Addr) (n : Nat) (xs : List Value) : Prop :=
  xs.length = n * size ∧ (0 < n → ∃ ad, A = some ad ∧ ad.block < B ∧ ∀ j u, xs[j]? = some u → w.cell? (ad.add j) = some u)

section
variable {w w' : World} {B B' size n : Nat} {A : Option Addr} {xs : List Value}
theorem Reads.none_ : Reads w B size A 0 [] := ⟨by simp, fun h => absurd h (by omega)⟩
theorem Reads.at_ {k : Nat} (h : Reads w B 1 A n xs) (hk : k < n) : ∃ ad u, A = some ad ∧ ad.block < B ∧ xs[k]? = some u ∧ w.cell? (ad.add k) = some u := by
  obtain ⟨ad, e, hb, hc⟩ := h.2 (by omega)
  have hl : k < xs.length := by have := h.1; omega
  exact ⟨ad, xs[k], e, hb, List.getElem?_eq_getElem hl, hc k _ (List.getElem?_eq_getElem hl)⟩
theorem Reads.keep (h : Reads w B size A n xs) (hk : ∀ p : Addr, p.block < B → w'.cell? p = w.cell? p) : Reads w' B size A n xs :=
  ⟨h.1, fun hn => by
    obtain ⟨ad, e, hb, hc⟩ := h.2 hn
    exact ⟨ad, e, hb, fun j u hu => (hk _ (by rw [block_of_add]; exact hb)).trans (hc j u hu)⟩⟩
theorem Reads.more (h : Reads w B size A n xs) (hB : B ≤ B') : Reads w B' size A n xs :=
  ⟨h.1, fun hn => by
    obtain ⟨ad, e, hb, hc⟩ := h.2 hn
    exact ⟨ad, e, by omega, hc⟩⟩
theorem Reads.below (h : Reads w B size A n xs) (hb : Below B w w') : Reads w' B size A n xs := h.keep fun _ hp => hb.cell hp
theorem Reads.drewN (h : Reads w B size A n xs) (k : Nat) : Reads (w.drewN k) B size A n xs := h
theorem Reads.of_own {base : Nat} {e : TypeId} {c : Nat} (h : w.ownsRow base e size (.slice A n c) n xs) : Reads w w.heap.size size A n xs := by
  refine ⟨h.1, fun hn => ?_⟩
  obtain ⟨g, cap, hv, _, hlt⟩ := h.form hn
  have hA : A = some ⟨g, 0, none⟩ := by injection hv
  subst hA
  exact ⟨_, rfl, hlt, h.cells (g := g) rfl⟩
end

/-- Block g is just the cells cs of element type t, none frozen. -/
def Blk (w : World) (g : Nat) (t : TypeId) (cs : Array Value) : Prop := w.heap[g]? = some (.cells cs t (0, 0))
section
variable {w w' : World} {g : Nat} {t : TypeId} {cs : Array Value}
theorem Blk.lt (h : Blk w g t cs) : g < w.heap.size := by
  rcases Nat.lt_or_ge g w.heap.size with hlt | hge
  · exact hlt
  · unfold Blk at h; rw [Array.getElem?_eq_none hge] at h; cases h
theorem Blk.cell (h : Blk w g t cs) (i : Nat) : w.cell? ⟨g, i, none⟩ = cs[i]? := cell_of_row w g i cs t (0, 0) h
theorem Blk.frozen (h : Blk w g t cs) (i : Nat) : w.frozen? ⟨g, i, none⟩ = false := by
  unfold Blk at h
  simp [World.frozen?, h]
theorem Blk.new (w : World) (t : TypeId) (cs : Array Value) : Blk (w.alloc (.cells cs t)) w.heap.size t cs := heap_alloc_new w _
theorem Blk.set_ (h : Blk w g t cs) (i : Nat) (u : Value) : Blk (w.setCell ⟨g, i, none⟩ u) g t (cs.setIfInBounds i u) := by
  unfold Blk at h ⊢
  simp [World.setCell, Array.getElem?_modify, h]
theorem Blk.ne_ {g' : Nat} {t' : TypeId} {cs' : Array Value} (h : Blk w g t cs) (h' : Blk w g' t' cs') (hne : t ≠ t') : g ≠ g' := by
  rintro rfl
  unfold Blk at h h'
  rw [h] at h'
  injection h' with h'
  injection h' with _ ht
  exact hne ht
theorem own_blk_ne {base : Nat} {e : TypeId} {size n : Nat} {v : Value} {xs : List Value} (h : w.ownsRow base e size v n xs) (hg : Blk w g t cs) (hne : e ≠ t) : v.ownBlock ≠ some g := by
  rcases h.2 with ⟨rfl, _⟩ | ⟨g', cap, cur, rfl, _, hh, _⟩
  · simp [Value.ownBlock]
  · intro he
    have : g' = g := by simpa [Value.ownBlock] using he
    subst this
    exact Blk.ne_ (t := e) hh hg hne rfl
end

/-- FRAME: of the blocks of w only those in S may have turned. -/
structure Fr (S : Nat → Prop) (w w' : World) : Prop where
  os : w'.os = w.os
  tape : w'.tape = w.tape
  output : w'.output = w.output
  size : w.heap.size ≤ w'.heap.size
  block : ∀ k, k < w.heap.size → ¬ S k → w'.heap[k]? = w.heap[k]?
section
variable {S : Nat → Prop} {a w w' : World}
theorem Fr.refl (S : Nat → Prop) (w : World) : Fr S w w := ⟨rfl, rfl, rfl, Nat.le_refl _, fun _ _ _ => rfl⟩
theorem Fr.trans (h : Fr S a w) (k : Fr S w w') : Fr S a w' :=
  ⟨k.os.trans h.os, k.tape.trans h.tape, k.output.trans h.output, Nat.le_trans h.size k.size, fun i hi hs => (k.block i (Nat.lt_of_lt_of_le hi h.size) hs).trans (h.block i hi hs)⟩
theorem Fr.mono {S' : Nat → Prop} (h : Fr S a w) (hs : ∀ k, k < a.heap.size → S k → S' k) : Fr S' a w :=
  ⟨h.os, h.tape, h.output, h.size, fun i hi hn => h.block i hi (fun c => hn (hs i hi c))⟩
theorem Fr.drewN (h : Fr S a w) (n : Nat) : Fr S a (w.drewN n) := ⟨h.os, h.tape, h.output, h.size, h.block⟩
theorem Fr.drew (h : Fr S a w) : Fr S a w.drew := ⟨h.os, h.tape, h.output, h.size, h.block⟩
theorem Fr.alloc (h : Fr S a w) (o : Obj) : Fr S a (w.alloc o) :=
  ⟨h.os, h.tape, h.output, Nat.le_trans h.size (by simp), fun i hi hs => (Below.heap_alloc w o i (Nat.lt_of_lt_of_le hi h.size)).trans (h.block i hi hs)⟩
theorem Fr.setCell (h : Fr S a w) {p : Addr} (hp : S p.block ∨ a.heap.size ≤ p.block) (u : Value) : Fr S a (w.setCell p u) :=
  ⟨h.os, h.tape, h.output, by simpa [World.setCell] using h.size, fun i hi hs => (Below.heap_setCell w p u i (by
    rintro rfl
    rcases hp with hp | hp
    · exact hs hp
    · omega)).trans (h.block i hi hs)⟩
theorem Fr.grown (h : Fr S a w) {row : Option Nat} (hg : w.grownBy w' row) (hr : ∀ k, row = some k → S k ∨ a.heap.size ≤ k) : Fr S a w' :=
  ⟨hg.os.trans h.os, hg.tape.trans h.tape, hg.output.trans h.output, Nat.le_trans h.size hg.size, fun i hi hs =>
    (hg.block i (Nat.lt_of_lt_of_le hi h.size) (fun e => by
      rcases hr i e.symm with c | c
      · exact hs c
      · omega)).trans (h.block i hi hs)⟩
theorem Fr.below {B : Nat} (h : Fr S a w) (hB : ∀ k, k < B → ¬ S k) (hle : B ≤ a.heap.size) : Below B a w :=
  ⟨h.os, h.tape, h.output, h.size, fun k hk => h.block k (by omega) (hB k hk)⟩
theorem Fr.of_below {B : Nat} (h : Below B a w) : Fr (fun k => B ≤ k) a w := ⟨h.os, h.tape, h.output, h.size, fun k _ hs => h.block k (by omega)⟩
theorem Fr.blk {g : Nat} {t : TypeId} {cs : Array Value} (h : Fr S a w) (hb : Blk a g t cs) (hs : ¬ S g) : Blk w g t cs := (h.block g hb.lt hs).trans hb
theorem Fr.own {base : Nat} {e : TypeId} {size n : Nat} {v : Value} {xs : List Value} (h : Fr S a w) (ho : a.ownsRow base e size v n xs) (hs : ∀ k, v.ownBlock = some k → ¬ S k) : w.ownsRow base e size v n xs := by
  refine ⟨ho.1, ?_⟩
  rcases ho.2 with hn | ⟨g, cap, cur, rfl, hb, hgg, rest⟩
  · exact .inl hn
  · refine .inr ⟨g, cap, cur, rfl, hb, ?_, rest⟩
    rw [h.block g (Array.getElem?_eq_some_iff.1 hgg).1 (hs g rfl)]
    exact hgg
theorem Fr.reads {B size n : Nat} {A : Option Addr} {xs : List Value} (h : Fr S a w) (hr : Reads a B size A n xs) (hB : ∀ k, k < B → ¬ S k) (hle : B ≤ a.heap.size) : Reads w B size A n xs :=
  hr.below (h.below hB hle)
end
end Go.Proofs.YteikakoheibnjaaGreatDoor
namespace Go.Proofs.YteikakoheibnjaaGreatDoor
open Go Go.RowKit

/-- A string value of these bytes. -/
abbrev strV (o : List UInt8) : Value := .string ⟨o.toArray⟩
end Go.Proofs.YteikakoheibnjaaGreatDoor
namespace Go.Proofs.YteikakoheibnjaaGreatDoor
open Go Go.RowKit

theorem size_of {T : ByteArray} {X : List UInt8} (h : T.data.toList = X) : T.size = X.length := by
  rw [← h, Array.length_toList]
  rfl
theorem bytes_of {T : ByteArray} {X : List UInt8} (h : T.data.toList = X) : T = ⟨X.toArray⟩ := by
  subst h
  cases T with
  | mk d => exact congrArg ByteArray.mk (by rw [Array.toArray_toList])
/-- Two texts, one behind the other, where the lengths allow. -/
theorem add_ex (a b : ByteArray) {X Y : List UInt8} (ha : a.data.toList = X) (hb : b.data.toList = Y) (h : X.length + Y.length ≤ 100000000) :
    ∃ T : ByteArray, (∀ w : World, (Op.stringOp .add a b).run Tryz.prog w = .ok (.string T) w) ∧ T.data.toList = X ++ Y := by
  refine ⟨a ++ b, fun w => run_string_add_sum w a b ?_, ?_⟩
  · rw [size_of ha, size_of hb]
    omega
  · rw [ByteArray.data_append, Array.toList_append, ha, hb]


theorem dig_nat : ∀ d : Fin 10, (UInt8.ofNat (48 + d.val)).toNat = 48 + d.val := by decide
theorem digF_more : ∀ (f n : Nat), n < 10 ^ (f + 1) → digF (f + 2) n = digF (f + 1) n
  | 0, n, h => by
    have : n < 10 := by simpa using h
    simp [digF, this]
  | f + 1, n, h => by
    have ih := digF_more f (n / 10) (by
      rw [Nat.pow_succ] at h
      omega)
    conv => lhs; unfold digF
    conv => rhs; unfold digF
    rw [ih]
theorem digF_up : ∀ (d n : Nat), n < 1000000 → digF (6 + d) n = digF 6 n
  | 0, _, _ => rfl
  | d + 1, n, h => by
    rw [← digF_up d n h]
    have h1 := digF_more (5 + d) n (Nat.lt_of_lt_of_le (show n < 10 ^ 6 from h) (Nat.pow_le_pow_right (by decide) (by omega)))
    rw [show 6 + (d + 1) = 5 + d + 2 by omega, show 6 + d = 5 + d + 1 by omega]
    exact h1
theorem dig_step (n : Nat) (h : 10 ≤ n) (h2 : n < 1000000) : dig n = dig (n / 10) ++ [UInt8.ofNat (48 + n % 10)] := by
  unfold dig
  rw [digF_up 14 n h2, digF_up 14 (n / 10) (by omega), ← digF_up 1 n h2]
  conv => lhs; unfold digF
  rw [if_neg (by omega)]
theorem dig_small (n : Nat) (h : n < 10) : dig n = [UInt8.ofNat (48 + n % 10)] := by
  unfold dig digF
  rw [if_pos h, Nat.mod_eq_of_lt h]
theorem dig_len6 : ∀ n, n < 1000000 → (dig n).length ≤ 6 := by
  have step : ∀ k n, n < 10 ^ k → k ≤ 6 → (dig n).length ≤ max k 1 := by
    intro k
    induction k with
    | zero =>
      intro n h _
      rw [dig_small n (by simp at h; omega)]
      simp
    | succ k ih =>
      intro n h hk
      by_cases h10 : n < 10
      · rw [dig_small n h10]
        exact Nat.le_max_right _ _
      · have h3 : n < 10 ^ 6 := Nat.lt_of_lt_of_le h (Nat.pow_le_pow_right (by decide) hk)
        rw [dig_step n (by omega) h3]
        have := ih (n / 10) (by rw [Nat.pow_succ] at h; omega) (by omega)
        cases k with
        | zero => simp at h; omega
        | succ k =>
          simp
          omega
  intro n h
  have := step 6 n h (Nat.le_refl _)
  omega
/-- One byte as a text. -/
theorem conv_one (w : World) (i : Nat) : (convert 33 9 (.slice (some ⟨w.heap.size, 0, none⟩) 1 1)).run Tryz.prog (w.alloc (.cells #[.int .u8 (48 + (i : Int) % 10)] 5)) = .ok (.string ⟨[UInt8.ofNat (48 + i % 10)].toArray⟩) (w.alloc (.cells #[.int .u8 (48 + (i : Int) % 10)] 5)) := by
  refine run_convert_bytes_back _ 33 9 5 ⟨w.heap.size, 0, none⟩ 1 [UInt8.ofNat (48 + i % 10)] Tryz.underlying33 Tryz.underlying5 Tryz.underlying9 fun j hj => ?_
  have h0 : j = 0 := by simpa using hj
  subst h0
  have e := dig_nat ⟨i % 10, Nat.mod_lt _ (by decide)⟩
  simp only at e
  simp only [List.getElem_cons_zero]
  rw [e]
  have e2 : ((48 + i % 10 : Nat) : Int) = 48 + (i : Int) % 10 := by omega
  rw [e2]
  exact (cell_of_row _ w.heap.size 0 _ 5 (0, 0) (heap_alloc_new w _)).trans rfl

theorem digit_any (i : Nat) (h10 : i < 10) (w : World) : Calls Tryz.prog 23 #[.int .i64 i] w fun e w' => e = .returned (.string ⟨(dig i).toArray⟩) ∧ Below w.heap.size w w' := by
  have g : decide ((i : Int) < 10) = true := decide_eq_true (by omega)
  have hconv := conv_one w i
  rw [dig_small i h10]
  generalize UInt8.ofNat (48 + i % 10) = B at *
  go_enter Tryz.func23, Tryz.ntmps23
  go_wp2_with fail
  go_ret
  exact ⟨rfl, (Below.refl _ _).alloc (Nat.le_refl _) _⟩
/-- A number from 0 to 999999 in digits. -/
theorem digits_any : ∀ (n i : Nat), i ≤ n → i < 1000000 → ∀ (w : World), Calls Tryz.prog 23 #[.int .i64 i] w fun e w' => e = .returned (.string ⟨(dig i).toArray⟩) ∧ Below w.heap.size w w' := by
  intro n
  induction n with
  | zero =>
    intro i hin hi w
    exact digit_any i (by omega) w
  | succ n ih =>
    intro i hin hi w
    by_cases h10 : i < 10
    · exact digit_any i h10 w
    · have g : decide ((i : Int) < 10) = false := decide_eq_false (by omega)
      have hconv := conv_one w i
      rw [dig_step i (by omega) hi]
      have HH : Hid (∀ W, Calls Tryz.prog 23 #[.int .i64 ((i : Int) / 10)] W fun e w' => e = .returned (.string ⟨(dig (i / 10)).toArray⟩) ∧ Below W.heap.size W w') := Lib.hid (fun W => by
        have := ih (i / 10) (by omega) (by omega) W
        rw [show ((i / 10 : Nat) : Int) = (i : Int) / 10 by omega] at this
        exact this)
      have hl : (dig (i / 10)).length ≤ 6 := dig_len6 _ (by omega)
      generalize UInt8.ofNat (48 + i % 10) = B at *
      generalize dig (i / 10) = D at *
      obtain ⟨T, hadd, hT⟩ := add_ex ⟨D.toArray⟩ ⟨[B].toArray⟩ (X := D) (Y := [B]) rfl rfl (by simp; omega)
      have HT := Lib.hid (bytes_of hT)
      clear hT hl ih
      go_enter Tryz.func23, Tryz.ntmps23
      go_wp2_with (
        go_at_call 23
        refine (HH.out _).mono ?_
        rintro e w2 ⟨rfl, hb2⟩)
      go_ret
      exact ⟨congrArg (fun x : ByteArray => Ending.returned (.string x)) HT.out, ((Below.refl w.heap.size w).alloc (Nat.le_refl _) _).trans (hb2.mono (by simp))⟩
end Go.Proofs.YteikakoheibnjaaGreatDoor
namespace Go.Proofs.YteikakoheibnjaaGreatDoor
open Go Go.RowKit

section
variable {P : Program} (w : World)

theorem run_append_of_nil (base : Nat) (t ty e : TypeId) (i : TypeInfo) (size : Nat) (ht : P.underlying t = some (.slice e)) (hi : P.info? e = some i)
    (v : Value) (n : Nat) (xs : List Value) (hown : w.ownsRow base e size v n xs) (c : Nat) : (Builtin.append_ #[t, t] ty #[v, .slice none 0 c]).run P w = .ok v w := by
  rcases hown.2 with ⟨rfl, rfl⟩ | ⟨g, cap, cur, rfl, _, _, hnc, _⟩
  · simp [Builtin.append_, run_underlying ht, sizeOf, typeInfo, hi, Builtin.lenOf, Builtin.firstCells]
  · simp [Builtin.append_, run_underlying ht, sizeOf, typeInfo, hi, Builtin.lenOf, Builtin.firstCells, hnc, storeCells]

theorem run_append_any (base : Nat) (t ty e : TypeId) (i : TypeInfo) (z : Value) (size bytes : Nat) (ht : P.underlying t = some (.slice e)) (hi : P.info? e = some i) (hz : i.zero = some z)
    (hsize : i.size = size) (hby : i.bytes = bytes) (hzs : z.cells.size = size) (hsz : 0 < size)
    (v : Value) (n : Nat) (xs : List Value) (hown : w.ownsRow base e size v n xs)
    (B : Nat) (A : Option Addr) (m c : Nat) (news : List Value) (hr : Reads w B size A m news) (h1 : ∀ u ∈ news, u.oneCell' = true)
    (h63 : n + m ≤ maxLen) (hbytes : (n + m) * bytes ≤ 140737488355328) (hbase : base ≤ w.heap.size) :
    ∃ v' w', (Builtin.append_ #[t, t] ty #[v, .slice A m c]).run P w = .ok v' w' ∧ w'.ownsRow base e size v' (n + m) (xs ++ news) ∧ w.grownBy w' v.ownBlock ∧
      (v'.ownBlock = v.ownBlock ∨ v'.ownBlock = some w.heap.size) := by
  rcases A with _ | ad
  · have hm : m = 0 := by
      rcases Nat.eq_zero_or_pos m with h0 | h0
      · exact h0
      · obtain ⟨ad, h, _⟩ := hr.2 h0
        cases h
    subst hm
    have hn : news = [] := List.eq_nil_of_length_eq_zero (by simpa using hr.1)
    subst hn
    exact ⟨v, w, run_append_of_nil w base t ty e i size ht hi v n xs hown c, by simpa using hown, World.grownBy.refl w _, .inl rfl⟩
  · have hcells : ∀ j u, news[j]? = some u → w.cell? (ad.add j) = some u := by
      intro j u hu
      rcases Nat.eq_zero_or_pos m with h0 | h0
      · subst h0
        have hn : news = [] := List.eq_nil_of_length_eq_zero (by simpa using hr.1)
        subst hn
        simp at hu
      · obtain ⟨ad', h, _, hc⟩ := hr.2 h0
        injection h with h
        subst h
        exact hc j u hu
    obtain ⟨v', w', hrun, h2, h3, _, h5⟩ := run_append_own_at (P := P) w base t ty e i z size bytes ht hi hz hsize hby hzs hsz v n xs hown ad m c news hr.1 hcells h1 h63 hbytes hbase
    exact ⟨v', w', hrun, h2, h3, h5⟩

theorem wp_append_any {o : Oper} {a : Act} {K : Act → World → Prop} {Q : Exit → Act → World → Prop} (s x : Operand) (t : TypeId)
    (ho : o.op = .call { callee := .builtin .append, args := #[s, x], argTypes := #[t, t] })
    (base : Nat) (e : TypeId) (i : TypeInfo) (z : Value) (size bytes : Nat) (ht : P.underlying t = some (.slice e)) (hi : P.info? e = some i) (hz : i.zero = some z)
    (hsize : i.size = size) (hby : i.bytes = bytes) (hzs : z.cells.size = size) (hsz : 0 < size)
    (v : Value) (n : Nat) (xs : List Value) (hs : a.eval s = v) (hown : w.ownsRow base e size v n xs)
    (B : Nat) (A : Option Addr) (m c : Nat) (news : List Value) (hx : a.eval x = .slice A m c) (hr : Reads w B size A m news) (h1 : ∀ u ∈ news, u.oneCell' = true)
    (h63 : n + m ≤ maxLen) (hbytes : (n + m) * bytes ≤ 140737488355328) (hbase : base ≤ w.heap.size)
    (h : ∀ v' w', w'.ownsRow base e size v' (n + m) (xs ++ news) → w.grownBy w' v.ownBlock → (v'.ownBlock = v.ownBlock ∨ v'.ownBlock = some w.heap.size) → K (a.put o.dst v') w') : o.wp P a w K Q := by
  obtain ⟨v', w', hrun, h2, h3, h4⟩ := run_append_any (P := P) w base t o.type e i z size bytes ht hi hz hsize hby hzs hsz v n xs hown B A m c news hr h1 h63 hbytes hbase
  unfold Oper.wp execOp
  simp only [ho, resolve, invoke, builtin, Sem.run_bind, Sem.run_pure, Result.andThen_ok, List.map_toArray, List.map_cons, List.map_nil, hs, hx, hrun]
  exact h v' w' h2 h3 h4

theorem wpList_append_any {ops : Array Oper} {rest : List Oper} {o : Oper} {a : Act} {Q : Exit → Act → World → Prop} (hgd : o.guard = none) (s x : Operand) (t : TypeId)
    (ho : o.op = .call { callee := .builtin .append, args := #[s, x], argTypes := #[t, t] })
    (base : Nat) (e : TypeId) (i : TypeInfo) (z : Value) (size bytes : Nat) (ht : P.underlying t = some (.slice e)) (hi : P.info? e = some i) (hz : i.zero = some z)
    (hsize : i.size = size) (hby : i.bytes = bytes) (hzs : z.cells.size = size) (hsz : 0 < size)
    (v : Value) (n : Nat) (xs : List Value) (hs : a.eval s = v) (hown : w.ownsRow base e size v n xs)
    (B : Nat) (A : Option Addr) (m c : Nat) (news : List Value) (hx : a.eval x = .slice A m c) (hr : Reads w B size A m news) (h1 : ∀ u ∈ news, u.oneCell' = true)
    (h63 : n + m ≤ maxLen) (hbytes : (n + m) * bytes ≤ 140737488355328) (hbase : base ≤ w.heap.size)
    (h : ∀ v' w', w'.ownsRow base e size v' (n + m) (xs ++ news) → w.grownBy w' v.ownBlock → (v'.ownBlock = v.ownBlock ∨ v'.ownBlock = some w.heap.size) → wpList P ops Q rest (a.put o.dst v') w') : wpList P ops Q (o :: rest) a w :=
  wpList_plain hgd fun _ hK => wp_append_any w s x t ho base e i z size bytes ht hi hz hsize hby hzs hsz v n xs hs hown B A m c news hx hr h1 h63 hbytes hbase fun v' w' h2 h3 h4 => hK _ _ (h v' w' h2 h3 h4)

theorem step_append_any {ops : Array Oper} {o : Oper} {a : Act} {K : Act → World → Prop} {Q : Exit → Act → World → Prop} {E : Prop} (hgd : o.guard = none) (s x : Operand) (t : TypeId)
    (ho : o.op = .call { callee := .builtin .append, args := #[s, x], argTypes := #[t, t] })
    (base : Nat) (e : TypeId) (i : TypeInfo) (z : Value) (size bytes : Nat) (ht : P.underlying t = some (.slice e)) (hi : P.info? e = some i) (hz : i.zero = some z)
    (hsize : i.size = size) (hby : i.bytes = bytes) (hzs : z.cells.size = size) (hsz : 0 < size)
    (v : Value) (n : Nat) (xs : List Value) (hs : a.eval s = v) (hown : w.ownsRow base e size v n xs)
    (B : Nat) (A : Option Addr) (m c : Nat) (news : List Value) (hx : a.eval x = .slice A m c) (hr : Reads w B size A m news) (h1 : ∀ u ∈ news, u.oneCell' = true)
    (h63 : n + m ≤ maxLen) (hbytes : (n + m) * bytes ≤ 140737488355328) (hbase : base ≤ w.heap.size)
    (h : ∀ v' w', w'.ownsRow base e size v' (n + m) (xs ++ news) → w.grownBy w' v.ownBlock → (v'.ownBlock = v.ownBlock ∨ v'.ownBlock = some w.heap.size) → K (a.put o.dst v') w') :
    if Region.wanted o (yielded ops a.tmps) = true then Oper.wp P o a w K Q else E := by
  have hw : Region.wanted o (yielded ops a.tmps) = true := by simp [Region.wanted, hgd]
  rw [if_pos hw]
  exact wp_append_any w s x t ho base e i z size bytes ht hi hz hsize hby hzs hsz v n xs hs hown B A m c news hx hr h1 h63 hbytes hbase h
end

/-- The same at a guarded operation whose guard says yes. -/
theorem wpList_append_any_g {P : Program} (w : World) {ops : Array Oper} {rest : List Oper} {o : Oper} {a : Act} {Q : Exit → Act → World → Prop} (hw : Region.wanted o (yielded ops a.tmps) = true) (s x : Operand) (t : TypeId)
    (ho : o.op = .call { callee := .builtin .append, args := #[s, x], argTypes := #[t, t] })
    (base : Nat) (e : TypeId) (i : TypeInfo) (z : Value) (size bytes : Nat) (ht : P.underlying t = some (.slice e)) (hi : P.info? e = some i) (hz : i.zero = some z)
    (hsize : i.size = size) (hby : i.bytes = bytes) (hzs : z.cells.size = size) (hsz : 0 < size)
    (v : Value) (n : Nat) (xs : List Value) (hs : a.eval s = v) (hown : w.ownsRow base e size v n xs)
    (B : Nat) (A : Option Addr) (m c : Nat) (news : List Value) (hx : a.eval x = .slice A m c) (hr : Reads w B size A m news) (h1 : ∀ u ∈ news, u.oneCell' = true)
    (h63 : n + m ≤ maxLen) (hbytes : (n + m) * bytes ≤ 140737488355328) (hbase : base ≤ w.heap.size)
    (h : ∀ v' w', w'.ownsRow base e size v' (n + m) (xs ++ news) → w.grownBy w' v.ownBlock → (v'.ownBlock = v.ownBlock ∨ v'.ownBlock = some w.heap.size) → wpList P ops Q rest (a.put o.dst v') w') : wpList P ops Q (o :: rest) a w :=
  wpList_step fun _ hK => by
    rw [if_pos hw]
    exact wp_append_any w s x t ho base e i z size bytes ht hi hz hsize hby hzs hsz v n xs hs hown B A m c news hx hr h1 h63 hbytes hbase fun v' w' h2 h3 h4 => hK _ _ (h v' w' h2 h3 h4)

theorem own_of_heap {w : World} {base g : Nat} {e : TypeId} (h : w.heap[g]? = some (.cells #[] e (0, 0))) (hb : base ≤ g) : w.ownsRow base e 1 (.slice (some ⟨g, 0, none⟩) 0 0) 0 [] :=
  ⟨by simp, .inr ⟨g, 0, #[], rfl, hb, h, Nat.le_refl _, by simp [maxLen], by simp, by simp⟩⟩
end Go.Proofs.YteikakoheibnjaaGreatDoor
namespace Go.Proofs.YteikakoheibnjaaGreatDoor
open Go Go.RowKit

/-- Texts as cells. -/
def strVs (l : List (List UInt8)) : List Value := l.map fun x => .string ⟨x.toArray⟩
theorem strVs_at (l : List (List UInt8)) (k : Nat) (hk : k < l.length) : (strVs l)[k]? = some (.string ⟨(l[k]).toArray⟩) := by simp [strVs, hk]
theorem words_any (w : World) : Calls Tryz.prog 127 #[] w fun e w' => e = .returned (.slice (some ⟨w.heap.size, 0, none⟩) 17 17) ∧ w' = w.alloc (.cells (strVs wordL).toArray 9) := by
  go_enter Tryz.func127, Tryz.ntmps127
  go_wp2_with fail
  go_ret
  exact ⟨rfl, rfl⟩
set_option maxHeartbeats 1000000 in
theorem word_any (l : List UInt8) (w : World) : Calls Tryz.prog 125 #[.string ⟨l.toArray⟩] w fun e w' => e = .returned (.bool (decide (l ∈ wordL))) ∧ Below w.heap.size w w' := by
  have HB := Lib.hid ((Below.refl w.heap.size w).alloc (Nat.le_refl _) (.cells (strVs wordL).toArray 9))
  have HC := Lib.hid (fun k (hk : k < wordL.length) => (show (w.alloc (.cells (strVs wordL).toArray 9)).cell? ⟨w.heap.size, k, none⟩ = some (.string ⟨(wordL[k]).toArray⟩) by
    rw [cell_of_row (w.alloc (.cells (strVs wordL).toArray 9)) w.heap.size k _ 9 (0, 0) (heap_alloc_new w _), List.getElem?_toArray]
    exact strVs_at wordL k hk))
  have HW := Lib.hid (fun W => words_any W)
  have h17 : wordL.length = 17 := rfl
  have HL := Lib.hid h17
  clear h17
  go_enter Tryz.func125, Tryz.ntmps125
  go_wp2_with (
    go_at_call 127
    refine (HW.out _).mono ?_
    rintro e w2 ⟨rfl, rfl⟩)
  generalize w.alloc (.cells (strVs wordL).toArray 9) = W at *
  go_loopg [4] 17 (fun g i wr => ∃ k : Nat, k ≤ 17 ∧ g = 17 - k ∧ i = .int .i64 (k : Int) ∧ Hid (¬ l ∈ wordL.take k) ∧ wr = W)
  case atStart => exact ⟨0, Nat.zero_le _, rfl, rfl, Lib.hid (by simp), rfl⟩
  case round =>
    obtain ⟨k, hk, hg, rfl, HN, rfl⟩ := hrel
    have HG := Lib.hid hg
    clear hg
    by_cases hlt : k < 17
    · have hkl : k < wordL.length := by rw [HL.out]; exact hlt
      have c0 := HC.out k hkl
      have HT := Lib.hid (List.take_succ_eq_append_getElem hkl)
      have HM := Lib.hid (List.getElem_mem hkl)
      generalize wordL[k]'hkl = x at *
      have g1 : decide ((k : Int) < 17) = true := decide_eq_true (by omega)
      by_cases hx : x = l
      · have HF := Lib.hid (show true = decide (l ∈ wordL) by rw [← hx]; exact (decide_eq_true HM.out).symm)
        have g2 : (x == l) = true := by rw [hx]; exact beq_self_eq_true _
        clear hx
        go_wp2_with fail
        go_ret
        exact ⟨congrArg (fun x : Bool => Ending.returned (.bool x)) HF.out, HB.out⟩
      · have g2 : (x == l) = false := beq_false_of_ne hx
        have HX := Lib.hid hx
        clear hx
        go_wp2_with fail
        go_roundg (17 - (k + 1))
        case measure => have := HG.out; omega
        case rel => exact ⟨k + 1, by omega, rfl, by go_num, Lib.hid (by
          rw [HT.out, List.mem_append, List.mem_singleton]
          rintro (h | h)
          · exact HN.out h
          · exact HX.out h.symm), rfl⟩
    · have g1 : decide ((k : Int) < 17) = false := decide_eq_false (by omega)
      have HF := Lib.hid (show false = decide (l ∈ wordL) by
        symm
        rw [decide_eq_false_iff_not]
        have := HN.out
        rw [List.take_of_length_le (by rw [HL.out]; omega)] at this
        exact this)
      go_wp2_with fail
      go_ret
      exact ⟨congrArg (fun x : Bool => Ending.returned (.bool x)) HF.out, HB.out⟩
end Go.Proofs.YteikakoheibnjaaGreatDoor
