/- Parts of the proof: Mem, KMap, BNode, Meter, VSame. -/
import Derived.Below
import Derived.BigQuiet
import Derived.ChangeMaps5
import Derived.Deep.AppendLies
import Derived.Deep.Draws
import Derived.Deep.LoopGhost
import Derived.Deep.QuietTactic
import Derived.IntWalk
import Derived.KernelRfl
import Derived.Laws.OwnMore
import Derived.Laws.Rows
import Derived.Laws.StructEq
import Derived.Lib.Hide
import Derived.MapKept
import Derived.Maps.AppendAt
import Derived.Maps.OwnOps
import Derived.OwnWalk
import Derived.RegionTactic
import Derived.Test.YtpknalhjgbgpiaaGreatDoorProg
import Derived.WalkKit
import Derived.WalkSpells
import Derived.WideKeyRuns
namespace Go.Proofs.YtpknalhjgbgpiaaGreatDoor
open Go Go.RowKit

theorem block_of_add (a : Addr) (n : Nat) : (a.add n).block = a.block := by unfold Addr.add; split <;> rfl
theorem add_of_add (a : Addr) (i j : Nat) : (a.add i).add j = a.add (i + j) := by
  unfold Addr.add
  by_cases hi : i = 0 <;> by_cases hj : j = 0 <;> simp [hi, hj, Nat.add_assoc]

/-- The slice value '.slice A n c' holds the cells xs, below block B. -/
def Reads (w : World) (B size : Nat) (A : Option Addr) (n : Nat) (xs : List Value) : Prop :=
  xs.length = n * size ∧ (0 < n → ∃ ad, A = some ad ∧ ad.block < B ∧ ∀ j u, xs[j]? = some u → w.cell? (ad.add j) = some u)

section
variable {w w' : World} {B B' size n : Nat} {A : Option Addr} {xs : List Value}
theorem Reads.none_ : Reads w B size A 0 [] := ⟨by simp, fun h => absurd h (by omega)⟩
theorem Reads.at_ {k : Nat} (h : Reads w B 1 A n xs) (hk : k < n) : ∃ ad u, A = some ad ∧ ad.block < B ∧ xs[k]? = some u ∧ w.cell? (ad.add k) = some u := by
  obtain ⟨ad, e, hb, hc⟩ := h.2 (by omega)
  have hl : k < xs.length := by have := h.1; omega
  exact ⟨ad, xs[k], e, hb, List.getElem?_eq_getElem hl, hc k _ (List.getElem?_eq_getElem hl)⟩
theorem Reads.keep (h : Reads w B size A n xs) (hk : ∀ p : Addr, p.block < B → w'.cell? p = w.cell? p) : Reads w' B size A n xs :=
  ⟨h.1, fun hn => by
    obtain ⟨ad, e, hb, hc⟩ := h.2 hn
    exact ⟨ad, e, hb, fun j u hu => (hk _ (by rw [block_of_add]; exact hb)).trans (hc j u hu)⟩⟩
theorem Reads.more (h : Reads w B size A n xs) (hB : B ≤ B') : Reads w B' size A n xs :=
  ⟨h.1, fun hn => by
    obtain ⟨ad, e, hb, hc⟩ := h.2 hn
    exact ⟨ad, e, by omega, hc⟩⟩
theorem Reads.below (h : Reads w B size A n xs) (hb : Below B w w') : Reads w' B size A n xs := h.keep fun _ hp => hb.cell hp
theorem Reads.drewN (h : Reads w B size A n xs) (k : Nat) : Reads (w.drewN k) B size A n xs := h
theorem Reads.of_own {base : Nat} {e : TypeId} {c : Nat} (h : w.ownsRow base e size (.slice A n c) n xs) : Reads w w.heap.size size A n xs := by
  refine ⟨h.1, fun hn => ?_⟩
  obtain ⟨g, cap, hv, _, hlt⟩ := h.form hn
  have hA : A = some ⟨g, 0, none⟩ := by injection hv
  subst hA
  exact ⟨_, rfl, hlt, h.cells (g := g) rfl⟩
end

/-- Block g is just the cells cs of element type t, none frozen. -/
def Blk (w : World) (g : Nat) (t : TypeId) (cs : Array Value) : Prop := w.heap[g]? = some (.cells cs t (0, 0))
section
variable {w w' : World} {g : Nat} {t : TypeId} {cs : Array Value}
theorem Blk.lt (h : Blk w g t cs) : g < w.heap.size := by
  rcases Nat.lt_or_ge g w.heap.size with hlt | hge
  · exact hlt
  · unfold Blk at h; rw [Array.getElem?_eq_none hge] at h; cases h
theorem Blk.cell (h : Blk w g t cs) (i : Nat) : w.cell? ⟨g, i, none⟩ = cs[i]? := cell_of_row w g i cs t (0, 0) h
theorem Blk.frozen (h : Blk w g t cs) (i : Nat) : w.frozen? ⟨g, i, none⟩ = false := by
  unfold Blk at h
  simp [World.frozen?, h]
theorem Blk.new (w : World) (t : TypeId) (cs : Array Value) : Blk (w.alloc (.cells cs t)) w.heap.size t cs := heap_alloc_new w _
theorem Blk.set_ (h : Blk w g t cs) (i : Nat) (u : Value) : Blk (w.setCell ⟨g, i, none⟩ u) g t (cs.setIfInBounds i u) := by
  unfold Blk at h ⊢
  simp [World.setCell, Array.getElem?_modify, h]
theorem Blk.ne_ {g' : Nat} {t' : TypeId} {cs' : Array Value} (h : Blk w g t cs) (h' : Blk w g' t' cs') (hne : t ≠ t') : g ≠ g' := by
  rintro rfl
  unfold Blk at h h'
  rw [h] at h'
  injection h' with h'
  injection h' with _ ht
  exact hne ht
theorem own_blk_ne {base : Nat} {e : TypeId} {size n : Nat} {v : Value} {xs : List Value} (h : w.ownsRow base e size v n xs) (hg : Blk w g t cs) (hne : e ≠ t) : v.ownBlock ≠ some g := by
  rcases h.2 with ⟨rfl, _⟩ | ⟨g', cap, cur, rfl, _, hh, _⟩
  · simp [Value.ownBlock]
  · intro he
    have : g' = g := by simpa [Value.ownBlock] using he
    subst this
    exact Blk.ne_ (t := e) hh hg hne rfl
end

/-- FRAME: of the blocks of w only those in S may have turned. -/
structure Fr (S : Nat → Prop) (w w' : World) : Prop where
  os : w'.os = w.os
  tape : w'.tape = w.tape
  output : w'.output = w.output
  size : w.heap.size ≤ w'.heap.size
  block : ∀ k, k < w.heap.size → ¬ S k → w'.heap[k]? = w.heap[k]?
section
variable {S : Nat → Prop} {a w w' : World}
theorem Fr.refl (S : Nat → Prop) (w : World) : Fr S w w := ⟨rfl, rfl, rfl, Nat.le_refl _, fun _ _ _ => rfl⟩
theorem Fr.trans (h : Fr S a w) (k : Fr S w w') : Fr S a w' :=
  ⟨k.os.trans h.os, k.tape.trans h.tape, k.output.trans h.output, Nat.le_trans h.size k.size, fun i hi hs => (k.block i (Nat.lt_of_lt_of_le hi h.size) hs).trans (h.block i hi hs)⟩
theorem Fr.mono {S' : Nat → Prop} (h : Fr S a w) (hs : ∀ k, k < a.heap.size → S k → S' k) : Fr S' a w :=
  ⟨h.os, h.tape, h.output, h.size, fun i hi hn => h.block i hi (fun c => hn (hs i hi c))⟩
theorem Fr.drewN (h : Fr S a w) (n : Nat) : Fr S a (w.drewN n) := ⟨h.os, h.tape, h.output, h.size, h.block⟩
theorem Fr.drew (h : Fr S a w) : Fr S a w.drew := ⟨h.os, h.tape, h.output, h.size, h.block⟩
theorem Fr.alloc (h : Fr S a w) (o : Obj) : Fr S a (w.alloc o) :=
  ⟨h.os, h.tape, h.output, Nat.le_trans h.size (by simp), fun i hi hs => (Below.heap_alloc w o i (Nat.lt_of_lt_of_le hi h.size)).trans (h.block i hi hs)⟩
theorem Fr.setCell (h : Fr S a w) {p : Addr} (hp : S p.block ∨ a.heap.size ≤ p.block) (u : Value) : Fr S a (w.setCell p u) :=
  ⟨h.os, h.tape, h.output, by simpa [World.setCell] using h.size, fun i hi hs => (Below.heap_setCell w p u i (by
    rintro rfl
    rcases hp with hp | hp
    · exact hs hp
    · omega)).trans (h.block i hi hs)⟩
theorem Fr.grown (h : Fr S a w) {row : Option Nat} (hg : w.grownBy w' row) (hr : ∀ k, row = some k → S k ∨ a.heap.size ≤ k) : Fr S a w' :=
  ⟨hg.os.trans h.os, hg.tape.trans h.tape, hg.output.trans h.output, Nat.le_trans h.size hg.size, fun i hi hs =>
    (hg.block i (Nat.lt_of_lt_of_le hi h.size) (fun e => by
      rcases hr i e.symm with c | c
      · exact hs c
      · omega)).trans (h.block i hi hs)⟩
theorem Fr.below {B : Nat} (h : Fr S a w) (hB : ∀ k, k < B → ¬ S k) (hle : B ≤ a.heap.size) : Below B a w :=
  ⟨h.os, h.tape, h.output, h.size, fun k hk => h.block k (by omega) (hB k hk)⟩
theorem Fr.of_below {B : Nat} (h : Below B a w) : Fr (fun k => B ≤ k) a w := ⟨h.os, h.tape, h.output, h.size, fun k _ hs => h.block k (by omega)⟩
theorem Fr.blk {g : Nat} {t : TypeId} {cs : Array Value} (h : Fr S a w) (hb : Blk a g t cs) (hs : ¬ S g) : Blk w g t cs := (h.block g hb.lt hs).trans hb
theorem Fr.own {base : Nat} {e : TypeId} {size n : Nat} {v : Value} {xs : List Value} (h : Fr S a w) (ho : a.ownsRow base e size v n xs) (hs : ∀ k, v.ownBlock = some k → ¬ S k) : w.ownsRow base e size v n xs := by
  refine ⟨ho.1, ?_⟩
  rcases ho.2 with hn | ⟨g, cap, cur, rfl, hb, hgg, rest⟩
  · exact .inl hn
  · refine .inr ⟨g, cap, cur, rfl, hb, ?_, rest⟩
    rw [h.block g (Array.getElem?_eq_some_iff.1 hgg).1 (hs g rfl)]
    exact hgg
theorem Fr.reads {B size n : Nat} {A : Option Addr} {xs : List Value} (h : Fr S a w) (hr : Reads a B size A n xs) (hB : ∀ k, k < B → ¬ S k) (hle : B ≤ a.heap.size) : Reads w B size A n xs :=
  hr.below (h.below hB hle)
end
end Go.Proofs.YtpknalhjgbgpiaaGreatDoor
namespace Go.Proofs.YtpknalhjgbgpiaaGreatDoor
open Go Go.RowKit Go.ChangeMaps Go.MapKept

section
variable {K : Type}
/-- Entries, the first laid first. -/
def kents (kv : K → Value) : List (K × Value) → Nat → List MapEntry
  | [], _ => []
  | x :: r, i => ⟨kv x.1, x.2, i⟩ :: kents kv r (i + 1)
theorem kents_snoc (kv : K → Value) (l : List (K × Value)) (x : K × Value) (i : Nat) : kents kv (l ++ [x]) i = kents kv l i ++ [⟨kv x.1, x.2, i + l.length⟩] := by
  induction l generalizing i with
  | nil => simp [kents]
  | cons y r ih => simp [kents, ih]; omega
/-- Block b is a map of these entries. -/
def KMapAt (kv : K → Value) (w : World) (b : Nat) (l : List (K × Value)) : Prop := w.heap[b]? = some (.map (kents kv l 0).toArray l.length)
theorem KMapAt.lt {kv : K → Value} {w : World} {b : Nat} {l : List (K × Value)} (h : KMapAt kv w b l) : b < w.heap.size := (Array.getElem?_eq_some_iff.1 h).1
theorem KMapAt.fr {S : Nat → Prop} {kv : K → Value} {w w' : World} {b : Nat} {l : List (K × Value)} (h : KMapAt kv w b l) (hF : Fr S w w') (hb : ¬ S b) : KMapAt kv w' b l := (hF.block b h.lt hb).trans h
variable [DecidableEq K]
/-- Keys that the model compares as they are one. -/
structure KeyK (kt : TypeId) (kv : K → Value) : Prop where
  chk : ∀ (e : Bool) (k : K) (w : World), (Instr.checkKey e 10000 kt (kv k)).run Tryz.prog w = .ok () w
  und : ∃ d, Tryz.prog.underlying kt = some d ∧ ((∀ a b, Instr.sameNow d (kv a) (kv b) = some (decide (a = b))) ∨ ((∀ a b, Instr.sameNow d (kv a) (kv b) = none) ∧ ∀ a b w, (Op.equal kt (kv a) (kv b)).run Tryz.prog w = .ok (decide (a = b)) w))
theorem kfindNow {kv : K → Value} {d : TypeDesc} (h : ∀ a b, Instr.sameNow d (kv a) (kv b) = some (decide (a = b))) (k : K) (l : List (K × Value)) (i c : Nat) :
    ∃ j, Instr.findNow d (kv k) (kents kv l c) i = some ((l.find? (fun e => decide (k = e.1))).map fun e => (j, e.2)) := by
  induction l generalizing i c with
  | nil => exact ⟨0, rfl⟩
  | cons x r ih =>
    obtain ⟨j, hj⟩ := ih (i + 1) (c + 1)
    by_cases hk : k = x.1
    · exact ⟨i, by simp [kents, Instr.findNow, h, hk]⟩
    · exact ⟨j, by simp [kents, Instr.findNow, h, hk, hj]⟩
theorem kfindAsking {kt : TypeId} {kv : K → Value} (h : ∀ a b w, (Op.equal kt (kv a) (kv b)).run Tryz.prog w = .ok (decide (a = b)) w) (k : K) (l : List (K × Value)) (i c : Nat) (w : World) :
    ∃ j, (Instr.findAsking kt (kv k) (kents kv l c) i).run Tryz.prog w = .ok ((l.find? (fun e => decide (k = e.1))).map fun e => (j, e.2)) w := by
  induction l generalizing i c with
  | nil => exact ⟨0, rfl⟩
  | cons x r ih =>
    obtain ⟨j, hj⟩ := ih (i + 1) (c + 1)
    by_cases hk : k = x.1
    · refine ⟨i, ?_⟩
      simp only [kents, Instr.findAsking, Sem.run_bind, h, Result.andThen]
      simp [hk]
    · refine ⟨j, ?_⟩
      simp only [kents, Instr.findAsking, Sem.run_bind, h, Result.andThen]
      simp [hk, hj]
theorem kfind {kt : TypeId} {kv : K → Value} (h : KeyK kt kv) (k : K) (l : List (K × Value)) (w : World) :
    ∃ j, (Instr.findKey kt (kv k) (kents kv l 0)).run Tryz.prog w = .ok ((l.find? (fun e => decide (k = e.1))).map fun e => (j, e.2)) w := by
  obtain ⟨d, hd, hh | ⟨hn, he⟩⟩ := h.und
  · obtain ⟨j, hj⟩ := kfindNow hh k l 0 0
    exact ⟨j, run_findKey hd hj⟩
  · cases l with
    | nil => exact ⟨0, by simp [Instr.findKey, run_underlying hd, Result.andThen, kents, Instr.findNow]⟩
    | cons x r =>
      obtain ⟨j, hj⟩ := kfindAsking he k (x :: r) 0 0 w
      refine ⟨j, ?_⟩
      have h0 : Instr.findNow d (kv k) (kents kv (x :: r) 0) 0 = none := by simp [kents, Instr.findNow, hn]
      simp [Instr.findKey, run_underlying hd, Result.andThen, h0, hj]
/-- A look-up, with 'ok'. -/
theorem klookup {mt kt et : TypeId} {kv : K → Value} (h : KeyK kt kv) (hm : Tryz.prog.underlying mt = some (.map kt et)) {z : Value} (hz : ∀ w, (zeroValue et).run Tryz.prog w = .ok z w) {w : World} {b : Nat} {l : List (K × Value)} (hb : KMapAt kv w b l) (k : K) :
    (Instr.lookup mt (.map (some b)) (kv k) true).run Tryz.prog w = .ok (.tuple #[((l.find? (fun e => decide (k = e.1))).map (·.2)).getD z, .bool (l.find? (fun e => decide (k = e.1))).isSome]) w := by
  obtain ⟨j, hj⟩ := kfind h k l w
  unfold KMapAt at hb
  cases hf : l.find? (fun e => decide (k = e.1)) with
  | none =>
    rw [hf] at hj
    simp [Instr.lookup, run_underlying hm, MapKept.run_getObj_map hb, h.chk, hj, hz, Result.andThen]
  | some x =>
    rw [hf] at hj
    simp [Instr.lookup, run_underlying hm, MapKept.run_getObj_map hb, h.chk, hj, Result.andThen]
/-- A new entry. -/
theorem kput {mt kt et : TypeId} {kv : K → Value} (h : KeyK kt kv) (hm : Tryz.prog.underlying mt = some (.map kt et)) {w : World} {b : Nat} {l : List (K × Value)} (hb : KMapAt kv w b l) (k : K) (v : Value) (hn : l.find? (fun e => decide (k = e.1)) = none) :
    ∃ w', (Instr.mapUpdate mt (.map (some b)) (kv k) v).run Tryz.prog w = .ok () w' ∧ KMapAt kv w' b (l ++ [(k, v)]) ∧ w.grownBy w' (some b) ∧ w'.heap.size = w.heap.size := by
  obtain ⟨j, hj⟩ := kfind h k l w
  rw [hn] at hj
  refine ⟨setBlock w b (.map (kents kv (l ++ [(k, v)]) 0).toArray (l ++ [(k, v)]).length), ?_, ?_, ?_, by simp [setBlock]⟩
  · unfold KMapAt at hb
    have e : (kents kv (l ++ [(k, v)]) 0).toArray = (kents kv l 0).toArray.push ⟨kv k, v, l.length⟩ := by
      rw [kents_snoc]
      simp
    rw [e]
    simp [Instr.mapUpdate, run_underlying hm, MapKept.run_getObj_map hb, h.chk, hj, MapKept.run_setObj_map _ hb, Result.andThen, setBlock]
  · exact heap_setBlock_same hb _
  · exact ⟨rfl, rfl, rfl, by simp [setBlock], fun i _ hi => heap_setBlock_other hb _ (fun e => hi (by rw [e]))⟩
set_option maxRecDepth 100000 in
theorem wpList_put {mt kt et : TypeId} {kv : K → Value} (hK : KeyK kt kv) (hm : Tryz.prog.underlying mt = some (.map kt et)) (w : World) {ops : Array Oper} {rest : List Oper} {a : Act} {Q : Exit → Act → World → Prop} {dst : Option Tmp} {m x v : Operand} {t : TypeId} {pos : String} {after : Array Edge}
    (b : Nat) (l : List (K × Value)) (hmb : a.eval m = .map (some b)) (h : KMapAt kv w b l) (k : K) (val : Value) (hx : a.eval x = kv k) (hv : a.eval v = val) (hn : l.find? (fun e => decide (k = e.1)) = none)
    (hnext : ∀ w', KMapAt kv w' b (l ++ [(k, val)]) → w.grownBy w' (some b) → w'.heap.size = w.heap.size → wpList Tryz.prog ops Q rest (a.put dst undef) w') :
    wpList Tryz.prog ops Q (⟨dst, Op.mapUpdate mt m x v, t, pos, after, none⟩ :: rest) a w := by
  refine wpList_plain rfl fun K' hK' => ?_
  obtain ⟨w', hrun, r1, r2, r3⟩ := kput hK hm h k val hn
  unfold Oper.wp
  simp [execOp, hmb, hx, hv, hrun, Result.andThen]
  exact hK' _ _ (hnext w' r1 r2 r3)
end
end Go.Proofs.YtpknalhjgbgpiaaGreatDoor
namespace Go.Proofs.YtpknalhjgbgpiaaGreatDoor
open Go Go.RowKit

inductive BN where
  | leaf (v : Int)
  | fork (t lo hi : Nat)
deriving DecidableEq
def nodeV : BN → Value
  | .leaf v => .iface 310 (.agg #[.int .i64 v])
  | .fork t lo hi => .iface 312 (.agg #[.int .i64 t, .int .i64 lo, .int .i64 hi])
theorem und_node : ∃ ms, Tryz.prog.underlying 281 = some (.interface ms) := ⟨_, Tryz.underlying281⟩
theorem node_chk (e : Bool) (k : BN) (w : World) : (Instr.checkKey e 10000 281 (nodeV k)).run Tryz.prog w = .ok () w := by
  cases k <;> cases e <;> kernel_rfl
theorem iface_eq {tx : TypeId} {vx vy : Value} {info : TypeInfo} (hi : Tryz.prog.info? tx = some info) (hc : info.comparable = true) (w : World) : (Op.equal 281 (.iface tx vx) (.iface tx vy)).run Tryz.prog w = (Op.equalIn 9999 tx vx vy).run Tryz.prog w := by
  obtain ⟨ms, hm⟩ := und_node
  show (Op.equalIn (9999 + 1) _ _ _).run _ _ = _
  conv => lhs; unfold Op.equalIn
  simp [run_underlying hm, typeInfo, hi, hc, Result.andThen]
theorem info_cmp {t : TypeId} (h : (Tryz.prog.info? t).map (·.comparable) = some true) : ∃ i, Tryz.prog.info? t = some i ∧ i.comparable = true := by
  cases hi : Tryz.prog.info? t with
  | none => rw [hi] at h; cases h
  | some i => exact ⟨i, rfl, by rw [hi] at h; injection h⟩
theorem field_int {f : Field} {o : Nat} {fs : List Field} {xs ys : Array Value} {a b : Int} {w : World} (h : (f.name == "_", f.type, f.offset) = (false, 3, o)) (ha : ∀ w, (part 3 xs o).run Tryz.prog w = .ok (.int .i64 a) w) (hb : ∀ w, (part 3 ys o).run Tryz.prog w = .ok (.int .i64 b) w) :
    (Op.eqFields 9998 xs ys (f :: fs)).run Tryz.prog w = if (!(a == b)) = true then .ok false w else (Op.eqFields 9998 xs ys fs).run Tryz.prog w := by
  injection h with h1 h2
  injection h2 with h2 h3
  have hn : f.name ≠ "_" := by
    intro e
    rw [e] at h1
    revert h1
    decide
  subst h3
  simp only [Op.eqFields, if_pos hn, Sem.run_bind, h2, ha, hb, Result.andThen_ok, run_equalIn_int w 9997 3 .i64 .i64 a b Tryz.underlying3, Sem.run_ite, Sem.run_pure]
set_option maxRecDepth 100000 in
theorem leaf_eq (a b : Int) (w : World) : (Op.equal 281 (nodeV (.leaf a)) (nodeV (.leaf b))).run Tryz.prog w = .ok (a == b) w := by
  obtain ⟨i, hi, hc⟩ := info_cmp (t := 310) (by kernel_rfl)
  unfold nodeV
  rw [iface_eq hi hc, run_equalIn_struct w 9998 310 _ _ (by kernel_rfl) (by kernel_rfl)]
  have hl : (Tryz.prog.fieldsOf 310).toList.map (fun f => (f.name == "_", f.type, f.offset)) = [(false, 3, 0)] := by kernel_rfl
  generalize (Tryz.prog.fieldsOf 310).toList = fs at *
  obtain ⟨f0, r0, rfl, h0, hl⟩ := List.map_eq_cons_iff.1 hl
  obtain rfl := List.map_eq_nil_iff.1 hl
  rw [field_int h0 (a := a) (b := b) (fun w => by kernel_rfl) (fun w => by kernel_rfl)]
  cases a == b <;> rfl
set_option maxRecDepth 100000 in
theorem fork_eq (t lo hi t2 lo2 hi2 : Nat) (w : World) : (Op.equal 281 (nodeV (.fork t lo hi)) (nodeV (.fork t2 lo2 hi2))).run Tryz.prog w = .ok (((t : Int) == (t2 : Int)) && ((lo : Int) == (lo2 : Int)) && ((hi : Int) == (hi2 : Int))) w := by
  obtain ⟨i, hi0, hc⟩ := info_cmp (t := 312) (by kernel_rfl)
  unfold nodeV
  rw [iface_eq hi0 hc, run_equalIn_struct w 9998 312 _ _ (by kernel_rfl) (by kernel_rfl)]
  have hl : (Tryz.prog.fieldsOf 312).toList.map (fun f => (f.name == "_", f.type, f.offset)) = [(false, 3, 0), (false, 3, 1), (false, 3, 2)] := by kernel_rfl
  generalize (Tryz.prog.fieldsOf 312).toList = fs at *
  obtain ⟨f0, r0, rfl, h0, hl⟩ := List.map_eq_cons_iff.1 hl
  obtain ⟨f1, r1, rfl, h1, hl⟩ := List.map_eq_cons_iff.1 hl
  obtain ⟨f2, r2, rfl, h2, hl⟩ := List.map_eq_cons_iff.1 hl
  obtain rfl := List.map_eq_nil_iff.1 hl
  rw [field_int h0 (a := t) (b := t2) (fun w => by kernel_rfl) (fun w => by kernel_rfl), field_int h1 (a := lo) (b := lo2) (fun w => by kernel_rfl) (fun w => by kernel_rfl), field_int h2 (a := hi) (b := hi2) (fun w => by kernel_rfl) (fun w => by kernel_rfl)]
  cases (t : Int) == (t2 : Int) <;> cases (lo : Int) == (lo2 : Int) <;> cases (hi : Int) == (hi2 : Int) <;> rfl
theorem mixed_eq (v : Int) (t lo hi : Nat) (w : World) : (Op.equal 281 (nodeV (.leaf v)) (nodeV (.fork t lo hi))).run Tryz.prog w = .ok false w ∧ (Op.equal 281 (nodeV (.fork t lo hi)) (nodeV (.leaf v))).run Tryz.prog w = .ok false w := by
  constructor <;> kernel_rfl
set_option maxRecDepth 100000 in
theorem node_key : KeyK 281 nodeV := by
  refine ⟨node_chk, ?_⟩
  obtain ⟨ms, hm⟩ := und_node
  refine ⟨_, hm, .inr ⟨fun a b => by cases a <;> cases b <;> rfl, fun a b w => ?_⟩⟩
  cases a with
  | leaf v =>
    cases b with
    | leaf u =>
      rw [leaf_eq]
      congr 1
      rw [Bool.eq_iff_iff, beq_iff_eq, decide_eq_true_eq, BN.leaf.injEq]
    | fork t lo hi =>
      rw [(mixed_eq v t lo hi w).1]
      rfl
  | fork t lo hi =>
    cases b with
    | leaf u =>
      rw [(mixed_eq u t lo hi w).2]
      rfl
    | fork t2 lo2 hi2 =>
      rw [fork_eq]
      congr 1
      rw [Bool.eq_iff_iff, decide_eq_true_eq, BN.fork.injEq]
      simp only [Bool.and_eq_true, beq_iff_eq]
      omega
end Go.Proofs.YtpknalhjgbgpiaaGreatDoor
namespace Go.Proofs.YtpknalhjgbgpiaaGreatDoor
open Go Go.RowKit

/-- A meter lies in block g. -/
def MeterAt (w : World) (g : Nat) (l : Int) (out : Bool) : Prop := Blk w g 63 #[.int .i64 l, .bool out]
theorem mnew_any (f : Int) (w : World) : Calls Tryz.prog 9 #[.int .i64 f] w fun e w' => e = .returned (.pointer (some ⟨w.heap.size, 0, none⟩)) ∧ w' = w.alloc (.cells #[.int .i64 (max f 0), .bool false] 63) := by
  have hm : (if f < 0 then (0 : Int) else f) = max f 0 := by
    split <;> omega
  go_enter Tryz.func9, Tryz.ntmps9
  go_wp2_with fail
  all_goals
    go_ret
    exact ⟨rfl, by simp <;> omega⟩
theorem mout_any {w : World} {g : Nat} {l : Int} {out : Bool} (h : MeterAt w g l out) : Calls Tryz.prog 133 #[.pointer (some ⟨g, 0, none⟩)] w fun e w' => e = .returned (.bool out) ∧ w = w' := by
  have c0 : w.cell? ⟨g, 0, none⟩ = some (.int .i64 l) := h.cell 0
  have c1 : w.cell? ⟨g, 1, none⟩ = some (.bool out) := h.cell 1
  clear h
  go_enter Tryz.func133, Tryz.ntmps133
  go_wp2_with fail
  go_ret
  exact ⟨rfl, rfl⟩
/-- What is left, is it out, behind a spending; was there enough? -/
def spendP (l : Int) (out : Bool) (n : Int) : (Int × Bool) × Bool := if out then ((l, out), false) else if l < n then ((0, true), false) else ((l - n, false), true)
set_option maxHeartbeats 1000000 in
theorem mspend_any {w : World} {g : Nat} {l : Int} {out : Bool} {n : Int} (h : MeterAt w g l out) (hn : 0 ≤ n) (hl : 0 ≤ l) (hl2 : l ≤ 4611686018427387904) :
    Calls Tryz.prog 79 #[.pointer (some ⟨g, 0, none⟩), .int .i64 n] w fun e w' => e = .returned (.bool (spendP l out n).2) ∧ MeterAt w' g (spendP l out n).1.1 (spendP l out n).1.2 ∧ Fr (fun k => k = g) w w' ∧ w'.heap.size = w.heap.size := by
  have HM := Lib.hid h
  have HO := Lib.hid (mout_any h)
  have c0 : w.cell? ⟨g, 0, none⟩ = some (.int .i64 l) := h.cell 0
  have c1 : w.cell? ⟨g, 1, none⟩ = some (.bool out) := h.cell 1
  have f0 := h.frozen 0
  have f1 := h.frozen 1
  have g1 : decide (n < 0) = false := decide_eq_false (by omega)
  clear h
  cases out with
  | true =>
    have HP : Hid (spendP l true n = ((l, true), false)) := Lib.hid rfl
    go_enter Tryz.func79, Tryz.ntmps79
    go_wp2_with (
      go_at_call 133
      refine HO.out.mono ?_
      rintro e w2 ⟨rfl, rfl⟩)
    go_ret
    rw [HP.out]
    exact ⟨rfl, HM.out, Fr.refl _ _, rfl⟩
  | false =>
    by_cases hlt : l < n
    · have g2 : decide (l < n) = true := decide_eq_true hlt
      have HP : Hid (spendP l false n = ((0, true), false)) := Lib.hid (by unfold spendP; rw [if_neg (by decide), if_pos hlt])
      go_enter Tryz.func79, Tryz.ntmps79
      go_wp2_with (
        go_at_call 133
        refine HO.out.mono ?_
        rintro e w2 ⟨rfl, rfl⟩)
      go_ret
      rw [HP.out]
      refine ⟨rfl, ?_, ?_, by simp [World.setCell]⟩
      · have := (HM.out.set_ 0 (.int .i64 0)).set_ 1 (.bool true)
        exact this
      · exact Fr.setCell (S := fun k => k = g) (p := ⟨g, 1, none⟩) (Fr.setCell (S := fun k => k = g) (p := ⟨g, 0, none⟩) (Fr.refl _ _) (.inl rfl) _) (.inl rfl) _
    · have g2 : decide (l < n) = false := decide_eq_false hlt
      have HP : Hid (spendP l false n = ((l - n, false), true)) := Lib.hid (by unfold spendP; rw [if_neg (by decide), if_neg hlt])
      have g3 : IntKind.i64.wrap (l - n) = l - n := IntWalk.i64_in _ ⟨by omega, by omega⟩
      go_enter Tryz.func79, Tryz.ntmps79
      go_wp2_with (
        go_at_call 133
        refine HO.out.mono ?_
        rintro e w2 ⟨rfl, rfl⟩)
      go_ret
      rw [HP.out]
      refine ⟨rfl, ?_, ?_, by simp [World.setCell]⟩
      · have := HM.out.set_ 0 (.int .i64 (l - n))
        exact this
      · exact Fr.setCell (S := fun k => k = g) (p := ⟨g, 0, none⟩) (Fr.refl _ _) (.inl rfl) _
end Go.Proofs.YtpknalhjgbgpiaaGreatDoor
namespace Go.Proofs.YtpknalhjgbgpiaaGreatDoor
open Go Go.RowKit

/-- A value: name, order, set. -/
structure ValP where
  name : List UInt8
  order : Int
  set : List Int
deriving DecidableEq
/-- Numbers lie in w, in blocks that B says. -/
structure IntsAt (w : World) (B : Nat → Prop) (A : Option Addr) (cap : Nat) (ns : List Int) : Prop where
  cap_ : ns.length ≤ cap
  small : ns.length ≤ 140737488355328
  at_ : 0 < ns.length → ∃ b off, A = some ⟨b, off, none⟩ ∧ B b ∧ ∀ k (_ : k < ns.length), w.cell? ⟨b, off + k, none⟩ = some (.int .i64 ns[k])
/-- Values. -/
structure ValsAt (w : World) (B : Nat → Prop) (A : Option Addr) (cap : Nat) (vs : List ValP) : Prop where
  cap_ : vs.length ≤ cap
  small : vs.length ≤ 140737488355328
  name : ∀ v ∈ vs, v.name.length ≤ 140737488355328
  at_ : ∀ k (_ : k < vs.length), ∃ b off A1 c1, A = some ⟨b, off, none⟩ ∧ B b ∧ w.cell? ⟨b, off + k * 3, none⟩ = some (.string ⟨vs[k].name.toArray⟩) ∧ w.cell? ⟨b, off + k * 3 + 1, none⟩ = some (.int .i64 vs[k].order) ∧
    w.cell? ⟨b, off + k * 3 + 2, none⟩ = some (.slice A1 vs[k].set.length c1) ∧ IntsAt w B A1 c1 vs[k].set
section
variable {w w' W : World} {B B' : Nat → Prop} {A : Option Addr} {cap : Nat} {ns : List Int} {vs : List ValP}
theorem IntsAt.nil : IntsAt w B A cap [] := ⟨Nat.zero_le _, Nat.zero_le _, fun h => absurd h (by simp)⟩
theorem IntsAt.keep (h : IntsAt w B A cap ns) (hk : ∀ p : Addr, B p.block → w'.cell? p = w.cell? p) : IntsAt w' B A cap ns :=
  ⟨h.cap_, h.small, fun h0 => by
    obtain ⟨b, off, e, hb, hc⟩ := h.at_ h0
    exact ⟨b, off, e, hb, fun k hl => (hk _ hb).trans (hc k hl)⟩⟩
theorem IntsAt.more (h : IntsAt w B A cap ns) (hB : ∀ b, B b → B' b) : IntsAt w B' A cap ns :=
  ⟨h.cap_, h.small, fun h0 => by
    obtain ⟨b, off, e, hb, hc⟩ := h.at_ h0
    exact ⟨b, off, e, hB _ hb, hc⟩⟩
theorem ValsAt.keep (h : ValsAt w B A cap vs) (hk : ∀ p : Addr, B p.block → w'.cell? p = w.cell? p) : ValsAt w' B A cap vs :=
  ⟨h.cap_, h.small, h.name, fun k hl => by
    obtain ⟨b, off, A1, c1, e, hb, d0, d1, d2, hs⟩ := h.at_ k hl
    exact ⟨b, off, A1, c1, e, hb, (hk _ hb).trans d0, (hk _ hb).trans d1, (hk _ hb).trans d2, hs.keep hk⟩⟩
theorem ValsAt.more (h : ValsAt w B A cap vs) (hB : ∀ b, B b → B' b) : ValsAt w B' A cap vs :=
  ⟨h.cap_, h.small, h.name, fun k hl => by
    obtain ⟨b, off, A1, c1, e, hb, d0, d1, d2, hs⟩ := h.at_ k hl
    exact ⟨b, off, A1, c1, e, hB _ hb, d0, d1, d2, hs.more hB⟩⟩
end
theorem take_eq_succ {α : Type} {a b : List α} {k : Nat} (h : a.take k = b.take k) (ha : k < a.length) (hb : k < b.length) (he : a[k] = b[k]) : a.take (k + 1) = b.take (k + 1) := by
  rw [List.take_succ_eq_append_getElem ha, List.take_succ_eq_append_getElem hb, h, he]
theorem ne_at {α : Type} {a b : List α} {k : Nat} (ha : k < a.length) (hb : k < b.length) (he : a[k] ≠ b[k]) : a ≠ b := by
  rintro rfl
  exact he rfl
theorem take_all_eq {α : Type} {a b : List α} {k : Nat} (h : a.take k = b.take k) (ha : a.length ≤ k) (hl : a.length = b.length) : a = b := by
  rw [List.take_of_length_le ha, List.take_of_length_le (by omega)] at h
  exact h
set_option maxRecDepth 100000 in
set_option maxHeartbeats 4000000 in
theorem isame_any {w : World} {B B2 : Nat → Prop} {A A2 : Option Addr} {c c2 : Nat} {ns ms : List Int} (h : IntsAt w B A c ns) (h2 : IntsAt w B2 A2 c2 ms) :
    Calls Tryz.prog 22 #[.slice A ns.length c, .slice A2 ms.length c2] w fun e w' => e = .returned (.bool (decide (ns = ms))) ∧ ∃ n, w' = w.drewN n := by
  have HC := Lib.hid h
  have HC2 := Lib.hid h2
  have hl1 := h.small
  have hl2 := h2.small
  clear h h2
  by_cases hl : ns.length = ms.length
  · have gl : ((ns.length : Int) != (ms.length : Int)) = false := by rw [hl]; simp
    have HL := Lib.hid hl
    have hle : (ns.length : Int) ≤ (ms.length : Int) := by omega
    clear hl
    have HV := Lib.hid (show decide (ns = ms) = decide (ns = ms) from rfl)
    generalize hv : decide (ns = ms) = V at *
    have HVV := Lib.hid hv
    clear HV hv
    go_enter Tryz.func22, Tryz.ntmps22
    go_wp2_with fail
    go_loopg [5] ns.length (fun r i wr => ∃ (k m : Nat), k ≤ ns.length ∧ r = ns.length - k ∧ i = .int .i64 (k : Int) ∧ Hid (ns.take k = ms.take k) ∧ Hid (wr = w.drewN m))
    case atStart => exact ⟨0, 0, Nat.zero_le _, rfl, rfl, Lib.hid rfl, Lib.hid rfl⟩
    case round =>
      obtain ⟨k, m, hk, hr, rfl, HT, hW⟩ := hrel
      have HRr := Lib.hid hr
      clear hr
      by_cases hlt : k < ns.length
      · have hlt2 : k < ms.length := by have := HL.out; omega
        obtain ⟨bb, off, rfl, _, d0⟩ := HC.out.at_ (by omega)
        obtain ⟨bb2, off2, rfl, _, e0⟩ := HC2.out.at_ (by omega)
        have hcw : ∀ p : Addr, wr.cell? p = w.cell? p := fun p => by rw [hW.out]; rfl
        have d1 := (hcw _).trans (d0 k hlt)
        have e1 := (hcw _).trans (e0 k hlt2)
        have g1 : decide ((k : Int) < (ns.length : Int)) = true := decide_eq_true (by omega)
        have hk0 : (0 : Int) ≤ (k : Int) := Int.natCast_nonneg _
        have hk1 : (k : Int) < (ns.length : Int) := by omega
        have hk2 : (k : Int) < (ms.length : Int) := by omega
        have HTE := Lib.hid (fun he => take_eq_succ HT.out hlt hlt2 he)
        have HNE := Lib.hid (fun he => ne_at (a := ns) (b := ms) hlt hlt2 he)
        clear d0 e0 hcw
        generalize (ns[k]'hlt) = x at *
        generalize (ms[k]'hlt2) = y at *
        by_cases he : x = y
        · have go' : (x != y) = false := by simp [he]
          have HT2 := Lib.hid (HTE.out he)
          clear he
          go_wp2_with fail
          go_quiet (fail)
          all_goals
            go_wp2_with fail
            go_roundg (ns.length - (k + 1))
            case measure => have := HRr.out; omega
            case rel => exact ⟨k + 1, _, by omega, rfl, by go_num, HT2, Lib.hid (by rw [hW.out, World.drewN_drewN])⟩
        · have go' : (x != y) = true := by simp [he]
          have HF := Lib.hid (show false = V by rw [← HVV.out, decide_eq_false (HNE.out he)])
          clear he
          go_wp2_with fail
          go_quiet (fail)
          all_goals
            go_wp2_with fail
            go_ret
            exact ⟨congrArg (fun x : Bool => Ending.returned (.bool x)) HF.out, _, by rw [hW.out, World.drewN_drewN]⟩
      · have g1 : decide ((k : Int) < (ns.length : Int)) = false := decide_eq_false (by omega)
        have HF := Lib.hid (show true = V by rw [← HVV.out, decide_eq_true (take_all_eq HT.out (by omega) HL.out)])
        go_wp2_with fail
        go_ret
        exact ⟨congrArg (fun x : Bool => Ending.returned (.bool x)) HF.out, m, hW.out⟩
  · have gl : ((ns.length : Int) != (ms.length : Int)) = true := by simp; omega
    rw [decide_eq_false (show ¬ ns = ms by rintro rfl; exact hl rfl)]
    clear hl
    go_enter Tryz.func22, Tryz.ntmps22
    go_wp2_with fail
    go_ret
    exact ⟨rfl, 0, rfl⟩
theorem valP_eq (x y : ValP) : x = y ↔ x.name = y.name ∧ x.order = y.order ∧ x.set = y.set := by
  obtain ⟨a, b, c⟩ := x
  obtain ⟨d, e, f⟩ := y
  simp
set_option maxRecDepth 100000 in
set_option maxHeartbeats 8000000 in
theorem vsame_any {w : World} {B B2 : Nat → Prop} {A A2 : Option Addr} {c c2 : Nat} {vs us : List ValP} (h : ValsAt w B A c vs) (h2 : ValsAt w B2 A2 c2 us) :
    Calls Tryz.prog 12 #[.slice A vs.length c, .slice A2 us.length c2] w fun e w' => e = .returned (.bool (decide (vs = us))) ∧ ∃ n, w' = w.drewN n := by
  have HC := Lib.hid h
  have HC2 := Lib.hid h2
  have hl1 := h.small
  have hl2 := h2.small
  clear h h2
  by_cases hl : vs.length = us.length
  · have gl : ((vs.length : Int) != (us.length : Int)) = false := by rw [hl]; simp
    have HL := Lib.hid hl
    have hle : (vs.length : Int) ≤ (us.length : Int) := by omega
    clear hl
    generalize hv : decide (vs = us) = V at *
    have HVV := Lib.hid hv
    clear hv
    go_enter Tryz.func12, Tryz.ntmps12
    go_wp2_with fail
    go_loopg [5] vs.length (fun r i wr => ∃ (k m : Nat), k ≤ vs.length ∧ r = vs.length - k ∧ i = .int .i64 (k : Int) ∧ Hid (vs.take k = us.take k) ∧ Hid (wr = w.drewN m))
    case atStart => exact ⟨0, 0, Nat.zero_le _, rfl, rfl, Lib.hid rfl, Lib.hid rfl⟩
    case round =>
      obtain ⟨k, m, hk, hr, rfl, HT, hW⟩ := hrel
      have HRr := Lib.hid hr
      clear hr
      by_cases hlt : k < vs.length
      · have hlt2 : k < us.length := by have := HL.out; omega
        obtain ⟨bb, off, A3, c3, rfl, _, d0, d1, d2, ds⟩ := HC.out.at_ k hlt
        obtain ⟨bb2, off2, A4, c4, rfl, _, e0, e1, e2, es⟩ := HC2.out.at_ k hlt2
        have hcw : ∀ p : Addr, wr.cell? p = w.cell? p := fun p => by rw [hW.out]; rfl
        replace d0 := (hcw _).trans d0
        replace d1 := (hcw _).trans d1
        replace d2 := (hcw _).trans d2
        replace e0 := (hcw _).trans e0
        replace e1 := (hcw _).trans e1
        replace e2 := (hcw _).trans e2
        have HIS := Lib.hid (fun n => isame_any (w := wr.drewN n) (ds.keep fun p _ => hcw p) (es.keep fun p _ => hcw p))
        have g1 : decide ((k : Int) < (vs.length : Int)) = true := decide_eq_true (by omega)
        have hk0 : (0 : Int) ≤ (k : Int) := Int.natCast_nonneg _
        have hk1 : (k : Int) < (vs.length : Int) := by omega
        have hk2 : (k : Int) < (us.length : Int) := by omega
        have HTE := Lib.hid (fun he => take_eq_succ HT.out hlt hlt2 ((valP_eq _ _).2 he))
        have HNE := Lib.hid (fun (he : ¬ (_ ∧ _ ∧ _)) => ne_at (a := vs) (b := us) hlt hlt2 (fun hh => he ((valP_eq _ _).1 hh)))
        clear hcw ds es
        generalize (vs[k]'hlt).name = nx at *
        generalize (us[k]'hlt2).name = ny at *
        generalize (vs[k]'hlt).order = ox at *
        generalize (us[k]'hlt2).order = oy at *
        generalize (vs[k]'hlt).set = sx at *
        generalize (us[k]'hlt2).set = sy at *
        by_cases he : nx = ny
        · have gn : (!nx == ny) = false := by simp [he]
          by_cases ho : ox = oy
          · have go' : (ox != oy) = false := by simp [ho]
            by_cases hs : sx = sy
            · have HT2 := Lib.hid (HTE.out ⟨he, ho, hs⟩)
              simp only [decide_eq_true hs] at HIS
              clear he ho hs
              generalize sx.length = lx at *
              generalize sy.length = ly at *
              go_wp2_with fail
              go_quiet ((go_at_call 22; exact Calls.quiet_of (HIS.out _)))
              all_goals
                go_wp2_with fail
                go_roundg (vs.length - (k + 1))
                case measure => have := HRr.out; omega
                case rel => exact ⟨k + 1, _, by omega, rfl, by go_num, HT2, Lib.hid (by rw [hW.out, World.drewN_drewN])⟩
            · have HF := Lib.hid (show false = V by rw [← HVV.out, decide_eq_false (HNE.out (fun hh => hs hh.2.2))])
              simp only [decide_eq_false hs] at HIS
              clear he ho hs
              generalize sx.length = lx at *
              generalize sy.length = ly at *
              go_wp2_with fail
              go_quiet ((go_at_call 22; exact Calls.quiet_of (HIS.out _)))
              all_goals
                go_wp2_with fail
                go_ret
                exact ⟨congrArg (fun x : Bool => Ending.returned (.bool x)) HF.out, _, by rw [hW.out, World.drewN_drewN]⟩
          · have go' : (ox != oy) = true := by simp [ho]
            have HF := Lib.hid (show false = V by rw [← HVV.out, decide_eq_false (HNE.out (fun hh => ho hh.2.1))])
            clear he ho
            go_wp2_with fail
            go_quiet (fail)
            all_goals
              go_wp2_with fail
              go_ret
              exact ⟨congrArg (fun x : Bool => Ending.returned (.bool x)) HF.out, _, by rw [hW.out, World.drewN_drewN]⟩
        · have gn : (!nx == ny) = true := by simp [he]
          have HF := Lib.hid (show false = V by rw [← HVV.out, decide_eq_false (HNE.out (fun hh => he hh.1))])
          clear he
          go_wp2_with fail
          go_quiet (fail)
          all_goals
            go_wp2_with fail
            go_ret
            exact ⟨congrArg (fun x : Bool => Ending.returned (.bool x)) HF.out, _, by rw [hW.out, World.drewN_drewN]⟩
      · have g1 : decide ((k : Int) < (vs.length : Int)) = false := decide_eq_false (by omega)
        have HF := Lib.hid (show true = V by rw [← HVV.out, decide_eq_true (take_all_eq HT.out (by omega) HL.out)])
        go_wp2_with fail
        go_ret
        exact ⟨congrArg (fun x : Bool => Ending.returned (.bool x)) HF.out, m, hW.out⟩
  · have gl : ((vs.length : Int) != (us.length : Int)) = true := by simp; omega
    rw [decide_eq_false (show ¬ vs = us by rintro rfl; exact hl rfl)]
    clear hl
    go_enter Tryz.func12, Tryz.ntmps12
    go_wp2_with fail
    go_ret
    exact ⟨rfl, 0, rfl⟩
end Go.Proofs.YtpknalhjgbgpiaaGreatDoor
