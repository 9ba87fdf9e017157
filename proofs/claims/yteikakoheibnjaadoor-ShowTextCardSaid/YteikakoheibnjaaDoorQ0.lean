/- Parts of the proof: Mem, Dec, LexPure, NodePure, At, Count. -/
import Derived.Below
import Derived.Deep.AppendLies
import Derived.Deep.Draws
import Derived.Deep.LoopGhost
import Derived.Deep.RegionHeld
import Derived.Laws.OwnMore
import Derived.Laws.Rows
import Derived.Lib.Hide
import Derived.Maps.AppendAt
import Derived.OwnWalk
import Derived.RegionTactic
import Derived.Test.YteikakoheibnjaaDoorRows
import Derived.WalkKit
import Derived.WalkLawsBesides
import Derived.WalkSpells
import GoSem.Core.Utf8
namespace Go.Proofs.YteikakoheibnjaaDoor
open Go Go.RowKit

theorem block_of_add (a : Addr) (n : Nat) : (a.add n).block = a.block := by unfold Addr.add; split <;> rfl
theorem add_of_add (a : Addr) (i j : Nat) : (a.add i).add j = a.add (i + j) := by
 unfold Addr.add
 by_cases hi : i = 0 <;> by_cases hj : j = 0 <;> simp [hi, hj, Nat.add_assoc]

def Reads (w : World) (B size : Nat) (A : Option Addr) (n : Nat) (xs : List Value) : Prop :=
 xs.length = n * size ∧ (0 < n → ∃ ad, A = some ad ∧ ad.block < B ∧ ∀ j u, xs[j]? = some u → w.cell? (ad.add j) = some u)

section
variable {w w' : World} {B B' size n : Nat} {A : Option Addr} {xs : List Value}
theorem Reads.at_ {k : Nat} (h : Reads w B 1 A n xs) (hk : k < n) : ∃ ad u, A = some ad ∧ ad.block < B ∧ xs[k]? = some u ∧ w.cell? (ad.add k) = some u := by
 obtain ⟨ad, e, hb, hc⟩ := h.2 (by omega)
 have hl : k < xs.length := by have := h.1; omega
 exact ⟨ad, xs[k], e, hb, List.getElem?_eq_getElem hl, hc k _ (List.getElem?_eq_getElem hl)⟩
theorem Reads.keep (h : Reads w B size A n xs) (hk : ∀ p : Addr, p.block < B → w'.cell? p = w.cell? p) : Reads w' B size A n xs :=
 ⟨h.1, fun hn => by
  obtain ⟨ad, e, hb, hc⟩ := h.2 hn
  exact ⟨ad, e, hb, fun j u hu => (hk _ (by rw [block_of_add]; exact hb)).trans (hc j u hu)⟩⟩
theorem Reads.more (h : Reads w B size A n xs) (hB : B ≤ B') : Reads w B' size A n xs :=
 ⟨h.1, fun hn => by
  obtain ⟨ad, e, hb, hc⟩ := h.2 hn
  exact ⟨ad, e, by omega, hc⟩⟩
theorem Reads.below (h : Reads w B size A n xs) (hb : Below B w w') : Reads w' B size A n xs := h.keep fun _ hp => hb.cell hp
theorem Reads.drewN (h : Reads w B size A n xs) (k : Nat) : Reads (w.drewN k) B size A n xs := h
end

def Blk (w : World) (g : Nat) (t : TypeId) (cs : Array Value) : Prop := w.heap[g]? = some (.cells cs t (0, 0))
section
variable {w w' : World} {g : Nat} {t : TypeId} {cs : Array Value}
theorem Blk.lt (h : Blk w g t cs) : g < w.heap.size := by
 rcases Nat.lt_or_ge g w.heap.size with hlt | hge
 · exact hlt
 · unfold Blk at h; rw [Array.getElem?_eq_none hge] at h; cases h
theorem Blk.cell (h : Blk w g t cs) (i : Nat) : w.cell? ⟨g, i, none⟩ = cs[i]? := cell_of_row w g i cs t (0, 0) h
theorem Blk.frozen (h : Blk w g t cs) (i : Nat) : w.frozen? ⟨g, i, none⟩ = false := by
 unfold Blk at h
 simp [World.frozen?, h]
theorem Blk.new (w : World) (t : TypeId) (cs : Array Value) : Blk (w.alloc (.cells cs t)) w.heap.size t cs := heap_alloc_new w _
theorem Blk.set_ (h : Blk w g t cs) (i : Nat) (u : Value) : Blk (w.setCell ⟨g, i, none⟩ u) g t (cs.setIfInBounds i u) := by
 unfold Blk at h ⊢
 simp [World.setCell, Array.getElem?_modify, h]
end

structure Fr (S : Nat → Prop) (w w' : World) : Prop where
 os : w'.os = w.os
 tape : w'.tape = w.tape
 output : w'.output = w.output
 size : w.heap.size ≤ w'.heap.size
 block : ∀ k, k < w.heap.size → ¬ S k → w'.heap[k]? = w.heap[k]?
section
variable {S : Nat → Prop} {a w w' : World}
theorem Fr.refl (S : Nat → Prop) (w : World) : Fr S w w := ⟨rfl, rfl, rfl, Nat.le_refl _, fun _ _ _ => rfl⟩
theorem Fr.trans (h : Fr S a w) (k : Fr S w w') : Fr S a w' :=
 ⟨k.os.trans h.os, k.tape.trans h.tape, k.output.trans h.output, Nat.le_trans h.size k.size, fun i hi hs => (k.block i (Nat.lt_of_lt_of_le hi h.size) hs).trans (h.block i hi hs)⟩
theorem Fr.mono {S' : Nat → Prop} (h : Fr S a w) (hs : ∀ k, k < a.heap.size → S k → S' k) : Fr S' a w :=
 ⟨h.os, h.tape, h.output, h.size, fun i hi hn => h.block i hi (fun c => hn (hs i hi c))⟩
theorem Fr.drewN (h : Fr S a w) (n : Nat) : Fr S a (w.drewN n) := ⟨h.os, h.tape, h.output, h.size, h.block⟩
theorem Fr.drew (h : Fr S a w) : Fr S a w.drew := ⟨h.os, h.tape, h.output, h.size, h.block⟩
theorem Fr.alloc (h : Fr S a w) (o : Obj) : Fr S a (w.alloc o) :=
 ⟨h.os, h.tape, h.output, Nat.le_trans h.size (by simp), fun i hi hs => (Below.heap_alloc w o i (Nat.lt_of_lt_of_le hi h.size)).trans (h.block i hi hs)⟩
theorem Fr.setCell (h : Fr S a w) {p : Addr} (hp : S p.block ∨ a.heap.size ≤ p.block) (u : Value) : Fr S a (w.setCell p u) :=
 ⟨h.os, h.tape, h.output, by simpa [World.setCell] using h.size, fun i hi hs => (Below.heap_setCell w p u i (by
  rintro rfl
  rcases hp with hp | hp
  · exact hs hp
  · omega)).trans (h.block i hi hs)⟩
theorem Fr.grown (h : Fr S a w) {row : Option Nat} (hg : w.grownBy w' row) (hr : ∀ k, row = some k → S k ∨ a.heap.size ≤ k) : Fr S a w' :=
 ⟨hg.os.trans h.os, hg.tape.trans h.tape, hg.output.trans h.output, Nat.le_trans h.size hg.size, fun i hi hs =>
  (hg.block i (Nat.lt_of_lt_of_le hi h.size) (fun e => by
    rcases hr i e.symm with c | c
    · exact hs c
    · omega)).trans (h.block i hi hs)⟩
theorem Fr.below {B : Nat} (h : Fr S a w) (hB : ∀ k, k < B → ¬ S k) (hle : B ≤ a.heap.size) : Below B a w :=
 ⟨h.os, h.tape, h.output, h.size, fun k hk => h.block k (by omega) (hB k hk)⟩
theorem Fr.of_below {B : Nat} (h : Below B a w) : Fr (fun k => B ≤ k) a w := ⟨h.os, h.tape, h.output, h.size, fun k _ hs => h.block k (by omega)⟩
theorem Fr.blk {g : Nat} {t : TypeId} {cs : Array Value} (h : Fr S a w) (hb : Blk a g t cs) (hs : ¬ S g) : Blk w g t cs := (h.block g hb.lt hs).trans hb
theorem Fr.own {base : Nat} {e : TypeId} {size n : Nat} {v : Value} {xs : List Value} (h : Fr S a w) (ho : a.ownsRow base e size v n xs) (hs : ∀ k, v.ownBlock = some k → ¬ S k) : w.ownsRow base e size v n xs := by
 refine ⟨ho.1, ?_⟩
 rcases ho.2 with hn | ⟨g, cap, cur, rfl, hb, hgg, rest⟩
 · exact .inl hn
 · refine .inr ⟨g, cap, cur, rfl, hb, ?_, rest⟩
   rw [h.block g (Array.getElem?_eq_some_iff.1 hgg).1 (hs g rfl)]
   exact hgg
theorem Fr.reads {B size n : Nat} {A : Option Addr} {xs : List Value} (h : Fr S a w) (hr : Reads a B size A n xs) (hB : ∀ k, k < B → ¬ S k) (hle : B ≤ a.heap.size) : Reads w B size A n xs :=
 hr.below (h.below hB hle)
end
end Go.Proofs.YteikakoheibnjaaDoor
namespace Go.Proofs.YteikakoheibnjaaDoor
open Go

def decG (n : Nat) (a : Nat → Nat) : Nat × Nat :=
 let cont (k : Nat) : Bool := k < n && a k / 64 == 2
 if a 0 < 0x80 then (a 0, 1)
 else if a 0 / 32 == 6 && cont 1 then
  let c := (a 0 % 32) * 64 + a 1 % 64
  if c ≥ 0x80 then (c, 2) else (65533, 1)
 else if a 0 / 16 == 14 && cont 1 && cont 2 then
  let c := (a 0 % 16) * 4096 + (a 1 % 64) * 64 + a 2 % 64
  if c ≥ 0x800 && Utf8.valid c then (c, 3) else (65533, 1)
 else if a 0 / 8 == 30 && cont 1 && cont 2 && cont 3 then
  let c := (a 0 % 8) * 262144 + (a 1 % 64) * 4096 + (a 2 % 64) * 64 + a 3 % 64
  if c ≥ 0x10000 && Utf8.valid c then (c, 4) else (65533, 1)
 else (65533, 1)
def dec (l : List UInt8) : Nat × Nat := decG l.length fun k => (l.getD k 0).toNat

theorem get_list (l : List UInt8) (i k : Nat) : (ByteArray.get! ⟨l.toArray⟩ (i + k)) = (l.drop i).getD k 0 := by
 unfold ByteArray.get!
 rw [List.getD_eq_getElem?_getD, List.getElem?_drop]
 simp [getElem!_def]
 cases l[i + k]? <;> rfl
theorem decode_drop (l : List UInt8) (i : Nat) : Utf8.decode ⟨l.toArray⟩ i = dec (l.drop i) := by
 have hs : ∀ k, decide (i + k < ByteArray.size ⟨l.toArray⟩) = decide (k < (l.drop i).length) := fun k => by
  rw [decide_eq_decide, List.length_drop]
  show i + k < l.toArray.size ↔ _
  simp
  omega
 unfold Utf8.decode dec decG
 simp only [get_list, hs, Utf8.runeError]
theorem dec_pos (l : List UInt8) : 1 ≤ (dec l).2 ∧ (dec l).2 ≤ 4 := by
 unfold dec decG
 dsimp only
 repeat' split
 all_goals (dsimp only; omega)
theorem dec_le (l : List UInt8) (h : l ≠ []) : (dec l).2 ≤ l.length := by
 have h1 : 1 ≤ l.length := by cases l with | nil => exact absurd rfl h | cons => simp
 unfold dec decG
 dsimp only
 repeat' split
 all_goals simp only [Bool.and_eq_true, decide_eq_true_eq] at *
 all_goals omega
theorem dec_ascii (c : UInt8) (t : List UInt8) (h : c.toNat < 128) : dec (c :: t) = (c.toNat, 1) := by
 unfold dec decG
 exact if_pos h
theorem getD_app (l r : List UInt8) (k : Nat) (h : k < l.length) : (l ++ r).getD k 0 = l.getD k 0 := by
 rw [List.getD_eq_getElem?_getD, List.getD_eq_getElem?_getD, List.getElem?_append_left h]
theorem decG_app (n m : Nat) (a b : Nat → Nat) (h1 : 1 ≤ n) (hm : n ≤ m) (g : ∀ k, k < n → b k = a k) (hb : ¬ ((decG n a).1 = 65533 ∧ (decG n a).2 < 2)) : decG m b = decG n a := by
 have g0 := g 0 (by omega)
 revert hb
 generalize hd : decG n a = d
 intro hb
 unfold decG at hd ⊢
 dsimp only at hd ⊢
 rw [g0]
 by_cases c1 : a 0 < 128
 · rw [if_pos c1] at hd ⊢
   exact hd
 rw [if_neg c1] at hd ⊢
 have cont : ∀ k, (decide (k < n) && a k / 64 == 2) = true → (decide (k < m) && b k / 64 == 2) = true ∧ b k = a k := fun k hk => by
  rw [Bool.and_eq_true, decide_eq_true_eq] at hk
  rw [g k hk.1, Bool.and_eq_true, decide_eq_true_eq]
  exact ⟨⟨by omega, hk.2⟩, rfl⟩
 have bad : d = (65533, 1) → False := fun e => hb (by rw [e]; decide)
 by_cases c2 : (a 0 / 32 == 6) = true
 · have hb2 : a 0 / 32 = 6 := eq_of_beq c2
   have n3 : (a 0 / 16 == 14) = false := by rw [beq_eq_false_iff_ne]; omega
   have n4 : (a 0 / 8 == 30) = false := by rw [beq_eq_false_iff_ne]; omega
   by_cases k1 : (decide (1 < n) && a 1 / 64 == 2) = true
   · obtain ⟨e1, e2⟩ := cont 1 k1
     rw [if_pos (by rw [c2, k1]; rfl)] at hd
     rw [if_pos (by rw [c2, e1]; rfl), e2]
     exact hd
   · rw [if_neg (by rw [c2]; simpa using k1), if_neg (by simp [n3]), if_neg (by simp [n4])] at hd
     exact (bad hd.symm).elim
 by_cases c3 : (a 0 / 16 == 14) = true
 · have hb3 : a 0 / 16 = 14 := eq_of_beq c3
   have n2 : (a 0 / 32 == 6) = false := by rw [beq_eq_false_iff_ne]; omega
   have n4 : (a 0 / 8 == 30) = false := by rw [beq_eq_false_iff_ne]; omega
   by_cases k1 : (decide (1 < n) && a 1 / 64 == 2) = true ∧ (decide (2 < n) && a 2 / 64 == 2) = true
   · obtain ⟨e1, e2⟩ := cont 1 k1.1
     obtain ⟨e3, e4⟩ := cont 2 k1.2
     rw [if_neg (by simp [n2]), if_pos (by rw [c3, k1.1, k1.2]; rfl)] at hd
     rw [if_neg (by simp [n2]), if_pos (by rw [c3, e1, e3]; rfl), e2, e4]
     exact hd
   · rw [if_neg (by simp [n2]), if_neg (by rw [c3]; simpa using k1), if_neg (by simp [n4])] at hd
     exact (bad hd.symm).elim
 by_cases c4 : (a 0 / 8 == 30) = true
 · have hb4 : a 0 / 8 = 30 := eq_of_beq c4
   have n2 : (a 0 / 32 == 6) = false := by rw [beq_eq_false_iff_ne]; omega
   have n3 : (a 0 / 16 == 14) = false := by rw [beq_eq_false_iff_ne]; omega
   by_cases k1 : ((decide (1 < n) && a 1 / 64 == 2) = true ∧ (decide (2 < n) && a 2 / 64 == 2) = true) ∧ (decide (3 < n) && a 3 / 64 == 2) = true
   · obtain ⟨e1, e2⟩ := cont 1 k1.1.1
     obtain ⟨e3, e4⟩ := cont 2 k1.1.2
     obtain ⟨e5, e6⟩ := cont 3 k1.2
     rw [if_neg (by simp [n2]), if_neg (by simp [n3]), if_pos (by rw [c4, k1.1.1, k1.1.2, k1.2]; rfl)] at hd
     rw [if_neg (by simp [n2]), if_neg (by simp [n3]), if_pos (by rw [c4, e1, e3, e5]; rfl), e2, e4, e6]
     exact hd
   · rw [if_neg (by simp [n2]), if_neg (by simp [n3]), if_neg (by rw [c4]; simpa [and_assoc] using k1)] at hd
     exact (bad hd.symm).elim
 have n2 : (a 0 / 32 == 6) = false := by simpa using c2
 have n3 : (a 0 / 16 == 14) = false := by simpa using c3
 have n4 : (a 0 / 8 == 30) = false := by simpa using c4
 rw [if_neg (by simp [n2]), if_neg (by simp [n3]), if_neg (by simp [n4])] at hd ⊢
 exact hd
theorem dec_app (l r : List UInt8) (h : l ≠ []) (hb : ¬ ((dec l).1 = 65533 ∧ (dec l).2 < 2)) : dec (l ++ r) = dec l := by
 have h1 : 1 ≤ l.length := by cases l with | nil => exact absurd rfl h | cons => simp
 exact decG_app l.length (l ++ r).length _ _ h1 (by simp) (fun k hk => by rw [getD_app l r k hk]) hb
end Go.Proofs.YteikakoheibnjaaDoor
namespace Go.Proofs.YteikakoheibnjaaDoor
open Go

abbrev Ru := Nat × List UInt8
def flat (R : List Ru) : List UInt8 := R.flatMap (·.2)
theorem flat_nil : flat [] = [] := rfl
theorem flat_cons (r : Ru) (R : List Ru) : flat (r :: R) = r.2 ++ flat R := by simp [flat]
theorem flat_app (R S : List Ru) : flat (R ++ S) = flat R ++ flat S := by simp [flat]
def eachF : Nat → List UInt8 → List Ru × Bool
 | 0, _ => ([], false)
 | _ + 1, [] => ([], false)
 | f + 1, c :: t =>
   if (dec (c :: t)).1 = 65533 ∧ (dec (c :: t)).2 < 2 then ([], true)
   else (((dec (c :: t)).1, (c :: t).take (dec (c :: t)).2) :: (eachF f ((c :: t).drop (dec (c :: t)).2)).1, (eachF f ((c :: t).drop (dec (c :: t)).2)).2)
def each (l : List UInt8) : List Ru × Bool := eachF l.length l
theorem eachF_fuel : ∀ (n f g : Nat) (l : List UInt8), l.length ≤ n → l.length ≤ f → l.length ≤ g → eachF f l = eachF g l := by
 intro n
 induction n with
 | zero =>
   intro f g l h _ _
   have : l = [] := List.eq_nil_of_length_eq_zero (by omega)
   subst this
   cases f <;> cases g <;> rfl
 | succ n ih =>
   intro f g l h hf hg
   cases l with
   | nil => cases f <;> cases g <;> rfl
   | cons c t =>
     cases f with
     | zero => simp at hf
     | succ f =>
       cases g with
       | zero => simp at hg
       | succ g =>
         have h1 := dec_pos (c :: t)
         have e := ih f g ((c :: t).drop (dec (c :: t)).2) (by simp at h ⊢; omega) (by simp at hf ⊢; omega) (by simp at hg ⊢; omega)
         unfold eachF
         rw [e]
theorem each_nil : each [] = ([], false) := rfl
theorem each_cons (l : List UInt8) (h : l ≠ []) : each l = if (dec l).1 = 65533 ∧ (dec l).2 < 2 then ([], true) else (((dec l).1, l.take (dec l).2) :: (each (l.drop (dec l).2)).1, (each (l.drop (dec l).2)).2) := by
 cases l with
 | nil => exact absurd rfl h
 | cons c t =>
   have h1 := dec_pos (c :: t)
   have e := eachF_fuel (c :: t).length t.length ((c :: t).drop (dec (c :: t)).2).length ((c :: t).drop (dec (c :: t)).2) (by simp) (by simp; omega) (by simp)
   show eachF (t.length + 1) (c :: t) = _
   unfold eachF
   rw [e]
   rfl
theorem each_step {l : List UInt8} (h : l ≠ []) (hb : ¬ ((dec l).1 = 65533 ∧ (dec l).2 < 2)) : each l = (((dec l).1, l.take (dec l).2) :: (each (l.drop (dec l).2)).1, (each (l.drop (dec l).2)).2) := by
 rw [each_cons l h, if_neg hb]
theorem each_bad {l : List UInt8} (h : l ≠ []) (hb : (dec l).1 = 65533 ∧ (dec l).2 < 2) : each l = ([], true) := by
 rw [each_cons l h, if_pos hb]
theorem each_ind {P : List UInt8 → Prop} (h0 : P []) (hb : ∀ l, l ≠ [] → (dec l).1 = 65533 ∧ (dec l).2 < 2 → P l) (hs : ∀ l, l ≠ [] → ¬ ((dec l).1 = 65533 ∧ (dec l).2 < 2) → P (l.drop (dec l).2) → P l) : ∀ l, P l := by
 intro l
 suffices H : ∀ n l, l.length ≤ n → P l from H _ l (Nat.le_refl _)
 intro n
 induction n with
 | zero =>
   intro l h
   have : l = [] := List.eq_nil_of_length_eq_zero (by omega)
   rw [this]; exact h0
 | succ n ih =>
   intro l h
   by_cases hn : l = []
   · rw [hn]; exact h0
   by_cases hbd : (dec l).1 = 65533 ∧ (dec l).2 < 2
   · exact hb l hn hbd
   · refine hs l hn hbd (ih _ ?_)
     have := dec_pos l
     have : 1 ≤ l.length := by cases l with | nil => exact absurd rfl hn | cons => simp
     simp
     omega
theorem each_flat : ∀ l, ∃ rest, l = flat (each l).1 ++ rest ∧ ((each l).2 = false → rest = []) ∧ ((each l).2 = true → rest ≠ []) := by
 refine each_ind ⟨[], by simp [each_nil, flat], fun _ => rfl, fun h => by simp [each_nil] at h⟩ (fun l hn hb => ⟨l, by simp [each_bad hn hb, flat], fun h => by simp [each_bad hn hb] at h, fun _ => hn⟩) ?_
 intro l hn hb ⟨rest, e, h1, h2⟩
 refine ⟨rest, ?_, ?_, ?_⟩
 · rw [each_step hn hb, flat_cons, List.append_assoc, ← e, List.take_append_drop]
 · rw [each_step hn hb]; exact h1
 · rw [each_step hn hb]; exact h2
theorem each_app (r : List UInt8) : ∀ l, (each l).2 = false → each (l ++ r) = ((each l).1 ++ (each r).1, (each r).2) := by
 refine each_ind (fun _ => by simp [each_nil]) (fun l hn hb h => by simp [each_bad hn hb] at h) ?_
 intro l hn hb ih h
 rw [each_step hn hb] at h ⊢
 have ih := ih h
 have e := dec_app l r hn hb
 have hle := dec_le l hn
 rw [each_step (l := l ++ r) (by simp [hn]) (by rw [e]; exact hb), e, List.take_append_of_le_length hle, List.drop_append_of_le_length hle, ih]
 rfl
theorem dec_lt (l : List UInt8) : (dec l).1 < 2097152 := by
 unfold dec decG
 dsimp only
 have h (k : Nat) : (l.getD k 0).toNat < 256 := (l.getD k 0).toNat_lt
 have h0 := h 0
 have h1 := h 1
 have h2 := h 2
 have h3 := h 3
 repeat' split
 all_goals (dsimp only; omega)
theorem each_mem : ∀ l, ∀ r ∈ (each l).1, r.1 < 2097152 ∧ 1 ≤ r.2.length := by
 refine each_ind (by simp [each_nil]) (fun l hn hb => by simp [each_bad hn hb]) ?_
 intro l hn hb ih r hr
 rw [each_step hn hb] at hr
 rcases List.mem_cons.1 hr with rfl | hr
 · have h1 : 1 ≤ l.length := by cases l with | nil => exact absurd rfl hn | cons => simp
   have := dec_pos l
   exact ⟨dec_lt l, by simp; omega⟩
 · exact ih r hr
theorem each_len : ∀ l, (each l).1.length ≤ l.length := by
 refine each_ind (by simp [each_nil]) (fun l hn hb => by simp [each_bad hn hb]) ?_
 intro l hn hb ih
 have h1 := dec_le l hn
 have h2 := dec_pos l
 rw [each_step hn hb]
 simp at ih ⊢
 omega

def signs : List Nat := [61, 126, 60, 62, 38, 124, 40, 41, 123, 125, 44, 59, 58, 43, 92, 35, 39]
def cls (r : Nat) : Nat :=
 if (97 ≤ r ∧ r ≤ 122) ∨ (65 ≤ r ∧ r ≤ 90) ∨ r = 95 ∨ (945 ≤ r ∧ r ≤ 969) then 1
 else if 48 ≤ r ∧ r ≤ 57 then 2
 else if r = 32 ∨ r = 9 ∨ r = 10 ∨ r = 13 then 3
 else if r ∈ signs then 4 else 0

structure Tok where
 kind : Nat
 text : List UInt8
 n : Nat
 at_ : Nat
deriving DecidableEq

def wordL : List (List UInt8) :=
 [[116, 114, 117, 101], [102, 97, 108, 115, 101], [101, 120, 48], [101, 120, 49], [101, 120, 50], [97, 108, 108, 48], [97, 108, 108, 49], [97, 108, 108, 50], [118, 97, 114, 48], [118, 97, 114, 49], [118, 97, 114, 50], [112, 114, 101, 100], [105, 110], [110, 111, 116, 105, 110], [115, 117, 98], [117, 110, 105, 111, 110], [105, 110, 116, 101, 114]]
def signL : List (List UInt8) :=
 [[60, 61, 62], [61, 62], [60, 61], [126, 61], [61], [126], [60], [38], [124], [40], [41], [123], [125], [44], [59], [58], [43], [92]]
def more (r : Ru) : Bool := cls r.1 == 1 || cls r.1 == 2 || r.1 == 39
def digit (r : Ru) : Bool := cls r.1 == 2
def nameLen : List Ru → Nat
 | [] => 0
 | _ :: t => (t.takeWhile more).length + 1
def numStep (a : Nat) (r : Ru) : Nat := min (10 * a + (r.1 - 48)) 1000
def numVal (R : List Ru) : Nat := R.foldl numStep 0
def isPre : List UInt8 → List Ru → Bool
 | [], _ => true
 | _ :: _, [] => false
 | c :: s, r :: R => r.1 == c.toNat && isPre s R
def tokR (p : Nat) (R : List Ru) : Option (Tok × Nat) :=
 match R with
 | [] => none
 | r :: _ =>
   if cls r.1 = 1 then
    if nameLen R ≤ 12 then some (⟨if flat (R.take (nameLen R)) ∈ wordL then 3 else 1, flat (R.take (nameLen R)), 0, p⟩, nameLen R) else none
   else if cls r.1 = 2 then
    if numVal (R.takeWhile digit) ≤ 99 ∧ ¬ (r.1 = 48 ∧ 1 < (R.takeWhile digit).length) then some (⟨2, [], numVal (R.takeWhile digit), p⟩, (R.takeWhile digit).length) else none
   else match signL.find? (isPre · R) with
    | some s => some (⟨3, s, 0, p⟩, s.length)
    | none => none
def skipM : Bool → List Ru → Nat
 | _, [] => 0
 | true, r :: t => if r.1 = 10 then skipM false t + 1 else skipM true t + 1
 | false, r :: t => if cls r.1 = 3 then skipM false t + 1 else if r.1 = 35 then skipM true t + 1 else 0
theorem skipM_le : ∀ (R : List Ru) (b : Bool), skipM b R ≤ R.length := by
 intro R
 induction R with
 | nil => intro b; cases b <;> simp [skipM]
 | cons r t ih =>
   intro b
   have h1 := ih true
   have h2 := ih false
   cases b <;> unfold skipM <;> (repeat' split) <;> simp <;> omega
def toksF : Nat → List Ru → Nat → List Tok × Option Nat
 | 0, _, _ => ([], none)
 | f + 1, R, p =>
   if R.drop (skipM false R) = [] then ([], none)
   else match tokR (p + (flat (R.take (skipM false R))).length) (R.drop (skipM false R)) with
    | none => ([], some (p + (flat (R.take (skipM false R))).length))
    | some (t, n) => (t :: (toksF f ((R.drop (skipM false R)).drop n) (p + (flat (R.take (skipM false R))).length + (flat ((R.drop (skipM false R)).take n)).length)).1,
       (toksF f ((R.drop (skipM false R)).drop n) (p + (flat (R.take (skipM false R))).length + (flat ((R.drop (skipM false R)).take n)).length)).2)
theorem isPre_len : ∀ (s : List UInt8) (R : List Ru), isPre s R = true → s.length ≤ R.length
 | [], _, _ => by simp
 | _ :: _, [], h => by simp [isPre] at h
 | c :: s, r :: R, h => by
   unfold isPre at h
   rw [Bool.and_eq_true] at h
   have := isPre_len s R h.2
   simp
   exact this
theorem takeWhile_le {α : Type} (p : α → Bool) (l : List α) : (l.takeWhile p).length ≤ l.length := (List.takeWhile_sublist p).length_le
theorem sign_pos {s : List UInt8} (h : s ∈ signL) : 1 ≤ s.length ∧ s.length ≤ 3 := by
 revert s
 decide
theorem tokR_len {p : Nat} {R : List Ru} {t : Tok} {n : Nat} (h : tokR p R = some (t, n)) : 1 ≤ n ∧ n ≤ R.length := by
 cases R with
 | nil => simp [tokR] at h
 | cons r R =>
   unfold tokR at h
   dsimp only at h
   split at h
   · split at h
     · injection h with h
       injection h with _ h
       have := takeWhile_le more R
       have e : nameLen (r :: R) = (R.takeWhile more).length + 1 := rfl
       simp
       omega
     · cases h
   · split at h
     · split at h
       · next h2 _ =>
         injection h with h
         injection h with _ h
         have h3 := takeWhile_le digit (r :: R)
         have : 1 ≤ ((r :: R).takeWhile digit).length := by
          rw [List.takeWhile_cons, if_pos (by unfold digit; rw [h2]; rfl)]
          simp
         omega
       · cases h
     · split at h
       · next s hs =>
         injection h with h
         injection h with _ h
         have h1 := sign_pos (List.mem_of_find?_eq_some hs)
         have h2 := isPre_len s (r :: R) (by simpa using List.find?_some hs)
         omega
       · cases h
theorem toksF_fuel : ∀ (n f g : Nat) (R : List Ru) (p : Nat), R.length ≤ n → R.length < f → R.length < g → toksF f R p = toksF g R p := by
 intro n
 induction n with
 | zero =>
   intro f g R p h hf hg
   have : R = [] := List.eq_nil_of_length_eq_zero (by omega)
   subst this
   cases f with
   | zero => simp at hf
   | succ f =>
     cases g with
     | zero => simp at hg
     | succ g => simp [toksF]
 | succ n ih =>
   intro f g R p h hf hg
   cases f with
   | zero => simp at hf
   | succ f =>
     cases g with
     | zero => simp at hg
     | succ g =>
       unfold toksF
       split
       · rfl
       · split
         · rfl
         · next t k hk =>
           have h1 := tokR_len hk
           have h2 := skipM_le R false
           rw [List.length_drop] at h1
           rw [ih f g ((R.drop (skipM false R)).drop k) _ (by simp; omega) (by simp; omega) (by simp; omega)]
def toks (R : List Ru) (p : Nat) : List Tok × Option Nat := toksF (R.length + 1) R p
theorem toks_eq (R : List Ru) (p : Nat) : toks R p =
  if R.drop (skipM false R) = [] then ([], none)
  else match tokR (p + (flat (R.take (skipM false R))).length) (R.drop (skipM false R)) with
   | none => ([], some (p + (flat (R.take (skipM false R))).length))
   | some (t, n) => (t :: (toks ((R.drop (skipM false R)).drop n) (p + (flat (R.take (skipM false R))).length + (flat ((R.drop (skipM false R)).take n)).length)).1,
      (toks ((R.drop (skipM false R)).drop n) (p + (flat (R.take (skipM false R))).length + (flat ((R.drop (skipM false R)).take n)).length)).2) := by
 conv => lhs; unfold toks toksF
 split
 · rfl
 · split
   · rfl
   · next t k hk =>
     have h1 := tokR_len hk
     have h2 := skipM_le R false
     rw [List.length_drop] at h1
     unfold toks
     rw [toksF_fuel _ R.length (((R.drop (skipM false R)).drop k).length + 1) _ _ (Nat.le_refl _) (by simp; omega) (by simp)]
def tokens (s : List UInt8) : List Tok × Nat × Nat :=
 if 2000 < s.length then ([], 0, 3)
 else match (toks (each s).1 0).2 with
  | some p => ([], p, 2)
  | none => if (each s).2 = true then ([], (flat (each s).1).length, 2) else ((toks (each s).1 0).1 ++ [⟨4, [], 0, s.length⟩], s.length, 0)
def nameB (s : List UInt8) : Bool :=
 match tokens s with
 | (l, _, e) => e == 0 && (match l with | [t, _] => t.kind == 1 && t.text == s | _ => false)
theorem nameB_len {s : List UInt8} (h : nameB s = true) : s.length ≤ 2000 := by
 rcases Nat.lt_or_ge 2000 s.length with h1 | h1
 · exfalso
   unfold nameB tokens at h
   rw [if_pos h1] at h
   simp at h
 · exact h1
end Go.Proofs.YteikakoheibnjaaDoor
namespace Go.Proofs.YteikakoheibnjaaDoor
open Go

inductive Node where
 | node (op name : List UInt8) (n at_ : Int) (kids : List Node)
namespace Node
def op : Node → List UInt8 | .node o _ _ _ _ => o
def name : Node → List UInt8 | .node _ s _ _ _ => s
def num : Node → Int | .node _ _ n _ _ => n
def pos : Node → Int | .node _ _ _ p _ => p
def kids : Node → List Node | .node _ _ _ _ k => k
end Node
mutual
def nodes : Node → Nat
 | .node _ _ _ _ k => nodesL k + 1
def nodesL : List Node → Nat
 | [] => 0
 | x :: r => nodes x + nodesL r
end
theorem nodes_node (o s : List UInt8) (n p : Int) (ks : List Node) : nodes (.node o s n p ks) = nodesL ks + 1 := by rw [nodes]
theorem nodes_pos : ∀ t : Node, 1 ≤ nodes t
 | .node _ _ _ _ k => by unfold nodes; omega
theorem nodes_kid : ∀ (ks : List Node) (k : Node), k ∈ ks → nodes k ≤ nodesL ks
 | x :: r, k, h => by
   rcases List.mem_cons.1 h with rfl | h
   · simp only [nodesL]
     omega
   · have := nodes_kid r k h
     simp only [nodesL]
     omega
theorem Node.ind {P : Node → Prop} (h : ∀ o s n p ks, (∀ k ∈ ks, P k) → P (.node o s n p ks)) : ∀ t, P t := by
 intro t
 suffices H : ∀ m t, nodes t ≤ m → P t from H _ t (Nat.le_refl _)
 intro m
 induction m with
 | zero => intro t ht; have := nodes_pos t; omega
 | succ m ih =>
   intro t ht
   cases t with
   | node o s n p ks =>
     refine h o s n p ks fun k hk => ih k ?_
     have := nodes_kid ks k hk
     unfold nodes at ht
     omega
mutual
def depth : Node → Nat
 | .node _ _ _ _ k => depthL k + 1
def depthL : List Node → Nat
 | [] => 0
 | x :: r => max (depth x) (depthL r)
end
theorem depth_node (o s : List UInt8) (n p : Int) (ks : List Node) : depth (.node o s n p ks) = depthL ks + 1 := by rw [depth]

-- the ops, as bytes
def nVar : List UInt8 := [118, 97, 114]
def nNum : List UInt8 := [110, 117, 109]
def nPlus : List UInt8 := [112, 108, 117, 115]
def nSet : List UInt8 := [115, 101, 116]
def nUnion : List UInt8 := [117, 110, 105, 111, 110]
def nInter : List UInt8 := [105, 110, 116, 101, 114]
def nMinus : List UInt8 := [109, 105, 110, 117, 115]
def nTrue : List UInt8 := [116, 114, 117, 101]
def nFalse : List UInt8 := [102, 97, 108, 115, 101]
def nNot : List UInt8 := [110, 111, 116]
def nAnd : List UInt8 := [97, 110, 100]
def nOr : List UInt8 := [111, 114]
def nImp : List UInt8 := [105, 109, 112]
def nIff : List UInt8 := [105, 102, 102]
def nEx : List UInt8 := [101, 120]
def nAll : List UInt8 := [97, 108, 108]
def nIs : List UInt8 := [105, 115]
def nCall : List UInt8 := [99, 97, 108, 108]
def nEq : List UInt8 := [101, 113]
def nNe : List UInt8 := [110, 101]
def nLt : List UInt8 := [108, 116]
def nLe : List UInt8 := [108, 101]
def nIn : List UInt8 := [105, 110]
def nNotin : List UInt8 := [110, 111, 116, 105, 110]
def nSub : List UInt8 := [115, 117, 98]

def setOp (o : List UInt8) : Bool := decide (o = nUnion) || decide (o = nInter) || decide (o = nMinus)
def hasB (kids : Nat) (s : List UInt8) (n : Int) (k : Nat) (name num : Bool) : Bool :=
 decide (kids = k) && (name || decide (s = [])) && (num || decide (n = 0)) && (!name || nameB s)
mutual
def termB : Node → Bool
 | .node o s n _ ks =>
   if o = nVar then hasB ks.length s n 0 true false
   else if o = nNum then hasB ks.length s n 0 false true && decide (0 ≤ n) && decide (n ≤ 99)
   else if o = nPlus then hasB ks.length s n 1 false true && decide (1 ≤ n) && decide (n ≤ 99) && ks.all (fun k => decide (k.op = nVar)) && termsB ks
   else if o = nSet then !(ks.any fun k => setOp k.op || decide (k.op = nSet)) && hasB ks.length s n ks.length false false && decide (ks.length ≤ 6) && termsB ks
   else setOp o && hasB ks.length s n 2 false false && termsB ks && !(ks.drop 1).any (fun k => setOp k.op)
def termsB : List Node → Bool
 | [] => true
 | x :: r => termB x && termsB r
end
def relOp (o : List UInt8) : Bool := decide (o = nEq) || decide (o = nNe) || decide (o = nLt) || decide (o = nLe) || decide (o = nIn) || decide (o = nNotin) || decide (o = nSub)
def binOp (o : List UInt8) : Bool := decide (o = nAnd) || decide (o = nOr) || decide (o = nImp) || decide (o = nIff)
mutual
def formB : Node → Bool
 | .node o s n _ ks =>
   if o = nTrue ∨ o = nFalse then hasB ks.length s n 0 false false
   else if o = nNot then hasB ks.length s n 1 false false && formsB ks
   else if binOp o then hasB ks.length s n 2 false false && formsB ks
   else if o = nEx ∨ o = nAll then hasB ks.length s n 1 true true && decide (0 ≤ n) && decide (n ≤ 2) && formsB ks
   else if o = nIs then hasB ks.length s n 0 true false
   else if relOp o then hasB ks.length s n 2 false false && termsB ks
   else if o = nCall then hasB ks.length s n ks.length true false && decide (ks.length ≤ 6) && termsB ks
   else false
def formsB : List Node → Bool
 | [] => true
 | x :: r => formB x && formsB r
end
theorem termsB_all : ∀ ks, termsB ks = ks.all termB
 | [] => by simp [termsB]
 | x :: r => by rw [termsB, termsB_all r, List.all_cons]
theorem formsB_all : ∀ ks, formsB ks = ks.all formB
 | [] => by simp [formsB]
 | x :: r => by rw [formsB, formsB_all r, List.all_cons]
def smallB (t : Node) : Bool := decide (depth t ≤ 30) && decide (nodes t ≤ 2000)

def digF : Nat → Nat → List UInt8
 | 0, _ => []
 | f + 1, n => if n < 10 then [UInt8.ofNat (48 + n)] else digF f (n / 10) ++ [UInt8.ofNat (48 + n % 10)]
def dig (n : Nat) : List UInt8 := digF 20 n
theorem dig_len100 : ∀ i : Fin 100, 1 ≤ (dig i.val).length ∧ (dig i.val).length ≤ 2 := by decide

def signOf (o : List UInt8) : List UInt8 :=
 if o = nAnd then [38] else if o = nOr then [124] else if o = nImp then [61, 62] else if o = nIff then [60, 61, 62] else if o = nEq then [61] else if o = nNe then [126, 61]
 else if o = nLt then [60] else if o = nLe then [60, 61] else if o = nMinus then [92] else o
def commas : List (List UInt8) → List UInt8
 | [] => []
 | [x] => x
 | x :: y :: r => x ++ [44, 32] ++ commas (y :: r)
def joined (a o b : List UInt8) : List UInt8 := a ++ [32] ++ signOf o ++ [32] ++ b
mutual
def termS : Node → List UInt8
 | .node o s n _ ks =>
   if o = nVar then s
   else if o = nNum then dig n.toNat
   else if o = nPlus then (termSL ks).getD 0 [] ++ [32, 43, 32] ++ dig n.toNat
   else if o = nSet then [123] ++ commas (termSL ks) ++ [125]
   else joined ((termSL ks).getD 0 []) o ((termSL ks).getD 1 [])
def termSL : List Node → List (List UInt8)
 | [] => []
 | x :: r => termS x :: termSL r
end
mutual
def formS : Node → List UInt8
 | .node o s n _ ks =>
   if o = nTrue ∨ o = nFalse then o
   else if o = nNot then [126] ++ (formSL ks).getD 0 []
   else if binOp o then [40] ++ joined ((formSL ks).getD 0 []) o ((formSL ks).getD 1 []) ++ [41]
   else if o = nEx ∨ o = nAll then [40] ++ o ++ dig n.toNat ++ [32] ++ s ++ [58, 32] ++ (formSL ks).getD 0 [] ++ [41]
   else if o = nIs then s
   else if o = nCall then s ++ [40] ++ commas (termSL ks) ++ [41]
   else joined ((termSL ks).getD 0 []) o ((termSL ks).getD 1 [])
def formSL : List Node → List (List UInt8)
 | [] => []
 | x :: r => formS x :: formSL r
end
theorem termSL_map : ∀ ks, termSL ks = ks.map termS
 | [] => by simp [termSL]
 | x :: r => by rw [termSL, termSL_map r, List.map_cons]
theorem formSL_map : ∀ ks, formSL ks = ks.map formS
 | [] => by simp [formSL]
 | x :: r => by rw [formSL, formSL_map r, List.map_cons]
theorem hasB_name {kids k : Nat} {s : List UInt8} {n : Int} {name num : Bool} (h : hasB kids s n k name num = true) : s.length ≤ 2000 ∧ kids = k ∧ (name = false → s = []) ∧ (num = false → n = 0) ∧ (name = true → nameB s = true) := by
 unfold hasB at h
 simp only [Bool.and_eq_true, Bool.or_eq_true, decide_eq_true_eq, Bool.not_eq_true'] at h
 obtain ⟨⟨⟨h1, h2⟩, h3⟩, h4⟩ := h
 refine ⟨?_, h1, fun e => ?_, fun e => ?_, fun e => ?_⟩
 · cases name with
   | false =>
     rcases h2 with h2 | h2
     · cases h2
     · rw [h2]; simp
   | true =>
     rcases h4 with h4 | h4
     · cases h4
     · exact nameB_len h4
 · subst e
   rcases h2 with h2 | h2
   · cases h2
   · exact h2
 · subst e
   rcases h3 with h3 | h3
   · cases h3
   · exact h3
 · subst e
   rcases h4 with h4 | h4
   · cases h4
   · exact h4
theorem commas_len (B : Nat) : ∀ l : List (List UInt8), (commas l).length ≤ (l.map (fun x => x.length + 2)).sum
 | [] => by simp [commas]
 | [x] => by simp [commas]
 | x :: y :: r => by
   have := commas_len B (y :: r)
   simp only [commas, List.map_cons, List.sum_cons, List.length_append, List.length_cons, List.length_nil] at this ⊢
   omega
theorem signOf_len (o : List UInt8) (h : o.length ≤ 5) : (signOf o).length ≤ 5 := by
 unfold signOf
 repeat' split
 all_goals first | exact h | decide
theorem setOp_len {o : List UInt8} (h : setOp o = true) : o.length ≤ 5 := by
 unfold setOp at h
 simp only [Bool.or_eq_true, decide_eq_true_eq] at h
 rcases h with (rfl | rfl) | rfl <;> decide
theorem relOp_len {o : List UInt8} (h : relOp o = true) : o.length ≤ 5 := by
 unfold relOp at h
 simp only [Bool.or_eq_true, decide_eq_true_eq] at h
 rcases h with (((((rfl | rfl) | rfl) | rfl) | rfl) | rfl) | rfl <;> decide
theorem binOp_len {o : List UInt8} (h : binOp o = true) : o.length ≤ 5 := by
 unfold binOp at h
 simp only [Bool.or_eq_true, decide_eq_true_eq] at h
 rcases h with ((rfl | rfl) | rfl) | rfl <;> decide
theorem getD_map_len {f : Node → List UInt8} {B : Nat} : ∀ (ks : List Node) (i : Nat), (∀ k ∈ ks, (f k).length ≤ B * nodes k) → ((ks.map f).getD i []).length ≤ B * nodesL (ks.drop i)
 | [], i, _ => by simp
 | x :: r, 0, h => by
   have := h x (by simp)
   simp only [List.map_cons, List.getD_cons_zero, List.drop_zero, nodesL, Nat.mul_add]
   omega
 | x :: r, i + 1, h => by
   have := getD_map_len r i (fun k hk => h k (by simp [hk]))
   simpa using this
theorem sum_map_len {f : Node → List UInt8} {B : Nat} : ∀ (ks : List Node), (∀ k ∈ ks, (f k).length + 2 ≤ B * nodes k) → ((ks.map f).map (fun x => x.length + 2)).sum ≤ B * nodesL ks
 | [], _ => by simp [nodesL]
 | x :: r, h => by
   have h1 := h x (by simp)
   have h2 := sum_map_len r (fun k hk => h k (by simp [hk]))
   simp only [List.map_cons, List.sum_cons, nodesL, Nat.mul_add] at h2 ⊢
   omega
theorem two_len {f : Node → List UInt8} {B : Nat} (ks : List Node) (h : ∀ k ∈ ks, (f k).length ≤ B * nodes k) : ((ks.map f).getD 0 []).length + ((ks.map f).getD 1 []).length ≤ B * nodesL ks := by
 cases ks with
 | nil => simp
 | cons x r =>
   have h1 := h x (by simp)
   have h2 := getD_map_len r 0 (fun k hk => h k (by simp [hk]))
   simp only [List.map_cons, List.getD_cons_zero, List.getD_cons_succ, nodesL, Nat.mul_add, List.drop_zero] at h2 ⊢
   omega
theorem termS_len : ∀ t : Node, termB t = true → (termS t).length + 20 ≤ 2100 * nodes t := by
 intro t
 induction t using Node.ind with
 | h o s n p ks ih =>
   intro h
   rw [termB] at h
   rw [termS, nodes_node, termSL_map]
   have hk : termsB ks = true → ∀ k ∈ ks, (termS k).length + 20 ≤ 2100 * nodes k := fun hh k hk => by
    rw [termsB_all, List.all_eq_true] at hh
    exact ih k hk (hh k hk)
   by_cases h1 : o = nVar
   · rw [if_pos h1] at h ⊢
     have := (hasB_name h).1
     omega
   rw [if_neg h1] at h ⊢
   by_cases h2 : o = nNum
   · rw [if_pos h2] at h ⊢
     simp only [Bool.and_eq_true, decide_eq_true_eq] at h
     have := dig_len100 ⟨n.toNat, by omega⟩
     simp only at this
     omega
   rw [if_neg h2] at h ⊢
   by_cases h3 : o = nPlus
   · rw [if_pos h3] at h ⊢
     simp only [Bool.and_eq_true, decide_eq_true_eq] at h
     have h5 := dig_len100 ⟨n.toNat, by omega⟩
     have h6 := getD_map_len ks 0 (fun k hk' => Nat.le_trans (Nat.le_add_right _ 20) (hk h.2 k hk'))
     simp only at h5
     simp only [List.length_append, List.length_cons, List.length_nil, List.drop_zero] at h6 ⊢
     omega
   rw [if_neg h3] at h ⊢
   by_cases h4 : o = nSet
   · rw [if_pos h4] at h ⊢
     simp only [Bool.and_eq_true] at h
     have h5 := commas_len 0 (ks.map termS)
     have h6 := sum_map_len (f := termS) (B := 2100) ks (fun k hk' => by have := hk h.2 k hk'; omega)
     simp only [List.length_append, List.length_cons, List.length_nil] at h6 ⊢
     omega
   rw [if_neg h4] at h ⊢
   simp only [Bool.and_eq_true] at h
   have h5 := two_len ks (fun k hk' => Nat.le_trans (Nat.le_add_right _ 20) (hk h.1.2 k hk'))
   have h6 := signOf_len o (setOp_len h.1.1.1)
   unfold joined
   simp only [List.length_append, List.length_cons, List.length_nil] at h5 ⊢
   omega
theorem formS_len : ∀ t : Node, formB t = true → (formS t).length + 20 ≤ 2100 * nodes t := by
 intro t
 induction t using Node.ind with
 | h o s n p ks ih =>
   intro h
   rw [formB] at h
   rw [formS, nodes_node, termSL_map, formSL_map]
   have hk : formsB ks = true → ∀ k ∈ ks, (formS k).length + 20 ≤ 2100 * nodes k := fun hh k hk => by
    rw [formsB_all, List.all_eq_true] at hh
    exact ih k hk (hh k hk)
   have ht : termsB ks = true → ∀ k ∈ ks, (termS k).length + 20 ≤ 2100 * nodes k := fun hh k hk => by
    rw [termsB_all, List.all_eq_true] at hh
    exact termS_len k (hh k hk)
   by_cases h1 : o = nTrue ∨ o = nFalse
   · rw [if_pos h1]
     have : o.length ≤ 5 := by rcases h1 with rfl | rfl <;> decide
     omega
   rw [if_neg h1] at h ⊢
   by_cases h2 : o = nNot
   · rw [if_pos h2] at h ⊢
     simp only [Bool.and_eq_true] at h
     have h6 := getD_map_len ks 0 (fun k hk' => Nat.le_trans (Nat.le_add_right _ 20) (hk h.2 k hk'))
     simp only [List.length_append, List.length_cons, List.length_nil, List.drop_zero] at h6 ⊢
     omega
   rw [if_neg h2] at h ⊢
   by_cases h3 : binOp o = true
   · rw [if_pos h3] at h ⊢
     simp only [Bool.and_eq_true] at h
     have h5 := two_len ks (fun k hk' => Nat.le_trans (Nat.le_add_right _ 20) (hk h.2 k hk'))
     have h6 := signOf_len o (binOp_len h3)
     unfold joined
     simp only [List.length_append, List.length_cons, List.length_nil] at h5 ⊢
     omega
   rw [if_neg h3] at h ⊢
   by_cases h4 : o = nEx ∨ o = nAll
   · rw [if_pos h4] at h ⊢
     simp only [Bool.and_eq_true, decide_eq_true_eq] at h
     have h5 := dig_len100 ⟨n.toNat, by omega⟩
     have h6 := getD_map_len ks 0 (fun k hk' => Nat.le_trans (Nat.le_add_right _ 20) (hk h.2 k hk'))
     have h7 := (hasB_name h.1.1.1).1
     have h8 : o.length ≤ 5 := by rcases h4 with rfl | rfl <;> decide
     simp only at h5
     simp only [List.length_append, List.length_cons, List.length_nil, List.drop_zero] at h6 ⊢
     omega
   rw [if_neg h4] at h ⊢
   by_cases h5 : o = nIs
   · rw [if_pos h5] at h ⊢
     have := (hasB_name h).1
     omega
   rw [if_neg h5] at h ⊢
   by_cases h6 : relOp o = true
   · rw [if_pos h6] at h
     have hc : ¬ o = nCall := by rintro rfl; revert h6; decide
     rw [if_neg hc]
     simp only [Bool.and_eq_true] at h
     have h7 := two_len ks (fun k hk' => Nat.le_trans (Nat.le_add_right _ 20) (ht h.2 k hk'))
     have h8 := signOf_len o (relOp_len h6)
     unfold joined
     simp only [List.length_append, List.length_cons, List.length_nil] at h7 ⊢
     omega
   rw [if_neg h6] at h
   by_cases h7 : o = nCall
   · rw [if_pos h7] at h ⊢
     simp only [Bool.and_eq_true] at h
     have h8 := commas_len 0 (ks.map termS)
     have h9 := sum_map_len (f := termS) (B := 2100) ks (fun k hk' => by have := ht h.2 k hk'; omega)
     have h10 := (hasB_name h.1.1).1
     simp only [List.length_append, List.length_cons, List.length_nil] at h9 ⊢
     omega
   · rw [if_neg h7] at h
     cases h
end Go.Proofs.YteikakoheibnjaaDoor
namespace Go.Proofs.YteikakoheibnjaaDoor
open Go Go.RowKit

abbrev strV (o : List UInt8) : Value := .string ⟨o.toArray⟩
def cellsN (t : Node) (A : Option Addr) (cap : Nat) : List Value :=
 [strV t.op, strV t.name, .int .i64 t.num, .int .i64 t.pos, .slice A t.kids.length cap]
mutual
def NodeAt (w : World) (B : Nat) : Node → Option Addr → Nat → Prop
 | .node o s _ _ ks, A, cap => o.length ≤ 140737488355328 ∧ s.length ≤ 140737488355328 ∧ ks.length ≤ cap ∧ ks.length ≤ 140737488355328 ∧ KidsAt w B A 0 ks
def KidsAt (w : World) (B : Nat) (A : Option Addr) : Nat → List Node → Prop
 | _, [] => True
 | i, k :: r => (∃ b off A' cap', A = some ⟨b, off, none⟩ ∧ b < B ∧ (∀ j u, (cellsN k A' cap')[j]? = some u → w.cell? ⟨b, off + i * 5 + j, none⟩ = some u) ∧ NodeAt w B k A' cap') ∧ KidsAt w B A (i + 1) r
end
def nodeW (o s : List UInt8) (n p : Int) (l : Nat) (A : Option Addr) (cap : Nat) : Value :=
 .agg #[.string ⟨o.toArray⟩, .string ⟨s.toArray⟩, .int .i64 n, .int .i64 p, .slice A l cap]
abbrev nodeT (t : Node) (A : Option Addr) (cap : Nat) : Value := nodeW t.op t.name t.num t.pos t.kids.length A cap

theorem NodeAt.keep {w w' : World} {B : Nat} (hk : ∀ p : Addr, p.block < B → w'.cell? p = w.cell? p) : ∀ (t : Node) (A : Option Addr) (cap : Nat), NodeAt w B t A cap → NodeAt w' B t A cap := by
 intro t
 induction t using Node.ind with
 | h o s n p ks ih =>
   intro A cap h
   unfold NodeAt at h ⊢
   refine ⟨h.1, h.2.1, h.2.2.1, h.2.2.2.1, ?_⟩
   have h3 := h.2.2.2.2
   clear h
   generalize 0 = i at *
   induction ks generalizing i with
   | nil => unfold KidsAt; trivial
   | cons x r ihr =>
     unfold KidsAt at h3 ⊢
     obtain ⟨⟨bb, off, A', cap', e, hb, hc, hx⟩, hr⟩ := h3
     refine ⟨⟨bb, off, A', cap', e, hb, fun j u hu => (hk _ hb).trans (hc j u hu), ih x (by simp) A' cap' hx⟩, ihr (fun k hk' => ih k (by simp [hk'])) _ hr⟩
theorem NodeAt.more {w : World} {B B' : Nat} (hB : B ≤ B') : ∀ (t : Node) (A : Option Addr) (cap : Nat), NodeAt w B t A cap → NodeAt w B' t A cap := by
 intro t
 induction t using Node.ind with
 | h o s n p ks ih =>
   intro A cap h
   unfold NodeAt at h ⊢
   refine ⟨h.1, h.2.1, h.2.2.1, h.2.2.2.1, ?_⟩
   have h3 := h.2.2.2.2
   clear h
   generalize 0 = i at *
   induction ks generalizing i with
   | nil => unfold KidsAt; trivial
   | cons x r ihr =>
     unfold KidsAt at h3 ⊢
     obtain ⟨⟨bb, off, A', cap', e, hb, hc, hx⟩, hr⟩ := h3
     exact ⟨⟨bb, off, A', cap', e, by omega, hc, ih x (by simp) A' cap' hx⟩, ihr (fun k hk' => ih k (by simp [hk'])) _ hr⟩
theorem NodeAt.below {w w' : World} {B : Nat} {t : Node} {A : Option Addr} {cap : Nat} (h : NodeAt w B t A cap) (hb : Below B w w') : NodeAt w' B t A cap := NodeAt.keep (fun _ hp => hb.cell hp) t A cap h
theorem NodeAt.later {w W : World} {B : Nat} {t : Node} {A : Option Addr} {cap : Nat} (h : NodeAt w B t A cap) (hb : Below B w W) (hB : B ≤ W.heap.size) : NodeAt W W.heap.size t A cap :=
 NodeAt.more hB t A cap (h.below hb)
theorem KidsAt.at_ {w : World} {B : Nat} {A : Option Addr} : ∀ (ks : List Node) (i j : Nat) (hj : j < ks.length), KidsAt w B A i ks →
  ∃ b off A' cap', A = some ⟨b, off, none⟩ ∧ b < B ∧ (∀ m u, (cellsN ks[j] A' cap')[m]? = some u → w.cell? ⟨b, off + (i + j) * 5 + m, none⟩ = some u) ∧ NodeAt w B ks[j] A' cap'
 | x :: r, i, 0, _, h => by
   unfold KidsAt at h
   exact h.1
 | x :: r, i, j + 1, hj, h => by
   unfold KidsAt at h
   obtain ⟨bb, off, A', cap', e, hb, hc, hx⟩ := KidsAt.at_ r (i + 1) j (by simpa using hj) h.2
   refine ⟨bb, off, A', cap', e, hb, ?_, hx⟩
   rw [show i + (j + 1) = i + 1 + j by omega]
   exact hc
theorem NodeAt.kid {w : World} {B : Nat} {o s : List UInt8} {n p : Int} {ks : List Node} {A : Option Addr} {cap : Nat} (h : NodeAt w B (.node o s n p ks) A cap) (j : Nat) (hj : j < ks.length) :
  ∃ b off A' cap', A = some ⟨b, off, none⟩ ∧ b < B ∧ (∀ m u, (cellsN ks[j] A' cap')[m]? = some u → w.cell? ⟨b, off + j * 5 + m, none⟩ = some u) ∧ NodeAt w B ks[j] A' cap' := by
 unfold NodeAt at h
 have := KidsAt.at_ ks 0 j hj h.2.2.2.2
 rw [Nat.zero_add] at this
 exact this
theorem NodeAt.len {w : World} {B : Nat} {o s : List UInt8} {n p : Int} {ks : List Node} {A : Option Addr} {cap : Nat} (h : NodeAt w B (.node o s n p ks) A cap) : ks.length ≤ cap ∧ ks.length ≤ 140737488355328 ∧ o.length ≤ 140737488355328 ∧ s.length ≤ 140737488355328 := by
 unfold NodeAt at h
 exact ⟨h.2.2.1, h.2.2.2.1, h.1, h.2.1⟩
theorem kid_cells {w wr : World} {bb q B : Nat} {o s : List UInt8} {n p : Int} {ks : List Node} {A : Option Addr} {cap : Nat} (hp : bb < B)
  (h : ∀ m u, (cellsN (.node o s n p ks) A cap)[m]? = some u → w.cell? ⟨bb, q + m, none⟩ = some u) (hb : Below B w wr) :
  wr.cell? ⟨bb, q, none⟩ = some (.string ⟨o.toArray⟩) ∧ wr.cell? ⟨bb, q + 1, none⟩ = some (.string ⟨s.toArray⟩) ∧ wr.cell? ⟨bb, q + 2, none⟩ = some (.int .i64 n) ∧ wr.cell? ⟨bb, q + 3, none⟩ = some (.int .i64 p) ∧
   wr.cell? ⟨bb, q + 4, none⟩ = some (.slice A ks.length cap) := by
 have cc : ∀ j u, (cellsN (.node o s n p ks) A cap)[j]? = some u → wr.cell? ⟨bb, q + j, none⟩ = some u := fun j u hu => (hb.cell (p := ⟨bb, q + j, none⟩) hp).trans (h j u hu)
 exact ⟨cc 0 _ rfl, cc 1 _ rfl, cc 2 _ rfl, cc 3 _ rfl, cc 4 _ rfl⟩
abbrev boxN (o s : List UInt8) (n p : Int) (l : Nat) (A : Option Addr) (cap : Nat) : Obj := .cells #[.string ⟨o.toArray⟩, .string ⟨s.toArray⟩, .int .i64 n, .int .i64 p, .slice A l cap] 24
theorem box5 {w W : World} {o s : List UInt8} {n p : Int} {l : Nat} {A : Option Addr} {cap : Nat} (h : Below (w.heap.size + 1) (w.alloc (boxN o s n p l A cap)) W) :
  W.cell? ⟨w.heap.size, 0, none⟩ = some (.string ⟨o.toArray⟩) ∧ W.cell? ⟨w.heap.size, 1, none⟩ = some (.string ⟨s.toArray⟩) ∧ W.cell? ⟨w.heap.size, 2, none⟩ = some (.int .i64 n) ∧ W.cell? ⟨w.heap.size, 3, none⟩ = some (.int .i64 p) ∧
   W.cell? ⟨w.heap.size, 4, none⟩ = some (.slice A l cap) := by
 have e : ∀ j u, (#[.string ⟨o.toArray⟩, .string ⟨s.toArray⟩, .int .i64 n, .int .i64 p, .slice A l cap] : Array Value)[j]? = some u → W.cell? ⟨w.heap.size, j, none⟩ = some u := fun j u hu =>
  (h.cell (p := ⟨w.heap.size, j, none⟩) (Nat.lt_succ_self _)).trans ((cell_of_row _ w.heap.size j _ 24 (0, 0) (heap_alloc_new w _)).trans hu)
 exact ⟨e 0 _ rfl, e 1 _ rfl, e 2 _ rfl, e 3 _ rfl, e 4 _ rfl⟩
end Go.Proofs.YteikakoheibnjaaDoor
namespace Go.Proofs.YteikakoheibnjaaDoor
open Go Go.RowKit

theorem nodesL_take (ks : List Node) (k : Nat) (h : k < ks.length) : nodesL (ks.take (k + 1)) = nodesL (ks.take k) + nodes ks[k] := by
 induction ks generalizing k with
 | nil => simp at h
 | cons x r ih =>
   cases k with
   | zero => simp [nodesL]
   | succ k =>
     simp only [List.take_succ_cons, nodesL, List.getElem_cons_succ]
     rw [ih k (by simpa using h)]
     omega
theorem nodesL_take_le (ks : List Node) (k : Nat) : nodesL (ks.take k) ≤ nodesL ks := by
 induction ks generalizing k with
 | nil => simp [nodesL]
 | cons x r ih =>
   cases k with
   | zero => simp [nodesL]
   | succ k =>
     have := ih k
     simp only [List.take_succ_cons, nodesL]
     omega

set_option maxHeartbeats 1000000 in
theorem count_any : ∀ (t : Node) (A : Option Addr) (cap : Nat) (m : Int) (w : World), NodeAt w w.heap.size t A cap → 1 ≤ m → m ≤ 2001 →
  Calls Tryd.prog 23 #[nodeT t A cap, .int .i64 m] w fun e w' => e = .returned (.int .i64 (min (nodes t) m.toNat : Nat)) ∧ Below w.heap.size w w' := by
 intro t
 induction t using Node.ind with
 | h o s n p ks ih =>
   intro A cap mi w h hm hm2
   obtain ⟨m, hmm⟩ := Int.eq_ofNat_of_zero_le (by omega : 0 ≤ mi)
   rw [show mi.toNat = m by omega]
   have HC := Lib.hid h
   have IH := Lib.hid ih
   have hl := h.len
   obtain ⟨hl1, hl2, _⟩ := hl
   clear h ih
   rw [nodes_node]
   simp only [nodeT, nodeW, Node.op, Node.name, Node.num, Node.pos, Node.kids]
   have hm1 : 1 ≤ m := by omega
   have hm3 : m ≤ 2001 := by omega
   have HMM := Lib.hid hmm
   clear hmm
   go_enter Tryd.func23, Tryd.ntmps23
   go_wp2_with fail
   go_loopg [5, 6] ks.length (fun r z i wr => ∃ k : Nat, k ≤ ks.length ∧ r = ks.length - k ∧ i = .int .i64 (k : Int) ∧ z = .int .i64 ((min (nodesL (ks.take k) + 1) m : Nat) : Int) ∧ Below w.heap.size w wr ∧ wr.cell? ⟨w.heap.size, 4, none⟩ = some (.slice A ks.length cap))
   case atStart => exact ⟨0, Nat.zero_le _, rfl, rfl, by simp [nodesL]; omega, (Below.refl _ _).alloc (Nat.le_refl _) _, (by go_keep)⟩
   case round =>
    obtain ⟨k, hk, hr, rfl, rfl, hb, hc5⟩ := hrel
    have HRr := Lib.hid hr
    have HB := Lib.hid hb
    have hs1 := hb.size
    have HT := Lib.hid (nodesL_take_le ks k)
    clear hr hb
    generalize hz : min (nodesL (ks.take k) + 1) m = z at *
    have HZ := Lib.hid hz
    have hz2 : z ≤ 2001 := by omega
    clear hz
    by_cases hlt : k < ks.length
    · by_cases hzm : (z : Int) < mi
      · obtain ⟨bb, off, A', cap', rfl, hlo, hcells, hkid⟩ := HC.out.kid k hlt
        have HS := Lib.hid (nodesL_take ks k hlt)
        have HI := Lib.hid (IH.out ks[k] (List.getElem_mem hlt))
        generalize hx : ks[k] = x at *
        clear hx
        cases x with
        | node o' s' n' p' ks' =>
          obtain ⟨c0, c1, c2, c3, c4⟩ := kid_cells hlo hcells HB.out
          have HK := Lib.hid hkid
          clear hcells hkid IH
          have g1 : decide ((k : Int) < (ks.length : Int)) = true := decide_eq_true (by omega)
          have g2 : decide ((z : Int) < mi) = true := decide_eq_true hzm
          go_wp2_with fail
          refine (HI.out A' cap' _ _ (HK.out.later HB.out (by omega)) (by omega) (by omega)).mono ?_
          rintro e w2 ⟨rfl, hb2⟩
          have HB2 := Lib.hid (HB.out.trans (hb2.mono hs1))
          have hc6 := (hb2.cell (p := ⟨w.heap.size, 4, none⟩) (World.block_lt_of_cell? _ _ hc5)).trans hc5
          clear hb2
          have HMN := Lib.hid (show z + min (nodes (.node o' s' n' p' ks')) (mi - (z : Int)).toNat = min (nodesL (ks.take (k + 1)) + 1) m by
           have := HZ.out
           have := HS.out
           have := HMM.out
           omega)
          have hmn : min (nodes (.node o' s' n' p' ks')) (mi - (z : Int)).toNat ≤ 2001 := by omega
          generalize min (nodes (.node o' s' n' p' ks')) (mi - (z : Int)).toNat = y at *
          go_wp2_with fail
          go_roundg (ks.length - (k + 1))
          case measure => have := HRr.out; omega
          case rel => exact ⟨k + 1, by omega, rfl, by go_num, by rw [← HMN.out]; go_num, HB2.out, hc6⟩
      · have g1 : decide ((k : Int) < (ks.length : Int)) = true := decide_eq_true (by omega)
        have g2 : decide ((z : Int) < mi) = false := decide_eq_false hzm
        have g3 : decide (mi ≤ (z : Int)) = true := decide_eq_true (by omega)
        go_wp2_with fail
        all_goals
         go_ret
         have h1 := HZ.out
         have h2 := HT.out
         have h3 := HMM.out
         exact ⟨congrArg (fun x : Int => Ending.returned (Value.int .i64 x)) (by omega), HB.out⟩
    · have g1 : decide ((k : Int) < (ks.length : Int)) = false := decide_eq_false (by omega)
      go_wp2_with fail
      all_goals
       go_ret
       have hkk : k = ks.length := by omega
       have h1 := HZ.out
       have h3 := HMM.out
       rw [hkk, List.take_length] at h1
       exact ⟨congrArg (fun x : Int => Ending.returned (Value.int .i64 x)) (by omega), HB.out⟩

theorem rSize_any (t : Node) (A : Option Addr) (cap : Nat) (w : World) (h : NodeAt w w.heap.size t A cap) :
  Calls Tryd.prog 8 #[nodeT t A cap] w fun e w' => e = .returned (.int .i64 (min (nodes t) 2001 : Nat)) ∧ Below w.heap.size w w' := by
 have HI := Lib.hid (fun W hW => count_any t A cap 2001 W hW (by decide) (by decide))
 have HC := Lib.hid h
 clear h
 cases t with
 | node o s n p ks =>
   simp only [nodeT, nodeW, Node.op, Node.name, Node.num, Node.pos, Node.kids] at HI ⊢
   go_enter Tryd.func8, Tryd.ntmps8
   go_wp2_with fail
   refine (HI.out _ (HC.out.later ((Below.refl _ _).alloc (Nat.le_refl _) _) (by simp))).mono ?_
   rintro e w2 ⟨rfl, hb2⟩
   have HB := Lib.hid (((Below.refl w.heap.size w).alloc (Nat.le_refl _) (boxN o s n p ks.length A cap)).trans (hb2.mono (by simp)))
   clear hb2
   go_wp2_with fail
   go_ret
   exact ⟨rfl, HB.out⟩
end Go.Proofs.YteikakoheibnjaaDoor
