/- Parts of the proof: EvS, EvG1. -/
import Derived.IntWalk
import Derived.Test.YtpknalhjgbgpiaaGreatDoorM2
namespace Go.Proofs.YtpknalhjgbgpiaaGreatDoor
open Go Go.RowKit
-- keys
structure KC where
  K : Type
  dec : DecidableEq K
  kv : K → Value
  enc : K → Nat
  ok : K → Prop
  inj : ∀ a b, ok a → ok b → enc a = enc b → a = b
def codeF (l : List Nat) (c : Nat) : Nat := l.foldl (fun c x => x + 256 * c) c
theorem codeS_eq (l : List Nat) (c : Nat) (k : Nat → Bool) : codeS l c k = k (codeF l c) := by
  induction l generalizing c with
  | nil => exact fN_eq c k
  | cons x l ih => exact ih _
theorem codeF_snoc (l : List Nat) (x c : Nat) : codeF (l ++ [x]) c = x + 256 * codeF l c := by simp [codeF]
theorem codeF_inj {a b : List Nat} (ha : ∀ x ∈ a, x < 256) (hb : ∀ x ∈ b, x < 256) (h : codeF a 1 = codeF b 1) : a = b := by
  have pos : ∀ l : List Nat, 1 ≤ codeF l 1 := fun l => by
    have : ∀ (l : List Nat) (c : Nat), 1 ≤ c → 1 ≤ codeF l c := fun l => by
      induction l with
      | nil => exact fun c h => h
      | cons x l ih => exact fun c h => ih (x + 256 * c) (by omega)
    exact this l 1 (Nat.le_refl _)
  have key : ∀ (n : Nat) (a b : List Nat), a.length = n → (∀ x ∈ a, x < 256) → (∀ x ∈ b, x < 256) → codeF a 1 = codeF b 1 → a = b := by
    intro n
    induction n with
    | zero =>
      intro a b hn _ hb h
      have : a = [] := List.length_eq_zero_iff.1 hn
      subst this
      rcases List.eq_nil_or_concat b with rfl | ⟨b', y, rfl⟩
      · rfl
      · rw [List.concat_eq_append, codeF_snoc] at h
        have := pos b'
        have h1 : codeF [] 1 = 1 := rfl
        omega
    | succ n ih =>
      intro a b hn ha hb h
      rcases List.eq_nil_or_concat a with rfl | ⟨a', x, rfl⟩
      · simp at hn
      rcases List.eq_nil_or_concat b with rfl | ⟨b', y, rfl⟩
      · rw [List.concat_eq_append, codeF_snoc] at h
        have := pos a'
        have h1 : codeF [] 1 = 1 := rfl
        omega
      · simp only [List.concat_eq_append] at *
        rw [codeF_snoc, codeF_snoc] at h
        have hx := ha x (by simp)
        have hy := hb y (by simp)
        have e1 : x = y := by omega
        have e2 : codeF a' 1 = codeF b' 1 := by omega
        have := ih a' b' (by simpa using hn) (fun z hz => ha z (by simp [hz])) (fun z hz => hb z (by simp [hz])) e2
        rw [this, e1]
  exact key _ a b rfl ha hb h
theorem bytesOf_lt (b : ByteArray) : ∀ x ∈ bytesOf b, x < 256 := by
  intro x hx
  obtain ⟨u, _, rfl⟩ := List.mem_map.1 hx
  exact u.toNat_lt
theorem bytesOf_inj {a b : ByteArray} (h : bytesOf a = bytesOf b) : a = b := by
  obtain ⟨⟨a⟩⟩ := a
  obtain ⟨⟨b⟩⟩ := b
  have h' : a.map UInt8.toNat = b.map UInt8.toNat := h
  have inj : ∀ x y : UInt8, x.toNat = y.toNat → x = y := fun x y h => UInt8.toNat_inj.1 h
  have : a = b := by
    clear h
    induction a generalizing b with
    | nil => cases b with
      | nil => rfl
      | cons y b => simp at h'
    | cons x a ih => cases b with
      | nil => simp at h'
      | cons y b =>
        simp only [List.map_cons, List.cons.injEq] at h'
        rw [inj _ _ h'.1, ih b h'.2]
  rw [this]
def kcI : KC := ⟨Nat, inferInstance, fun n => .int .i64 n, id, fun _ => True, fun _ _ _ _ h => h⟩
def kcS : KC := ⟨ByteArray, inferInstance, fun b => .string b, fun b => codeF (bytesOf b) 1, fun _ => True, fun a b _ _ h => bytesOf_inj (codeF_inj (bytesOf_lt a) (bytesOf_lt b) h)⟩
def kcP : KC := ⟨Nat × Nat, inferInstance, fun p => .agg #[.int .i64 p.1, .int .i64 p.2], fun p => p.1 * 1048576 + p.2, fun p => p.2 < 1048576, fun a b ha hb h => by
  obtain ⟨a, a'⟩ := a
  obtain ⟨b, b'⟩ := b
  simp only at *
  have h1 : a = b := by omega
  have h2 : a' = b' := by omega
  rw [h1, h2]⟩
def encB : BN → Nat
  | .leaf v => 2 * v.toNat
  | .fork t lo hi => 2 * ((t * 1048576 + lo) * 1048576 + hi) + 1
def okB : BN → Prop
  | .leaf v => 0 ≤ v
  | .fork _ lo hi => lo < 1048576 ∧ hi < 1048576
def kcN : KC := ⟨BN, inferInstance, nodeV, encB, okB, fun a b ha hb h => by
  cases a <;> cases b <;> simp only [encB, okB] at *
  · rename_i v u
    have : v = u := by omega
    rw [this]
  · omega
  · omega
  · rename_i t lo hi t' lo' hi'
    have e3 : hi = hi' := by omega
    have e2 : lo = lo' := by omega
    have e1 : t = t' := by omega
    rw [e1, e2, e3]⟩
def kcOf : Nat → Option KC
  | 0 => some kcI
  | 1 => some kcS
  | 2 => some kcP
  | 3 => some kcN
  | _ => none
/-- A map's entries. -/
def MapR (m : Mp) (F : Int) (cl : Nat) (es : List (Nat × A)) (obj : Obj) : Prop :=
  ∃ C, kcOf cl = some C ∧ ∃ l : List (C.K × Value), obj = .map (kents C.kv l 0).toArray l.length ∧ (∀ e ∈ l, C.ok e.1) ∧ es.map (·.1) = l.map (fun e => C.enc e.1) ∧ VRs m F (es.map (·.2)) (l.map (·.2))
/-- A block: so many cells of it there are. -/
def OR (m : Mp) (F : Int) (z : Nat) : O → Obj → Prop
  | .cells l, .cells c _ fr => c.size = z ∧ VRs m F l (c.toList.take l.length) ∧ (fr.2 ≤ fr.1 ∨ z ≤ fr.1) ∧ ∀ x ∈ l, oneA x = true
  | .map cl es, obj => MapR m F cl es obj
  | .iter l pos, .stringIter s p => bytesOf s = l ∧ p = pos
  | _, _ => False
theorem OR.mono {m m' : Mp} {F : Int} {z : Nat} (hm : m.le m') {o : O} {obj : Obj} (h : OR m F z o obj) : OR m' F z o obj := by
  cases o with
  | none => cases obj <;> exact h
  | cells l => cases obj with
    | cells c t fr => exact ⟨h.1, h.2.1.mono hm, h.2.2⟩
    | _ => exact h
  | map cl es =>
    obtain ⟨C, hC, l, h1, h2, h3, h4⟩ := h
    exact ⟨C, hC, l, h1, h2, h3, h4.mono hm⟩
  | iter l pos => cases obj <;> exact h
/-- What there was: the world, the blocks that may turn, the evaluator's own memory. -/
structure Base where
  W : World
  own : Nat → Prop
  m : Mp
  s : S
structure St (F : Int) (b : Base) (m : Mp) (s : S) (w : World) : Prop where
  live : ∀ q β z, m q = some (β, z) → getO q s.h ≠ .none → ∃ obj, w.heap[β]? = some obj ∧ OR m F z (getO q s.h) obj
  inj : ∀ q q' β z z', m q = some (β, z) → m q' = some (β, z') → getO q s.h ≠ .none → getO q' s.h ≠ .none → q = q'
  lt : ∀ q β z, m q = some (β, z) → β < w.heap.size
  fresh : ∀ q, numOf s.next ≤ numOf q → getO q s.h = .none ∧ m q = none
  mono : b.m.le m
  next : numOf b.s.next ≤ numOf s.next
  old : ∀ q, numOf q < numOf b.s.next → b.m q = none → m q = none ∧ getO q s.h = getO q b.s.h
  fr : Fr b.own b.W w
  own : ∀ q β z, m q = some (β, z) → getO q s.h ≠ .none → b.own β ∨ b.W.heap.size ≤ β
  lo : (s.lo : Int) ≤ F
  hi : s.hi = 0 ∨ F < s.hi
  glob : ∀ g, g < 4 → ∃ z, b.m (numQ g) = some (g, z)
section
variable {F : Int} {b : Base} {m m' : Mp} {s s' : S} {w w' : World}
/-- The blocks that are in use. -/
def liveB (m : Mp) (s : S) (β : Nat) : Prop := ∃ q z, m q = some (β, z) ∧ getO q s.h ≠ .none
def St.base (_ : St F b m s w) : Base := ⟨w, liveB m s, m, s⟩
theorem St.rebase (h : St F b m s w) : St F ⟨w, liveB m s, m, s⟩ m s w :=
  ⟨h.live, h.inj, h.lt, h.fresh, fun _ _ h => h, Nat.le_refl _, fun _ _ h => ⟨h, rfl⟩, Fr.refl _ _, fun q _β z h1 h2 => .inl ⟨q, z, h1, h2⟩, h.lo, h.hi, fun g hg => let ⟨z, e⟩ := h.glob g hg; ⟨z, h.mono _ _ e⟩⟩
theorem St.trans (h : St F b m s w) (k : St F ⟨w, liveB m s, m, s⟩ m' s' w') : St F b m' s' w' where
  live := k.live
  inj := k.inj
  lt := k.lt
  fresh := k.fresh
  mono := Mp.le_trans h.mono k.mono
  next := Nat.le_trans h.next k.next
  old q hq hn := by
    obtain ⟨h1, h2⟩ := h.old q hq hn
    obtain ⟨k1, k2⟩ := k.old q (Nat.lt_of_lt_of_le hq h.next) h1
    exact ⟨k1, k2.trans h2⟩
  fr := ⟨k.fr.os.trans h.fr.os, k.fr.tape.trans h.fr.tape, k.fr.output.trans h.fr.output, Nat.le_trans h.fr.size k.fr.size, fun i hi hn => by
    refine (k.fr.block i (Nat.lt_of_lt_of_le hi h.fr.size) ?_).trans (h.fr.block i hi hn)
    rintro ⟨q, z, h1, h2⟩
    rcases h.own q i z h1 h2 with ho | ho
    · exact hn ho
    · omega⟩
  own q β z h1 h2 := by
    rcases k.own q β z h1 h2 with ⟨q', z', h3, h4⟩ | h3
    · exact h.own q' β z' h3 h4
    · exact .inr (Nat.le_trans h.fr.size h3)
  lo := k.lo
  hi := k.hi
  glob := h.glob
/-- Another drawing turns nothing. -/
theorem St.drewN (h : St F b m s w) (n : Nat) : St F b m s (w.drewN n) :=
  ⟨h.live, h.inj, h.lt, h.fresh, h.mono, h.next, h.old, h.fr.drewN n, h.own, h.lo, h.hi, h.glob⟩
/-- A new block of the evaluator's, as yet in no world. -/
theorem St.new (h : St F b m s w) {o : O} {r : Q} (hr : numOf r = numOf s.next + 1) : St F b m ⟨(s.put s.next o).h, r, s.lo, s.hi⟩ w := by
  have hm : m s.next = none := (h.fresh s.next (Nat.le_refl _)).2
  have ne : ∀ q β z, m q = some (β, z) → q ≠ s.next := fun q β z hq e => by rw [e, hm] at hq; cases hq
  have g : ∀ q, q ≠ s.next → getO q (s.put s.next o).h = getO q s.h := fun q hq => s.get_put_ne hq o
  refine ⟨fun q β z hq hl => ?_, fun q q' β z z' hq hq' hl hl' => ?_, h.lt, fun q hq => ?_, h.mono, ?_, fun q hq hn => ?_, h.fr, fun q β z hq hl => ?_, h.lo, h.hi, h.glob⟩
  · simp only [g q (ne q β z hq)] at *
    exact h.live q β z hq hl
  · simp only [g q (ne q β z hq), g q' (ne q' β z' hq')] at *
    exact h.inj q q' β z z' hq hq' hl hl'
  · have hne : q ≠ s.next := fun e => by rw [e] at hq; simp only at hq; omega
    simp only at hq ⊢
    rw [g q hne]
    exact h.fresh q (by omega)
  · simp only
    have := h.next
    omega
  · have hne : q ≠ s.next := fun e => by rw [e] at hq; have := h.next; omega
    rw [g q hne]
    exact h.old q hq hn
  · simp only [g q (ne q β z hq)] at *
    exact h.own q β z hq hl
noncomputable def Mp.set_ (m : Mp) (q : Q) (r : Nat × Nat) : Mp := fun q' => if numOf q' = numOf q then some r else m q'
theorem Mp.set_same (m : Mp) (q : Q) (r : Nat × Nat) : m.set_ q r q = some r := if_pos rfl
theorem Mp.set_ne (m : Mp) {q q' : Q} (r : Nat × Nat) (h : q' ≠ q) : m.set_ q r q' = m q' := if_neg fun e => h (numOf_inj e)
theorem Mp.le_set {m : Mp} {q : Q} (h : m q = none) (r : Nat × Nat) : m.le (m.set_ q r) := fun q' r' e => by
  rw [Mp.set_ne m r]
  · exact e
  · rintro rfl
    rw [h] at e
    cases e
/-- .. comes to lie in the world. -/
theorem St.born (h : St F b m s w) {q : Q} (hq : numOf q < numOf s.next) (hb : numOf b.s.next ≤ numOf q) (hm : m q = none) {obj : Obj} {z : Nat} (ho : OR m F z (getO q s.h) obj) :
    St F b (m.set_ q (w.heap.size, z)) s (w.alloc obj) ∧ m.le (m.set_ q (w.heap.size, z)) := by
  have hle := Mp.le_set hm (w.heap.size, z)
  have sz : (w.alloc obj).heap.size = w.heap.size + 1 := by simp
  have old : ∀ i, i < w.heap.size → (w.alloc obj).heap[i]? = w.heap[i]? := fun i hi => Below.heap_alloc w obj i hi
  have cs : ∀ q' β z', m.set_ q (w.heap.size, z) q' = some (β, z') → (q' = q ∧ β = w.heap.size ∧ z' = z) ∨ (q' ≠ q ∧ m q' = some (β, z')) := by
    intro q' β z' e
    by_cases hqq : q' = q
    · subst hqq
      rw [Mp.set_same] at e
      injection e with e
      injection e with e1 e2
      exact .inl ⟨rfl, e1.symm, e2.symm⟩
    · rw [Mp.set_ne m _ hqq] at e
      exact .inr ⟨hqq, e⟩
  refine ⟨⟨fun q' β z' e hl => ?_, fun q1 q2 β z1 z2 e1 e2 l1 l2 => ?_, fun q' β z' e => ?_, fun q' hq' => ?_, Mp.le_trans h.mono hle, h.next, fun q' hq' hn => ?_, h.fr.alloc obj, fun q' β z' e hl => ?_, h.lo, h.hi, h.glob⟩, hle⟩
  · rcases cs q' β z' e with ⟨rfl, rfl, rfl⟩ | ⟨_, e'⟩
    · exact ⟨obj, heap_alloc_new w obj, ho.mono hle⟩
    · obtain ⟨ob, h1, h2⟩ := h.live q' β z' e' hl
      exact ⟨ob, (old β (h.lt q' β z' e')).trans h1, h2.mono hle⟩
  · rcases cs q1 β z1 e1 with ⟨rfl, rfl, rfl⟩ | ⟨_, e1'⟩ <;> rcases cs q2 _ z2 e2 with ⟨rfl, hb2, rfl⟩ | ⟨_, e2'⟩
    · rfl
    · have := h.lt q2 _ z2 e2'
      omega
    · have := h.lt q1 _ z1 e1'
      omega
    · exact h.inj q1 q2 β z1 z2 e1' e2' l1 l2
  · rcases cs q' β z' e with ⟨rfl, rfl, rfl⟩ | ⟨_, e'⟩
    · omega
    · have := h.lt q' β z' e'
      omega
  · obtain ⟨h1, h2⟩ := h.fresh q' hq'
    refine ⟨h1, ?_⟩
    rw [Mp.set_ne m]
    · exact h2
    · rintro rfl
      omega
  · obtain ⟨h1, h2⟩ := h.old q' hq' hn
    refine ⟨?_, h2⟩
    rw [Mp.set_ne m]
    · exact h1
    · rintro rfl
      omega
  · rcases cs q' β z' e with ⟨rfl, rfl, rfl⟩ | ⟨_, e'⟩
    · exact .inr h.fr.size
    · exact h.own q' β z' e' hl
/-- The world but for one block. -/
structure But (β : Nat) (obj : Obj) (w w' : World) : Prop where
  os : w'.os = w.os
  tape : w'.tape = w.tape
  output : w'.output = w.output
  size : w'.heap.size = w.heap.size
  at_ : w'.heap[β]? = some obj
  other : ∀ i, i ≠ β → w'.heap[i]? = w.heap[i]?
theorem But.fr {β : Nat} {obj : Obj} (h : But β obj w w') {S : Nat → Prop} {a : World} (k : Fr S a w) (hb : S β ∨ a.heap.size ≤ β) : Fr S a w' :=
  ⟨h.os.trans k.os, h.tape.trans k.tape, h.output.trans k.output, by rw [h.size]; exact k.size, fun i hi hn => (h.other i (by
    rintro rfl
    rcases hb with hb | hb
    · exact hn hb
    · omega)).trans (k.block i hi hn)⟩
/-- A block turns, in the memory and in the world. -/
theorem St.turn (h : St F b m s w) {q : Q} {β z : Nat} (hq : m q = some (β, z)) (hl : getO q s.h ≠ .none) {o : O} {obj : Obj} (ho : OR m F z o obj) (hw : But β obj w w') : St F b m (s.put q o) w' := by
  have g : ∀ r, r ≠ q → getO r (s.put q o).h = getO r s.h := fun r hr => s.get_put_ne hr o
  have gs : getO q (s.put q o).h = o := s.get_put_same q o
  have lv : ∀ r, getO r (s.put q o).h ≠ .none → getO r s.h ≠ .none := fun r hr => by
    by_cases e : r = q
    · rw [e]; exact hl
    · rw [g r e] at hr; exact hr
  refine ⟨fun r β' z' hr hv => ?_, fun q1 q2 β' z1 z2 e1 e2 l1 l2 => h.inj q1 q2 β' z1 z2 e1 e2 (lv _ l1) (lv _ l2), fun r β' z' hr => by rw [hw.size]; exact h.lt r β' z' hr, fun r hr => ?_, h.mono, h.next, fun r hr hn => ?_, hw.fr h.fr (h.own q β z hq hl), fun r β' z' hr hv => h.own r β' z' hr (lv _ hv), h.lo, h.hi, h.glob⟩
  · by_cases e : r = q
    · subst e
      rw [hq] at hr
      injection hr with hr
      injection hr with hr1 hr2
      subst hr1; subst hr2
      exact ⟨obj, hw.at_, by rw [gs]; exact ho⟩
    · rw [g r e] at hv ⊢
      obtain ⟨ob, h1, h2⟩ := h.live r β' z' hr hv
      have hne : β' ≠ β := fun eb => e (h.inj r q β z' z (eb ▸ hr) hq hv hl)
      exact ⟨ob, (hw.other β' hne).trans h1, h2⟩
  · obtain ⟨h1, h2⟩ := h.fresh r hr
    have e : r ≠ q := by rintro rfl; rw [hq] at h2; cases h2
    rw [g r e]
    exact ⟨h1, h2⟩
  · obtain ⟨h1, h2⟩ := h.old r hr hn
    have e : r ≠ q := by rintro rfl; rw [hq] at h1; cases h1
    rw [g r e]
    exact ⟨h1, h2⟩
/-- A block is given up. -/
theorem St.kill (h : St F b m s w) {q : Q} {r : Nat × Nat} (hq : m q = some r) : St F b m (s.put q .none) w := by
  have g : ∀ r, r ≠ q → getO r (s.put q .none).h = getO r s.h := fun r hr => s.get_put_ne hr _
  have lv : ∀ r, getO r (s.put q .none).h ≠ .none → r ≠ q ∧ getO r s.h ≠ .none := fun r hr => by
    by_cases e : r = q
    · rw [e, s.get_put_same] at hr; exact absurd rfl hr
    · rw [g r e] at hr; exact ⟨e, hr⟩
  refine ⟨fun r β' z' hr hv => ?_, fun q1 q2 β' z1 z2 e1 e2 l1 l2 => h.inj q1 q2 β' z1 z2 e1 e2 (lv _ l1).2 (lv _ l2).2, h.lt, fun r hr => ?_, h.mono, h.next, fun r hr hn => ?_, h.fr, fun r β' z' hr hv => h.own r β' z' hr (lv _ hv).2, h.lo, h.hi, h.glob⟩
  · rw [g r (lv r hv).1]
    exact h.live r β' z' hr (lv r hv).2
  · obtain ⟨h1, h2⟩ := h.fresh r hr
    have e : r ≠ q := by rintro rfl; rw [hq] at h2; cases h2
    rw [g r e]
    exact ⟨h1, h2⟩
  · obtain ⟨h1, h2⟩ := h.old r hr hn
    have e : r ≠ q := by rintro rfl; rw [hq] at h1; cases h1
    rw [g r e]
    exact ⟨h1, h2⟩
/-- A block is given up, and a new one lies in its place. -/
theorem St.heir (h : St F b m s w) {q : Q} {β z : Nat} (hq : m q = some (β, z)) (hl : getO q s.h ≠ .none) {o : O} {obj : Obj} (ho : OR m F z o obj) (hw : But β obj w w') {r : Q} (hr : numOf r = numOf s.next + 1) :
    St F b (m.set_ s.next (β, z)) ⟨((s.put q .none).put s.next o).h, r, s.lo, s.hi⟩ w' ∧ m.le (m.set_ s.next (β, z)) := by
  have hm : m s.next = none := (h.fresh s.next (Nat.le_refl _)).2
  have hle := Mp.le_set hm (β, z)
  have hqn : q ≠ s.next := fun e => by rw [e, hm] at hq; cases hq
  have gn : getO s.next ((s.put q .none).put s.next o).h = o := S.get_put_same _ _ _
  have gq : getO q ((s.put q .none).put s.next o).h = .none := by rw [S.get_put_ne _ hqn, s.get_put_same]
  have g : ∀ r, r ≠ q → r ≠ s.next → getO r ((s.put q .none).put s.next o).h = getO r s.h := fun r h1 h2 => by rw [S.get_put_ne _ h2, s.get_put_ne h1]
  have cs : ∀ q' β' z', m.set_ s.next (β, z) q' = some (β', z') → getO q' ((s.put q .none).put s.next o).h ≠ .none → (q' = s.next ∧ β' = β ∧ z' = z) ∨ (q' ≠ s.next ∧ q' ≠ q ∧ m q' = some (β', z') ∧ getO q' s.h ≠ .none) := by
    intro q' β' z' e hv
    by_cases hqq : q' = s.next
    · subst hqq
      rw [Mp.set_same] at e
      injection e with e
      injection e with e1 e2
      exact .inl ⟨rfl, e1.symm, e2.symm⟩
    · rw [Mp.set_ne m _ hqq] at e
      have e2 : q' ≠ q := by rintro rfl; exact hv gq
      rw [g q' e2 hqq] at hv
      exact .inr ⟨hqq, e2, e, hv⟩
  refine ⟨⟨fun q' β' z' e hv => ?_, fun q1 q2 β' z1 z2 e1 e2 l1 l2 => ?_, fun q' β' z' e => ?_, fun q' hq' => ?_, Mp.le_trans h.mono hle, ?_, fun q' hq' hn => ?_, hw.fr h.fr (h.own q β z hq hl), fun q' β' z' e hv => ?_, h.lo, h.hi, h.glob⟩, hle⟩
  · rcases cs q' β' z' e hv with ⟨rfl, rfl, rfl⟩ | ⟨h1, h2, h3, h4⟩
    · exact ⟨obj, hw.at_, by rw [gn]; exact ho.mono hle⟩
    · obtain ⟨ob, k1, k2⟩ := h.live q' β' z' h3 h4
      have hne : β' ≠ β := fun eb => h2 (h.inj q' q β z' z (eb ▸ h3) hq h4 hl)
      exact ⟨ob, (hw.other β' hne).trans k1, by rw [g q' h2 h1]; exact k2.mono hle⟩
  · rcases cs q1 β' z1 e1 l1 with ⟨rfl, rfl, rfl⟩ | ⟨h1, h2, h3, h4⟩ <;> rcases cs q2 _ z2 e2 l2 with ⟨rfl, hb2, rfl⟩ | ⟨k1, k2, k3, k4⟩
    · rfl
    · exact absurd (h.inj q2 q _ z2 _ k3 hq k4 hl) k2
    · exact absurd (h.inj q1 q _ z1 _ h3 (hb2 ▸ hq) h4 hl) h2
    · exact h.inj q1 q2 β' z1 z2 h3 k3 h4 k4
  · rw [hw.size]
    by_cases hqq : q' = s.next
    · subst hqq
      rw [Mp.set_same] at e
      injection e with e
      injection e with e1 e2
      rw [← e1]
      exact h.lt q β z hq
    · rw [Mp.set_ne m _ hqq] at e
      exact h.lt q' β' z' e
  · have hne : q' ≠ s.next := fun e => by rw [e] at hq'; simp only at hq'; omega
    obtain ⟨h1, h2⟩ := h.fresh q' (by simp only at hq'; omega)
    have e : q' ≠ q := by rintro rfl; rw [hq] at h2; cases h2
    simp only
    rw [g q' e hne, Mp.set_ne m _ hne]
    exact ⟨h1, h2⟩
  · have := h.next
    simp only
    omega
  · obtain ⟨h1, h2⟩ := h.old q' hq' hn
    have hne : q' ≠ s.next := fun e => by rw [e] at hq'; have := h.next; omega
    have e : q' ≠ q := by rintro rfl; rw [hq] at h1; cases h1
    simp only
    rw [g q' e hne, Mp.set_ne m _ hne]
    exact ⟨h1, h2⟩
  · rcases cs q' β' z' e hv with ⟨rfl, rfl, rfl⟩ | ⟨h1, h2, h3, h4⟩
    · exact h.own q β' z' hq hl
    · exact h.own q' β' z' h3 h4
end
end Go.Proofs.YtpknalhjgbgpiaaGreatDoor
namespace Go.Proofs.YtpknalhjgbgpiaaGreatDoor
open Go Go.RowKit
/-- An operation of two values. -/
def BinR (g : G2) (op : BinOp) (t : TypeId) : Prop := ∀ (m : Mp) (F : Int) (v u : A) (y z : Value) (c : KA), VR m F v y → VR m F u z → g v u c = true →
  ∃ v', (∀ c', g v u c' = c' v') ∧ ∃ y', VR m F v' y' ∧ ∀ (x1 x2 : Operand) (w : World), (do eqGuard op t x1 x2 y z; binOp op t y z : Sem Value).run Tryz.prog w = .ok y' w
section
variable {m : Mp} {F : Int} {v : A} {y : Value}
theorem VR.i_inv {n : Int} (h : VR m F (.i n) y) : y = .int .i64 n := by cases h; rfl
theorem VR.j_inv {k : IntKind} {n : Int} (h : VR m F (.j k n) y) : y = .int k n := by cases h; rfl
theorem VR.b_inv {b : Bool} (h : VR m F (.b b) y) : y = .bool b := by cases h; rfl
theorem VR.s_inv {l : List Nat} (h : VR m F (.s l) y) : ∃ b, y = .string b ∧ bytesOf b = l := by cases h with | s b => exact ⟨b, rfl, rfl⟩
theorem VR.p_inv {q : Q} {o : Nat} (h : VR m F (.p q o) y) : ∃ β z, m q = some (β, z) ∧ y = .pointer (some ⟨β, o, none⟩) := by cases h with | p h => exact ⟨_, _, h, rfl⟩
theorem VR.sl_inv {q : Q} {o l e : Nat} {c : Option Nat} (h : VR m F (.sl q o l e c) y) : ∃ β z cc, m q = some (β, z) ∧ l ≤ cc ∧ o + cc * e ≤ z ∧ (∀ n, c = some n → cc = n) ∧ y = .slice (some ⟨β, o, none⟩) l cc := by cases h with | sl h h1 h2 h3 => exact ⟨_, _, _, h, h1, h2, h3, rfl⟩
theorem VR.m_inv {q : Q} (h : VR m F (.m q) y) : ∃ β z, m q = some (β, z) ∧ y = .map (some β) := by cases h with | m h => exact ⟨_, _, h, rfl⟩
theorem VR.t_inv {t : TypeId} {u : A} (h : VR m F (.t t u) y) : ∃ x, y = .iface t x ∧ VR m F u x := by cases h with | t h => exact ⟨_, rfl, h⟩
theorem VR.z0_inv (h : VR m F (.z 0) y) : y = .pointer none := by cases h; rfl
theorem VR.z1_inv (h : VR m F (.z 1) y) : y = .slice none 0 0 := by cases h; rfl
theorem VR.z2_inv (h : VR m F (.z 2) y) : y = .map none := by cases h; rfl
theorem VR.z4_inv (h : VR m F (.z 4) y) : y = .nilIface := by cases h; rfl
/-- Any number. -/
theorem asJ_VR {k : IntKind → Int → Bool} (h : asJ v k = true) (hv : VR m F v y) : ∃ a n, y = .int a n ∧ k a n = true ∧ ∀ k', asJ v k' = k' a n := by
  rcases asJ_iff.1 h with ⟨n, rfl, hk⟩ | ⟨a, n, rfl, hk⟩
  · exact ⟨.i64, n, hv.i_inv, hk, fun _ => rfl⟩
  · exact ⟨a, n, hv.j_inv, hk, fun _ => rfl⟩
end
theorem ifB_pos {c x y : Bool} (h : c = true) : ifB c x y = x := by rw [h]; rfl
theorem ifB_neg {c x y : Bool} (h : c = false) : ifB c x y = y := by rw [h]; rfl
theorem mk64_eq {x : Int} (h : -9223372036854775808 ≤ x ∧ x ≤ 9223372036854775807) (c : KA) : mk64 x c = c (.i x) := by
  have := mk64_iff (x := x) (k := c)
  cases e : c (.i x) with
  | true => exact this.2 ⟨h, e⟩
  | false =>
    cases e' : mk64 x c with
    | false => rfl
    | true => rw [(this.1 e').2] at e; cases e
theorem wrap64 {x : Int} (h : -9223372036854775808 ≤ x ∧ x ≤ 9223372036854775807) : IntKind.i64.wrap x = x := IntWalk.i64_in _ ⟨by omega, by omega⟩
section
variable {t : TypeId}
theorem guard_int (op : BinOp) (x1 x2 : Operand) (j k : IntKind) (a b : Int) (w : World) : (eqGuard op t x1 x2 (.int j a) (.int k b)).run Tryz.prog w = .ok () w := by
  cases op <;> rfl
theorem guard_str (op : BinOp) (x1 x2 : Operand) (a b : ByteArray) (w : World) : (eqGuard op t x1 x2 (.string a) (.string b)).run Tryz.prog w = .ok () w := by
  cases op <;> rfl
theorem guard_bool (op : BinOp) (x1 x2 : Operand) (a b : Bool) (w : World) : (eqGuard op t x1 x2 (.bool a) (.bool b)).run Tryz.prog w = .ok () w := by
  cases op <;> rfl
theorem guard_ptr (op : BinOp) (x1 x2 : Operand) (a b : Option Addr) (w : World) : (eqGuard op t x1 x2 (.pointer a) (.pointer b)).run Tryz.prog w = .ok () w := by
  cases op <;> rfl
theorem guard_slice (op : BinOp) (x1 x2 : Operand) (a b : Option Addr) (n k i j : Nat) (w : World) : (eqGuard op t x1 x2 (.slice a n i) (.slice b k j)).run Tryz.prog w = .ok () w := by
  cases op <;> rfl
/-- Arithmetic within 64 bits. -/
theorem g64_R {g : Int → Int → Int} {op : BinOp} (h : ∀ (a b : Int) (w : World), (binOp op t (.int .i64 a) (.int .i64 b)).run Tryz.prog w = .ok (.int .i64 (IntKind.i64.wrap (g a b))) w) : BinR (g64 g) op t := by
  intro m F v u y z c hv hu hg
  unfold g64 at hg
  obtain ⟨a, rfl, g1⟩ := asI_iff.1 hg
  obtain ⟨b, rfl, g2⟩ := asI_iff.1 g1
  obtain ⟨hr, g3⟩ := mk64_iff.1 g2
  obtain rfl := hv.i_inv
  obtain rfl := hu.i_inv
  refine ⟨.i (g a b), fun c' => mk64_eq hr c', _, .i _, fun x1 x2 w => ?_⟩
  rw [Sem.run_bind, guard_int]
  exact (h a b w).trans (by rw [wrap64 hr])
theorem gcmp_R {g : Int → Int → Bool} {op : BinOp} (h : ∀ (a b : Int) (w : World), (binOp op t (.int .i64 a) (.int .i64 b)).run Tryz.prog w = .ok (.bool (g a b)) w) : BinR (gcmp g) op t := by
  intro m F v u y z c hv hu hg
  unfold gcmp at hg
  obtain ⟨a, rfl, g1⟩ := asI_iff.1 hg
  obtain ⟨b, rfl, g2⟩ := asI_iff.1 g1
  obtain rfl := hv.i_inv
  obtain rfl := hu.i_inv
  refine ⟨.b (g a b), fun c' => fB_eq _ _, _, .b _, fun x1 x2 w => ?_⟩
  rw [Sem.run_bind, guard_int]
  exact h a b w
theorem add_R : BinR (g64 addI) .add t := g64_R fun a b w => by rw [addI_eq]; simp [binOp, Op.intArith]
theorem sub_R : BinR (g64 subI) .sub t := g64_R fun a b w => by rw [subI_eq]; simp [binOp, Op.intArith]
theorem mul_R : BinR (g64 Int.mul) .mul t := g64_R fun a b w => by
  show _ = Result.ok (Value.int .i64 (IntKind.i64.wrap (a * b))) w
  simp [binOp, Op.intArith]
theorem eql_R : BinR (gcmp eqI) .eql t := gcmp_R fun a b w => by
  rw [eqI_eq]
  simp [binOp, Op.intCmp]
  rfl
theorem neq_R : BinR (gcmp fun a b => notB (eqI a b)) .neq t := gcmp_R fun a b w => by
  rw [eqI_eq, notB_eq]
  simp [binOp, Op.intCmp]
  rfl
theorem lss_R : BinR (gcmp ltI) .lss t := gcmp_R fun a b w => by
  rw [ltI_eq]
  simp [binOp, Op.intCmp]
theorem leq_R : BinR (gcmp fun a b => notB (ltI b a)) .leq t := gcmp_R fun a b w => by
  rw [ltI_eq, notB_eq]
  have : (!decide (b < a)) = decide (a ≤ b) := by rw [Bool.eq_iff_iff]; simp; 
  rw [this]
  simp [binOp, Op.intCmp]
theorem gtr_R : BinR (gcmp fun a b => ltI b a) .gtr t := gcmp_R fun a b w => by
  rw [ltI_eq]
  simp [binOp, Op.intCmp]
theorem geq_R : BinR (gcmp fun a b => notB (ltI a b)) .geq t := gcmp_R fun a b w => by
  rw [ltI_eq, notB_eq]
  have : (!decide (a < b)) = decide (b ≤ a) := by rw [Bool.eq_iff_iff]; simp
  rw [this]
  simp [binOp, Op.intCmp]
/-- What wants numbers that are not below 0. -/
theorem gnat_R {g : Nat → Nat → Nat} {p : Nat → Bool} {G : G2} {op : BinOp} (hG : ∀ x y c, G x y c = asI x fun a => asI y fun b => natI a fun a => natI b fun b => ifB (p b) (mk64 (Int.ofNat (g a b)) c) false)
    (h : ∀ (a b : Nat) (w : World), p b = true → (g a b : Int) ≤ 9223372036854775807 → (binOp op t (.int .i64 a) (.int .i64 b)).run Tryz.prog w = .ok (.int .i64 (g a b)) w) : BinR G op t := by
  intro m F v u y z c hv hu hg
  rw [hG] at hg
  obtain ⟨a, rfl, g1⟩ := asI_iff.1 hg
  obtain ⟨b, rfl, g2⟩ := asI_iff.1 g1
  obtain ⟨a, rfl, g3⟩ := natI_iff.1 g2
  obtain ⟨b, rfl, g4⟩ := natI_iff.1 g3
  obtain ⟨hp, g5⟩ := ifB_t.1 g4
  obtain ⟨hr, g6⟩ := mk64_iff.1 g5
  obtain rfl := hv.i_inv
  obtain rfl := hu.i_inv
  refine ⟨.i (g a b), fun c' => ?_, _, .i _, fun x1 x2 w => ?_⟩
  · rw [hG]
    show ifB (p b) (mk64 (Int.ofNat (g a b)) c') false = _
    rw [ifB_pos hp]
    exact mk64_eq hr c'
  · rw [Sem.run_bind, guard_int]
    exact h a b w hp hr.2
theorem quo_R : BinR gquo .quo t := gnat_R (g := Nat.div) (p := fun b => Nat.ble 1 b) (fun _ _ _ => rfl) fun a b w hp hr => by
  have hb : (b : Int) ≠ 0 := by have := Nat.le_of_ble_eq_true hp; omega
  have e : ((a : Int).tdiv (b : Int)) = ((Nat.div a b : Nat) : Int) := rfl
  have hw : IntKind.i64.wrap ((Nat.div a b : Nat) : Int) = ((Nat.div a b : Nat) : Int) := wrap64 ⟨by omega, hr⟩
  show (Op.intDiv .quo .i64 (a : Int) (b : Int)).run Tryz.prog w = _
  unfold Op.intDiv
  rw [if_neg hb]
  show Result.ok (Value.int .i64 (IntKind.i64.wrap ((a : Int).tdiv b))) w = _
  rw [e, hw]
theorem rem_R : BinR grem .rem t := gnat_R (g := Nat.mod) (p := fun b => Nat.ble 1 b) (fun _ _ _ => rfl) fun a b w hp hr => by
  have hb : (b : Int) ≠ 0 := by have := Nat.le_of_ble_eq_true hp; omega
  show (Op.intDiv .rem .i64 (a : Int) (b : Int)).run Tryz.prog w = _
  unfold Op.intDiv
  rw [if_neg hb]
  rfl
theorem bv_small {a : Nat} (h : a ≤ 9223372036854775807) : (BitVec.ofInt 64 (a : Int)).toNat = a := by
  rw [BitVec.ofInt_natCast, BitVec.toNat_ofNat]
  exact Nat.mod_eq_of_lt (by omega)
theorem bit_R {g : Nat → Nat → Nat} {op : BinOp} (h : ∀ (a b : Nat) (w : World), a ≤ 9223372036854775807 → b ≤ 9223372036854775807 → (binOp op t (.int .i64 a) (.int .i64 b)).run Tryz.prog w = .ok (.int .i64 (g a b)) w) : BinR (gbit g) op t := by
  intro m F v u y z c hv hu hg
  unfold gbit at hg
  obtain ⟨a, rfl, g1⟩ := asI_iff.1 hg
  obtain ⟨b, rfl, g2⟩ := asI_iff.1 g1
  obtain ⟨a, rfl, g3⟩ := natI_iff.1 g2
  obtain ⟨b, rfl, g4⟩ := natI_iff.1 g3
  obtain ⟨hp, g5⟩ := ifB_t.1 g4
  have hp' := hp
  obtain ⟨h1, h2⟩ := ifB_t.1 hp
  obtain rfl := hv.i_inv
  obtain rfl := hu.i_inv
  refine ⟨.i (g a b), fun c' => ?_, _, .i _, fun x1 x2 w => ?_⟩
  · show ifB (ifB (Nat.ble a max64) (Nat.ble b max64) false) (fN (g a b) fun z => c' (.i (Int.ofNat z))) false = _
    rw [ifB_pos hp', fN_eq]
    rfl
  · rw [Sem.run_bind, guard_int]
    exact h a b w (Nat.le_of_ble_eq_true h1) (Nat.le_of_ble_eq_true h2)
theorem and_R : BinR (gbit Nat.land) .and t := bit_R fun a b w ha hb => by
  have e : ((BitVec.ofInt 64 (a : Int)) &&& (BitVec.ofInt 64 (b : Int))).toNat = Nat.land a b := by
    rw [BitVec.toNat_and, bv_small ha, bv_small hb]; rfl
  have le : Nat.land a b ≤ a := Nat.and_le_left
  have : (Op.intBits .and .i64 (a : Int) (b : Int)).run Tryz.prog w = .ok (.int .i64 (IntKind.i64.wrap (((BitVec.ofInt 64 (a : Int)) &&& (BitVec.ofInt 64 (b : Int))).toNat : Int))) w := rfl
  simp only [binOp]
  rw [if_neg (by simp)]
  rw [this, e, wrap64 ⟨by omega, by omega⟩]
theorem or_R : BinR (gbit Nat.lor) .or t := bit_R fun a b w ha hb => by
  have e : ((BitVec.ofInt 64 (a : Int)) ||| (BitVec.ofInt 64 (b : Int))).toNat = Nat.lor a b := by
    rw [BitVec.toNat_or, bv_small ha, bv_small hb]; rfl
  have le : Nat.lor a b < 2 ^ 63 := Nat.or_lt_two_pow (by omega) (by omega)
  have : (Op.intBits .or .i64 (a : Int) (b : Int)).run Tryz.prog w = .ok (.int .i64 (IntKind.i64.wrap (((BitVec.ofInt 64 (a : Int)) ||| (BitVec.ofInt 64 (b : Int))).toNat : Int))) w := rfl
  simp only [binOp]
  rw [if_neg (by simp)]
  rw [this, e, wrap64 ⟨by omega, by omega⟩]
theorem shl_R : BinR gshl .shl t := by
  intro m F v u y z c hv hu hg
  unfold gshl at hg
  obtain ⟨a, rfl, g1⟩ := asI_iff.1 hg
  obtain ⟨k, b, rfl, g2, hk⟩ := asJ_VR g1 hu
  obtain ⟨a, rfl, g3⟩ := natI_iff.1 g2
  obtain ⟨b, rfl, g4⟩ := natI_iff.1 g3
  obtain ⟨hp, g5⟩ := ifB_t.1 g4
  obtain ⟨hr, g6⟩ := mk64_iff.1 g5
  obtain rfl := hv.i_inv
  have hb : b < 64 := by rw [Nat.blt_eq] at hp; exact hp
  refine ⟨.i (Int.ofNat (Nat.mul a (Nat.pow 2 b))), fun c' => ?_, _, .i _, fun x1 x2 w => ?_⟩
  · show (asJ u fun _ b => natI (a : Int) fun a => natI b fun b => ifB (Nat.blt b 64) (mk64 (Int.ofNat (Nat.mul a (Nat.pow 2 b))) c') (stk "shl")) = _
    rw [hk]
    show ifB (Nat.blt b 64) (mk64 (Int.ofNat (Nat.mul a (Nat.pow 2 b))) c') (stk "shl") = _
    rw [ifB_pos hp, mk64_eq hr]
  · rw [Sem.run_bind, guard_int]
    have h0 : ¬ ((b : Int) < 0) := by omega
    have hm : min b 64 = b := by omega
    have e : ((a : Int) * 2 ^ b) = Int.ofNat (Nat.mul a (Nat.pow 2 b)) := by
      show _ = ((a * 2 ^ b : Nat) : Int)
      rw [Int.natCast_mul, Int.natCast_pow]
      rfl
    show (Op.shift .shl .i64 (a : Int) k (b : Int)).run Tryz.prog w = _
    unfold Op.shift
    rw [if_neg h0]
    show Result.ok (Value.int .i64 (IntKind.i64.wrap ((a : Int) * 2 ^ (min b 64)))) w = _
    rw [hm, e, wrap64 hr]
theorem shr_R : BinR gshr .shr t := by
  intro m F v u y z c hv hu hg
  unfold gshr at hg
  obtain ⟨a, rfl, g1⟩ := asI_iff.1 hg
  obtain ⟨k, b, rfl, g2, hk⟩ := asJ_VR g1 hu
  obtain ⟨a, rfl, g3⟩ := natI_iff.1 g2
  obtain ⟨b, rfl, g4⟩ := natI_iff.1 g3
  obtain ⟨hp, g5⟩ := ifB_t.1 g4
  obtain rfl := hv.i_inv
  have hb : b < 64 := by rw [Nat.blt_eq] at hp; exact hp
  refine ⟨.i (Int.ofNat (Nat.div a (Nat.pow 2 b))), fun c' => ?_, _, .i _, fun x1 x2 w => ?_⟩
  · show (asJ u fun _ b => natI (a : Int) fun a => natI b fun b => ifB (Nat.blt b 64) (fN (Nat.div a (Nat.pow 2 b)) fun z => c' (.i (Int.ofNat z))) (stk "shr")) = _
    rw [hk]
    show ifB (Nat.blt b 64) (fN (Nat.div a (Nat.pow 2 b)) fun z => c' (.i (Int.ofNat z))) (stk "shr") = _
    rw [ifB_pos hp, fN_eq]
  · rw [Sem.run_bind, guard_int]
    have h0 : ¬ ((b : Int) < 0) := by omega
    have hm : min b 64 = b := by omega
    have e : (a : Int).fdiv (2 ^ b) = Int.ofNat (Nat.div a (Nat.pow 2 b)) := by
      have : (2 ^ b : Int) = ((2 ^ b : Nat) : Int) := by rw [Int.natCast_pow]; rfl
      rw [this]
      exact (Int.ofNat_fdiv a (2 ^ b)).symm
    show (Op.shift .shr .i64 (a : Int) k (b : Int)).run Tryz.prog w = _
    unfold Op.shift
    rw [if_neg h0]
    show Result.ok (Value.int .i64 ((a : Int).fdiv (2 ^ (min b 64)))) w = _
    rw [hm, e]
-- other kinds
theorem jcmp_R {g : Int → Int → Bool} {op : BinOp} (h : ∀ (k : IntKind) (a b : Int) (w : World), (binOp op t (.int k a) (.int k b)).run Tryz.prog w = .ok (.bool (g a b)) w) : BinR (gjcmp g) op t := by
  intro m F v u y z c hv hu hg
  unfold gjcmp j2 at hg
  obtain ⟨k, a, rfl, g1, hk⟩ := asJ_VR hg hv
  obtain ⟨k2, b, rfl, g2, hk2⟩ := asJ_VR g1 hu
  obtain ⟨hp, g3⟩ := ifB_t.1 g2
  refine ⟨.b (g a b), fun c' => ?_, _, .b _, fun x1 x2 w => ?_⟩
  · unfold gjcmp j2
    rw [hk, hk2, ifB_pos hp]
    exact fB_eq _ _
  · rw [kEq_eq, decide_eq_true_eq] at hp
    subst hp
    rw [Sem.run_bind, guard_int]
    exact h k a b w
theorem jeql_R : BinR (gjcmp eqI) .eql t := jcmp_R fun k a b w => by
  rw [eqI_eq]
  simp [binOp, Op.intCmp]
  rfl
theorem jneq_R : BinR (gjcmp fun a b => notB (eqI a b)) .neq t := jcmp_R fun k a b w => by
  rw [eqI_eq, notB_eq]
  simp [binOp, Op.intCmp]
  rfl
theorem jlss_R : BinR (gjcmp ltI) .lss t := jcmp_R fun k a b w => by
  rw [ltI_eq]
  simp [binOp, Op.intCmp]
theorem jleq_R : BinR (gjcmp fun a b => notB (ltI b a)) .leq t := jcmp_R fun k a b w => by
  rw [ltI_eq, notB_eq]
  have : (!decide (b < a)) = decide (a ≤ b) := by rw [Bool.eq_iff_iff]; simp
  rw [this]
  simp [binOp, Op.intCmp]
theorem jgtr_R : BinR (gjcmp fun a b => ltI b a) .gtr t := jcmp_R fun k a b w => by
  rw [ltI_eq]
  simp [binOp, Op.intCmp]
theorem jgeq_R : BinR (gjcmp fun a b => notB (ltI a b)) .geq t := jcmp_R fun k a b w => by
  rw [ltI_eq, notB_eq]
  have : (!decide (a < b)) = decide (b ≤ a) := by rw [Bool.eq_iff_iff]; simp
  rw [this]
  simp [binOp, Op.intCmp]
theorem jsub_R : BinR gjsub .sub t := by
  intro m F v u y z c hv hu hg
  unfold gjsub j2 at hg
  obtain ⟨k, a, rfl, g1, hk⟩ := asJ_VR hg hv
  obtain ⟨k2, b, rfl, g2, hk2⟩ := asJ_VR g1 hu
  obtain ⟨hp, g3⟩ := ifB_t.1 g2
  refine ⟨.j k (k.wrap (subI a b)), fun c' => ?_, _, .j _ _, fun x1 x2 w => ?_⟩
  · unfold gjsub j2
    rw [hk, hk2, ifB_pos hp]
    exact fI_eq _ _
  · rw [kEq_eq, decide_eq_true_eq] at hp
    subst hp
    rw [Sem.run_bind, guard_int, subI_eq]
    show (binOp .sub t (.int k a) (.int k b)).run Tryz.prog w = _
    simp [binOp, Op.intArith]
end
end Go.Proofs.YtpknalhjgbgpiaaGreatDoor
