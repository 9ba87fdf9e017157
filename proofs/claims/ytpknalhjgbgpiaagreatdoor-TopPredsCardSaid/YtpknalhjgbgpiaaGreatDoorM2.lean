/- Parts of the proof: EvP, EvR. -/
import Derived.Test.YtpknalhjgbgpiaaGreatDoorM0
import Derived.Test.YtpknalhjgbgpiaaGreatDoorM1
namespace Go.Proofs.YtpknalhjgbgpiaaGreatDoor
open Go
section
variable {k : A → Bool} {v w : A} {l m : List A} {n : Nat}
theorem fN_eq (n : Nat) (k : Nat → Bool) : fN n k = k n := by cases n <;> rfl
theorem fI_eq (n : Int) (k : Int → Bool) : fI n k = k n := by cases n <;> exact fN_eq _ _
theorem fB_eq (n : Bool) (k : Bool → Bool) : fB n k = k n := by cases n <;> rfl
theorem ifB_eq (c x y : Bool) : ifB c x y = if c then x else y := by cases c <;> rfl
theorem ifB_iff {c x y : Bool} : ifB c x y = true ↔ (c = true ∧ x = true) ∨ (c = false ∧ y = true) := by cases c <;> simp [ifB]
theorem ifB_t {c x : Bool} : ifB c x false = true ↔ c = true ∧ x = true := by cases c <;> simp [ifB]
theorem no {p : Prop} (h : false = true) : p := by cases h
theorem asI_iff {k : Int → Bool} : asI v k = true ↔ ∃ n, v = .i n ∧ k n = true := by
  cases v <;> first | exact ⟨fun h => ⟨_, rfl, h⟩, fun ⟨_, e, h⟩ => by cases e; exact h⟩ | exact ⟨fun h => no h, fun ⟨_, e, _⟩ => by cases e⟩
theorem asB_iff {k : Bool → Bool} : asB v k = true ↔ ∃ n, v = .b n ∧ k n = true := by
  cases v <;> first | exact ⟨fun h => ⟨_, rfl, h⟩, fun ⟨_, e, h⟩ => by cases e; exact h⟩ | exact ⟨fun h => no h, fun ⟨_, e, _⟩ => by cases e⟩
theorem asS_iff {k : List Nat → Bool} : asS v k = true ↔ ∃ n, v = .s n ∧ k n = true := by
  cases v <;> first | exact ⟨fun h => ⟨_, rfl, h⟩, fun ⟨_, e, h⟩ => by cases e; exact h⟩ | exact ⟨fun h => no h, fun ⟨_, e, _⟩ => by cases e⟩
theorem asZ_iff {k : Nat → Bool} : asZ v k = true ↔ ∃ n, v = .z n ∧ k n = true := by
  cases v <;> first | exact ⟨fun h => ⟨_, rfl, h⟩, fun ⟨_, e, h⟩ => by cases e; exact h⟩ | exact ⟨fun h => no h, fun ⟨_, e, _⟩ => by cases e⟩
theorem asM_iff {k : Q → Bool} : asM v k = true ↔ ∃ n, v = .m n ∧ k n = true := by
  cases v <;> first | exact ⟨fun h => ⟨_, rfl, h⟩, fun ⟨_, e, h⟩ => by cases e; exact h⟩ | exact ⟨fun h => no h, fun ⟨_, e, _⟩ => by cases e⟩
theorem asAg_iff {k : List A → Bool} : asAg v k = true ↔ ∃ l, v = .g false l ∧ k l = true := by
  cases v
  case g t l =>
    cases t
    · exact ⟨fun h => ⟨_, rfl, h⟩, fun ⟨_, e, h⟩ => by cases e; exact h⟩
    · exact ⟨fun h => no h, fun ⟨_, e, _⟩ => by cases e⟩
  all_goals exact ⟨fun h => no h, fun ⟨_, e, _⟩ => by cases e⟩
theorem asTu_iff {k : List A → Bool} : asTu v k = true ↔ ∃ l, v = .g true l ∧ k l = true := by
  cases v
  case g t l =>
    cases t
    · exact ⟨fun h => no h, fun ⟨_, e, _⟩ => by cases e⟩
    · exact ⟨fun h => ⟨_, rfl, h⟩, fun ⟨_, e, h⟩ => by cases e; exact h⟩
  all_goals exact ⟨fun h => no h, fun ⟨_, e, _⟩ => by cases e⟩
theorem asP_iff {k : Q → Nat → Bool} : asP v k = true ↔ ∃ q o, v = .p q o ∧ k q o = true := by
  cases v <;> first | exact ⟨fun h => ⟨_, _, rfl, h⟩, fun ⟨_, _, e, h⟩ => by cases e; exact h⟩ | exact ⟨fun h => no h, fun ⟨_, _, e, _⟩ => by cases e⟩
theorem asJ_iff {k : IntKind → Int → Bool} : asJ v k = true ↔ (∃ n, v = .i n ∧ k .i64 n = true) ∨ ∃ a n, v = .j a n ∧ k a n = true := by
  cases v <;> first | exact ⟨fun h => .inl ⟨_, rfl, h⟩, fun h => by rcases h with ⟨_, e, h⟩ | ⟨_, _, e, h⟩ <;> cases e; exact h⟩ | exact ⟨fun h => .inr ⟨_, _, rfl, h⟩, fun h => by rcases h with ⟨_, e, h⟩ | ⟨_, _, e, h⟩ <;> cases e; exact h⟩ | exact ⟨fun h => no h, fun h => by rcases h with ⟨_, e, h⟩ | ⟨_, _, e, h⟩ <;> cases e⟩
theorem asF_iff {k : Fn → List A → List A → Bool} : asF v k = true ↔ ∃ f a b, v = .f f a b ∧ k f a b = true := by
  cases v <;> first | exact ⟨fun h => ⟨_, _, _, rfl, h⟩, fun ⟨_, _, _, e, h⟩ => by cases e; exact h⟩ | exact ⟨fun h => no h, fun ⟨_, _, _, e, _⟩ => by cases e⟩
theorem asSl_iff {kn : Unit → Bool} {k : Q → Nat → Nat → Nat → Option Nat → Bool} : asSl v kn k = true ↔ (v = .z 1 ∧ kn () = true) ∨ ∃ q o l e c, v = .sl q o l e c ∧ k q o l e c = true := by
  cases v <;> first
    | exact ⟨fun h => .inr ⟨_, _, _, _, _, rfl, h⟩, fun h => by rcases h with ⟨e, _⟩ | ⟨_, _, _, _, _, e, h⟩ <;> cases e; exact h⟩
    | exact ⟨fun h => no h, fun h => by rcases h with ⟨e, _⟩ | ⟨_, _, _, _, _, e, h⟩ <;> cases e⟩
    | (rename_i n
       show ifB (Nat.beq n 1) (kn ()) false = true ↔ _
       rw [ifB_t]
       exact ⟨fun h => .inl ⟨by rw [Nat.eq_of_beq_eq_true h.1], h.2⟩, fun h => by rcases h with ⟨e, h⟩ | ⟨_, _, _, _, _, e, h⟩ <;> cases e; exact ⟨rfl, h⟩⟩)
theorem asT_iff {kn : Unit → Bool} {k : TypeId → A → Bool} : asT v kn k = true ↔ (v = .z 4 ∧ kn () = true) ∨ ∃ t x, v = .t t x ∧ k t x = true := by
  cases v <;> first
    | exact ⟨fun h => .inr ⟨_, _, rfl, h⟩, fun h => by rcases h with ⟨e, _⟩ | ⟨_, _, e, h⟩ <;> cases e; exact h⟩
    | exact ⟨fun h => no h, fun h => by rcases h with ⟨e, _⟩ | ⟨_, _, e, h⟩ <;> cases e⟩
    | (rename_i n
       show ifB (Nat.beq n 4) (kn ()) false = true ↔ _
       rw [ifB_t]
       exact ⟨fun h => .inl ⟨by rw [Nat.eq_of_beq_eq_true h.1], h.2⟩, fun h => by rcases h with ⟨e, h⟩ | ⟨_, _, e, h⟩ <;> cases e; exact ⟨rfl, h⟩⟩)
theorem asML_iff {kn : Unit → Bool} {k : Q → Bool} : asML v kn k = true ↔ (v = .z 2 ∧ kn () = true) ∨ ∃ q, v = .m q ∧ k q = true := by
  cases v <;> first
    | exact ⟨fun h => .inr ⟨_, rfl, h⟩, fun h => by rcases h with ⟨e, _⟩ | ⟨_, e, h⟩ <;> cases e; exact h⟩
    | exact ⟨fun h => no h, fun h => by rcases h with ⟨e, _⟩ | ⟨_, e, h⟩ <;> cases e⟩
    | (rename_i n
       show ifB (Nat.beq n 2) (kn ()) false = true ↔ _
       rw [ifB_t]
       exact ⟨fun h => .inl ⟨by rw [Nat.eq_of_beq_eq_true h.1], h.2⟩, fun h => by rcases h with ⟨e, h⟩ | ⟨_, e, h⟩ <;> cases e; exact ⟨rfl, h⟩⟩)
theorem asAdd_iff {ks : List Nat → Bool} {kn : Unit → Bool} {k : Q → Nat → Nat → Nat → Option Nat → Bool} : asAdd v ks kn k = true ↔ (∃ l, v = .s l ∧ ks l = true) ∨ (v = .z 1 ∧ kn () = true) ∨ ∃ q o l e c, v = .sl q o l e c ∧ k q o l e c = true := by
  cases v <;> first
    | exact ⟨fun h => .inr (.inr ⟨_, _, _, _, _, rfl, h⟩), fun h => by rcases h with ⟨_, e, _⟩ | ⟨e, _⟩ | ⟨_, _, _, _, _, e, h⟩ <;> cases e; exact h⟩
    | exact ⟨fun h => .inl ⟨_, rfl, h⟩, fun h => by rcases h with ⟨_, e, h⟩ | ⟨e, _⟩ | ⟨_, _, _, _, _, e, h⟩ <;> cases e; exact h⟩
    | exact ⟨fun h => no h, fun h => by rcases h with ⟨_, e, _⟩ | ⟨e, _⟩ | ⟨_, _, _, _, _, e, h⟩ <;> cases e⟩
    | (rename_i n
       show ifB (Nat.beq n 1) (kn ()) false = true ↔ _
       rw [ifB_t]
       exact ⟨fun h => .inr (.inl ⟨by rw [Nat.eq_of_beq_eq_true h.1], h.2⟩), fun h => by rcases h with ⟨_, e, _⟩ | ⟨e, h⟩ | ⟨_, _, _, _, _, e, h⟩ <;> cases e; exact ⟨rfl, h⟩⟩)
theorem isNilP_iff {k : Bool → Bool} : isNilP v k = true ↔ (v = .z 0 ∧ k true = true) ∨ ∃ q o, v = .p q o ∧ k false = true := by
  cases v <;> first
    | exact ⟨fun h => .inr ⟨_, _, rfl, h⟩, fun h => by rcases h with ⟨e, _⟩ | ⟨_, _, e, h⟩ <;> cases e; exact h⟩
    | exact ⟨fun h => no h, fun h => by rcases h with ⟨e, _⟩ | ⟨_, _, e, h⟩ <;> cases e⟩
    | (rename_i n
       show ifB (Nat.beq n 0) (k true) false = true ↔ _
       rw [ifB_t]
       exact ⟨fun h => .inl ⟨by rw [Nat.eq_of_beq_eq_true h.1], h.2⟩, fun h => by rcases h with ⟨e, h⟩ | ⟨_, _, e, h⟩ <;> cases e; exact ⟨rfl, h⟩⟩)
theorem isNilS_iff {k : Bool → Bool} : isNilS v k = true ↔ (v = .z 1 ∧ k true = true) ∨ ∃ q o l e c, v = .sl q o l e c ∧ k false = true := by
  cases v <;> first
    | exact ⟨fun h => .inr ⟨_, _, _, _, _, rfl, h⟩, fun h => by rcases h with ⟨e, _⟩ | ⟨_, _, _, _, _, e, h⟩ <;> cases e; exact h⟩
    | exact ⟨fun h => no h, fun h => by rcases h with ⟨e, _⟩ | ⟨_, _, _, _, _, e, h⟩ <;> cases e⟩
    | (rename_i n
       show ifB (Nat.beq n 1) (k true) false = true ↔ _
       rw [ifB_t]
       exact ⟨fun h => .inl ⟨by rw [Nat.eq_of_beq_eq_true h.1], h.2⟩, fun h => by rcases h with ⟨e, h⟩ | ⟨_, _, _, _, _, e, h⟩ <;> cases e; exact ⟨rfl, h⟩⟩)
/-- A value's cells. -/
def cellsA : A → List A
  | .g _ l => l
  | v => [v]
theorem cellsK_iff {k : List A → Bool} : cellsK v k = true ↔ (∀ l, v ≠ .g true l) ∧ k (cellsA v) = true := by
  cases v
  case g t l => cases t
                · exact ⟨fun h => ⟨fun _ e => (by cases e), h⟩, fun h => h.2⟩
                · exact ⟨fun h => no h, fun h => absurd rfl (h.1 l)⟩
  all_goals exact ⟨fun h => ⟨fun _ e => (by cases e), h⟩, fun h => h.2⟩
-- lists
theorem nthK_iff : nthK l n k = true ↔ ∃ x, l[n]? = some x ∧ k x = true := by
  induction l generalizing n with
  | nil => exact ⟨fun h => no h, fun ⟨_, e, _⟩ => by simp at e⟩
  | cons x r ih =>
    cases n with
    | zero => exact ⟨fun h => ⟨x, rfl, h⟩, fun ⟨_, e, h⟩ => by cases e; exact h⟩
    | succ n => exact (ih (n := n)).trans (by simp)
theorem setK_iff {k : List A → Bool} : setK l n v k = true ↔ n < l.length ∧ k (l.set n v) = true := by
  induction l generalizing n k with
  | nil => exact ⟨fun h => no h, fun h => by simp at h⟩
  | cons x r ih =>
    cases n with
    | zero => exact ⟨fun h => ⟨by simp, h⟩, fun h => h.2⟩
    | succ n => exact (ih (n := n) (k := fun r => k (x :: r))).trans (by simp)
theorem takeK_iff {k : List A → Bool} : takeK n l k = true ↔ n ≤ l.length ∧ k (l.take n) = true := by
  induction n generalizing l k with
  | zero => exact ⟨fun h => ⟨by simp, h⟩, fun h => h.2⟩
  | succ n ih =>
    cases l with
    | nil => exact ⟨fun h => no h, fun h => by simp at h⟩
    | cons x r => exact (ih (l := r) (k := fun r => k (x :: r))).trans (by simp)
theorem dropK_iff {k : List A → Bool} : dropK n l k = true ↔ n ≤ l.length ∧ k (l.drop n) = true := by
  induction n generalizing l with
  | zero => exact ⟨fun h => ⟨by simp, h⟩, fun h => h.2⟩
  | succ n ih =>
    cases l with
    | nil => exact ⟨fun h => no h, fun h => by simp at h⟩
    | cons x r => exact (ih (l := r)).trans (by simp)
theorem overK_iff {a : List A} {k : List A → Bool} : overK a l k = true ↔ a.length ≤ l.length ∧ k (a ++ l.drop a.length) = true := by
  induction a generalizing l k with
  | nil => exact ⟨fun h => ⟨by simp, h⟩, fun h => h.2⟩
  | cons x a ih =>
    cases l with
    | nil => exact ⟨fun h => no h, fun h => by simp at h⟩
    | cons y r => exact (ih (l := r) (k := fun r => k (x :: r))).trans (by simp)
theorem putK_iff {a : List A} {k : List A → Bool} : putK a n l k = true ↔ n + a.length ≤ l.length ∧ k (l.take n ++ a ++ l.drop (n + a.length)) = true := by
  induction n generalizing l k with
  | zero => exact overK_iff.trans (by simp)
  | succ n ih =>
    cases l with
    | nil => exact ⟨fun h => no h, fun h => by simp at h⟩
    | cons x r =>
      refine (ih (l := r) (k := fun r => k (x :: r))).trans ?_
      have e : n + 1 + a.length = (n + a.length) + 1 := by omega
      rw [e]
      simp
theorem appK_eq (a l : List A) (k : List A → Bool) : appK a l k = k (a ++ l) := by
  induction a generalizing k with
  | nil => rfl
  | cons x a ih => exact ih fun r => k (x :: r)
theorem lenK_eq (l : List A) (k : Nat → Bool) : lenK l k = k l.length := by
  induction l generalizing k with
  | nil => rfl
  | cons x l ih => exact (ih fun n => fN (Nat.succ n) k).trans (fN_eq _ _)
theorem lenN_eq (l : List Nat) (k : Nat → Bool) : lenN l k = k l.length := by
  induction l generalizing k with
  | nil => rfl
  | cons x l ih => exact (ih fun n => fN (Nat.succ n) k).trans (fN_eq _ _)
theorem lenM_eq (l : List (Nat × A)) (k : Nat → Bool) : lenM l k = k l.length := by
  induction l generalizing k with
  | nil => rfl
  | cons x l ih => exact (ih fun n => fN (Nat.succ n) k).trans (fN_eq _ _)
theorem repK_eq (n : Nat) (z : List A) (k : List A → Bool) : repK n z k = k (List.replicate n z).flatten := by
  induction n generalizing k with
  | zero => rfl
  | succ n ih =>
    refine (ih fun r => appK z r k).trans ?_
    rw [appK_eq, List.replicate_succ, List.flatten_cons]
theorem eqLN_eq (l m : List Nat) : eqLN l m = decide (l = m) := by
  induction l generalizing m with
  | nil => cases m <;> simp [eqLN]
  | cons x l ih =>
    cases m with
    | nil => simp [eqLN]
    | cons y m =>
      have h : eqLN (x :: l) (y :: m) = Bool.rec (motive := fun _ => (List Nat → Bool) → List Nat → Bool) (fun _ _ => false) (fun ih r => ih r) (Nat.beq x y) (eqLN l) m := rfl
      rw [h]
      cases e : Nat.beq x y with
      | false =>
        have hn : x ≠ y := Nat.ne_of_beq_eq_false e
        simp [hn]
      | true =>
        have hn : x = y := Nat.eq_of_beq_eq_true e
        simp only [ih]
        simp [hn]
theorem appN_eq (a l : List Nat) (k : List Nat → Bool) : appN a l k = k (a ++ l) := by
  induction a generalizing k with
  | nil => rfl
  | cons x a ih => exact ih fun r => k (x :: r)
theorem dropN_iff {l : List Nat} {k : List Nat → Bool} : dropN n l k = true ↔ n ≤ l.length ∧ k (l.drop n) = true := by
  induction n generalizing l with
  | zero => exact ⟨fun h => ⟨by simp, h⟩, fun h => h.2⟩
  | succ n ih =>
    cases l with
    | nil => exact ⟨fun h => no h, fun h => by simp at h⟩
    | cons x r => exact (ih (l := r)).trans (by simp)
theorem takeN_iff {l : List Nat} {k : List Nat → Bool} : takeN n l k = true ↔ n ≤ l.length ∧ k (l.take n) = true := by
  induction n generalizing l k with
  | zero => exact ⟨fun h => ⟨by simp, h⟩, fun h => h.2⟩
  | succ n ih =>
    cases l with
    | nil => exact ⟨fun h => no h, fun h => by simp at h⟩
    | cons x r => exact (ih (l := r) (k := fun r => k (x :: r))).trans (by simp)
theorem headN_iff {l : List Nat} {k : Nat → Bool} : headN l k = true ↔ ∃ x r, l = x :: r ∧ k x = true := by
  cases l with
  | nil => exact ⟨fun h => no h, fun ⟨_, _, e, _⟩ => by cases e⟩
  | cons x r => exact ⟨fun h => ⟨x, r, rfl, h⟩, fun ⟨_, _, e, h⟩ => by cases e; exact h⟩
theorem bytesA_eq (l : List Nat) (k : List A → Bool) : bytesA l k = k (l.map fun x => .j .u8 (Int.ofNat x)) := by
  induction l generalizing k with
  | nil => rfl
  | cons x l ih => exact ih fun r => k (.j .u8 (Int.ofNat x) :: r)
theorem natI_iff {x : Int} {k : Nat → Bool} : natI x k = true ↔ ∃ n : Nat, x = (n : Int) ∧ k n = true := by
  cases x with
  | ofNat a => exact ⟨fun h => ⟨a, rfl, h⟩, fun ⟨_, e, h⟩ => by cases e; exact h⟩
  | negSucc a => exact ⟨fun h => no h, fun ⟨_, e, _⟩ => by cases e⟩
theorem ltI_eq (x y : Int) : ltI x y = decide (x < y) := by
  cases x with
  | ofNat a => cases y with
    | ofNat b => show Nat.blt a b = _; rw [Bool.eq_iff_iff, decide_eq_true_eq, Nat.blt_eq]; simp only [Int.ofNat_eq_natCast]; omega
    | negSucc b => show false = _; symm; rw [decide_eq_false_iff_not]; simp only [Int.ofNat_eq_natCast]; omega
  | negSucc a => cases y with
    | ofNat b => show true = _; symm; rw [decide_eq_true_eq]; simp only [Int.ofNat_eq_natCast]; omega
    | negSucc b => show Nat.blt b a = _; rw [Bool.eq_iff_iff, decide_eq_true_eq, Nat.blt_eq]; omega
theorem eqI_eq (x y : Int) : eqI x y = decide (x = y) := by
  cases x with
  | ofNat a => cases y with
    | ofNat b => show Nat.beq a b = _; rw [Bool.eq_iff_iff, decide_eq_true_eq, Nat.beq_eq]; exact ⟨fun h => by rw [h], fun h => by cases h; rfl⟩
    | negSucc b => exact (decide_eq_false (by intro h; cases h)).symm
  | negSucc a => cases y with
    | ofNat b => exact (decide_eq_false (by intro h; cases h)).symm
    | negSucc b => show Nat.beq a b = _; rw [Bool.eq_iff_iff, decide_eq_true_eq, Nat.beq_eq]; exact ⟨fun h => by rw [h], fun h => by cases h; rfl⟩
theorem mk64_iff {x : Int} : mk64 x k = true ↔ (-9223372036854775808 ≤ x ∧ x ≤ 9223372036854775807) ∧ k (.i x) = true := by
  cases x with
  | ofNat a =>
    show fN a (fun a => ifB (Nat.ble a 9223372036854775807) (k (.i (Int.ofNat a))) false) = true ↔ _
    rw [fN_eq, ifB_t, Nat.ble_eq]
    exact ⟨fun h => ⟨by have := h.1; simp only [Int.ofNat_eq_natCast]; omega, h.2⟩, fun h => ⟨by have := h.1; simp only [Int.ofNat_eq_natCast] at this; omega, h.2⟩⟩
  | negSucc a =>
    show fN a (fun a => ifB (Nat.ble a 9223372036854775807) (k (.i (Int.negSucc a))) false) = true ↔ _
    rw [fN_eq, ifB_t, Nat.ble_eq]
    exact ⟨fun h => ⟨by have := h.1; omega, h.2⟩, fun h => ⟨by have := h.1; omega, h.2⟩⟩
theorem addI_eq (x y : Int) : addI x y = x + y := by cases x <;> cases y <;> rfl
theorem negI_eq (x : Int) : negI x = -x := by cases x <;> rfl
theorem subI_eq (x y : Int) : subI x y = x - y := by unfold subI; rw [addI_eq, negI_eq, Int.sub_eq_add_neg]
theorem kEq_eq (a b : IntKind) : kEq a b = decide (a = b) := by cases a <;> cases b <;> rfl
theorem notB_eq (a : Bool) : notB a = !a := by cases a <;> rfl
theorem eqB_eq (a b : Bool) : eqB a b = (a == b) := by cases a <;> cases b <;> rfl
end
end Go.Proofs.YtpknalhjgbgpiaaGreatDoor
namespace Go.Proofs.YtpknalhjgbgpiaaGreatDoor
open Go
-- numerals
theorem dno_lt (d : D4) : dno d < 4 := by cases d <;> decide
theorem dno_inj {a b : D4} (h : dno a = dno b) : a = b := by cases a <;> cases b <;> first | rfl | (exact absurd h (by decide))
theorem numOf_inj {a b : Q} (h : numOf a = numOf b) : a = b := by
  obtain ⟨a7, a6, a5, a4, a3, a2, a1, a0⟩ := a
  obtain ⟨b7, b6, b5, b4, b3, b2, b1, b0⟩ := b
  simp only [numOf, Nat.add_eq, Nat.mul_eq] at h
  have A0 := dno_lt a0; have A1 := dno_lt a1; have A2 := dno_lt a2; have A3 := dno_lt a3; have A4 := dno_lt a4; have A5 := dno_lt a5; have A6 := dno_lt a6
  have B0 := dno_lt b0; have B1 := dno_lt b1; have B2 := dno_lt b2; have B3 := dno_lt b3; have B4 := dno_lt b4; have B5 := dno_lt b5; have B6 := dno_lt b6
  have e0 : dno a0 = dno b0 := by omega
  have e1 : dno a1 = dno b1 := by omega
  have e2 : dno a2 = dno b2 := by omega
  have e3 : dno a3 = dno b3 := by omega
  have e4 : dno a4 = dno b4 := by omega
  have e5 : dno a5 = dno b5 := by omega
  have e6 : dno a6 = dno b6 := by omega
  have e7 : dno a7 = dno b7 := by omega
  rw [dno_inj e0, dno_inj e1, dno_inj e2, dno_inj e3, dno_inj e4, dno_inj e5, dno_inj e6, dno_inj e7]
theorem sucD_iff {d : D4} {kc : Unit → Bool} {k : D4 → Bool} (h : sucD d kc k = true) : (∃ e, dno e = dno d + 1 ∧ k e = true) ∨ (dno d = 3 ∧ kc () = true) := by
  cases d <;> first | exact .inl ⟨_, rfl, h⟩ | exact .inr ⟨rfl, h⟩
theorem dno0 : dno .d0 = 0 := rfl
theorem numOf_mk (a7 a6 a5 a4 a3 a2 a1 a0 : D4) : numOf ⟨a7, a6, a5, a4, a3, a2, a1, a0⟩ = dno a0 + 4 * (dno a1 + 4 * (dno a2 + 4 * (dno a3 + 4 * (dno a4 + 4 * (dno a5 + 4 * (dno a6 + 4 * dno a7)))))) := rfl
set_option maxHeartbeats 2000000 in
theorem sucQ_iff {q : Q} {k : Q → Bool} (h : sucQ q k = true) : ∃ r, numOf r = numOf q + 1 ∧ k r = true := by
  obtain ⟨a7, a6, a5, a4, a3, a2, a1, a0⟩ := q
  rw [numOf_mk]
  unfold sucQ at h
  rcases sucD_iff h with ⟨e, he, hk⟩ | ⟨h0, h⟩
  · refine ⟨_, ?_, hk⟩
    rw [numOf_mk]
    simp only
    simp only at he
    clear hk
    omega
  rcases sucD_iff h with ⟨e, he, hk⟩ | ⟨h1, h⟩
  · refine ⟨_, ?_, hk⟩
    rw [numOf_mk]
    simp only [dno0]
    simp only at he h0
    clear hk
    omega
  rcases sucD_iff h with ⟨e, he, hk⟩ | ⟨h2, h⟩
  · refine ⟨_, ?_, hk⟩
    rw [numOf_mk]
    simp only [dno0]
    simp only at he h0 h1
    clear hk
    omega
  rcases sucD_iff h with ⟨e, he, hk⟩ | ⟨h3, h⟩
  · refine ⟨_, ?_, hk⟩
    rw [numOf_mk]
    simp only [dno0]
    simp only at he h0 h1 h2
    clear hk
    omega
  rcases sucD_iff h with ⟨e, he, hk⟩ | ⟨h4, h⟩
  · refine ⟨_, ?_, hk⟩
    rw [numOf_mk]
    simp only [dno0]
    simp only at he h0 h1 h2 h3
    clear hk
    omega
  rcases sucD_iff h with ⟨e, he, hk⟩ | ⟨h5, h⟩
  · refine ⟨_, ?_, hk⟩
    rw [numOf_mk]
    simp only [dno0]
    simp only at he h0 h1 h2 h3 h4
    clear hk
    omega
  rcases sucD_iff h with ⟨e, he, hk⟩ | ⟨h6, h⟩
  · refine ⟨_, ?_, hk⟩
    rw [numOf_mk]
    simp only [dno0]
    simp only at he h0 h1 h2 h3 h4 h5
    clear hk
    omega
  rcases sucD_iff h with ⟨e, he, hk⟩ | ⟨h7, h⟩
  · refine ⟨_, ?_, hk⟩
    rw [numOf_mk]
    simp only [dno0]
    simp only at he h0 h1 h2 h3 h4 h5 h6
    clear hk
    omega
  exact no h
-- memory
section
variable {α : Type}
def lay4 (d : D4) (f : α → α) (n : N4 α) : N4 α := match d with
  | .d0 => { n with a0 := f n.a0 }
  | .d1 => { n with a1 := f n.a1 }
  | .d2 => { n with a2 := f n.a2 }
  | .d3 => { n with a3 := f n.a3 }
def pick4 (d : D4) (n : N4 α) : α := match d with
  | .d0 => n.a0
  | .d1 => n.a1
  | .d2 => n.a2
  | .d3 => n.a3
theorem pick4_same (d : D4) (f : α → α) (n : N4 α) : pick4 d (lay4 d f n) = f (pick4 d n) := by cases d <;> rfl
theorem pick4_ne {d e : D4} (h : d ≠ e) (f : α → α) (n : N4 α) : pick4 d (lay4 e f n) = pick4 d n := by cases d <;> cases e <;> first | rfl | exact absurd rfl h
end
def getP (q : Q) (h : H8) : O := pick4 q.x0 (pick4 q.x1 (pick4 q.x2 (pick4 q.x3 (pick4 q.x4 (pick4 q.x5 (pick4 q.x6 (pick4 q.x7 h)))))))
def putP (q : Q) (v : O) (h : H8) : H8 := lay4 q.x7 (lay4 q.x6 (lay4 q.x5 (lay4 q.x4 (lay4 q.x3 (lay4 q.x2 (lay4 q.x1 (lay4 q.x0 fun _ => v))))))) h
theorem getO_eq (q : Q) (h : H8) : getO q h = getP q h := by
  obtain ⟨a7, a6, a5, a4, a3, a2, a1, a0⟩ := q
  have e1 : ∀ (d : D4) (n : H1), sel1 d n = pick4 d n := fun d n => by cases d <;> rfl
  have e2 : ∀ (d : D4) (n : H2), sel2 d n = pick4 d n := fun d n => by cases d <;> rfl
  have e3 : ∀ (d : D4) (n : H3), sel3 d n = pick4 d n := fun d n => by cases d <;> rfl
  have e4 : ∀ (d : D4) (n : H4), sel4 d n = pick4 d n := fun d n => by cases d <;> rfl
  have e5 : ∀ (d : D4) (n : H5), sel5 d n = pick4 d n := fun d n => by cases d <;> rfl
  have e6 : ∀ (d : D4) (n : H6), sel6 d n = pick4 d n := fun d n => by cases d <;> rfl
  have e7 : ∀ (d : D4) (n : H7), sel7 d n = pick4 d n := fun d n => by cases d <;> rfl
  have e8 : ∀ (d : D4) (n : H8), sel8 d n = pick4 d n := fun d n => by cases d <;> rfl
  simp only [getO, getP, e1, e2, e3, e4, e5, e6, e7, e8]
theorem setO_eq (q : Q) (h : H8) (v : O) (k : H8 → Bool) : setO q h v k = k (putP q v h) := by
  obtain ⟨a7, a6, a5, a4, a3, a2, a1, a0⟩ := q
  have e1 : ∀ (d : D4) (n : H1) (k : H1 → Bool), updO d n v k = k (lay4 d (fun _ => v) n) := fun d n k => by cases d <;> rfl
  have e2 : ∀ (d : D4) (n : H2) (f : H1 → H1) (k : H2 → Bool), upd2 d n (fun x k => k (f x)) k = k (lay4 d f n) := fun d n f k => by cases d <;> rfl
  have e3 : ∀ (d : D4) (n : H3) (f : H2 → H2) (k : H3 → Bool), upd3 d n (fun x k => k (f x)) k = k (lay4 d f n) := fun d n f k => by cases d <;> rfl
  have e4 : ∀ (d : D4) (n : H4) (f : H3 → H3) (k : H4 → Bool), upd4 d n (fun x k => k (f x)) k = k (lay4 d f n) := fun d n f k => by cases d <;> rfl
  have e5 : ∀ (d : D4) (n : H5) (f : H4 → H4) (k : H5 → Bool), upd5 d n (fun x k => k (f x)) k = k (lay4 d f n) := fun d n f k => by cases d <;> rfl
  have e6 : ∀ (d : D4) (n : H6) (f : H5 → H5) (k : H6 → Bool), upd6 d n (fun x k => k (f x)) k = k (lay4 d f n) := fun d n f k => by cases d <;> rfl
  have e7 : ∀ (d : D4) (n : H7) (f : H6 → H6) (k : H7 → Bool), upd7 d n (fun x k => k (f x)) k = k (lay4 d f n) := fun d n f k => by cases d <;> rfl
  have e8 : ∀ (d : D4) (n : H8) (f : H7 → H7) (k : H8 → Bool), upd8 d n (fun x k => k (f x)) k = k (lay4 d f n) := fun d n f k => by cases d <;> rfl
  simp only [setO, putP, e1, e2, e3, e4, e5, e6, e7, e8]
theorem getP_same (q : Q) (v : O) (h : H8) : getP q (putP q v h) = v := by
  simp only [getP, putP, pick4_same]
theorem getP_ne {q r : Q} (hn : q ≠ r) (v : O) (h : H8) : getP q (putP r v h) = getP q h := by
  obtain ⟨a7, a6, a5, a4, a3, a2, a1, a0⟩ := q
  obtain ⟨b7, b6, b5, b4, b3, b2, b1, b0⟩ := r
  simp only [getP, putP]
  by_cases e7 : a7 = b7
  · rw [e7, pick4_same]
    by_cases e6 : a6 = b6
    · rw [e6, pick4_same]
      by_cases e5 : a5 = b5
      · rw [e5, pick4_same]
        by_cases e4 : a4 = b4
        · rw [e4, pick4_same]
          by_cases e3 : a3 = b3
          · rw [e3, pick4_same]
            by_cases e2 : a2 = b2
            · rw [e2, pick4_same]
              by_cases e1 : a1 = b1
              · rw [e1, pick4_same]
                by_cases e0 : a0 = b0
                · exact absurd (by rw [e7, e6, e5, e4, e3, e2, e1, e0]) hn
                · rw [pick4_ne e0]
              · rw [pick4_ne e1]
            · rw [pick4_ne e2]
          · rw [pick4_ne e3]
        · rw [pick4_ne e4]
      · rw [pick4_ne e5]
    · rw [pick4_ne e6]
  · rw [pick4_ne e7]
/-- Memory with another block. -/
def S.put (s : S) (q : Q) (o : O) : S := ⟨putP q o s.h, s.next, s.lo, s.hi⟩
theorem S.get_put_same (s : S) (q : Q) (o : O) : getO q (s.put q o).h = o := (getO_eq _ _).trans (getP_same q o s.h)
theorem S.get_put_ne (s : S) {q r : Q} (h : r ≠ q) (o : O) : getO r (s.put q o).h = getO r s.h := by
  rw [getO_eq, getO_eq]
  exact getP_ne h o s.h
theorem writeK_eq (s : S) (r : Q) (o : O) (k : S → Bool) : writeK s r o k = k (s.put r o) := by
  obtain ⟨h, q, lo, hi⟩ := s
  exact setO_eq r h o _
theorem newK_iff {s : S} {o : O} {k : Q → S → Bool} (h : newK s o k = true) : ∃ r, numOf r = numOf s.next + 1 ∧ k s.next ⟨(s.put s.next o).h, r, s.lo, s.hi⟩ = true := by
  obtain ⟨hh, q, lo, hi⟩ := s
  have h' : setO q hh o (fun h => sucQ q fun q' => k q ⟨h, q', lo, hi⟩) = true := h
  rw [setO_eq] at h'
  exact sucQ_iff h'
theorem asC_iff {o : O} {k : List A → Bool} : asC o k = true ↔ ∃ l, o = .cells l ∧ k l = true := by
  cases o <;> first | exact ⟨fun h => ⟨_, rfl, h⟩, fun ⟨_, e, h⟩ => by cases e; exact h⟩ | exact ⟨fun h => no h, fun ⟨_, e, _⟩ => by cases e⟩
theorem asMp_iff {o : O} {k : Nat → List (Nat × A) → Bool} : asMp o k = true ↔ ∃ c l, o = .map c l ∧ k c l = true := by
  cases o <;> first | exact ⟨fun h => ⟨_, _, rfl, h⟩, fun ⟨_, _, e, h⟩ => by cases e; exact h⟩ | exact ⟨fun h => no h, fun ⟨_, _, e, _⟩ => by cases e⟩
theorem asItr_iff {o : O} {k : List Nat → Nat → Bool} : asItr o k = true ↔ ∃ c l, o = .iter c l ∧ k c l = true := by
  cases o <;> first | exact ⟨fun h => ⟨_, _, rfl, h⟩, fun ⟨_, _, e, h⟩ => by cases e; exact h⟩ | exact ⟨fun h => no h, fun ⟨_, _, e, _⟩ => by cases e⟩
-- values
/-- Where the evaluator's blocks lie: which of the world's, and how many cells it has. -/
abbrev Mp := Q → Option (Nat × Nat)
inductive VR (m : Mp) (F : Int) : A → Value → Prop
  | i (n : Int) : VR m F (.i n) (.int .i64 n)
  | b (x : Bool) : VR m F (.b x) (.bool x)
  | p {q : Q} {o β z : Nat} (h : m q = some (β, z)) : VR m F (.p q o) (.pointer (some ⟨β, o, none⟩))
  | sl {q : Q} {o l e β z cc : Nat} {c : Option Nat} (h : m q = some (β, z)) (h1 : l ≤ cc) (h2 : o + cc * e ≤ z) (h3 : ∀ n, c = some n → cc = n) : VR m F (.sl q o l e c) (.slice (some ⟨β, o, none⟩) l cc)
  | agg {l : List A} {cs : Array Value} (h1 : ∀ x ∈ l, oneA x = true) (hl : l.length = cs.size) (h : ∀ (i : Nat) (x : A) (y : Value), l[i]? = some x → cs[i]? = some y → VR m F x y) : VR m F (.g false l) (.agg cs)
  | tup {l : List A} {cs : Array Value} (hl : l.length = cs.size) (h : ∀ (i : Nat) (x : A) (y : Value), l[i]? = some x → cs[i]? = some y → VR m F x y) : VR m F (.g true l) (.tuple cs)
  | s (b : ByteArray) : VR m F (.s (bytesOf b)) (.string b)
  | j (k : IntKind) (n : Int) : VR m F (.j k n) (.int k n)
  | z0 : VR m F (.z 0) (.pointer none)
  | z1 : VR m F (.z 1) (.slice none 0 0)
  | z2 : VR m F (.z 2) (.map none)
  | z3 : VR m F (.z 3) .nilFunc
  | z4 : VR m F (.z 4) .nilIface
  | m {q : Q} {β z : Nat} (h : m q = some (β, z)) : VR m F (.m q) (.map (some β))
  | f {fn : Fn} {a b : List A} {c d : Array Value} (ha : a.length = c.size) (hb : b.length = d.size) (h : ∀ (i : Nat) (x : A) (y : Value), a[i]? = some x → c[i]? = some y → VR m F x y) (h' : ∀ (i : Nat) (x : A) (y : Value), b[i]? = some x → d[i]? = some y → VR m F x y) : VR m F (.f fn a b) (.func fn c d)
  | t {t : TypeId} {v : A} {x : Value} (h : VR m F v x) : VR m F (.t t v) (.iface t x)
  | sym {off : Nat} (h : (off : Int) ≤ F) : VR m F (.o (.sym off)) (.int .i64 (F - off))
  | val {v : Value} (h : v.oneCell' = true) : VR m F (.o (.val v)) v
def Mp.le (m m' : Mp) : Prop := ∀ q r, m q = some r → m' q = some r
theorem Mp.le_refl (m : Mp) : m.le m := fun _ _ h => h
theorem Mp.le_trans {a b c : Mp} (h : a.le b) (k : b.le c) : a.le c := fun q r e => k q r (h q r e)
theorem VR.mono {m m' : Mp} {F : Int} (hm : m.le m') {v : A} {x : Value} (h : VR m F v x) : VR m' F v x := by
  induction h with
  | i n => exact .i n
  | b x => exact .b x
  | p h => exact .p (hm _ _ h)
  | sl h h1 h2 h3 => exact .sl (hm _ _ h) h1 h2 h3
  | agg h1 hl _ ih => exact .agg h1 hl ih
  | tup hl _ ih => exact .tup hl ih
  | s b => exact .s b
  | j k n => exact .j k n
  | z0 => exact .z0
  | z1 => exact .z1
  | z2 => exact .z2
  | z3 => exact .z3
  | z4 => exact .z4
  | m h => exact .m (hm _ _ h)
  | f ha hb _ _ ih ih' => exact .f ha hb ih ih'
  | t _ ih => exact .t ih
  | sym h => exact .sym h
  | val h => exact .val h
/-- Rows of values. -/
inductive VRs (m : Mp) (F : Int) : List A → List Value → Prop
  | nil : VRs m F [] []
  | cons {x : A} {y : Value} {l : List A} {ys : List Value} (h : VR m F x y) (t : VRs m F l ys) : VRs m F (x :: l) (y :: ys)
section
variable {m m' : Mp} {F : Int} {l l' : List A} {ys ys' : List Value}
theorem VRs.mono (hm : m.le m') (h : VRs m F l ys) : VRs m' F l ys := by
  induction h with
  | nil => exact .nil
  | cons h _ ih => exact .cons (h.mono hm) ih
theorem VRs.length (h : VRs m F l ys) : l.length = ys.length := by
  induction h with
  | nil => rfl
  | cons _ _ ih => simp [ih]
theorem VRs.get (h : VRs m F l ys) {i : Nat} {x : A} {y : Value} (hx : l[i]? = some x) (hy : ys[i]? = some y) : VR m F x y := by
  induction h generalizing i with
  | nil => simp at hx
  | cons h _ ih =>
    cases i with
    | zero => simp at hx hy; subst hx; subst hy; exact h
    | succ i => exact ih (by simpa using hx) (by simpa using hy)
theorem VRs.of (hl : l.length = ys.length) (h : ∀ (i : Nat) (x : A) (y : Value), l[i]? = some x → ys[i]? = some y → VR m F x y) : VRs m F l ys := by
  induction l generalizing ys with
  | nil => cases ys with
    | nil => exact .nil
    | cons y ys => simp at hl
  | cons x l ih => cases ys with
    | nil => simp at hl
    | cons y ys => exact .cons (h 0 x y rfl rfl) (ih (by simpa using hl) fun i a b ha hb => h (i + 1) a b (by simpa using ha) (by simpa using hb))
theorem VRs.at_ (h : VRs m F l ys) {i : Nat} {x : A} (hx : l[i]? = some x) : ∃ y, ys[i]? = some y ∧ VR m F x y := by
  have hi : i < ys.length := by rw [← h.length]; exact (List.getElem?_eq_some_iff.1 hx).1
  exact ⟨ys[i], List.getElem?_eq_getElem hi, h.get hx (List.getElem?_eq_getElem hi)⟩
theorem VRs.append (h : VRs m F l ys) (h' : VRs m F l' ys') : VRs m F (l ++ l') (ys ++ ys') := by
  induction h with
  | nil => exact h'
  | cons h _ ih => exact .cons h ih
theorem VRs.take (h : VRs m F l ys) (n : Nat) : VRs m F (l.take n) (ys.take n) := by
  induction h generalizing n with
  | nil => simp; exact .nil
  | cons h _ ih => cases n with
    | zero => exact .nil
    | succ n => exact .cons h (ih n)
theorem VRs.drop (h : VRs m F l ys) (n : Nat) : VRs m F (l.drop n) (ys.drop n) := by
  induction h generalizing n with
  | nil => simp; exact .nil
  | cons h t ih => cases n with
    | zero => exact .cons h t
    | succ n => exact ih n
theorem VRs.set_ (h : VRs m F l ys) (n : Nat) {x : A} {y : Value} (hx : VR m F x y) : VRs m F (l.set n x) (ys.set n y) := by
  induction h generalizing n with
  | nil => exact .nil
  | cons h t ih => cases n with
    | zero => exact .cons hx t
    | succ n => exact .cons h (ih n)
theorem VRs.one {x : A} {y : Value} (h : VR m F x y) : VRs m F [x] [y] := .cons h .nil
theorem VRs.inv1 {x : A} (h : VRs m F [x] ys) : ∃ y, ys = [y] ∧ VR m F x y := by
  cases h with | cons h t => cases t; exact ⟨_, rfl, h⟩
theorem VRs.inv2 {x x2 : A} (h : VRs m F [x, x2] ys) : ∃ y y2, ys = [y, y2] ∧ VR m F x y ∧ VR m F x2 y2 := by
  cases h with | cons h t => cases t with | cons h2 t => cases t; exact ⟨_, _, rfl, h, h2⟩
theorem VRs.inv3 {x x2 x3 : A} (h : VRs m F [x, x2, x3] ys) : ∃ y y2 y3, ys = [y, y2, y3] ∧ VR m F x y ∧ VR m F x2 y2 ∧ VR m F x3 y3 := by
  cases h with | cons h t => cases t with | cons h2 t => cases t with | cons h3 t => cases t; exact ⟨_, _, _, rfl, h, h2, h3⟩
theorem VR.agg_iff {x : Value} : VR m F (.g false l) x ↔ ∃ cs, x = .agg cs ∧ (∀ x ∈ l, oneA x = true) ∧ VRs m F l cs.toList := by
  constructor
  · intro h
    cases h with
    | agg h1 hl h => exact ⟨_, rfl, h1, VRs.of (by simpa using hl) fun i a b ha hb => h i a b ha (by simpa using hb)⟩
  · rintro ⟨cs, rfl, h1, h⟩
    exact .agg h1 (by simpa using h.length) fun i a b ha hb => h.get ha (by simpa using hb)
theorem VR.one {v : A} {x : Value} (h : VR m F v x) (h1 : oneA v = true) : x.oneCell' = true := by
  cases h <;> first | rfl | exact no h1 | assumption
theorem VRs.ones (h : VRs m F l ys) (h1 : ∀ x ∈ l, oneA x = true) : ∀ y ∈ ys, y.oneCell' = true := by
  induction h with
  | nil => exact fun y hy => by cases hy
  | cons h _ ih =>
    intro y hy
    rcases List.mem_cons.1 hy with rfl | hy
    · exact h.one (h1 _ (by simp))
    · exact ih (fun x hx => h1 x (by simp [hx])) y hy
theorem VR.tup_iff {x : Value} : VR m F (.g true l) x ↔ ∃ cs, x = .tuple cs ∧ VRs m F l cs.toList := by
  constructor
  · intro h
    cases h with
    | tup hl h => exact ⟨_, rfl, VRs.of (by simpa using hl) fun i a b ha hb => h i a b ha (by simpa using hb)⟩
  · rintro ⟨cs, rfl, h⟩
    exact .tup (by simpa using h.length) fun i a b ha hb => h.get ha (by simpa using hb)
theorem VR.f_iff {fn : Fn} {x : Value} : VR m F (.f fn l l') x ↔ ∃ c d, x = .func fn c d ∧ VRs m F l c.toList ∧ VRs m F l' d.toList := by
  constructor
  · intro h
    cases h with
    | f ha hb h h' => exact ⟨_, _, rfl, VRs.of (by simpa using ha) fun i a b ha hb => h i a b ha (by simpa using hb), VRs.of (by simpa using hb) fun i a b ha hb => h' i a b ha (by simpa using hb)⟩
  · rintro ⟨c, d, rfl, h, h'⟩
    exact .f (by simpa using h.length) (by simpa using h'.length) (fun i a b ha hb => h.get ha (by simpa using hb)) fun i a b ha hb => h'.get ha (by simpa using hb)
end
end Go.Proofs.YtpknalhjgbgpiaaGreatDoor
