/- Parts of the proof: LexShow. -/
import Derived.Test.YteikakoheibnjaaGreatDoorM1
namespace Go.Proofs.YteikakoheibnjaaGreatDoor
open Go

/-- A token without its place. -/
abbrev TS := Nat × List UInt8 × Nat
def spec (t : Tok) : TS := (t.kind, t.text, t.n)
theorem tokR_at (p q : Nat) (R : List Ru) : (tokR p R).map (fun x => (spec x.1, x.2)) = (tokR q R).map (fun x => (spec x.1, x.2)) := by
  cases R with
  | nil => rfl
  | cons r R =>
    unfold tokR
    dsimp only
    split
    · split <;> rfl
    · split
      · split <;> rfl
      · split <;> rfl
theorem toks_at : ∀ (n : Nat) (R : List Ru) (p q : Nat), R.length ≤ n → (toks R p).1.map spec = (toks R q).1.map spec ∧ (toks R p).2.isSome = (toks R q).2.isSome := by
  intro n
  induction n with
  | zero =>
    intro R p q h
    have : R = [] := List.eq_nil_of_length_eq_zero (by omega)
    subst this
    rw [toks_eq, toks_eq [] q]
    simp
  | succ n ih =>
    intro R p q h
    rw [toks_eq, toks_eq R q]
    split
    · exact ⟨rfl, rfl⟩
    · have e := tokR_at (p + (flat (R.take (skipM false R))).length) (q + (flat (R.take (skipM false R))).length) (R.drop (skipM false R))
      cases h1 : tokR (p + (flat (R.take (skipM false R))).length) (R.drop (skipM false R)) with
      | none =>
        rw [h1] at e
        cases h2 : tokR (q + (flat (R.take (skipM false R))).length) (R.drop (skipM false R)) with
        | none => exact ⟨rfl, rfl⟩
        | some y => rw [h2] at e; cases e
      | some x =>
        rw [h1] at e
        cases h2 : tokR (q + (flat (R.take (skipM false R))).length) (R.drop (skipM false R)) with
        | none => rw [h2] at e; cases e
        | some y =>
          rw [h2] at e
          obtain ⟨t, k⟩ := x
          obtain ⟨t', k'⟩ := y
          simp only [Option.map_some, Option.some.injEq, Prod.mk.injEq] at e
          obtain ⟨e1, rfl⟩ := e
          have h3 := tokR_len h1
          rw [List.length_drop] at h3
          obtain ⟨i1, i2⟩ := ih ((R.drop (skipM false R)).drop k) (p + (flat (R.take (skipM false R))).length + (flat ((R.drop (skipM false R)).take k)).length) (q + (flat (R.take (skipM false R))).length + (flat ((R.drop (skipM false R)).take k)).length) (by simp; omega)
          dsimp only
          rw [List.map_cons, List.map_cons, i1, e1, i2]
          exact ⟨rfl, rfl⟩
/-- Tokens without places; does something begin none? -/
def TSR (R : List Ru) : List TS × Bool := ((toks R 0).1.map spec, (toks R 0).2.isSome)
theorem TSR_nil : TSR [] = ([], false) := by
  unfold TSR
  rw [toks_eq]
  simp
theorem TSR_tok {R : List Ru} {t : Tok} {n : Nat} (h : skipM false R = 0) (hR : R ≠ []) (ht : tokR 0 R = some (t, n)) : TSR R = (spec t :: (TSR (R.drop n)).1, (TSR (R.drop n)).2) := by
  have hh := toks_eq R 0
  rw [h] at hh
  simp only [List.drop_zero, List.take_zero, flat_nil, List.length_nil, Nat.add_zero] at hh
  rw [if_neg hR, ht] at hh
  simp only at hh
  obtain ⟨i1, i2⟩ := toks_at (R.drop n).length (R.drop n) (0 + (flat (R.take n)).length) 0 (Nat.le_refl _)
  unfold TSR
  rw [hh]
  simp only [List.map_cons]
  rw [i1, i2]
theorem TSR_skip {R : List Ru} : TSR R = TSR (R.drop (skipM false R)) := by
  have h1 := toks_eq R 0
  have h2 := toks_eq (R.drop (skipM false R)) 0
  have hs : ∀ (R : List Ru) (b : Bool), skipM false (R.drop (skipM b R)) = 0 := by
    intro R
    induction R with
    | nil => intro b; cases b <;> simp [skipM]
    | cons r t ih =>
      intro b
      cases b with
      | true =>
        by_cases c : r.1 = 10
        · have e : skipM true (r :: t) = skipM false t + 1 := by simp [skipM, c]
          rw [e]
          simpa using ih false
        · have e : skipM true (r :: t) = skipM true t + 1 := by simp [skipM, c]
          rw [e]
          simpa using ih true
      | false =>
        by_cases c1 : cls r.1 = 3
        · have e : skipM false (r :: t) = skipM false t + 1 := by simp [skipM, c1]
          rw [e]
          simpa using ih false
        · by_cases c2 : r.1 = 35
          · have e : skipM false (r :: t) = skipM true t + 1 := by simp [skipM, c2, show cls 35 ≠ 3 by decide]
            rw [e]
            simpa using ih true
          · have e : skipM false (r :: t) = 0 := by simp [skipM, c1, c2]
            rw [e]
            exact e
  rw [hs R false] at h2
  simp only [List.drop_zero, List.take_zero, flat_nil, List.length_nil, Nat.add_zero] at h2
  unfold TSR
  generalize R.drop (skipM false R) = S at *
  rw [h1, h2]
  split
  · rfl
  · have e := tokR_at (0 + (flat (R.take (skipM false R))).length) 0 S
    cases h3 : tokR (0 + (flat (R.take (skipM false R))).length) S with
    | none =>
      rw [h3] at e
      cases h4 : tokR 0 S with
      | none => rfl
      | some y => rw [h4] at e; cases e
    | some x =>
      rw [h3] at e
      cases h4 : tokR 0 S with
      | none => rw [h4] at e; cases e
      | some y =>
        rw [h4] at e
        obtain ⟨t, k⟩ := x
        obtain ⟨t', k'⟩ := y
        simp only [Option.map_some, Option.some.injEq, Prod.mk.injEq] at e
        obtain ⟨e1, rfl⟩ := e
        obtain ⟨i1, i2⟩ := toks_at (S.drop k).length (S.drop k) (0 + (flat (R.take (skipM false R))).length + (flat (S.take k)).length) (0 + (flat (S.take k)).length) (Nat.le_refl _)
        dsimp only
        rw [List.map_cons, List.map_cons, i1, e1, i2]
/-- A blank is left out. -/
theorem TSR_blank (r : Ru) (R : List Ru) (h : cls r.1 = 3) : TSR (r :: R) = TSR R := by
  rw [TSR_skip, TSR_skip (R := R)]
  have e : skipM false (r :: R) = skipM false R + 1 := by simp [skipM, h]
  rw [e]
  rfl

/-- What may stand behind any token. -/
def brk (R : List Ru) : Prop := ∀ r ∈ R.head?, more r = false ∧ r.1 ≠ 61 ∧ r.1 ≠ 62
theorem brk_nil : brk [] := fun _ h => by cases h
theorem brk_cons {r : Ru} {R : List Ru} (h : more r = false ∧ r.1 ≠ 61 ∧ r.1 ≠ 62) : brk (r :: R) := fun x hx => by
  simp at hx
  subst hx
  exact h
theorem takeWhile_app {α : Type} (p : α → Bool) : ∀ (A B : List α), (∀ x ∈ A, p x = true) → (∀ x ∈ B.head?, p x = false) → (A ++ B).takeWhile p = A
  | [], [], _, _ => rfl
  | [], b :: B, _, h => by
    have := h b (by simp)
    simp [this]
  | a :: A, B, h, hb => by
    rw [List.cons_append, List.takeWhile_cons, if_pos (h a (by simp)), takeWhile_app p A B (fun x hx => h x (by simp [hx])) hb]
/-- These runes are a name, or a word. -/
def nameR (N : List Ru) : Prop := N ≠ [] ∧ (∀ r ∈ N.head?, cls r.1 = 1) ∧ (∀ r ∈ N.tail, more r = true) ∧ N.length ≤ 12
theorem TSR_name {N R : List Ru} (h : nameR N) (hb : brk R) : TSR (N ++ R) = ((if flat N ∈ wordL then 3 else 1, flat N, 0) :: (TSR R).1, (TSR R).2) := by
  obtain ⟨h1, h2, h3, h4⟩ := h
  cases N with
  | nil => exact absurd rfl h1
  | cons r N =>
    have hc : cls r.1 = 1 := h2 r (by simp)
    have hn : nameLen (r :: N ++ R) = N.length + 1 := by
      show ((N ++ R).takeWhile more).length + 1 = _
      rw [takeWhile_app more N R (fun x hx => h3 x hx) (fun x hx => (hb x hx).1)]
    have ht : tokR 0 (r :: N ++ R) = some (⟨if flat (r :: N) ∈ wordL then 3 else 1, flat (r :: N), 0, 0⟩, N.length + 1) := by
      rw [List.cons_append] at hn ⊢
      unfold tokR
      dsimp only
      have e : (r :: (N ++ R)).take (N.length + 1) = r :: N := by simp
      rw [if_pos hc, hn, e, if_pos (by simpa using h4)]
    rw [TSR_tok (by simp [skipM, hc, show r.1 ≠ 35 by intro e; rw [e] at hc; revert hc; decide]) (by simp) ht]
    simp [spec]
/-- These runes are a number. -/
theorem TSR_num {D R : List Ru} (n : Nat) (hD : D ≠ []) (hd : ∀ r ∈ D, digit r = true) (hv : numVal D = n) (hn : n ≤ 99) (hz : ¬ (∃ r ∈ D.head?, r.1 = 48 ∧ 1 < D.length)) (hb : brk R) :
    TSR (D ++ R) = ((2, [], n) :: (TSR R).1, (TSR R).2) := by
  cases D with
  | nil => exact absurd rfl hD
  | cons r D =>
    have hc : cls r.1 = 2 := by simpa [digit] using hd r (by simp)
    have hw : (r :: D ++ R).takeWhile digit = r :: D := takeWhile_app digit (r :: D) R hd (fun x hx => by
      have := (hb x hx).1
      unfold more at this
      simp only [Bool.or_eq_false_iff] at this
      exact this.1.2)
    have ht : tokR 0 (r :: D ++ R) = some (⟨2, [], n, 0⟩, D.length + 1) := by
      rw [List.cons_append] at hw ⊢
      unfold tokR
      dsimp only
      rw [if_neg (by rw [hc]; decide), if_pos hc, hw, hv, if_pos ⟨hn, fun hh => hz ⟨r, by simp, hh⟩⟩]
      rfl
    rw [TSR_tok (by simp [skipM, hc, show r.1 ≠ 35 by intro e; rw [e] at hc; revert hc; decide]) (by simp) ht]
    simp [spec]
/-- A sign, once it is the one that is found. -/
theorem TSR_sign {S : List Ru} {s : List UInt8} (h1 : ∀ r ∈ S.head?, cls r.1 = 4 ∧ r.1 ≠ 35) (hf : signL.find? (isPre · S) = some s) : TSR S = ((3, s, 0) :: (TSR (S.drop s.length)).1, (TSR (S.drop s.length)).2) := by
  cases S with
  | nil =>
    have : signL.find? (isPre · ([] : List Ru)) = none := by decide
    rw [this] at hf
    cases hf
  | cons r R =>
    obtain ⟨hc, h35⟩ := h1 r (by simp)
    have ht : tokR 0 (r :: R) = some (⟨3, s, 0, 0⟩, s.length) := by
      unfold tokR
      dsimp only
      rw [if_neg (by rw [hc]; decide), if_neg (by rw [hc]; decide), hf]
    rw [TSR_tok (by simp [skipM, hc, h35]) (by simp) ht]
    simp [spec]
theorem each_ascii (c : UInt8) (t : List UInt8) (h : c.toNat < 128) : each (c :: t) = ((c.toNat, [c]) :: (each t).1, (each t).2) := by
  have e := dec_ascii c t h
  rw [each_step (by simp) (by rw [e]; omega), e]
  simp
/-- This text is these tokens, whatever R stands behind. -/
def Lx (b : List UInt8) (ts : List TS) (R : List Ru) : Prop := (each b).2 = false ∧ TSR ((each b).1 ++ R) = (ts ++ (TSR R).1, (TSR R).2)
theorem Lx_nil (R : List Ru) : Lx [] [] R := ⟨rfl, rfl⟩
theorem Lx_app {a b : List UInt8} {ts us : List TS} {R : List Ru} (ha : Lx a ts ((each b).1 ++ R)) (hb : Lx b us R) : Lx (a ++ b) (ts ++ us) R := by
  have e := each_app b a ha.1
  refine ⟨by rw [e]; exact hb.1, ?_⟩
  rw [e]
  dsimp only
  rw [List.append_assoc, ha.2, hb.2, List.append_assoc]
theorem Lx_sp {b : List UInt8} {ts : List TS} {R : List Ru} (c : UInt8) (hc : c = 32 ∨ c = 10) (hb : Lx b ts R) : Lx (c :: b) ts R := by
  have h : c.toNat < 128 := by rcases hc with rfl | rfl <;> decide
  have h3 : cls c.toNat = 3 := by rcases hc with rfl | rfl <;> decide
  rw [Lx, each_ascii c b h]
  refine ⟨hb.1, ?_⟩
  dsimp only
  rw [List.cons_append, TSR_blank _ _ h3]
  exact hb.2
/-- A sign that no other one begins with. -/
theorem Lx_one {b : List UInt8} {ts : List TS} {R : List Ru} (c : UInt8) (hc : c ∈ ([38, 124, 40, 41, 123, 125, 44, 59, 58, 43, 92] : List UInt8)) (hb : Lx b ts R) : Lx (c :: b) ((3, [c], 0) :: ts) R := by
  have h : c.toNat < 128 ∧ cls c.toNat = 4 ∧ c.toNat ≠ 35 := by
    revert hc
    revert c
    decide
  rw [Lx, each_ascii c b h.1]
  refine ⟨hb.1, ?_⟩
  dsimp only
  rw [List.cons_append]
  have hf : signL.find? (isPre · ((c.toNat, [c]) :: ((each b).1 ++ R))) = some [c] := by
    simp only [List.mem_cons, List.not_mem_nil, or_false] at hc
    rcases hc with rfl | rfl | rfl | rfl | rfl | rfl | rfl | rfl | rfl | rfl | rfl <;> simp [signL, isPre, List.find?]
  rw [TSR_sign (by simpa using h.2) hf]
  simp only [List.length_cons, List.length_nil, List.drop_succ_cons, List.drop_zero]
  rw [hb.2]
  rfl
/-- '~', if no '=' stands behind. -/
theorem Lx_not {b : List UInt8} {ts : List TS} {R : List Ru} (hn : ∀ r ∈ ((each b).1 ++ R).head?, r.1 ≠ 61) (hb : Lx b ts R) : Lx (126 :: b) ((3, [126], 0) :: ts) R := by
  rw [Lx, each_ascii 126 b (by decide)]
  refine ⟨hb.1, ?_⟩
  dsimp only
  rw [List.cons_append]
  have hf : signL.find? (isPre · (((126 : UInt8).toNat, [126]) :: ((each b).1 ++ R))) = some [126] := by
    cases hS : (each b).1 ++ R with
    | nil => simp [signL, isPre, List.find?]
    | cons r S =>
      rw [hS] at hn
      have h61 := hn r (by simp)
      have g1 : (r.1 == 61) = false := beq_false_of_ne h61
      simp [signL, isPre, List.find?, g1]
  rw [TSR_sign (by simp; decide) hf]
  simp only [List.length_cons, List.length_nil, List.drop_succ_cons, List.drop_zero]
  rw [hb.2]
  rfl
/-- A sign with a blank behind. -/
theorem Lx_rel {b : List UInt8} {ts : List TS} {R : List Ru} (x : List UInt8) (hx : x ∈ ([[38], [124], [61, 62], [60, 61, 62], [61], [126, 61], [60], [60, 61], [92]] : List (List UInt8))) (hb : Lx b ts R) : Lx (x ++ 32 :: b) ((3, x, 0) :: ts) R := by
  simp only [List.mem_cons, List.not_mem_nil, or_false] at hx
  have hsp : TSR ((32, [32]) :: ((each b).1 ++ R)) = (ts ++ (TSR R).1, (TSR R).2) := by rw [TSR_blank _ _ (by decide)]; exact hb.2
  have e32 := each_ascii 32 b (by decide)
  rcases hx with rfl | rfl | rfl | rfl | rfl | rfl | rfl | rfl | rfl
  all_goals
    simp only [List.cons_append, List.nil_append]
    rw [Lx]
    repeat rw [each_ascii _ _ (by decide)]
    refine ⟨hb.1, ?_⟩
    simp only [List.cons_append]
    rw [TSR_sign (by simp; decide) (by simp [signL, isPre, List.find?]; rfl)]
    simp only [List.length_cons, List.length_nil, List.drop_succ_cons, List.drop_zero]
    rw [show ((32 : UInt8).toNat, [(32 : UInt8)]) = (32, [32]) from rfl, hsp]
def nameRb : List Ru → Bool
  | [] => false
  | r :: t => cls r.1 == 1 && t.all more && decide (t.length ≤ 11)
theorem nameR_of {N : List Ru} (h : nameRb N = true) : nameR N := by
  cases N with
  | nil => cases h
  | cons r t =>
    unfold nameRb at h
    simp only [Bool.and_eq_true, decide_eq_true_eq, beq_iff_eq, List.all_eq_true] at h
    exact ⟨by simp, fun x hx => by simp at hx; subst hx; exact h.1.1, fun x hx => h.1.2 x hx, by simp; omega⟩
theorem words_ok : ∀ x ∈ wordL, (each x).2 = false ∧ nameRb (each x).1 = true ∧ flat (each x).1 = x := by decide
/-- A word, if a breaker stands behind. -/
theorem Lx_word {x : List UInt8} {R : List Ru} (hx : x ∈ wordL) (hb : brk R) : Lx x [(3, x, 0)] R := by
  obtain ⟨h1, h2, h3⟩ := words_ok x hx
  refine ⟨h1, ?_⟩
  rw [TSR_name (nameR_of h2) hb, h3, if_pos hx]
  rfl
theorem flat_len_pos : ∀ (R : List Ru), (∀ r ∈ R, 1 ≤ r.2.length) → R.length ≤ (flat R).length
  | [], _ => by simp
  | r :: R, h => by
    have := flat_len_pos R (fun x hx => h x (by simp [hx]))
    have := h r (by simp)
    rw [flat_cons, List.length_append]
    simp
    omega
theorem flat_split {R : List Ru} (hR : ∀ r ∈ R, 1 ≤ r.2.length) (k n : Nat) (hk : k ≤ R.length) (hn : n ≤ R.length - k) (h : (flat ((R.drop k).take n)).length = (flat R).length) : k = 0 ∧ n = R.length := by
  have e : R = R.take k ++ ((R.drop k).take n ++ (R.drop k).drop n) := by rw [List.take_append_drop, List.take_append_drop]
  have e2 := congrArg (fun x => (flat x).length) e
  simp only [flat_app, List.length_append] at e2
  have h1 := flat_len_pos (R.take k) (fun r hr => hR r (List.mem_of_mem_take hr))
  have h2 := flat_len_pos ((R.drop k).drop n) (fun r hr => hR r (List.mem_of_mem_drop (List.mem_of_mem_drop hr)))
  simp only [List.length_take, List.length_drop] at h1 h2
  omega
/-- What nameB says of a text's runes. -/
theorem nameB_runes {s : List UInt8} (h : nameB s = true) : (each s).2 = false ∧ nameR (each s).1 ∧ flat (each s).1 = s ∧ s ∉ wordL := by
  unfold nameB tokens at h
  by_cases hl : 2000 < s.length
  · rw [if_pos hl] at h
    simp at h
  rw [if_neg hl] at h
  obtain ⟨rest, hfl, hr1, _⟩ := each_flat s
  have hmem := each_mem s
  cases ht : (toks (each s).1 0).2 with
  | some p => rw [ht] at h; simp at h
  | none =>
    rw [ht] at h
    simp only at h
    cases hb : (each s).2 with
    | true => rw [hb] at h; simp at h
    | false =>
      rw [hb] at h
      have hrest := hr1 hb
      rw [hrest, List.append_nil] at hfl
      generalize (each s).1 = R at *
      rw [if_neg (by decide)] at h
      simp only [Bool.and_eq_true, beq_self_eq_true, true_and] at h
      rw [toks_eq] at h ht
      by_cases hd : R.drop (skipM false R) = []
      · rw [if_pos hd] at h
        simp at h
      · rw [if_neg hd] at h ht
        cases hk : tokR (0 + (flat (R.take (skipM false R))).length) (R.drop (skipM false R)) with
        | none => rw [hk] at ht; cases ht
        | some x =>
          obtain ⟨t, n⟩ := x
          rw [hk] at h
          simp only [List.cons_append] at h
          split at h
          · next t' _ heq =>
            injection heq with e1 e2
            subst e1
            simp only [Bool.and_eq_true, beq_iff_eq] at h
            obtain ⟨hk1, htx⟩ := h
            have hln := tokR_len hk
            rw [List.length_drop] at hln
            cases hS : R.drop (skipM false R) with
            | nil => exact absurd hS hd
            | cons r S =>
              rw [hS] at hk
              unfold tokR at hk
              dsimp only at hk
              split at hk
              · next hc =>
                split at hk
                · next hn =>
                  simp only [Option.some.injEq, Prod.mk.injEq] at hk
                  obtain ⟨e3, e4⟩ := hk
                  have hkind := congrArg Tok.kind e3
                  have htext := congrArg Tok.text e3
                  simp only at hkind htext
                  have htx2 : flat ((R.drop (skipM false R)).take n) = s := by rw [hS, ← e4, htext, htx]
                  have hin : (if flat ((R.drop (skipM false R)).take n) ∈ wordL then 3 else 1) = 1 := by rw [hS, ← e4, hkind, hk1]
                  have hsp := flat_split (fun r hr => (hmem r hr).2) (skipM false R) n (skipM_le R false) hln.2 (by rw [htx2, hfl])
                  rw [hsp.1, List.drop_zero] at hS hin
                  have hnl : nameLen R = R.length := by rw [hS, e4, hsp.2, hS]
                  refine ⟨rfl, ⟨by rw [hS]; simp, ?_, ?_, ?_⟩, hfl.symm, ?_⟩
                  · intro x hx
                    rw [hS] at hx
                    simp at hx
                    subst hx
                    exact hc
                  · rw [hS]
                    rw [hS] at hnl
                    have hw : (S.takeWhile more).length = S.length := by
                      unfold nameLen at hnl
                      simpa using hnl
                    have hw2 : S.takeWhile more = S := (List.takeWhile_sublist more).eq_of_length hw
                    intro x hx
                    rw [List.tail_cons, ← hw2] at hx
                    exact (List.all_eq_true.1 (List.all_takeWhile (l := S) (p := more))) x hx
                  · rw [← hnl, hS]
                    exact hn
                  · intro hh
                    rw [hsp.2, List.take_length, ← hfl, if_pos hh] at hin
                    cases hin
                · cases hk
              · split at hk
                · split at hk
                  · simp only [Option.some.injEq, Prod.mk.injEq] at hk
                    rw [← hk.1] at hk1
                    cases hk1
                  · cases hk
                · split at hk
                  · simp only [Option.some.injEq, Prod.mk.injEq] at hk
                    rw [← hk.1] at hk1
                    cases hk1
                  · cases hk
          · cases h
/-- A name, if a breaker stands behind. -/
theorem Lx_name {s : List UInt8} {R : List Ru} (hs : nameB s = true) (hb : brk R) : Lx s [(1, s, 0)] R := by
  obtain ⟨h1, h2, h3, h4⟩ := nameB_runes hs
  refine ⟨h1, ?_⟩
  rw [TSR_name h2 hb, h3, if_neg h4]
  rfl
def numRb (D : List Ru) (n : Nat) : Bool := match D with
  | [] => false
  | r :: t => (r :: t).all digit && numVal (r :: t) == n && !(r.1 == 48 && decide (0 < t.length))
theorem nums_ok : ∀ i : Fin 100, (each (dig i.val)).2 = false ∧ numRb (each (dig i.val)).1 i.val = true := by decide
/-- A number, if a breaker stands behind. -/
theorem Lx_num {n : Nat} {R : List Ru} (hn : n ≤ 99) (hb : brk R) : Lx (dig n) [(2, [], n)] R := by
  obtain ⟨h1, h2⟩ := nums_ok ⟨n, by omega⟩
  simp only at h1 h2
  refine ⟨h1, ?_⟩
  generalize (each (dig n)).1 = D at *
  cases D with
  | nil => cases h2
  | cons r t =>
    unfold numRb at h2
    simp only [Bool.and_eq_true, beq_iff_eq, Bool.not_eq_true', Bool.and_eq_false_iff, decide_eq_false_iff_not] at h2
    rw [TSR_num n (by simp) (fun x hx => List.all_eq_true.1 h2.1.1 x hx) h2.1.2 hn (fun ⟨y, hy, h48, hl⟩ => by
      simp at hy
      subst hy
      rcases h2.2 with h | h
      · simp at h
        exact h h48
      · simp at hl
        omega) hb]
    rfl
end Go.Proofs.YteikakoheibnjaaGreatDoor
