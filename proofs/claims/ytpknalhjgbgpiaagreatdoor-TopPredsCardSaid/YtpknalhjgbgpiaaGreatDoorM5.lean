/- Parts of the proof: EvG6, EvG7, EvH1, EvH2. -/
import Derived.Laws.StructEq
import Derived.Test.YtpknalhjgbgpiaaGreatDoorM4
namespace Go.Proofs.YtpknalhjgbgpiaaGreatDoor
open Go Go.RowKit
/-- A slice operation with its bounds. -/
def SlR (g : Option A → Option A → Option A → A → KA → Bool) (t : TypeId) : Prop := ∀ (m : Mp) (F : Int) (a b c : Option A) (x : A) (a' b' c' : Option Value) (y : Value) (k : KA), OVR m F a a' → OVR m F b b' → OVR m F c c' → (c.isSome = true → b.isSome = true) → VR m F x y → g a b c x k = true →
  ∃ v, (∀ k', g a b c x k' = k' v) ∧ ∃ y', VR m F v y' ∧ ∀ w : World, (Instr.sliceAt t y a' b' c').run Tryz.prog w = .ok y' w
theorem mkSl_eq (q : Q) (o n es : Nat) (cap : Option Nat) (c : KA) : mkSl q o n es cap c = c (.sl q o n es cap) := by
  unfold mkSl
  rw [fN_eq, fN_eq]
  cases cap with
  | none => rfl
  | some m => exact fN_eq m _
theorem takeN_eq {l : List Nat} {n : Nat} (h : n ≤ l.length) (k : List Nat → Bool) : takeN n l k = k (l.take n) := by
  have := takeN_iff (l := l) (n := n) (k := k)
  cases e : k (l.take n) with
  | true => exact this.2 ⟨h, e⟩
  | false => cases e' : takeN n l k with
    | false => rfl
    | true => rw [(this.1 e').2] at e; cases e
theorem dropN_eq {l : List Nat} {n : Nat} (h : n ≤ l.length) (k : List Nat → Bool) : dropN n l k = k (l.drop n) := by
  have := dropN_iff (l := l) (n := n) (k := k)
  cases e : k (l.drop n) with
  | true => exact this.2 ⟨h, e⟩
  | false => cases e' : dropN n l k with
    | false => rfl
    | true => rw [(this.1 e').2] at e; cases e
theorem bytesOf_extract (s : ByteArray) (l h : Nat) : bytesOf (s.extract l h) = ((bytesOf s).drop l).take (h - l) := by
  unfold bytesOf
  rw [ByteArray.data_extract, Array.toList_extract, List.extract_eq_take_drop, List.map_take, List.map_drop]
theorem sliceS_R {t : TypeId} (hu : Tryz.prog.underlying t = some .string) : SlR gsliceS t := by
  intro m F a b c x a' b' c' y k ha hb hc hcb hx hg
  cases hc with
  | some hv => exact no hg
  | none =>
  have hg' : (asS x fun s => lenN s fun n => boundK b n fun h => boundK a 0 fun lw => ifB (ifB (Nat.ble h n) (Nat.ble lw h) false) (dropN lw s fun s => takeN (Nat.sub h lw) s fun s => k (.s s)) (stk "slice")) = true := hg
  obtain ⟨l, rfl, g1⟩ := asS_iff.1 hg'
  obtain ⟨s, rfl, rfl⟩ := hx.s_inv
  rw [lenN_eq] at g1
  obtain ⟨h, g2, e2, r2⟩ := boundK_R hb g1
  obtain ⟨lw, g3, e3, r3⟩ := boundK_R ha g2
  obtain ⟨hp, g4⟩ := ifB_t.1 g3
  have hp' := hp
  obtain ⟨h1, h2⟩ := ifB_t.1 hp
  have l1 := Nat.le_of_ble_eq_true h1
  have l2 := Nat.le_of_ble_eq_true h2
  obtain ⟨d1, g5⟩ := dropN_iff.1 g4
  obtain ⟨d2, g6⟩ := takeN_iff.1 g5
  refine ⟨.s (((bytesOf s).drop lw).take (h - lw)), fun k' => ?_, .string (s.extract lw h), ?_, fun w => ?_⟩
  · show (asS (.s (bytesOf s)) fun s => lenN s fun n => boundK b n fun h => boundK a 0 fun lw => ifB (ifB (Nat.ble h n) (Nat.ble lw h) false) (dropN lw s fun s => takeN (Nat.sub h lw) s fun s => k' (.s s)) (stk "slice")) = _
    show (lenN (bytesOf s) fun n => boundK b n fun h => boundK a 0 fun lw => ifB (ifB (Nat.ble h n) (Nat.ble lw h) false) (dropN lw (bytesOf s) fun s => takeN (Nat.sub h lw) s fun s => k' (.s s)) (stk "slice")) = _
    rw [lenN_eq, e2, e3, ifB_pos hp', dropN_eq d1, takeN_eq d2]
    rfl
  · rw [← bytesOf_extract]
    exact .s _
  · rw [bytesOf_length] at l1 r2
    have hb0 : (Instr.sliceBounds false s.size s.size a' b' none).run Tryz.prog w = .ok (lw, h, s.size) w :=
      bounds_run (.inl ⟨rfl, rfl⟩) (r2.imp (fun ⟨x, y⟩ => ⟨x, y, rfl⟩) id) r3 (Nat.le_refl _) l1 l2 w
    simp [Instr.sliceAt, Instr.slice, run_underlying hu, Result.andThen, hb0]
theorem sliceSl_R {t e : TypeId} {sz : Nat} (hu : Tryz.prog.underlying t = some (.slice e)) (hs : (Tryz.prog.info? e).map (·.size) = some sz) : SlR (gsliceSl sz) t := by
  intro m F a b c x a' b' c' y k ha hb hc hcb hx hg
  have hbc : ∀ {n : Nat} {d : Nat}, (b' = none ∧ n = d) ∨ b' = some (.int .i64 n) → (b' = none ∧ n = d ∧ c' = none) ∨ b' = some (.int .i64 n) := by
    intro n d h
    rcases h with ⟨h1, h2⟩ | h
    · refine .inl ⟨h1, h2, ?_⟩
      cases hc with
      | none => rfl
      | some hv =>
        have := hcb rfl
        cases hb with
        | none => cases this
        | some _ => cases h1
    · exact .inr h
  have run : ∀ {A0 : Option Addr} {len cap lw h mx : Nat} (w : World), (Instr.sliceBounds true len cap a' b' c').run Tryz.prog w = .ok (lw, h, mx) w →
      (Instr.sliceAt t (.slice A0 len cap) a' b' c').run Tryz.prog w = .ok (.slice (if mx = lw then A0 else A0.map (·.add (lw * sz))) (h - lw) (mx - lw)) w := by
    intro A0 len cap lw h mx w hb
    simp [Instr.sliceAt, Instr.slice, run_underlying hu, Result.andThen, hb, sizeOf_run hs]
  unfold gsliceSl at hg
  rcases asSl_iff.1 hg with ⟨rfl, g1⟩ | ⟨q, o, len, es, cap, rfl, g1⟩
  · obtain rfl := hx.z1_inv
    obtain ⟨mx, g2, e2, r2⟩ := boundK_R hc g1
    obtain ⟨h, g3, e3, r3⟩ := boundK_R hb g2
    obtain ⟨lw, g4, e4, r4⟩ := boundK_R ha g3
    obtain ⟨hp, g5⟩ := ifB_t.1 g4
    have hp' := hp
    obtain ⟨h1, h2⟩ := ifB_t.1 hp
    obtain ⟨h2, h3⟩ := ifB_t.1 h2
    have l1 := Nat.eq_of_beq_eq_true h1
    have l2 := Nat.eq_of_beq_eq_true h2
    have l3 := Nat.eq_of_beq_eq_true h3
    subst l1; subst l2; subst l3
    refine ⟨.z 1, fun k' => ?_, .slice none 0 0, .z1, fun w => ?_⟩
    · show (boundK c 0 fun m => boundK b 0 fun h => boundK a 0 fun lw => ifB (ifB (Nat.beq h 0) (ifB (Nat.beq lw 0) (Nat.beq m 0) false) false) (k' (.z 1)) (stk "slice of nil")) = _
      rw [e2, e3, e4]
      exact ifB_pos hp'
    · have := run (A0 := none) w (bounds_run (len := 0) (cap := 0) r2 (hbc r3) r4 (Nat.le_refl _) (Nat.le_refl _) (Nat.le_refl _) w)
      simpa using this
  · obtain ⟨hes, g2⟩ := ifB_t.1 g1
    have he := Nat.eq_of_beq_eq_true hes
    subst he
    obtain ⟨β, z, cc, hq, hl, hz, hcap, rfl⟩ := hx.sl_inv
    have eqn : ∀ k', gsliceSl es a b c (.sl q o len es cap) k' = optN cap (fun _ => gsliceO q o len es a b c k') fun cp => gsliceC q o len es cp a b c k' := fun k' => ifB_pos hes
    have addr : ∀ {lw mx : Nat}, mx ≠ lw ∨ lw = 0 → (if mx = lw then (some ⟨β, o, none⟩ : Option Addr) else (some ⟨β, o, none⟩ : Option Addr).map (·.add (lw * es))) = some ⟨β, o + lw * es, none⟩ := by
      intro lw mx h
      by_cases e : mx = lw
      · have h0 : lw = 0 := h.resolve_left (fun f => f e)
        rw [if_pos e, h0]
        simp
      · rw [if_neg e]
        simp [Addr.add_mid]
    cases cap with
    | some cp =>
      have hcp : cc = cp := hcap cp rfl
      subst hcp
      have g3 : gsliceC q o len es cc a b c k = true := g2
      unfold gsliceC at g3
      obtain ⟨mx, g4, e4, r4⟩ := boundK_R hc g3
      obtain ⟨h, g5, e5, r5⟩ := boundK_R hb g4
      obtain ⟨lw, g6, e6, r6⟩ := boundK_R ha g5
      obtain ⟨hp, g7⟩ := ifB_t.1 g6
      have hp' := hp
      obtain ⟨h1, h2⟩ := ifB_t.1 hp
      obtain ⟨h2, h3⟩ := ifB_t.1 h2
      have l1 := Nat.le_of_ble_eq_true h1
      have l2 := Nat.le_of_ble_eq_true h2
      have l3 := Nat.le_of_ble_eq_true h3
      have rn := fun w => run (A0 := some ⟨β, o, none⟩) w (bounds_run (len := len) (cap := cc) r4 (hbc r5) r6 l2 l1 l3 w)
      cases hml : Nat.beq mx lw with
      | true =>
        have e := Nat.eq_of_beq_eq_true hml
        refine ⟨.sl q o (h - lw) es (some 0), fun k' => ?_, .slice (some ⟨β, o, none⟩) (h - lw) 0, .sl hq (by omega) (by omega) (fun n hn => by cases hn; rfl), fun w => ?_⟩
        · rw [eqn]
          show gsliceC q o len es cc a b c k' = _
          unfold gsliceC
          rw [e4, e5, e6, ifB_pos hp', ifB_pos hml, mkSl_eq]
          rfl
        · rw [rn w, if_pos e]
          have : mx - lw = 0 := by omega
          rw [this]
      | false =>
        have e := Nat.ne_of_beq_eq_false hml
        refine ⟨.sl q (o + lw * es) (h - lw) es (some (mx - lw)), fun k' => ?_, .slice (some ⟨β, o + lw * es, none⟩) (h - lw) (mx - lw), .sl hq (by omega) ?_ (fun n hn => by cases hn; rfl), fun w => ?_⟩
        · rw [eqn]
          show gsliceC q o len es cc a b c k' = _
          unfold gsliceC
          rw [e4, e5, e6, ifB_pos hp', ifB_neg hml, mkSl_eq]
          rfl
        · have e0 : lw + (mx - lw) = mx := by omega
          have : lw * es + (mx - lw) * es = mx * es := by rw [← Nat.add_mul, e0]
          have : mx * es ≤ cc * es := Nat.mul_le_mul_right es l2
          omega
        · rw [rn w, addr (.inl e)]
    | none =>
      have g3 : gsliceO q o len es a b c k = true := g2
      unfold gsliceO at g3
      obtain ⟨h, g5, e5, r5⟩ := boundK_R hb g3
      obtain ⟨lw, g6, e6, r6⟩ := boundK_R ha g5
      obtain ⟨hp, g7⟩ := ifB_t.1 g6
      have hp' := hp
      obtain ⟨h1, h2⟩ := ifB_t.1 hp
      obtain ⟨h2, h3⟩ := ifB_t.1 h2
      have l1 := Nat.le_of_ble_eq_true h1
      have l2 := Nat.le_of_ble_eq_true h2
      have l3 : lw < len ∨ lw = 0 := by
        rcases ifB_iff.1 h3 with ⟨h, _⟩ | ⟨_, h⟩
        · left; rw [Nat.blt_eq] at h; exact h
        · right; exact Nat.eq_of_beq_eq_true h
      cases hc with
      | none =>
        have rn := fun w => run (A0 := some ⟨β, o, none⟩) w (bounds_run (len := len) (cap := cc) (.inl ⟨rfl, rfl⟩) (hbc r5) r6 (Nat.le_refl _) (by omega) l2 w)
        refine ⟨.sl q (o + lw * es) (h - lw) es none, fun k' => ?_, .slice (some ⟨β, o + lw * es, none⟩) (h - lw) (cc - lw), .sl hq (by omega) ?_ (fun n hn => by cases hn), fun w => ?_⟩
        · rw [eqn]
          show gsliceO q o len es a b none k' = _
          unfold gsliceO
          rw [e5, e6, ifB_pos hp']
          exact mkSl_eq _ _ _ _ _ _
        · have e0 : lw + (cc - lw) = cc := by omega
          have : lw * es + (cc - lw) * es = cc * es := by rw [← Nat.add_mul, e0]
          omega
        · rw [rn w, addr (by omega)]
      | some hv =>
        rename_i vm ym
        have g8 : (asI vm fun m => natI m fun m => ifB (ifB (Nat.ble h m) (ifB (Nat.ble m len) (ifB (Nat.blt lw m) true (Nat.beq lw 0)) false) false) (mkSl q (Nat.add o (Nat.mul lw es)) (Nat.sub h lw) es (some (Nat.sub m lw)) k) (stk "slice open max")) = true := g7
        obtain ⟨mx, rfl, g9⟩ := asI_iff.1 g8
        obtain ⟨mx, rfl, g10⟩ := natI_iff.1 g9
        obtain ⟨hq1, g11⟩ := ifB_t.1 g10
        have hq1' := hq1
        obtain ⟨k1, k2⟩ := ifB_t.1 hq1
        obtain ⟨k2, k3⟩ := ifB_t.1 k2
        have m1 := Nat.le_of_ble_eq_true k1
        have m2 := Nat.le_of_ble_eq_true k2
        have m3 : lw < mx ∨ lw = 0 := by
          rcases ifB_iff.1 k3 with ⟨h, _⟩ | ⟨_, h⟩
          · left; rw [Nat.blt_eq] at h; exact h
          · right; exact Nat.eq_of_beq_eq_true h
        obtain rfl := hv.i_inv
        have rn := fun w => run (A0 := some ⟨β, o, none⟩) w (bounds_run (len := len) (cap := cc) (.inr rfl) (hbc r5) r6 (by omega) m1 l2 w)
        refine ⟨.sl q (o + lw * es) (h - lw) es (some (mx - lw)), fun k' => ?_, .slice (some ⟨β, o + lw * es, none⟩) (h - lw) (mx - lw), .sl hq (by omega) ?_ (fun n hn => by cases hn; rfl), fun w => ?_⟩
        · rw [eqn]
          show gsliceO q o len es a b (some (.i mx)) k' = _
          unfold gsliceO
          rw [e5, e6, ifB_pos hp']
          show ifB (ifB (Nat.ble h mx) (ifB (Nat.ble mx len) (ifB (Nat.blt lw mx) true (Nat.beq lw 0)) false) false) (mkSl q (Nat.add o (Nat.mul lw es)) (Nat.sub h lw) es (some (Nat.sub mx lw)) k') (stk "slice open max") = _
          rw [ifB_pos hq1', mkSl_eq]
          rfl
        · have e0 : lw + (mx - lw) = mx := by omega
          have : lw * es + (mx - lw) * es = mx * es := by rw [← Nat.add_mul, e0]
          have : mx * es ≤ cc * es := Nat.mul_le_mul_right es (by omega)
          omega
        · rw [rn w, addr (by omega)]
end Go.Proofs.YtpknalhjgbgpiaaGreatDoor
namespace Go.Proofs.YtpknalhjgbgpiaaGreatDoor
open Go Go.RowKit
theorem pint_eq (d : Nat) (a b : Int) (w : World) : (Op.equalIn (d + 1) 3 (.int .i64 a) (.int .i64 b)).run Tryz.prog w = .ok (a == b) w := run_equalIn_int w d 3 .i64 .i64 a b Tryz.underlying3
theorem und_pair : Tryz.prog.underlying 172 = some (.array 2 3) := Tryz.underlying172
theorem pair_eq (a b d e : Int) (w : World) : (Op.equalIn 10000 172 (.agg #[.int .i64 a, .int .i64 b]) (.agg #[.int .i64 d, .int .i64 e])).run Tryz.prog w = .ok (a == d && b == e) w := by
  have hs : (sizeOf 3).run Tryz.prog w = .ok 1 w := by kernel_rfl
  have p0 : ∀ (x y : Value), (part 3 #[x, y] 0).run Tryz.prog w = .ok x w := fun x y => by kernel_rfl
  have p1 : ∀ (x y : Value), (part 3 #[x, y] 1).run Tryz.prog w = .ok y w := fun x y => by kernel_rfl
  rw [show (10000 : Nat) = 9998 + 1 + 1 from rfl]
  unfold Op.equalIn
  simp only [Sem.run_bind, run_underlying und_pair, Result.andThen_ok, hs]
  rw [Std.Legacy.Range.forIn_eq_forIn_range']
  simp only [Std.Legacy.Range.size]
  simp [List.range', p0, p1, pint_eq]
  by_cases h1 : a = d <;> by_cases h2 : b = e <;> simp [h1, h2]
theorem pair_gd : Tryz.prog.eqGuardType Tryz.prog.depth 172 = false := by kernel_rfl
theorem two_cells {m : Mp} {F : Int} {a b : Int} {y : Value} (h : VR m F (.g false [.i a, .i b]) y) : y = .agg #[.int .i64 a, .int .i64 b] := by
  obtain ⟨cs, rfl, _, h2⟩ := VR.agg_iff.1 h
  obtain ⟨y1, y2, e, h3, h4⟩ := h2.inv2
  rw [h3.i_inv, h4.i_inv] at e
  obtain ⟨l⟩ := cs
  simp only at e
  rw [e]
theorem agg_R : BinR gagg .eql 172 := by
  intro m F v u y z c hv hu hg
  unfold gagg at hg
  obtain ⟨l, rfl, g1⟩ := asAg_iff.1 hg
  obtain ⟨l', rfl, g2⟩ := asAg_iff.1 g1
  obtain ⟨a, b, rfl, g3⟩ := list2_iff g2
  obtain ⟨d, e, rfl, g4⟩ := list2_iff g3
  obtain ⟨a, rfl, g5⟩ := asI_iff.1 g4
  obtain ⟨b, rfl, g6⟩ := asI_iff.1 g5
  obtain ⟨d, rfl, g7⟩ := asI_iff.1 g6
  obtain ⟨e, rfl, g8⟩ := asI_iff.1 g7
  obtain rfl := two_cells hv
  obtain rfl := two_cells hu
  refine ⟨.b (ifB (eqI a d) (eqI b e) false), fun c' => fB_eq _ _, _, .b _, fun x1 x2 w => ?_⟩
  have hg := run_eqGuard_agg (P := Tryz.prog) w .eql 172 x1 x2 #[.int .i64 a, .int .i64 b] #[.int .i64 d, .int .i64 e] pair_gd
  have hb := run_eql_struct (P := Tryz.prog) w 172 #[.int .i64 a, .int .i64 b] #[.int .i64 d, .int .i64 e]
  rw [pair_eq] at hb
  simp only [Sem.run_bind, hg, hb, Result.andThen_ok]
  have : ifB (eqI a d) (eqI b e) false = (a == d && b == e) := by
    rw [eqI_eq, eqI_eq, ifB_eq]
    by_cases h1 : a = d <;> by_cases h2 : b = e <;> simp [h1, h2]
  rw [this]
-- keys
/-- A class of keys at a type. -/
def KeyC (C : KC) (t : TypeId) : Prop := @KeyK C.K C.dec t C.kv
theorem chk_plain {t : TypeId} {d : TypeDesc} {v : Value} (h : Tryz.prog.underlying t = some d) (hd : (∃ k, d = .int k) ∨ d = .string) (e : Bool) (w : World) : (Instr.checkKey e 10000 t v).run Tryz.prog w = .ok () w := by
  rw [show (10000 : Nat) = 9999 + 1 from rfl]
  unfold Instr.checkKey
  rw [Sem.run_bind, run_underlying h]
  rcases hd with ⟨k, rfl⟩ | rfl <;> cases v <;> rfl
theorem keyI {t : TypeId} (h : Tryz.prog.underlying t = some (.int .i64)) : KeyC kcI t :=
  (⟨fun e k w => chk_plain h (.inl ⟨_, rfl⟩) e w, _, h, .inl fun a b => by
    have e : ((a : Int) == (b : Int)) = decide (a = b) := by
      rw [Bool.eq_iff_iff, beq_iff_eq, decide_eq_true_eq]
      exact Int.natCast_inj
    rw [← e]
    simp only [Instr.sameNow, if_true]⟩ : KeyK (K := Nat) t fun n => .int .i64 n)
theorem keyS {t : TypeId} (h : Tryz.prog.underlying t = some .string) : KeyC kcS t :=
  (⟨fun e k w => chk_plain h (.inr rfl) e w, _, h, .inl fun a b => by
    have e : (a == b) = decide (a = b) := by
      rw [Bool.eq_iff_iff, decide_eq_true_eq]
      constructor
      · intro h
        exact ByteArray.ext (eq_of_beq (show (a.data == b.data) = true from h))
      · rintro rfl
        show (a.data == a.data) = true
        exact beq_self_eq_true _
    rw [← e]
    simp only [Instr.sameNow]⟩ : KeyK (K := ByteArray) t fun b => .string b)
theorem keyP : KeyC kcP 172 :=
  (⟨fun e k w => by
    obtain ⟨a, b⟩ := k
    cases e <;> kernel_rfl, _, und_pair, .inr ⟨fun a b => rfl, fun p q w => by
    obtain ⟨a, b⟩ := p
    obtain ⟨d, e⟩ := q
    refine (pair_eq a b d e w).trans ?_
    congr 1
    rw [Bool.eq_iff_iff, Bool.and_eq_true, beq_iff_eq, beq_iff_eq, decide_eq_true_eq]
    constructor
    · rintro ⟨h1, h2⟩
      rw [Int.natCast_inj.1 h1, Int.natCast_inj.1 h2]
    · intro h
      injection h with h1 h2
      exact ⟨by rw [h1], by rw [h2]⟩⟩⟩ : KeyK (K := Nat × Nat) 172 fun p => .agg #[.int .i64 p.1, .int .i64 p.2])
theorem keyN : KeyC kcN 281 := node_key
/-- What is taken for a key's number. -/
theorem encK_R {m : Mp} {F : Int} {cl : Nat} {x : A} {y : Value} {k : Nat → Bool} (hx : VR m F x y) (hk : encK cl x k = true) :
    ∀ C, kcOf cl = some C → ∃ a : C.K, C.ok a ∧ y = C.kv a ∧ k (C.enc a) = true ∧ ∀ k', encK cl x k' = k' (C.enc a) := by
  intro C hC
  unfold encK at hk
  match cl, hC with
  | 0, hC =>
    cases hC
    have hk : encI x k = true := hk
    obtain ⟨n, rfl, h1⟩ := asI_iff.1 hk
    obtain ⟨n, rfl, h2⟩ := natI_iff.1 h1
    exact ⟨n, trivial, hx.i_inv, h2, fun _ => rfl⟩
  | 1, hC =>
    cases hC
    have hk : encS x k = true := hk
    obtain ⟨l, rfl, h1⟩ := asS_iff.1 hk
    obtain ⟨b, rfl, rfl⟩ := hx.s_inv
    rw [codeS_eq] at h1
    exact ⟨b, trivial, rfl, h1, fun k' => codeS_eq _ _ _⟩
  | 2, hC =>
    cases hC
    have hk : encP x k = true := hk
    unfold encP at hk
    obtain ⟨l, rfl, h1⟩ := asAg_iff.1 hk
    obtain ⟨a, b, rfl, h2⟩ := list2_iff h1
    obtain ⟨a, rfl, h3⟩ := asI_iff.1 h2
    obtain ⟨a, rfl, h4⟩ := natI_iff.1 h3
    obtain ⟨b, rfl, h5⟩ := asI_iff.1 h4
    obtain ⟨b, rfl, h6⟩ := natI_iff.1 h5
    obtain ⟨hp, h7⟩ := ifB_t.1 h6
    have hb : b < 1048576 := by have := hp; rw [Nat.blt_eq] at this; exact this
    rw [fN_eq] at h7
    refine ⟨(a, b), hb, two_cells hx, h7, fun k' => ?_⟩
    show ifB (Nat.blt b mKey) (fN (Nat.add (Nat.mul a mKey) b) k') false = _
    rw [ifB_pos hp, fN_eq]
    rfl
  | 3, hC =>
    cases hC
    have hk : encN x k = true := hk
    unfold encN at hk
    rcases asT_iff.1 hk with ⟨rfl, h⟩ | ⟨t, v, rfl, h1⟩
    · exact no h
    obtain ⟨z, rfl, hz⟩ := hx.t_inv
    obtain ⟨l, rfl, h2⟩ := asAg_iff.1 h1
    obtain ⟨cs, rfl, _, hcs⟩ := VR.agg_iff.1 hz
    rcases ifB_iff.1 h2 with ⟨ht, h3⟩ | ⟨ht, h3⟩
    · obtain ⟨a, rfl, h4⟩ := list1_iff h3
      obtain ⟨a, rfl, h5⟩ := asI_iff.1 h4
      obtain ⟨a, rfl, h6⟩ := natI_iff.1 h5
      rw [fN_eq] at h6
      have e := Nat.eq_of_beq_eq_true ht
      subst e
      refine ⟨.leaf a, (show (0 : Int) ≤ (a : Int) by omega), ?_, ?_, fun k' => ?_⟩
      · obtain ⟨y1, e, h7⟩ := hcs.inv1
        rw [h7.i_inv] at e
        obtain ⟨l⟩ := cs
        simp only at e
        rw [e]
        rfl
      · exact h6
      · exact fN_eq (Nat.mul 2 a) k'
    · rcases ifB_iff.1 h3 with ⟨ht', h4⟩ | ⟨_, h4⟩
      rotate_left
      · exact no h4
      obtain ⟨a, b, d, rfl, h5⟩ := list3_iff h4
      obtain ⟨a, rfl, h6⟩ := asI_iff.1 h5
      obtain ⟨a, rfl, h7⟩ := natI_iff.1 h6
      obtain ⟨b, rfl, h8⟩ := asI_iff.1 h7
      obtain ⟨b, rfl, h9⟩ := natI_iff.1 h8
      obtain ⟨d, rfl, h10⟩ := asI_iff.1 h9
      obtain ⟨d, rfl, h11⟩ := natI_iff.1 h10
      obtain ⟨hp, h12⟩ := ifB_t.1 h11
      have hp' := hp
      obtain ⟨p1, p2⟩ := ifB_t.1 hp
      have b1 : b < 1048576 := by rw [Nat.blt_eq] at p1; exact p1
      have b2 : d < 1048576 := by rw [Nat.blt_eq] at p2; exact p2
      rw [fN_eq] at h12
      have e := Nat.eq_of_beq_eq_true ht'
      subst e
      refine ⟨.fork a b d, ⟨b1, b2⟩, ?_, h12, fun k' => ?_⟩
      · obtain ⟨y1, y2, y3, e, h13, h14, h15⟩ := hcs.inv3
        rw [h13.i_inv, h14.i_inv, h15.i_inv] at e
        obtain ⟨l⟩ := cs
        simp only at e
        rw [e]
        rfl
      · show ifB (ifB (Nat.blt b mKey) (Nat.blt d mKey) false) (fN (Nat.succ (Nat.mul 2 (Nat.add (Nat.mul (Nat.add (Nat.mul a mKey) b) mKey) d))) k') false = _
        rw [ifB_pos hp', fN_eq]
        rfl
  | n + 4, hC => cases hC
end Go.Proofs.YtpknalhjgbgpiaaGreatDoor
namespace Go.Proofs.YtpknalhjgbgpiaaGreatDoor
open Go Go.RowKit
def R1R (g : R1) (f : Value → Sem Value) : Prop := ∀ (F : Int) (b : Base) (m : Mp) (s : S) (w : World) (v : A) (y : Value) (c : KA), St F b m s w → VR m F v y → g s v c = true →
  ∃ v', (∀ c', g s v c' = c' v') ∧ ∃ y', VR m F v' y' ∧ (f y).run Tryz.prog w = .ok y' w
def R2R (g : R2) (f : Value → Value → Sem Value) : Prop := ∀ (F : Int) (b : Base) (m : Mp) (s : S) (w : World) (v u : A) (y z : Value) (c : KA), St F b m s w → VR m F v y → VR m F u z → g s v u c = true →
  ∃ v', (∀ c', g s v u c' = c' v') ∧ ∃ y', VR m F v' y' ∧ (f y z).run Tryz.prog w = .ok y' w
section
variable {F : Int} {b : Base} {m : Mp} {s : S} {w : World}
theorem OR.cells_inv {z : Nat} {l : List A} {obj : Obj} (h : OR m F z (.cells l) obj) : ∃ c t fr, obj = .cells c t fr ∧ c.size = z ∧ VRs m F l (c.toList.take l.length) ∧ (fr.2 ≤ fr.1 ∨ z ≤ fr.1) ∧ ∀ x ∈ l, oneA x = true := by
  cases obj <;> first | exact False.elim h | exact ⟨_, _, _, rfl, h⟩
theorem OR.iter_inv {z : Nat} {l : List Nat} {p : Nat} {obj : Obj} (h : OR m F z (.iter l p) obj) : ∃ b, obj = .stringIter b p ∧ bytesOf b = l := by
  cases obj <;> first | exact False.elim h | exact ⟨_, by rw [h.2], h.1⟩
/-- A block of cells that is in use. -/
theorem St.cells (h : St F b m s w) {q : Q} {β z : Nat} (hq : m q = some (β, z)) {l : List A} (hl : getO q s.h = .cells l) :
    ∃ c t fr, w.heap[β]? = some (.cells c t fr) ∧ c.size = z ∧ l.length ≤ z ∧ VRs m F l (c.toList.take l.length) ∧ (fr.2 ≤ fr.1 ∨ z ≤ fr.1) ∧ (∀ x ∈ l, oneA x = true) ∧ ∀ i, w.cell? ⟨β, i, none⟩ = c[i]? := by
  obtain ⟨obj, h1, h2⟩ := h.live q β z hq (by rw [hl]; exact fun e => by cases e)
  rw [hl] at h2
  obtain ⟨c, t, fr, rfl, h3, h4, h5, h6⟩ := h2.cells_inv
  refine ⟨c, t, fr, h1, h3, ?_, h4, h5, h6, fun i => cell_of_row w β i c t fr h1⟩
  have := h4.length
  rw [List.length_take] at this
  have e : c.toList.length = c.size := Array.length_toList
  omega
theorem readK_iff {q : Q} {k : List A → Bool} (h : readK s q k = true) : ∃ l, getO q s.h = .cells l ∧ k l = true ∧ ∀ k', readK s q k' = k' l := by
  obtain ⟨l, h1, h2⟩ := asC_iff.1 h
  exact ⟨l, h1, h2, fun k' => by unfold readK; rw [h1]; rfl⟩
end
theorem load1_R {t : TypeId} {d : TypeDesc} (hu : Tryz.prog.underlying t = some d) (hd : d.isRow = false) : R1R rload1 fun y => Instr.loadAt t y := by
  intro F b m s w v y c hS hv hg
  unfold rload1 at hg
  obtain ⟨q, o, rfl, g1⟩ := asP_iff.1 hg
  obtain ⟨β, z, hq, rfl⟩ := hv.p_inv
  obtain ⟨l, hl, g2, e2⟩ := readK_iff g1
  obtain ⟨cs, ty, fr, h1, h2, h3, h4, h5, h6, h7⟩ := hS.cells hq hl
  obtain ⟨x, hx, g3⟩ := nthK_iff.1 g2
  obtain ⟨y', hy', hr⟩ := h4.at_ hx
  have ho : o < l.length := (List.getElem?_eq_some_iff.1 hx).1
  have hc : w.cell? ⟨β, o, none⟩ = some y' := by
    rw [h7]
    rw [List.getElem?_take_of_lt ho] at hy'
    simpa using hy'
  refine ⟨x, fun c' => ?_, y', hr, ?_⟩
  · show readK s q (fun l => YtpknalhjgbgpiaaGreatDoor.part1 o l c') = _
    rw [e2]
    have : VRs m F l (cs.toList.take l.length).toArray.toList := h4
    obtain ⟨v2, _, hv2, _, _, _, he⟩ := this.part1 g2
    rw [hx] at hv2
    cases hv2
    exact he c'
  · simp only [Instr.loadAt, Instr.sureAddr, Sem.run_bind, Sem.run_pure, Result.andThen_ok, loadVar, isAgg_run hu, hd]
    show (load ⟨β, o, none⟩).run Tryz.prog w = _
    rw [run_load, hc]
theorem loadN_R {t : TypeId} {d : TypeDesc} {sz : Nat} (hu : Tryz.prog.underlying t = some d) (hd : d.isRow = true) (hs : (Tryz.prog.info? t).map (·.size) = some sz) : R1R (rloadN sz) fun y => Instr.loadAt t y := by
  intro F b m s w v y c hS hv hg
  unfold rloadN at hg
  obtain ⟨q, o, rfl, g1⟩ := asP_iff.1 hg
  obtain ⟨β, z, hq, rfl⟩ := hv.p_inv
  obtain ⟨l, hl, g2, e2⟩ := readK_iff g1
  obtain ⟨cs, ty, fr, h1, h2, h3, h4, h5, h6, h7⟩ := hS.cells hq hl
  have h4' : VRs m F l (cs.toList.take l.length).toArray.toList := h4
  obtain ⟨v', hv', hle, hc, he⟩ := h4'.partN h6 g2
  refine ⟨v', fun c' => by show readK s q (fun l => YtpknalhjgbgpiaaGreatDoor.partN sz o l c') = _; rw [e2]; exact he c', _, hv', ?_⟩
  have hrange : w.rangeAt β o ((cs.toList.take l.length).toArray.extract o (o + sz)).toList := by
    intro j v hj
    rw [h7]
    rw [Array.toList_extract, List.extract_eq_take_drop] at hj
    have hj2 : j < sz := by
      have := (List.getElem?_eq_some_iff.1 hj).1
      simp at this
      omega
    rw [List.getElem?_take_of_lt (by omega), List.getElem?_drop] at hj
    have hj3 : (cs.toList.take l.length)[o + j]? = some v := hj
    rw [List.getElem?_take_of_lt (by omega)] at hj3
    simpa using hj3
  have hlen : ((cs.toList.take l.length).toArray.extract o (o + sz)).toList.length = sz := by
    simp
    omega
  have := run_loadAt_mid (P := Tryz.prog) w β o t _ d hrange hu hd (by rw [hlen]; exact hs)
  rw [this]
theorem lenM_R {t ty kt et : TypeId} (hu : Tryz.prog.underlying t = some (.map kt et)) : R1R rlenM fun y => Builtin.len_ #[t] ty #[y] := by
  intro F b m s w v y c hS hv hg
  unfold rlenM at hg
  rcases asML_iff.1 hg with ⟨rfl, g1⟩ | ⟨q, rfl, g1⟩
  · obtain rfl := hv.z2_inv
    refine ⟨.i 0, fun c' => rfl, _, .i _, ?_⟩
    simp [Builtin.len_, run_underlying hu, Result.andThen, goInt]
  · obtain ⟨β, z, hq, rfl⟩ := hv.m_inv
    obtain ⟨cl, es, hl, g2⟩ := asMp_iff.1 g1
    obtain ⟨obj, h1, h2⟩ := hS.live q β z hq (by rw [hl]; exact fun e => by cases e)
    rw [hl] at h2
    obtain ⟨C, hC, l, rfl, h3, h4, h5⟩ := h2
    have hlen : es.length = l.length := by
      have := congrArg List.length h4
      simpa using this
    have hk : ∀ i, (kents C.kv l i).length = l.length := by
      intro i
      clear h1 h3 h4 h5 hlen
      induction l generalizing i with
      | nil => rfl
      | cons x l ih => simp [kents, ih]
    refine ⟨.i es.length, fun c' => ?_, _, .i _, ?_⟩
    · show asMp (getO q s.h) (fun _ es => lenM es fun n => c' (.i (Int.ofNat n))) = _
      rw [hl]
      exact lenM_eq es _
    · simp [Builtin.len_, run_underlying hu, Result.andThen, goInt, MapKept.run_getObj_map h1, hk, hlen]
theorem findK_R {m : Mp} {F : Int} {C : KC} {a : C.K} (ha : C.ok a) : ∀ {es : List (Nat × A)} {l : List (C.K × Value)} {kn : Unit → Bool} {k : KA}, (∀ e ∈ l, C.ok e.1) → es.map (·.1) = l.map (fun e => C.enc e.1) → VRs m F (es.map (·.2)) (l.map (·.2)) → findK es (C.enc a) kn k = true →
    (letI := C.dec; (∃ v e, l.find? (fun e => decide (a = e.1)) = some e ∧ VR m F v e.2 ∧ k v = true ∧ ∀ kn' k', findK es (C.enc a) kn' k' = k' v) ∨ (l.find? (fun e => decide (a = e.1)) = none ∧ kn () = true ∧ ∀ kn' k', findK es (C.enc a) kn' k' = kn' ())) := by
  letI := C.dec
  intro es
  induction es with
  | nil =>
    intro l kn k ho h1 h2 hf
    cases l with
    | cons x l => simp at h1
    | nil => exact .inr ⟨rfl, hf, fun _ _ => rfl⟩
  | cons e es ih =>
    intro l kn k ho h1 h2 hf
    cases l with
    | nil => simp at h1
    | cons x l =>
      simp only [List.map_cons, List.cons.injEq] at h1
      simp only [List.map_cons] at h2
      cases h2 with
      | cons hv ht =>
        have hf' : ifB (Nat.beq (C.enc a) e.1) (k e.2) (findK es (C.enc a) kn k) = true := hf
        rcases ifB_iff.1 hf' with ⟨hb, h3⟩ | ⟨hb, h3⟩
        · have e1 := Nat.eq_of_beq_eq_true hb
          rw [h1.1] at e1
          have e2 := C.inj a x.1 ha (ho x (by simp)) e1
          refine .inl ⟨e.2, x, ?_, hv, h3, fun kn' k' => ?_⟩
          · rw [List.find?_cons]
            simp [e2]
          · show ifB (Nat.beq (C.enc a) e.1) (k' e.2) (findK es (C.enc a) kn' k') = _
            rw [ifB_pos hb]
        · have e1 := Nat.ne_of_beq_eq_false hb
          have e2 : a ≠ x.1 := fun h => e1 (by rw [h1.1, h])
          have hfd : (x :: l).find? (fun e => decide (a = e.1)) = l.find? (fun e => decide (a = e.1)) := by
            rw [List.find?_cons]
            simp [e2]
          have st : ∀ kn' k', findK (e :: es) (C.enc a) kn' k' = findK es (C.enc a) kn' k' := fun kn' k' => by
            show ifB (Nat.beq (C.enc a) e.1) (k' e.2) (findK es (C.enc a) kn' k') = _
            rw [ifB_neg hb]
          rcases ih (fun e he => ho e (by simp [he])) h1.2 ht h3 with ⟨v, y, r1, r2, r3, r4⟩ | ⟨r1, r2, r3⟩
          · exact .inl ⟨v, y, hfd.trans r1, r2, r3, fun kn' k' => (st kn' k').trans (r4 kn' k')⟩
          · exact .inr ⟨hfd.trans r1, r2, fun kn' k' => (st kn' k').trans (r3 kn' k')⟩
theorem lookupOk_R {t kt et : TypeId} {cl : Nat} {C : KC} (hC : kcOf cl = some C) (hK : KeyC C kt) (hu : Tryz.prog.underlying t = some (.map kt et)) {zero : A} {z : Value} (hz : ∀ m F, VR m F zero z) (hr : ∀ w, (zeroValue et).run Tryz.prog w = .ok z w) :
    R2R (rlookupOk cl zero) fun y i => Instr.lookup t y i true := by
  letI := C.dec
  intro F b m s w v u y i c hS hv hw hg
  have pair : ∀ {a : A} {x : Value} (b : Bool), VR m F a x → VR m F (.g true [a, .b b]) (.tuple #[x, .bool b]) := fun b ha => VR.tup_iff.2 ⟨_, rfl, .cons ha (.cons (.b b) .nil)⟩
  unfold rlookupOk at hg
  obtain ⟨q, rfl, g1⟩ := asM_iff.1 hg
  obtain ⟨β, zz, hq, rfl⟩ := hv.m_inv
  obtain ⟨cl', es, hl, g2⟩ := asMp_iff.1 g1
  obtain ⟨hp, g3⟩ := ifB_t.1 g2
  have e := Nat.eq_of_beq_eq_true hp
  subst e
  obtain ⟨obj, h1, h2⟩ := hS.live q β zz hq (by rw [hl]; exact fun e => by cases e)
  rw [hl] at h2
  obtain ⟨C', hC', l, rfl, h3, h4, h5⟩ := h2
  rw [hC] at hC'
  cases hC'
  obtain ⟨a, ha, rfl, g4, e4⟩ := encK_R hw g3 C hC
  have hm : @KMapAt C.K C.kv w β l := h1
  have hrun := klookup hK hu hr hm a
  have step : ∀ c', rlookupOk cl zero s (.m q) u c' = findK es (C.enc a) (fun _ => c' (.g true [zero, .b false])) fun v => c' (.g true [v, .b true]) := fun c' => by
    show asMp (getO q s.h) (fun c'' es => ifB (Nat.beq cl c'') (encK cl u fun y => findK es y (fun _ => c' (.g true [zero, .b false])) fun v => c' (.g true [v, .b true])) (stk "class of keys")) = _
    rw [hl]
    show ifB (Nat.beq cl cl) _ _ = _
    rw [ifB_pos hp, e4]
  rcases findK_R ha h3 h4 h5 g4 with ⟨x, ent, r1, r2, r3, r4⟩ | ⟨r1, r2, r3⟩
  · refine ⟨.g true [x, .b true], fun c' => (step c').trans (r4 _ _), _, pair true r2, ?_⟩
    rw [hrun, r1]
    rfl
  · refine ⟨.g true [zero, .b false], fun c' => (step c').trans (r3 _ _), _, pair false (hz m F), ?_⟩
    rw [hrun, r1]
    rfl
end Go.Proofs.YtpknalhjgbgpiaaGreatDoor
namespace Go.Proofs.YtpknalhjgbgpiaaGreatDoor
open Go Go.RowKit
def AlR (g : GS) (f : List Value → Sem Value) : Prop := ∀ (m : Mp) (F : Int) (l : List A) (ys : List Value) (c : O → (Q → A) → Bool), VRs m F l ys → g l c = true →
  ∃ o h, (∀ c', g l c' = c' o h) ∧ c o h = true ∧ o ≠ .none ∧ ∃ obj z, ∃ yv : Nat → Value, OR m F z o obj ∧ (∀ (m' : Mp) (q : Q) (β : Nat), m' q = some (β, z) → VR m' F (h q) (yv β)) ∧ ∀ w : World, (f ys).run Tryz.prog w = .ok (yv w.heap.size) (w.alloc obj)
theorem new_run (t : TypeId) (cells : Array Value) (w : World) : (newRow t cells).run Tryz.prog w = .ok ⟨w.heap.size, 0, none⟩ (w.alloc (.cells cells t)) := rfl
theorem OR.new {m : Mp} {F : Int} {l : List A} {c : Array Value} {t : TypeId} (h : VRs m F l c.toList) (h1 : ∀ x ∈ l, oneA x = true) : OR m F c.size (.cells l) (.cells c t) := by
  refine ⟨rfl, ?_, .inl (Nat.le_refl _), h1⟩
  have : l.length = c.toList.length := h.length
  rw [this, List.take_length]
  exact h
theorem cells_ne {l : List A} : O.cells l ≠ .none := fun e => by cases e
theorem alloc_R {t : TypeId} {z : Value} {zero : List A} (hz : ∀ m F, VRs m F zero z.cells.toList) (h1 : ∀ x ∈ zero, oneA x = true) (hr : ∀ w, (zeroValue t).run Tryz.prog w = .ok z w) : AlR (salloc zero) fun _ => Instr.alloc t true (.tuple #[]) := by
  intro m F l ys c hl hg
  refine ⟨.cells zero, fun q => .p q 0, fun _ => rfl, hg, cells_ne, _, _, fun β => .pointer (some ⟨β, 0, none⟩), OR.new (t := t) (hz m F) h1, fun m' q β h => .p h, fun w => ?_⟩
  simp [Instr.alloc, hr, Result.andThen, newVar, new_run]
theorem box_R {t : TypeId} : AlR sbox fun l => Instr.box t (l.getD 0 undef) := by
  intro m F l ys c hl hg
  obtain ⟨x, rfl, g1⟩ := list1_iff hg
  obtain ⟨y, rfl, hx⟩ := hl.inv1
  obtain ⟨hg2, g2⟩ := cellsK_iff.1 g1
  obtain ⟨h2, h3⟩ := hx.cells_ hg2
  refine ⟨.cells (cellsA x), fun q => .p q 0, fun c' => cellsK_eq hg2 _, g2, cells_ne, _, _, fun β => .pointer (some ⟨β, 0, none⟩), OR.new (t := t) h2 h3, fun m' q β h => .p h, fun w => ?_⟩
  simp [Instr.box, Result.andThen, newVar, new_run]
theorem rep_zero (z : Array Value) (n : Nat) : ((Array.range (n * z.size)).map fun i => z[i % z.size]!).toList = (List.replicate n z.toList).flatten := by
  rw [Array.toList_map, Array.toList_range]
  induction n with
  | zero => simp
  | succ n ih =>
    have e : (n + 1) * z.size = z.size + n * z.size := by rw [Nat.add_mul]; omega
    rw [e, List.range_add, List.map_append, List.replicate_succ, List.flatten_cons]
    congr 1
    · apply List.ext_getElem
      · simp
      · intro i h1 h2
        have hi : i < z.size := by simpa using h1
        simp [Nat.mod_eq_of_lt hi, hi]
    · rw [← ih, List.map_map]
      apply List.map_congr_left
      intro i _
      simp
theorem VRs.rep {m : Mp} {F : Int} {l : List A} {ys : List Value} (h : VRs m F l ys) (n : Nat) : VRs m F (List.replicate n l).flatten (List.replicate n ys).flatten := by
  induction n with
  | zero => exact .nil
  | succ n ih =>
    rw [List.replicate_succ, List.replicate_succ, List.flatten_cons, List.flatten_cons]
    exact h.append ih
theorem rep_one {l : List A} (h1 : ∀ x ∈ l, oneA x = true) (n : Nat) : ∀ x ∈ (List.replicate n l).flatten, oneA x = true := by
  intro x hx
  obtain ⟨r, hr, hx⟩ := List.mem_flatten.1 hx
  rw [List.eq_of_mem_replicate hr] at hx
  exact h1 x hx
theorem buildSlice_R {t e : TypeId} {len sz : Nat} {z : Value} {zero : List A} {ix : List Nat} {ps : List (Nat × Nat)} (hu : Tryz.prog.underlying t = some (.slice e)) (hs : (Tryz.prog.info? e).map (·.size) = some sz)
    (hz : ∀ m F, VRs m F zero z.cells.toList) (h1 : ∀ x ∈ zero, oneA x = true) (hr : ∀ w, (zeroValue e).run Tryz.prog w = .ok z w) (hl0 : zero.length = sz) (hlen : len * sz ≤ 16777216) (hp : Pl (fun i => some (i * sz, sz)) ix ps)
    {l : List A} (hl : l.length = ix.length) {m : Mp} {F : Int} {ys : List Value} {c : O → (Q → A) → Bool} (hy : VRs m F l ys) (hg : sbuild len sz ps (List.replicate len zero).flatten l c = true) :
    ∃ o h, (∀ c', sbuild len sz ps (List.replicate len zero).flatten l c' = c' o h) ∧ c o h = true ∧ o ≠ .none ∧ ∃ obj zz, ∃ yv : Nat → Value, OR m F zz o obj ∧ (∀ (m' : Mp) (q : Q) (β : Nat), m' q = some (β, zz) → VR m' F (h q) (yv β)) ∧ ∀ w : World, (Instr.buildSlice t len (ix.zip ys).toArray).run Tryz.prog w = .ok (yv w.heap.size) (w.alloc obj) := by
  have hzs : z.cells.size = sz := by rw [← hl0, (hz (fun _ => none) 0).length]; simp
  have h0 : VRs m F (List.replicate len zero).flatten ((Array.range (len * sz)).map fun i => z.cells[i % z.cells.size]!).toList := by
    rw [← hzs, rep_zero]
    exact (hz m F).rep len
  have hg' : partsK ps l (List.replicate len zero).flatten (fun z => c (.cells z) fun q => .sl q 0 len sz (some len)) = true := hg
  obtain ⟨z', cells', e1, e2, e3, e4, e5, e6⟩ := fill_R hp hl hy h0 (rep_one h1 len) hg'
  have hsize : cells'.size = len * sz := by
    have a1 : z'.length = cells'.size := by rw [e4.length]; simp
    rw [← a1, e6, List.length_flatten]
    simp [hl0]
  refine ⟨.cells z', fun q => .sl q 0 len sz (some len), fun c' => e1 _, e2, cells_ne, _, _, fun β => .slice (some ⟨β, 0, none⟩) len len, OR.new (t := e) e4 e5, fun m' q β h => .sl h (Nat.le_refl _) (by omega) (fun n hn => by cases hn; rfl), fun w => ?_⟩
  have hb : ¬ len * sz > 2 ^ 24 := by omega
  by_cases hzero : len * sz = 0
  · have hr0 : ∀ f : Nat → Value, (Array.range 0).map f = #[] := fun f => by simp
    rw [hzero, hr0] at e3
    simp only [Instr.buildSlice, Sem.run_bind, run_underlying hu, Result.andThen_ok, sizeOf_run hs, if_neg hb, if_pos hzero, Sem.run_pure]
    rw [hzero, hr0]
    simp only [e3]
    rfl
  · simp only [Instr.buildSlice, Sem.run_bind, run_underlying hu, Result.andThen_ok, sizeOf_run hs, if_neg hb, if_neg hzero, Sem.run_pure, hr]
    simp only [e3]
    rfl
theorem makeMap_R {t : TypeId} {cl : Nat} {C : KC} (hC : kcOf cl = some C) : AlR (smakeMap cl) fun _ => Instr.makeMap t none := by
  intro m F l ys c hl hg
  refine ⟨.map cl [], fun q => .m q, fun _ => rfl, hg, (fun e => by cases e), .map #[] 0, 0, fun β => .map (some β), ⟨C, hC, [], rfl, (fun e he => by cases he), rfl, .nil⟩, fun m' q β h => .m h, fun w => rfl⟩
theorem range_R {t : TypeId} (hu : Tryz.prog.underlying t = some .string) : AlR srange fun l => Instr.range t (l.getD 0 undef) := by
  intro m F l ys c hl hg
  obtain ⟨x, rfl, g1⟩ := list1_iff hg
  obtain ⟨y, rfl, hx⟩ := hl.inv1
  obtain ⟨l, rfl, g2⟩ := asS_iff.1 g1
  obtain ⟨s, rfl, rfl⟩ := hx.s_inv
  refine ⟨.iter (bytesOf s) 0, fun q => .p q 0, fun _ => rfl, g2, (fun e => by cases e), .stringIter s 0, 0, fun β => .pointer (some ⟨β, 0, none⟩), ⟨rfl, rfl⟩, fun m' q β h => .p h, fun w => ?_⟩
  simp [Instr.range, run_underlying hu, Result.andThen]
end Go.Proofs.YtpknalhjgbgpiaaGreatDoor
