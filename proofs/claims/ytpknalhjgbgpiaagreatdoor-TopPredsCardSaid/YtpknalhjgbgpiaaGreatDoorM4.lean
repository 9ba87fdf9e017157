/- Parts of the proof: EvG2, EvG3, EvG4, EvG5. -/
import Derived.Deep.MidRow
import Derived.Test.YtpknalhjgbgpiaaGreatDoorM3
namespace Go.Proofs.YtpknalhjgbgpiaaGreatDoor
open Go Go.RowKit
theorem und_of {P : Program} {t : TypeId} {d : TypeDesc} (h : undT P t = d) (hd : d ≠ .invalid) : P.underlying t = some d := by
  unfold undT at h
  cases e : P.underlying t with
  | none => rw [e] at h; exact absurd h.symm hd
  | some d' => rw [e] at h; exact congrArg some h
-- texts
theorem bytesOf_append (a b : ByteArray) : bytesOf (a ++ b) = bytesOf a ++ bytesOf b := by
  unfold bytesOf
  rw [ByteArray.data_append, Array.toList_append, List.map_append]
theorem bytesOf_length (a : ByteArray) : (bytesOf a).length = a.size := by
  unfold bytesOf
  rw [List.length_map, Array.length_toList]
  rfl
theorem eqLN_bytes (a b : ByteArray) : eqLN (bytesOf a) (bytesOf b) = (a.toList == b.toList) := by
  rw [eqLN_eq, ByteArray.toList_eq, ByteArray.toList_eq, Bool.eq_iff_iff, decide_eq_true_eq, beq_iff_eq]
  constructor
  · intro h
    rw [bytesOf_inj h]
  · intro h
    unfold bytesOf
    rw [h]
theorem ltLN_map (a b : List UInt8) : ltLN (a.map (·.toNat)) (b.map (·.toNat)) = Op.bytesLess a b := by
  induction a generalizing b with
  | nil => cases b <;> rfl
  | cons x a ih =>
    cases b with
    | nil => rfl
    | cons y b =>
      show ifB (Nat.blt x.toNat y.toNat) true (ifB (Nat.beq x.toNat y.toNat) (ltLN (a.map (·.toNat)) (b.map (·.toNat))) false) = (decide (x < y) || (x == y && Op.bytesLess a b))
      rw [ih]
      have h1 : Nat.blt x.toNat y.toNat = decide (x < y) := by rw [Bool.eq_iff_iff, Nat.blt_eq, decide_eq_true_eq]; exact UInt8.lt_iff_toNat_lt.symm
      have h2 : Nat.beq x.toNat y.toNat = (x == y) := by rw [Bool.eq_iff_iff, Nat.beq_eq, beq_iff_eq]; exact UInt8.toNat_inj
      rw [h1, h2]
      cases decide (x < y) <;> cases x == y <;> rfl
theorem ltLN_bytes (a b : ByteArray) : ltLN (bytesOf a) (bytesOf b) = Op.bytesLess a.toList b.toList := by
  rw [ByteArray.toList_eq, ByteArray.toList_eq]
  exact ltLN_map _ _
section
variable {t : TypeId}
theorem str_R {g : List Nat → List Nat → Bool} {op : BinOp} (h : ∀ (a b : ByteArray) (w : World), (binOp op t (.string a) (.string b)).run Tryz.prog w = .ok (.bool (g (bytesOf a) (bytesOf b))) w) : BinR (gstr g) op t := by
  intro m F v u y z c hv hu hg
  unfold gstr at hg
  obtain ⟨a, rfl, g1⟩ := asS_iff.1 hg
  obtain ⟨b, rfl, g2⟩ := asS_iff.1 g1
  obtain ⟨a, rfl, rfl⟩ := hv.s_inv
  obtain ⟨b, rfl, rfl⟩ := hu.s_inv
  refine ⟨.b (g (bytesOf a) (bytesOf b)), fun c' => fB_eq _ _, _, .b _, fun x1 x2 w => ?_⟩
  rw [Sem.run_bind, guard_str]
  exact h a b w
theorem seql_R : BinR (gstr eqLN) .eql t := str_R fun a b w => by rw [eqLN_bytes]; rfl
theorem sneq_R : BinR (gstr fun a b => notB (eqLN a b)) .neq t := str_R fun a b w => by rw [eqLN_bytes, notB_eq]; rfl
theorem slss_R : BinR (gstr ltLN) .lss t := str_R fun a b w => by rw [ltLN_bytes]; rfl
theorem cat_R : BinR gcat .add t := by
  intro m F v u y z c hv hu hg
  unfold gcat at hg
  obtain ⟨a, rfl, g1⟩ := asS_iff.1 hg
  obtain ⟨b, rfl, g2⟩ := asS_iff.1 g1
  rw [appN_eq, lenN_eq] at g2
  obtain ⟨hp, g3⟩ := ifB_t.1 g2
  obtain ⟨a, rfl, rfl⟩ := hv.s_inv
  obtain ⟨b, rfl, rfl⟩ := hu.s_inv
  rw [← bytesOf_append] at *
  refine ⟨.s (bytesOf (a ++ b)), fun c' => ?_, _, .s _, fun x1 x2 w => ?_⟩
  · show appN (bytesOf a) (bytesOf b) (fun z => lenN z fun n => ifB (Nat.ble n 1000000) (c' (.s z)) (stk "a long text")) = _
    rw [appN_eq, lenN_eq, ← bytesOf_append, ifB_pos hp]
  · rw [Sem.run_bind, guard_str]
    have hl := Nat.le_of_ble_eq_true hp
    rw [bytesOf_length, ByteArray.size_append] at hl
    show (Op.stringOp .add a b).run Tryz.prog w = _
    unfold Op.stringOp
    have : ¬ ((a.size + b.size : Nat) : Int) > IntKind.i64.max := by
      have hm : IntKind.i64.max = 9223372036854775807 := by decide
      omega
    simp only
    rw [if_neg this]
    rfl
theorem bool_run (op : BinOp) (a b : Bool) (e : Bool) (hop : op = if e then .neq else .eql) (ht : Tryz.prog.underlying t = some .bool) (w : World) : (binOp op t (.bool a) (.bool b)).run Tryz.prog w = .ok (.bool (eqB (eqB a b) (notB e))) w := by
  have h1 : (Op.equal t (.bool a) (.bool b)).run Tryz.prog w = .ok (a == b) w := by
    show (Op.equalIn (9999 + 1) t _ _).run _ _ = _
    unfold Op.equalIn
    simp [run_underlying ht, Result.andThen]
  cases e <;> subst hop <;> simp [binOp, h1, Result.andThen, eqB_eq, notB_eq]
theorem bool_R (e : Bool) {op : BinOp} (hop : op = if e then .neq else .eql) (ht : Tryz.prog.underlying t = some .bool) : BinR (gbool e) op t := by
  intro m F v u y z c hv hu hg
  unfold gbool at hg
  obtain ⟨a, rfl, g1⟩ := asB_iff.1 hg
  obtain ⟨b, rfl, g2⟩ := asB_iff.1 g1
  obtain rfl := hv.b_inv
  obtain rfl := hu.b_inv
  refine ⟨.b (eqB (eqB a b) (notB e)), fun c' => fB_eq _ _, _, .b _, fun x1 x2 w => ?_⟩
  rw [Sem.run_bind, guard_bool]
  exact bool_run op a b e hop ht w
/-- One of both is nil. -/
theorem nilP_R (e : Bool) {op : BinOp} (hop : op = if e then .neq else .eql) {el : TypeId} (ht : Tryz.prog.underlying t = some (.pointer el)) : BinR (gnilP e) op t := by
  have key : ∀ (a b : Option Addr) (w : World), a = none ∨ b = none → (Op.equal t (.pointer a) (.pointer b)).run Tryz.prog w = .ok (a.isNone && b.isNone) w := by
    intro a b w hab
    show (Op.equalIn (9999 + 1) t _ _).run _ _ = _
    unfold Op.equalIn
    cases a with
    | none => simp [run_underlying ht, Result.andThen]
    | some a => cases b with
      | none => simp [run_underlying ht, Result.andThen]
      | some b => simp at hab
  have key2 : ∀ (a b : Option Addr) (w : World), a = none ∨ b = none → (binOp op t (.pointer a) (.pointer b)).run Tryz.prog w = .ok (.bool (eqB (ifB a.isNone b.isNone false) (notB e))) w := by
    intro a b w hab
    have h := key a b w hab
    cases e <;> subst hop <;> cases a <;> cases b <;> simp [binOp, h, Result.andThen, eqB_eq, notB_eq, ifB_eq]
  intro m F v u y z c hv hu hg
  unfold gnilP at hg
  have inv : ∀ {x : A} {y : Value} {k : Bool → Bool}, VR m F x y → isNilP x k = true → ∃ a : Option Addr, y = .pointer a ∧ k a.isNone = true ∧ ∀ k', isNilP x k' = k' a.isNone := by
    intro x y k hx hk
    rcases isNilP_iff.1 hk with ⟨rfl, h⟩ | ⟨q, o, rfl, h⟩
    · exact ⟨none, hx.z0_inv, h, fun _ => rfl⟩
    · obtain ⟨β, z, _, rfl⟩ := hx.p_inv
      exact ⟨some _, rfl, h, fun _ => rfl⟩
  obtain ⟨a, rfl, g1, e1⟩ := inv hv hg
  obtain ⟨b, rfl, g2, e2⟩ := inv hu g1
  obtain ⟨hp, g3⟩ := ifB_t.1 g2
  refine ⟨.b (eqB (ifB a.isNone b.isNone false) (notB e)), fun c' => ?_, _, .b _, fun x1 x2 w => ?_⟩
  · show (isNilP v fun a => isNilP u fun b => ifB (ifB a true b) (fB (eqB (ifB a b false) (notB e)) fun z => c' (.b z)) (stk "eq of addresses")) = _
    rw [e1, e2, ifB_pos hp, fB_eq]
  · rw [Sem.run_bind, guard_ptr]
    refine key2 a b w ?_
    cases a with
    | none => exact .inl rfl
    | some a => cases b with
      | none => exact .inr rfl
      | some b => exact no hp
theorem nilS_R (e : Bool) {op : BinOp} (hop : op = if e then .neq else .eql) {el : TypeId} (ht : Tryz.prog.underlying t = some (.slice el)) : BinR (gnilS e) op t := by
  have key : ∀ (a b : Option Addr) (n k i j : Nat) (w : World), a = none ∨ b = none → (Op.equal t (.slice a n i) (.slice b k j)).run Tryz.prog w = .ok (a.isNone && b.isNone) w := by
    intro a b n k i j w hab
    show (Op.equalIn (9999 + 1) t _ _).run _ _ = _
    unfold Op.equalIn
    cases a with
    | none => simp [run_underlying ht, Result.andThen]
    | some a => cases b with
      | none => simp [run_underlying ht, Result.andThen]
      | some b => simp at hab
  have key2 : ∀ (a b : Option Addr) (n k i j : Nat) (w : World), a = none ∨ b = none → (binOp op t (.slice a n i) (.slice b k j)).run Tryz.prog w = .ok (.bool (eqB (ifB a.isNone b.isNone false) (notB e))) w := by
    intro a b n k i j w hab
    have h := key a b n k i j w hab
    cases e <;> subst hop <;> cases a <;> cases b <;> simp [binOp, h, Result.andThen, eqB_eq, notB_eq, ifB_eq]
  intro m F v u y z c hv hu hg
  unfold gnilS at hg
  have inv : ∀ {x : A} {y : Value} {k : Bool → Bool}, VR m F x y → isNilS x k = true → ∃ (a : Option Addr) (n i : Nat), y = .slice a n i ∧ k a.isNone = true ∧ ∀ k', isNilS x k' = k' a.isNone := by
    intro x y k hx hk
    rcases isNilS_iff.1 hk with ⟨rfl, h⟩ | ⟨q, o, l, e, c, rfl, h⟩
    · exact ⟨none, 0, 0, hx.z1_inv, h, fun _ => rfl⟩
    · obtain ⟨β, z, cc, _, _, _, _, rfl⟩ := hx.sl_inv
      exact ⟨some _, _, _, rfl, h, fun _ => rfl⟩
  obtain ⟨a, n, i, rfl, g1, e1⟩ := inv hv hg
  obtain ⟨b, k, j, rfl, g2, e2⟩ := inv hu g1
  obtain ⟨hp, g3⟩ := ifB_t.1 g2
  refine ⟨.b (eqB (ifB a.isNone b.isNone false) (notB e)), fun c' => ?_, _, .b _, fun x1 x2 w => ?_⟩
  · show (isNilS v fun a => isNilS u fun b => ifB (ifB a true b) (fB (eqB (ifB a b false) (notB e)) fun z => c' (.b z)) (stk "eq of slices")) = _
    rw [e1, e2, ifB_pos hp, fB_eq]
  · rw [Sem.run_bind, guard_slice]
    refine key2 a b n k i j w ?_
    cases a with
    | none => exact .inl rfl
    | some a => cases b with
      | none => exact .inr rfl
      | some b => exact no hp
end
end Go.Proofs.YtpknalhjgbgpiaaGreatDoor
namespace Go.Proofs.YtpknalhjgbgpiaaGreatDoor
open Go Go.RowKit
def G1R (g : G1) (f : Value → Sem Value) : Prop := ∀ (m : Mp) (F : Int) (v : A) (y : Value) (c : KA), VR m F v y → g v c = true →
  ∃ v', (∀ c', g v c' = c' v') ∧ ∃ y', VR m F v' y' ∧ ∀ w : World, (f y).run Tryz.prog w = .ok y' w
def G2R (g : G2) (f : Value → Value → Sem Value) : Prop := ∀ (m : Mp) (F : Int) (v u : A) (y z : Value) (c : KA), VR m F v y → VR m F u z → g v u c = true →
  ∃ v', (∀ c', g v u c' = c' v') ∧ ∃ y', VR m F v' y' ∧ ∀ w : World, (f y z).run Tryz.prog w = .ok y' w
def GLR (g : GL) (f : List Value → Sem Value) : Prop := ∀ (m : Mp) (F : Int) (l : List A) (ys : List Value) (c : KA), VRs m F l ys → g l c = true →
  ∃ v', (∀ c', g l c' = c' v') ∧ ∃ y', VR m F v' y' ∧ ∀ w : World, (f ys).run Tryz.prog w = .ok y' w
theorem not_R : G1R gnot (Op.unary .not) := by
  intro m F v y c hv hg
  unfold gnot at hg
  obtain ⟨a, rfl, g1⟩ := asB_iff.1 hg
  obtain rfl := hv.b_inv
  exact ⟨.b (notB a), fun c' => fB_eq _ _, _, .b _, fun w => by rw [notB_eq]; rfl⟩
theorem fieldAddr_R {s : TypeId} {fs : Array Field} {i : Nat} {f : Field} {n : Nat} (hu : Tryz.prog.underlying s = some (.struct fs)) (hf : fs[i]? = some f) (hs : (Tryz.prog.info? f.type).map (·.size) = some n) (hn : n ≠ 0) :
    G1R (gfieldAddr f.offset) fun y => Instr.fieldAt s y i := by
  intro m F v y c hv hg
  unfold gfieldAddr at hg
  obtain ⟨q, o, rfl, g1⟩ := asP_iff.1 hg
  obtain ⟨β, z, hq, rfl⟩ := hv.p_inv
  refine ⟨.p q (o + f.offset), fun c' => fN_eq _ _, _, .p hq, fun w => ?_⟩
  cases hi : Tryz.prog.info? f.type with
  | none => rw [hi] at hs; cases hs
  | some inf =>
    have h2 : inf.size ≠ 0 := by
      rw [hi] at hs
      injection hs with hs
      exact fun e => hn (hs.symm.trans e)
    simp [Instr.fieldAt, run_underlying hu, hf, Instr.sureAddr, fieldPlace, sizeOf, typeInfo, hi, h2, Result.andThen, Addr.add_mid]
section
variable {m : Mp} {F : Int}
theorem isAgg_run {t : TypeId} {d : TypeDesc} (h : Tryz.prog.underlying t = some d) (w : World) : (isAgg t).run Tryz.prog w = .ok d.isRow w := by
  unfold isAgg
  rw [Sem.run_bind, run_underlying h]
  cases d <;> rfl
theorem sizeOf_run {t : TypeId} {n : Nat} (h : (Tryz.prog.info? t).map (·.size) = some n) (w : World) : (sizeOf t).run Tryz.prog w = .ok n w := by
  cases hi : Tryz.prog.info? t with
  | none => rw [hi] at h; cases h
  | some i =>
    rw [hi] at h
    have h' : i.size = n := Option.some.inj h
    unfold sizeOf typeInfo
    simp only [Sem.run_bind, run_program, Result.andThen_ok, hi, Sem.run_pure, h']
theorem part1_run {t : TypeId} {d : TypeDesc} (h : Tryz.prog.underlying t = some d) (hd : d.isRow = false) {cs : Array Value} {off : Nat} {y : Value} (hy : cs[off]? = some y) (w : World) : (part t cs off).run Tryz.prog w = .ok y w := by
  unfold part
  rw [Sem.run_bind, isAgg_run h, hd]
  simp [Result.andThen, hy]
theorem partN_run {t : TypeId} {d : TypeDesc} (h : Tryz.prog.underlying t = some d) (hd : d.isRow = true) {n : Nat} (hn : (Tryz.prog.info? t).map (·.size) = some n) {cs : Array Value} {off : Nat} (w : World) : (part t cs off).run Tryz.prog w = .ok (.agg (cs.extract off (off + n))) w := by
  unfold part
  rw [Sem.run_bind, isAgg_run h, hd]
  simp [Result.andThen, sizeOf_run hn]
theorem VRs.part1 {l : List A} {cs : Array Value} (h : VRs m F l cs.toList) {off : Nat} {c : KA} (hg : part1 off l c = true) : ∃ v y, l[off]? = some v ∧ cs[off]? = some y ∧ VR m F v y ∧ c v = true ∧ ∀ c', YtpknalhjgbgpiaaGreatDoor.part1 off l c' = c' v := by
  obtain ⟨v, hv, hc⟩ := nthK_iff.1 hg
  obtain ⟨y, hy, hr⟩ := h.at_ hv
  refine ⟨v, y, hv, by simpa using hy, hr, hc, fun c' => ?_⟩
  have := nthK_iff (l := l) (n := off) (k := c')
  cases e : c' v with
  | true => exact this.2 ⟨v, hv, e⟩
  | false =>
    cases e' : nthK l off c' with
    | false => exact e'
    | true =>
      obtain ⟨v', hv', hc'⟩ := this.1 e'
      rw [hv] at hv'
      cases hv'
      rw [e] at hc'
      cases hc'
theorem dropK_eq {l : List A} {n : Nat} (h : n ≤ l.length) (k : List A → Bool) : dropK n l k = k (l.drop n) := by
  have := dropK_iff (l := l) (n := n) (k := k)
  cases e : k (l.drop n) with
  | true => exact this.2 ⟨h, e⟩
  | false => cases e' : dropK n l k with
    | false => rfl
    | true => rw [(this.1 e').2] at e; cases e
theorem takeK_eq {l : List A} {n : Nat} (h : n ≤ l.length) (k : List A → Bool) : takeK n l k = k (l.take n) := by
  have := takeK_iff (l := l) (n := n) (k := k)
  cases e : k (l.take n) with
  | true => exact this.2 ⟨h, e⟩
  | false => cases e' : takeK n l k with
    | false => rfl
    | true => rw [(this.1 e').2] at e; cases e
theorem putK_eq {a l : List A} {n : Nat} (h : n + a.length ≤ l.length) (k : List A → Bool) : putK a n l k = k (l.take n ++ a ++ l.drop (n + a.length)) := by
  have := putK_iff (a := a) (l := l) (n := n) (k := k)
  cases e : k (l.take n ++ a ++ l.drop (n + a.length)) with
  | true => exact this.2 ⟨h, e⟩
  | false => cases e' : putK a n l k with
    | false => rfl
    | true => rw [(this.1 e').2] at e; cases e
theorem VRs.partN {l : List A} {cs : Array Value} (h : VRs m F l cs.toList) (h1 : ∀ x ∈ l, oneA x = true) {sz off : Nat} {c : KA} (hg : partN sz off l c = true) : ∃ v, VR m F v (.agg (cs.extract off (off + sz))) ∧ off + sz ≤ l.length ∧ c v = true ∧ ∀ c', YtpknalhjgbgpiaaGreatDoor.partN sz off l c' = c' v := by
  obtain ⟨ha, hb⟩ := dropK_iff.1 hg
  obtain ⟨hc, hd⟩ := takeK_iff.1 hb
  rw [List.length_drop] at hc
  refine ⟨.g false ((l.drop off).take sz), VR.agg_iff.2 ⟨_, rfl, fun x hx => h1 x (List.mem_of_mem_drop (List.mem_of_mem_take hx)), ?_⟩, by omega, hd, fun c' => ?_⟩
  · have e : (cs.extract off (off + sz)).toList = (cs.toList.drop off).take sz := by
      rw [Array.toList_extract, List.extract_eq_take_drop]
      congr 1
      omega
    rw [e]
    exact (h.drop off).take sz
  · unfold YtpknalhjgbgpiaaGreatDoor.partN
    rw [dropK_eq ha, takeK_eq (by rw [List.length_drop]; omega)]
end
theorem field1_R {s : TypeId} {fs : Array Field} {i : Nat} {f : Field} {d : TypeDesc} (hu : Tryz.prog.underlying s = some (.struct fs)) (hf : fs[i]? = some f) (hd : Tryz.prog.underlying f.type = some d) (hr : d.isRow = false) :
    G1R (gfield1 f.offset) fun y => Instr.field s y i := by
  intro m F v y c hv hg
  unfold gfield1 at hg
  obtain ⟨l, rfl, g1⟩ := asAg_iff.1 hg
  obtain ⟨cs, rfl, h1, hl⟩ := VR.agg_iff.1 hv
  obtain ⟨v', y', hv', hy', hr', hc, he⟩ := hl.part1 g1
  refine ⟨v', he, y', hr', fun w => ?_⟩
  simp [Instr.field, run_underlying hu, hf, asAgg, part1_run hd hr hy', Result.andThen]
theorem fieldN_R {s : TypeId} {fs : Array Field} {i n : Nat} {f : Field} {d : TypeDesc} (hu : Tryz.prog.underlying s = some (.struct fs)) (hf : fs[i]? = some f) (hd : Tryz.prog.underlying f.type = some d) (hr : d.isRow = true) (hn : (Tryz.prog.info? f.type).map (·.size) = some n) :
    G1R (gfieldN n f.offset) fun y => Instr.field s y i := by
  intro m F v y c hv hg
  unfold gfieldN at hg
  obtain ⟨l, rfl, g1⟩ := asAg_iff.1 hg
  obtain ⟨cs, rfl, h1, hl⟩ := VR.agg_iff.1 hv
  obtain ⟨v', hv', _, hc, he⟩ := hl.partN h1 g1
  refine ⟨v', he, _, hv', fun w => ?_⟩
  simp [Instr.field, run_underlying hu, hf, asAgg, partN_run hd hr hn, Result.andThen]
theorem extract_R (i : Nat) : G1R (gextract i) fun y => Instr.extract y i := by
  intro m F v y c hv hg
  unfold gextract at hg
  obtain ⟨l, rfl, g1⟩ := asTu_iff.1 hg
  obtain ⟨cs, rfl, hl⟩ := VR.tup_iff.1 hv
  obtain ⟨v', y', hv', hy', hr', hc, he⟩ := hl.part1 g1
  refine ⟨v', he, y', hr', fun w => ?_⟩
  simp [Instr.extract, hy']
theorem iface_R {t : TypeId} {d : TypeDesc} (hu : Tryz.prog.underlying t = some d) (hd : ∀ ms, d ≠ .interface ms) : G1R (giface t) fun y => Instr.makeInterface t y := by
  intro m F v y c hv hg
  refine ⟨.t t v, fun c' => rfl, _, .t hv, fun w => ?_⟩
  unfold Instr.makeInterface
  rw [Sem.run_bind, run_underlying hu]
  cases d <;> first | rfl | exact absurd rfl (hd _)
theorem assert_R {t xt : TypeId} {d : TypeDesc} (hu : Tryz.prog.underlying t = some d) (hd : ∀ ms, d ≠ .interface ms) : G1R (gassert t) fun y => Instr.typeAssert y xt t false := by
  intro m F v y c hv hg
  unfold gassert at hg
  rcases asT_iff.1 hg with ⟨rfl, g1⟩ | ⟨u, x, rfl, g1⟩
  · exact no g1
  · obtain ⟨hp, g2⟩ := ifB_t.1 g1
    obtain ⟨z, rfl, hz⟩ := hv.t_inv
    have e := Nat.eq_of_beq_eq_true hp
    subst e
    refine ⟨x, fun c' => ifB_pos hp, z, hz, fun w => ?_⟩
    unfold Instr.typeAssert
    rw [Sem.run_bind, run_underlying hu]
    cases d <;> first | exact absurd rfl (hd _) | simp [Result.andThen]
theorem assertOk_R {t xt : TypeId} {d : TypeDesc} (hu : Tryz.prog.underlying t = some d) (hd : ∀ ms, d ≠ .interface ms) {zero : A} {z : Value} (hz : ∀ m F, VR m F zero z) (hr : ∀ w, (zeroValue t).run Tryz.prog w = .ok z w) :
    G1R (gassertOk t zero) fun y => Instr.typeAssert y xt t true := by
  intro m F v y c hv hg
  have pair : ∀ {a : A} {x : Value} (b : Bool), VR m F a x → VR m F (.g true [a, .b b]) (.tuple #[x, .bool b]) := fun b ha => VR.tup_iff.2 ⟨_, rfl, .cons ha (.cons (.b b) .nil)⟩
  unfold gassertOk at hg
  rcases asT_iff.1 hg with ⟨rfl, g1⟩ | ⟨u, x, rfl, g1⟩
  · obtain rfl := hv.z4_inv
    refine ⟨.g true [zero, .b false], fun c' => rfl, _, pair false (hz m F), fun w => ?_⟩
    unfold Instr.typeAssert
    rw [Sem.run_bind, run_underlying hu]
    cases d <;> first | exact absurd rfl (hd _) | simp [Result.andThen, hr]
  · obtain ⟨zz, rfl, hzz⟩ := hv.t_inv
    cases hp : Nat.beq u t with
    | true =>
      have e := Nat.eq_of_beq_eq_true hp
      subst e
      refine ⟨.g true [x, .b true], fun c' => ifB_pos hp, _, pair true hzz, fun w => ?_⟩
      unfold Instr.typeAssert
      rw [Sem.run_bind, run_underlying hu]
      cases d <;> first | exact absurd rfl (hd _) | simp [Result.andThen]
    | false =>
      have e := Nat.ne_of_beq_eq_false hp
      refine ⟨.g true [zero, .b false], fun c' => ifB_neg hp, _, pair false (hz m F), fun w => ?_⟩
      unfold Instr.typeAssert
      rw [Sem.run_bind, run_underlying hu]
      cases d <;> first | exact absurd rfl (hd _) | simp [Result.andThen, hr, e]
theorem lenS_R {t ty : TypeId} (hu : Tryz.prog.underlying t = some .string) : G1R glenS fun y => Builtin.len_ #[t] ty #[y] := by
  intro m F v y c hv hg
  unfold glenS at hg
  obtain ⟨l, rfl, g1⟩ := asS_iff.1 hg
  obtain ⟨b, rfl, rfl⟩ := hv.s_inv
  refine ⟨.i (bytesOf b).length, fun c' => lenN_eq _ _, _, .i _, fun w => ?_⟩
  rw [bytesOf_length]
  simp [Builtin.len_, run_underlying hu, Result.andThen, goInt]
theorem lenSl_R {t ty el : TypeId} (hu : Tryz.prog.underlying t = some (.slice el)) : G1R glenSl fun y => Builtin.len_ #[t] ty #[y] := by
  intro m F v y c hv hg
  unfold glenSl at hg
  rcases asSl_iff.1 hg with ⟨rfl, g1⟩ | ⟨q, o, l, e, cc, rfl, g1⟩
  · obtain rfl := hv.z1_inv
    refine ⟨.i 0, fun c' => rfl, _, .i _, fun w => ?_⟩
    simp [Builtin.len_, run_underlying hu, Result.andThen, goInt]
  · obtain ⟨β, z, cp, _, _, _, _, rfl⟩ := hv.sl_inv
    refine ⟨.i l, fun c' => rfl, _, .i _, fun w => ?_⟩
    simp [Builtin.len_, run_underlying hu, Result.andThen, goInt]
theorem conv64_R {s t : TypeId} {k : IntKind} (hs : Tryz.prog.underlying s = some (.int k)) (ht : Tryz.prog.underlying t = some (.int .i64)) : G1R gconv64 fun y => convert s t y := by
  intro m F v y c hv hg
  unfold gconv64 at hg
  obtain ⟨a, n, rfl, g1, he⟩ := asJ_VR hg hv
  obtain ⟨hr, g2⟩ := mk64_iff.1 g1
  refine ⟨.i n, fun c' => (he _).trans (mk64_eq hr c'), _, .i _, fun w => ?_⟩
  simp [convert, run_underlying hs, run_underlying ht, Conv.intToInt, Result.andThen, wrap64 hr]
theorem convI_R {s t : TypeId} {k d : IntKind} (hs : Tryz.prog.underlying s = some (.int k)) (ht : Tryz.prog.underlying t = some (.int d)) : G1R (gconvI d) fun y => convert s t y := by
  intro m F v y c hv hg
  unfold gconvI at hg
  obtain ⟨a, n, rfl, g1, he⟩ := asJ_VR hg hv
  refine ⟨.j d (d.wrap n), fun c' => (he _).trans (fI_eq _ _), _, .j _ _, fun w => ?_⟩
  simp [convert, run_underlying hs, run_underlying ht, Conv.intToInt, Result.andThen]
end Go.Proofs.YtpknalhjgbgpiaaGreatDoor
namespace Go.Proofs.YtpknalhjgbgpiaaGreatDoor
open Go Go.RowKit
theorem indexSl_R {t e : TypeId} {sz : Nat} (hu : Tryz.prog.underlying t = some (.slice e)) (hs : (Tryz.prog.info? e).map (·.size) = some sz) : G2R (gindexSl sz) fun y i => Instr.indexAt t y i := by
  intro m F v u y z c hv hw hg
  unfold gindexSl at hg
  rcases asSl_iff.1 hg with ⟨rfl, g1⟩ | ⟨q, o, l, es, cc, rfl, g1⟩
  · exact no g1
  obtain ⟨a, n, rfl, g2, he⟩ := asJ_VR g1 hw
  obtain ⟨n, rfl, g3⟩ := natI_iff.1 g2
  obtain ⟨hp, g4⟩ := ifB_t.1 g3
  have hp' := hp
  obtain ⟨h1, h2⟩ := ifB_t.1 hp
  obtain ⟨β, zz, cp, hq, _, _, _, rfl⟩ := hv.sl_inv
  have hl : n < l := by rw [Nat.blt_eq] at h1; exact h1
  refine ⟨.p q (o + n * sz), fun c' => ?_, _, .p hq, fun w => ?_⟩
  · show (asJ u fun _ n => natI n fun n => ifB (ifB (Nat.blt n l) (Nat.beq es sz) false) (fN (Nat.add o (Nat.mul n sz)) fun o => c' (.p q o)) (stk "index")) = _
    rw [he]
    show ifB (ifB (Nat.blt n l) (Nat.beq es sz) false) (fN (Nat.add o (Nat.mul n sz)) fun o => c' (.p q o)) (stk "index") = _
    rw [ifB_pos hp']
    exact fN_eq _ _
  · have h3 : (n : Int) < (l : Int) := by omega
    simp [Instr.indexAt, asIntOf, run_underlying hu, sizeOf_run hs, Result.andThen, Addr.add_mid]
    intro h
    exfalso
    omega
theorem indexAr_R {t e : TypeId} {len sz : Nat} (hu : Tryz.prog.underlying t = some (.array len e)) (hs : (Tryz.prog.info? e).map (·.size) = some sz) : G2R (gindexAr len sz) fun y i => Instr.indexAt t y i := by
  intro m F v u y z c hv hw hg
  unfold gindexAr at hg
  obtain ⟨q, o, rfl, g1⟩ := asP_iff.1 hg
  obtain ⟨a, n, rfl, g2, he⟩ := asJ_VR g1 hw
  obtain ⟨n, rfl, g3⟩ := natI_iff.1 g2
  obtain ⟨hp, g4⟩ := ifB_t.1 g3
  obtain ⟨β, zz, hq, rfl⟩ := hv.p_inv
  have hl : n < len := by have := hp; rw [Nat.blt_eq] at this; exact this
  refine ⟨.p q (o + n * sz), fun c' => ?_, _, .p hq, fun w => ?_⟩
  · show (asJ u fun _ n => natI n fun n => ifB (Nat.blt n len) (fN (Nat.add o (Nat.mul n sz)) fun o => c' (.p q o)) (stk "index")) = _
    rw [he]
    show ifB (Nat.blt n len) (fN (Nat.add o (Nat.mul n sz)) fun o => c' (.p q o)) (stk "index") = _
    rw [ifB_pos hp]
    exact fN_eq _ _
  · have h3 : (n : Int) < (len : Int) := by omega
    simp [Instr.indexAt, asIntOf, Instr.sureAddr, run_underlying hu, sizeOf_run hs, Result.andThen, Addr.add_mid]
    intro h
    exfalso
    omega
theorem getN_eq {l : List Nat} {n x : Nat} (h : l[n]? = some x) (c : Nat → Bool) : (dropN n l fun l => headN l c) = c x := by
  induction l generalizing n with
  | nil => simp at h
  | cons y r ih =>
    cases n with
    | zero =>
      have : y = x := by simpa using h
      subst this
      rfl
    | succ n => exact ih (by simpa using h)
theorem getN_iff {l : List Nat} {n : Nat} {c : Nat → Bool} (h : (dropN n l fun l => headN l c) = true) : ∃ x, l[n]? = some x ∧ c x = true := by
  obtain ⟨h1, h2⟩ := dropN_iff.1 h
  obtain ⟨x, r, hx, hc⟩ := headN_iff.1 h2
  refine ⟨x, ?_, hc⟩
  have : (l.drop n)[0]? = some x := by rw [hx]; rfl
  rw [List.getElem?_drop] at this
  simpa using this
theorem bytesOf_get {s : ByteArray} {n x : Nat} (h : (bytesOf s)[n]? = some x) : ∃ u : UInt8, s[n]? = some u ∧ u.toNat = x := by
  unfold bytesOf at h
  rw [List.getElem?_map] at h
  cases e : s.data.toList[n]? with
  | none => rw [e] at h; cases h
  | some u =>
    rw [e] at h
    refine ⟨u, ?_, Option.some.inj h⟩
    have hlt : n < s.data.size := by
      rw [← Array.length_toList]
      exact (List.getElem?_eq_some_iff.1 e).1
    have e2 : s.data[n]'hlt = u := by
      have := (List.getElem?_eq_some_iff.1 e).2
      simpa using this
    have e3 : s[n]? = some (s[n]'hlt) := getElem?_pos s n hlt
    rw [e3, ← e2]
    rfl
theorem indexS_R {t : TypeId} (hu : Tryz.prog.underlying t = some .string) : G2R gindexS fun y i => Instr.index t y i := by
  intro m F v u y z c hv hw hg
  unfold gindexS at hg
  obtain ⟨l, rfl, g1⟩ := asS_iff.1 hg
  obtain ⟨s, rfl, rfl⟩ := hv.s_inv
  obtain ⟨a, n, rfl, g2, he⟩ := asJ_VR g1 hw
  obtain ⟨n, rfl, g3⟩ := natI_iff.1 g2
  obtain ⟨x, hx, g4⟩ := getN_iff g3
  obtain ⟨b, hb, rfl⟩ := bytesOf_get hx
  refine ⟨.j .u8 (b.toNat : Int), fun c' => ?_, _, .j _ _, fun w => ?_⟩
  · show (asJ u fun _ n => natI n fun n => dropN n (bytesOf s) fun l => headN l fun b => c' (.j .u8 (Int.ofNat b))) = _
    rw [he]
    exact getN_eq hx _
  · simp [Instr.index, asIntOf, run_underlying hu, Result.andThen, hb]
theorem index1_R {t e : TypeId} {d : TypeDesc} {len : Nat} (hu : Tryz.prog.underlying t = some (.array len e)) (hs : (Tryz.prog.info? e).map (·.size) = some 1) (hd : Tryz.prog.underlying e = some d) (hr : d.isRow = false) : G2R (gindex1 len) fun y i => Instr.index t y i := by
  intro m F v u y z c hv hw hg
  unfold gindex1 at hg
  obtain ⟨l, rfl, g1⟩ := asAg_iff.1 hg
  obtain ⟨cs, rfl, h1, hl⟩ := VR.agg_iff.1 hv
  obtain ⟨a, n, rfl, g2, he⟩ := asJ_VR g1 hw
  obtain ⟨n, rfl, g3⟩ := natI_iff.1 g2
  obtain ⟨hp, g4⟩ := ifB_t.1 g3
  obtain ⟨v', y', hv', hy', hr', hc, he'⟩ := hl.part1 g4
  have hln : n < len := by have := hp; rw [Nat.blt_eq] at this; exact this
  refine ⟨v', fun c' => ?_, y', hr', fun w => ?_⟩
  · show (asJ u fun _ m => natI m fun m => ifB (Nat.blt m len) (YtpknalhjgbgpiaaGreatDoor.part1 m l c') (stk "index")) = _
    rw [he]
    show ifB (Nat.blt n len) (YtpknalhjgbgpiaaGreatDoor.part1 n l c') (stk "index") = _
    rw [ifB_pos hp, he']
  · have h3 : (n : Int) < (len : Int) := by omega
    simp [Instr.index, asIntOf, run_underlying hu, sizeOf_run hs, Result.andThen, part1_run hd hr hy']
    intro h
    exfalso
    omega
-- choices
theorem list1_iff {l : List A} {k : A → Bool} (h : list1 l k = true) : ∃ x, l = [x] ∧ k x = true := by
  match l, h with
  | [x], h => exact ⟨x, rfl, h⟩
  | [], h => exact no h
  | _ :: _ :: _, h => exact no h
theorem list2_iff {l : List A} {k : A → A → Bool} (h : list2 l k = true) : ∃ x y, l = [x, y] ∧ k x y = true := by
  match l, h with
  | [x, y], h => exact ⟨x, y, rfl, h⟩
  | [], h => exact no h
  | [_], h => exact no h
  | _ :: _ :: _ :: _, h => exact no h
theorem list3_iff {l : List A} {k : A → A → A → Bool} (h : list3 l k = true) : ∃ x y z, l = [x, y, z] ∧ k x y z = true := by
  match l, h with
  | [x, y, z], h => exact ⟨x, y, z, rfl, h⟩
  | [], h => exact no h
  | [_], h => exact no h
  | [_, _], h => exact no h
  | _ :: _ :: _ :: _ :: _, h => exact no h
theorem pick_R : GLR gpick (fun l => (do pure (if ← asBool (l.getD 0 undef) then l.getD 1 undef else l.getD 2 undef) : Sem Value)) := by
  intro m F l ys c hl hg
  unfold gpick at hg
  obtain ⟨t, a, b, rfl, g1⟩ := list3_iff hg
  obtain ⟨y1, y2, y3, rfl, h1, h2, h3⟩ := hl.inv3
  obtain ⟨t, rfl, g2⟩ := asB_iff.1 g1
  obtain rfl := h1.b_inv
  cases t with
  | true => exact ⟨a, fun c' => rfl, y2, h2, fun w => by simp [asBool]⟩
  | false => exact ⟨b, fun c' => rfl, y3, h3, fun w => by simp [asBool]⟩
theorem max_R {at_ : Array TypeId} {ty : TypeId} : GLR gmax fun l => Builtin.max_ at_ ty l.toArray := by
  intro m F l ys c hl hg
  unfold gmax at hg
  obtain ⟨x, y, rfl, g1⟩ := list2_iff hg
  obtain ⟨y1, y2, rfl, h1, h2⟩ := hl.inv2
  obtain ⟨a, rfl, g2⟩ := asI_iff.1 g1
  obtain ⟨b, rfl, g3⟩ := asI_iff.1 g2
  obtain rfl := h1.i_inv
  obtain rfl := h2.i_inv
  refine ⟨.i (if b > a then b else a), fun c' => ?_, _, .i _, fun w => ?_⟩
  · show ifB (ltI a b) (c' (.i b)) (c' (.i a)) = _
    rw [ltI_eq]
    by_cases h : a < b
    · rw [ifB_pos (decide_eq_true h), if_pos h]
    · rw [ifB_neg (decide_eq_false h), if_neg h]
  · simp [Builtin.max_, Builtin.max2]
theorem min_R {at_ : Array TypeId} {ty : TypeId} : GLR gmin fun l => Builtin.min_ at_ ty l.toArray := by
  intro m F l ys c hl hg
  unfold gmin at hg
  obtain ⟨x, y, rfl, g1⟩ := list2_iff hg
  obtain ⟨y1, y2, rfl, h1, h2⟩ := hl.inv2
  obtain ⟨a, rfl, g2⟩ := asI_iff.1 g1
  obtain ⟨b, rfl, g3⟩ := asI_iff.1 g2
  obtain rfl := h1.i_inv
  obtain rfl := h2.i_inv
  refine ⟨.i (if b < a then b else a), fun c' => ?_, _, .i _, fun w => ?_⟩
  · show ifB (ltI b a) (c' (.i b)) (c' (.i a)) = _
    rw [ltI_eq]
    by_cases h : b < a
    · rw [ifB_pos (decide_eq_true h), if_pos h]
    · rw [ifB_neg (decide_eq_false h), if_neg h]
  · simp [Builtin.min_, Builtin.min2]
theorem func_R (f : FuncId) (n : Nat) : GLR (gfunc (.func f) n) fun l => Instr.makeFunc (.func f) (l.take n).toArray (l.drop n).toArray := by
  intro m F l ys c hl hg
  unfold gfunc at hg
  obtain ⟨h1, g1⟩ := takeK_iff.1 hg
  obtain ⟨h2, g2⟩ := dropK_iff.1 g1
  refine ⟨.f (.func f) (l.take n) (l.drop n), fun c' => ?_, _, VR.f_iff.2 ⟨_, _, rfl, ?_, ?_⟩, fun w => rfl⟩
  · show (takeK n l fun a => dropK n l fun b => c' (.f (.func f) a b)) = _
    rw [takeK_eq h1, dropK_eq h1]
  · exact hl.take n
  · exact hl.drop n
-- rows
theorem setRow_list (off : Nat) (vs : List Value) : ∀ (j : Nat) (cells : Array Value), off + j + vs.length ≤ cells.size →
    ((vs.zipIdx j).foldl (fun cs p => cs.setIfInBounds (off + p.2) p.1) cells).toList = cells.toList.take (off + j) ++ vs ++ cells.toList.drop (off + j + vs.length) := by
  induction vs with
  | nil => intro j cells h; simp
  | cons v vs ih =>
    intro j cells h
    simp only [List.length_cons] at h
    rw [List.zipIdx_cons, List.foldl_cons, ih (j + 1) _ (by simp; omega)]
    simp only [Array.toList_setIfInBounds]
    have hlt : off + j < cells.toList.length := by simp; omega
    have e1 : (cells.toList.set (off + j) v).take (off + (j + 1)) = cells.toList.take (off + j) ++ [v] := by
      have e : off + (j + 1) = off + j + 1 := by omega
      rw [e, List.take_add_one, List.take_set_of_le (Nat.le_refl _), List.getElem?_set_self hlt]
      rfl
    have e2 : (cells.toList.set (off + j) v).drop (off + (j + 1) + vs.length) = cells.toList.drop (off + j + (vs.length + 1)) := by
      rw [List.drop_set_of_lt (by omega)]
      congr 1
      omega
    rw [e1, e2]
    simp
end Go.Proofs.YtpknalhjgbgpiaaGreatDoor
namespace Go.Proofs.YtpknalhjgbgpiaaGreatDoor
open Go Go.RowKit
section
variable {m : Mp} {F : Int}
theorem VR.cells_ {x : A} {y : Value} (h : VR m F x y) (hx : ∀ l, x ≠ .g true l) : VRs m F (cellsA x) y.cells.toList ∧ ∀ a ∈ cellsA x, oneA a = true := by
  cases h with
  | agg h1 hl h => 
    obtain ⟨cs, e, h1', h2⟩ := VR.agg_iff.1 (VR.agg h1 hl h)
    injection e with e
    subst e
    exact ⟨h2, h1'⟩
  | tup => exact absurd rfl (hx _)
  | val hv =>
    refine ⟨?_, fun a ha => by rw [List.mem_singleton.1 ha]; rfl⟩
    have : y.cells = #[y] := by cases y <;> first | rfl | exact no hv
    rw [this]
    exact .one (.val hv)
  | i n => exact ⟨.one (.i n), fun a ha => by rw [List.mem_singleton.1 ha]; rfl⟩
  | b n => exact ⟨.one (.b n), fun a ha => by rw [List.mem_singleton.1 ha]; rfl⟩
  | p h => exact ⟨.one (.p h), fun a ha => by rw [List.mem_singleton.1 ha]; rfl⟩
  | sl h h1 h2 h3 => exact ⟨.one (.sl h h1 h2 h3), fun a ha => by rw [List.mem_singleton.1 ha]; rfl⟩
  | s n => exact ⟨.one (.s n), fun a ha => by rw [List.mem_singleton.1 ha]; rfl⟩
  | j k n => exact ⟨.one (.j k n), fun a ha => by rw [List.mem_singleton.1 ha]; rfl⟩
  | z0 => exact ⟨.one .z0, fun a ha => by rw [List.mem_singleton.1 ha]; rfl⟩
  | z1 => exact ⟨.one .z1, fun a ha => by rw [List.mem_singleton.1 ha]; rfl⟩
  | z2 => exact ⟨.one .z2, fun a ha => by rw [List.mem_singleton.1 ha]; rfl⟩
  | z3 => exact ⟨.one .z3, fun a ha => by rw [List.mem_singleton.1 ha]; rfl⟩
  | z4 => exact ⟨.one .z4, fun a ha => by rw [List.mem_singleton.1 ha]; rfl⟩
  | m h => exact ⟨.one (.m h), fun a ha => by rw [List.mem_singleton.1 ha]; rfl⟩
  | f ha hb h h' => exact ⟨.one (.f ha hb h h'), fun a ha => by rw [List.mem_singleton.1 ha]; rfl⟩
  | t h => exact ⟨.one (.t h), fun a ha => by rw [List.mem_singleton.1 ha]; rfl⟩
  | sym h => exact ⟨.one (.sym h), fun a ha => by rw [List.mem_singleton.1 ha]; rfl⟩
theorem cellsK_eq {x : A} (hx : ∀ l, x ≠ .g true l) (k : List A → Bool) : cellsK x k = k (cellsA x) := by
  have := cellsK_iff (v := x) (k := k)
  cases e : k (cellsA x) with
  | true => exact this.2 ⟨hx, e⟩
  | false => cases e' : cellsK x k with
    | false => rfl
    | true => rw [(this.1 e').2] at e; cases e
/-- Places of parts. -/
inductive Pl (place : Nat → Option (Nat × Nat)) : List Nat → List (Nat × Nat) → Prop
  | nil : Pl place [] []
  | cons {i : Nat} {p : Nat × Nat} {ix : List Nat} {ps : List (Nat × Nat)} (h : place i = some p) (t : Pl place ix ps) : Pl place (i :: ix) (p :: ps)
theorem fill_R {place : Nat → Option (Nat × Nat)} {ix : List Nat} {ps : List (Nat × Nat)} (hp : Pl place ix ps) : ∀ {xs z : List A} {ys : List Value} {cells : Array Value} {k : List A → Bool}, xs.length = ix.length → VRs m F xs ys → VRs m F z cells.toList → (∀ x ∈ z, oneA x = true) → partsK ps xs z k = true →
    ∃ z' cells', (∀ k', partsK ps xs z k' = k' z') ∧ k z' = true ∧ Instr.fill place cells (ix.zip ys) = some cells' ∧ VRs m F z' cells'.toList ∧ (∀ x ∈ z', oneA x = true) ∧ z'.length = z.length := by
  induction hp with
  | nil =>
    intro xs z ys cells k hl hx hz h1 hk
    exact ⟨z, cells, fun _ => rfl, hk, rfl, hz, h1, rfl⟩
  | cons hpl htl ih =>
    rename_i i p ix ps
    intro xs z ys cells k hl hx hz h1 hk
    cases hx with
    | nil => simp at hl
    | cons hx ht =>
      rename_i x y xs ys
      have hk' : (cellsK x fun v => lenK v fun n => ifB (Nat.beq n p.2) (putK v p.1 z fun z => partsK ps xs z k) false) = true := hk
      obtain ⟨hg, hk2⟩ := cellsK_iff.1 hk'
      rw [lenK_eq] at hk2
      obtain ⟨hn, hk3⟩ := ifB_t.1 hk2
      obtain ⟨hf, hk4⟩ := putK_iff.1 hk3
      obtain ⟨hc, ho⟩ := hx.cells_ hg
      have hlen : y.cells.size = (cellsA x).length := by rw [hc.length]; simp
      have hsz : (cellsA x).length = p.2 := Nat.eq_of_beq_eq_true hn
      have hzl : z.length = cells.size := by rw [hz.length]; simp
      have hset : ((y.cells.zipIdx.foldl (fun cs (c, j) => cs.setIfInBounds (p.1 + j) c) cells)).toList = cells.toList.take p.1 ++ y.cells.toList ++ cells.toList.drop (p.1 + (cellsA x).length) := by
        have h0 := setRow_list p.1 y.cells.toList 0 cells (by simp; omega)
        rw [← Array.foldl_toList, Array.toList_zipIdx]
        simp only [Nat.add_zero, Array.length_toList, hlen] at h0
        exact h0
      obtain ⟨z', cells', h2, h3, h4, h5, h6, h7⟩ := ih (xs := xs) (z := z.take p.1 ++ cellsA x ++ z.drop (p.1 + (cellsA x).length)) (ys := ys) (cells := y.cells.zipIdx.foldl (fun cs (c, j) => cs.setIfInBounds (p.1 + j) c) cells) (k := k)
        (by simpa using hl) ht (by rw [hset]; exact ((hz.take _).append hc).append (hz.drop _)) (fun a ha => by
          rcases List.mem_append.1 ha with ha | ha
          · rcases List.mem_append.1 ha with ha | ha
            · exact h1 a (List.mem_of_mem_take ha)
            · exact ho a ha
          · exact h1 a (List.mem_of_mem_drop ha)) hk4
      refine ⟨z', cells', fun k' => ?_, h3, ?_, h5, h6, by rw [h7]; simp; omega⟩
      · show (cellsK x fun v => lenK v fun n => ifB (Nat.beq n p.2) (putK v p.1 z fun z => partsK ps xs z k') false) = _
        rw [cellsK_eq hg, lenK_eq, ifB_pos hn, putK_eq hf, h2]
      · show Instr.fill place cells ((i, y) :: ix.zip ys) = _
        unfold Instr.fill
        simp only [hpl]
        have e1 : y.cells.size = p.2 := by rw [hlen, hsz]
        have e2 : ¬ p.1 + y.cells.size > cells.size := by omega
        simp only [e1, ne_eq, not_true_eq_false, decide_false, Bool.false_or, decide_eq_true_eq]
        rw [e1] at e2
        rw [if_neg e2]
        exact h4
end
theorem build_R {t : TypeId} {z : Value} {zero : List A} {place : Nat → Option (Nat × Nat)} {ix : List Nat} {ps : List (Nat × Nat)} (hp : Pl place ix ps) (hz : ∀ m F, VRs m F zero z.cells.toList) (h1 : ∀ x ∈ zero, oneA x = true) (hb : ∀ parts, Tryz.prog.built t parts = Instr.fill place z.cells parts)
    {l : List A} (hl : l.length = ix.length) {m : Mp} {F : Int} {ys : List Value} {c : KA} (hy : VRs m F l ys) (hg : gbuild ps zero l c = true) :
    ∃ v', (∀ c', gbuild ps zero l c' = c' v') ∧ ∃ y', VR m F v' y' ∧ ∀ w : World, (Instr.build t (ix.zip ys).toArray).run Tryz.prog w = .ok y' w := by
  obtain ⟨z', cells', e1, _, e3, e4, e5, _⟩ := fill_R hp hl hy (hz m F) h1 hg
  exact ⟨.g false z', fun c' => e1 _, _, VR.agg_iff.2 ⟨_, rfl, e5, e4⟩, fun w => run_build w t _ cells' (by rw [hb]; exact e3)⟩
-- slices
inductive OVR (m : Mp) (F : Int) : Option A → Option Value → Prop
  | none : OVR m F none none
  | some {x : A} {y : Value} (h : VR m F x y) : OVR m F (some x) (some y)
theorem boundK_R {m : Mp} {F : Int} {x : Option A} {y : Option Value} (h : OVR m F x y) {d : Nat} {k : Nat → Bool} (hk : boundK x d k = true) : ∃ n : Nat, k n = true ∧ (∀ k', boundK x d k' = k' n) ∧ ((y = none ∧ n = d) ∨ y = some (.int .i64 n)) := by
  cases h with
  | none => exact ⟨d, hk, fun _ => rfl, .inl ⟨rfl, rfl⟩⟩
  | some h =>
    rename_i x y
    have hk' : (asI x fun n => natI n k) = true := hk
    obtain ⟨n, rfl, h2⟩ := asI_iff.1 hk'
    obtain ⟨n, rfl, h3⟩ := natI_iff.1 h2
    obtain rfl := h.i_inv
    exact ⟨n, h3, fun _ => rfl, .inr rfl⟩
theorem bound_run {n y : Nat} (h : n ≤ y) (code : BoundsCode) (w : World) : (Instr.sliceBound (.int .i64 n) y code).run Tryz.prog w = .ok n w := by
  have : (n : Int) ≤ (y : Int) := by omega
  simp [Instr.sliceBound, asIntOf, this]
  try (intro h'; exfalso; omega)
theorem bounds_run {s : Bool} {len cap l h mx : Nat} {lo hi m? : Option Value} (hm : (m? = none ∧ mx = cap) ∨ m? = some (.int .i64 mx)) (hh : (hi = none ∧ h = len ∧ m? = none) ∨ hi = some (.int .i64 h)) (hl : (lo = none ∧ l = 0) ∨ lo = some (.int .i64 l))
    (h1 : mx ≤ cap) (h2 : h ≤ mx) (h3 : l ≤ h) (w : World) : (Instr.sliceBounds s len cap lo hi m?).run Tryz.prog w = .ok (l, h, mx) w := by
  rcases hm with ⟨rfl, rfl⟩ | rfl <;> rcases hh with ⟨rfl, rfl, e⟩ | rfl <;> rcases hl with ⟨rfl, rfl⟩ | rfl <;> first | cases e | skip
  all_goals simp [Instr.sliceBounds, Result.andThen, bound_run h1, bound_run h2, bound_run h3]
end Go.Proofs.YtpknalhjgbgpiaaGreatDoor
