/- Parts of the proof: EvO5, EvO6, EvO7, EvO8, EvO9. -/
import Derived.Test.YtpknalhjgbgpiaaGreatDoorM8
namespace Go.Proofs.YtpknalhjgbgpiaaGreatDoor
open Go Go.RowKit
section
variable {dst : Option Tmp} {type : TypeId} {pos : String} {after : Array Edge} {guard : Option (Nat × Bool)}
theorem made_binOp (op : BinOp) (t : TypeId) (x y : Operand) (u : TypeId) : Made ⟨dst, .binOp op t x y u, type, pos, after, guard⟩ (opK Tryz.prog ⟨dst, .binOp op t x y u, type, pos, after, guard⟩) := by
  cases hd : undT Tryz.prog t with
  | int a =>
    cases a with
    | i64 =>
      cases op with
      | add => exact ⟨.p2 (g64 addI) x y, fun k => by simp only [opK, binB, hd]; rfl, bin_of rfl add_R⟩
      | sub => exact ⟨.p2 (g64 subI) x y, fun k => by simp only [opK, binB, hd]; rfl, bin_of rfl sub_R⟩
      | mul => exact ⟨.p2 (g64 Int.mul) x y, fun k => by simp only [opK, binB, hd]; rfl, bin_of rfl mul_R⟩
      | quo => exact ⟨.p2 gquo x y, fun k => by simp only [opK, binB, hd]; rfl, bin_of rfl quo_R⟩
      | rem => exact ⟨.p2 grem x y, fun k => by simp only [opK, binB, hd]; rfl, bin_of rfl rem_R⟩
      | and => exact ⟨.p2 (gbit Nat.land) x y, fun k => by simp only [opK, binB, hd]; rfl, bin_of rfl and_R⟩
      | or => exact ⟨.p2 (gbit Nat.lor) x y, fun k => by simp only [opK, binB, hd]; rfl, bin_of rfl or_R⟩
      | shl => exact ⟨.p2 gshl x y, fun k => by simp only [opK, binB, hd]; rfl, bin_of rfl shl_R⟩
      | shr => exact ⟨.p2 gshr x y, fun k => by simp only [opK, binB, hd]; rfl, bin_of rfl shr_R⟩
      | eql => exact ⟨.p2 (gcmp eqI) x y, fun k => by simp only [opK, binB, hd]; rfl, bin_of rfl eql_R⟩
      | neq => exact ⟨.p2 (gcmp fun a b => notB (eqI a b)) x y, fun k => by simp only [opK, binB, hd]; rfl, bin_of rfl neq_R⟩
      | lss => exact ⟨.p2 (gcmp ltI) x y, fun k => by simp only [opK, binB, hd]; rfl, bin_of rfl lss_R⟩
      | leq => exact ⟨.p2 (gcmp fun a b => notB (ltI b a)) x y, fun k => by simp only [opK, binB, hd]; rfl, bin_of rfl leq_R⟩
      | gtr => exact ⟨.p2 (gcmp fun a b => ltI b a) x y, fun k => by simp only [opK, binB, hd]; rfl, bin_of rfl gtr_R⟩
      | geq => exact ⟨.p2 (gcmp fun a b => notB (ltI a b)) x y, fun k => by simp only [opK, binB, hd]; rfl, bin_of rfl geq_R⟩
      | _ => exact made_bad (w := "bin int") fun k => by simp only [opK, binB, hd]; rfl
    | _ =>
      cases op with
      | sub => exact ⟨.p2 gjsub x y, fun k => by simp only [opK, binB, hd]; rfl, bin_of rfl jsub_R⟩
      | eql => exact ⟨.p2 (gjcmp eqI) x y, fun k => by simp only [opK, binB, hd]; rfl, bin_of rfl jeql_R⟩
      | neq => exact ⟨.p2 (gjcmp fun a b => notB (eqI a b)) x y, fun k => by simp only [opK, binB, hd]; rfl, bin_of rfl jneq_R⟩
      | lss => exact ⟨.p2 (gjcmp ltI) x y, fun k => by simp only [opK, binB, hd]; rfl, bin_of rfl jlss_R⟩
      | leq => exact ⟨.p2 (gjcmp fun a b => notB (ltI b a)) x y, fun k => by simp only [opK, binB, hd]; rfl, bin_of rfl jleq_R⟩
      | gtr => exact ⟨.p2 (gjcmp fun a b => ltI b a) x y, fun k => by simp only [opK, binB, hd]; rfl, bin_of rfl jgtr_R⟩
      | geq => exact ⟨.p2 (gjcmp fun a b => notB (ltI a b)) x y, fun k => by simp only [opK, binB, hd]; rfl, bin_of rfl jgeq_R⟩
      | _ => exact made_bad (w := "bin other int") fun k => by simp only [opK, binB, hd]; rfl
  | string =>
    cases op with
    | add => exact ⟨.p2 gcat x y, fun k => by simp only [opK, binB, hd]; rfl, bin_of rfl cat_R⟩
    | eql => exact ⟨.p2 (gstr eqLN) x y, fun k => by simp only [opK, binB, hd]; rfl, bin_of rfl seql_R⟩
    | neq => exact ⟨.p2 (gstr fun a b => notB (eqLN a b)) x y, fun k => by simp only [opK, binB, hd]; rfl, bin_of rfl sneq_R⟩
    | lss => exact ⟨.p2 (gstr ltLN) x y, fun k => by simp only [opK, binB, hd]; rfl, bin_of rfl slss_R⟩
    | _ => exact made_bad (w := "bin string") fun k => by simp only [opK, binB, hd]; rfl
  | bool =>
    have hu := und_of hd (fun e => by cases e)
    cases op with
    | eql => exact ⟨.p2 (gbool false) x y, fun k => by simp only [opK, binB, hd]; rfl, bin_of rfl (bool_R false rfl hu)⟩
    | neq => exact ⟨.p2 (gbool true) x y, fun k => by simp only [opK, binB, hd]; rfl, bin_of rfl (bool_R true rfl hu)⟩
    | _ => exact made_bad (w := "bin bool") fun k => by simp only [opK, binB, hd]; rfl
  | array n e =>
    cases op with
    | eql =>
      cases hz : Nat.beq t 172 with
      | true =>
        obtain rfl : t = 172 := Nat.eq_of_beq_eq_true hz
        exact ⟨.p2 gagg x y, fun k => by simp only [opK, binB, hd]; rfl, bin_of rfl agg_R⟩
      | false => exact made_bad (w := "bin agg") fun k => by simp only [opK, binB, hd]; show ifZ _ _ _ = _; rw [hz]; rfl
    | _ => exact made_bad (w := "bin agg") fun k => by simp only [opK, binB, hd]; rfl
  | pointer e =>
    have hu := und_of hd (fun e => by cases e)
    cases op with
    | eql => exact ⟨.p2 (gnilP false) x y, fun k => by simp only [opK, binB, hd]; rfl, bin_of rfl (nilP_R false rfl hu)⟩
    | neq => exact ⟨.p2 (gnilP true) x y, fun k => by simp only [opK, binB, hd]; rfl, bin_of rfl (nilP_R true rfl hu)⟩
    | _ => exact made_bad (w := "bin pointer") fun k => by simp only [opK, binB, hd]; rfl
  | slice e =>
    have hu := und_of hd (fun e => by cases e)
    cases op with
    | eql => exact ⟨.p2 (gnilS false) x y, fun k => by simp only [opK, binB, hd]; rfl, bin_of rfl (nilS_R false rfl hu)⟩
    | neq => exact ⟨.p2 (gnilS true) x y, fun k => by simp only [opK, binB, hd]; rfl, bin_of rfl (nilS_R true rfl hu)⟩
    | _ => exact made_bad (w := "bin slice") fun k => by simp only [opK, binB, hd]; rfl
  | _ => exact made_bad (w := "bin") fun k => by simp only [opK, binB, hd]; rfl
theorem made_indexAddr (t : TypeId) (x i : Operand) : Made ⟨dst, .indexAddr t x i, type, pos, after, guard⟩ (opK Tryz.prog ⟨dst, .indexAddr t x i, type, pos, after, guard⟩) := by
  cases hd : undT Tryz.prog t with
  | slice e =>
    have hu := und_of hd (fun e => by cases e)
    cases hi : Tryz.prog.info? e with
    | none => exact made_bad (w := "size") fun k => by simp only [opK, hd, szB, hi]
    | some j => exact ⟨.p2 (gindexSl j.size) x i, fun k => by simp only [opK, hd, szB, hi, fNB_eq], p2_of (indexSl_R hu (by rw [hi]; rfl)) fun ρ => rfl⟩
  | array n e =>
    have hu := und_of hd (fun e => by cases e)
    cases hi : Tryz.prog.info? e with
    | none => exact made_bad (w := "size") fun k => by simp only [opK, hd, szB, hi, fNB_eq]
    | some j => exact ⟨.p2 (gindexAr n j.size) x i, fun k => by simp only [opK, hd, szB, hi, fNB_eq], p2_of (indexAr_R hu (by rw [hi]; rfl)) fun ρ => rfl⟩
  | _ => exact made_bad (w := "indexAddr") fun k => by simp only [opK, hd]
theorem made_index (t : TypeId) (x i : Operand) : Made ⟨dst, .index t x i, type, pos, after, guard⟩ (opK Tryz.prog ⟨dst, .index t x i, type, pos, after, guard⟩) := by
  cases hd : undT Tryz.prog t with
  | string => exact ⟨.p2 gindexS x i, fun k => by simp only [opK, hd], p2_of (indexS_R (und_of hd (fun e => by cases e))) fun ρ => rfl⟩
  | array n e =>
    have hu := und_of hd (fun e => by cases e)
    cases ha : aggT Tryz.prog e with
    | true => exact made_bad (w := "index agg") fun k => by simp only [opK, hd, ha]
    | false =>
      cases hi : Tryz.prog.info? e with
      | none =>
        cases hd2 : undT Tryz.prog e with
        | invalid => exact made_bad (w := "index") fun k => by simp only [opK, hd, ha, hd2]
        | _ => exact made_bad (w := "size") fun k => by simp only [opK, hd, ha, hd2, szB, hi]
      | some j =>
        cases hz : Nat.beq j.size 1 with
        | false =>
          cases hd2 : undT Tryz.prog e with
          | invalid => exact made_bad (w := "index") fun k => by simp only [opK, hd, ha, hd2]
          | _ => exact made_bad (w := "index") fun k => by simp only [opK, hd, ha, hd2, szB, hi, fNB_eq, hz, ifZ]
        | true =>
          cases hd2 : undT Tryz.prog e with
          | invalid => exact made_bad (w := "index") fun k => by simp only [opK, hd, ha, hd2]
          | _ =>
            obtain ⟨hu2, hr⟩ := row_of hd2 (fun e => by cases e)
            exact ⟨.p2 (gindex1 n) x i, fun k => by simp only [opK, hd, ha, hd2, szB, hi, fNB_eq, hz, ifZ], p2_of (index1_R hu (by rw [hi, Option.map_some, Nat.eq_of_beq_eq_true hz]) hu2 (hr.trans ha)) fun ρ => rfl⟩
  | _ => exact made_bad (w := "index") fun k => by simp only [opK, hd]
theorem made_range (t : TypeId) (x : Operand) : Made ⟨dst, .range t x, type, pos, after, guard⟩ (opK Tryz.prog ⟨dst, .range t x, type, pos, after, guard⟩) := by
  cases hd : undT Tryz.prog t with
  | string => exact ⟨.al srange [x], fun k => by simp only [opK, hd], al_of (range_R (und_of hd (fun e => by cases e))) fun ρ => rfl⟩
  | _ => exact made_bad (w := "range") fun k => by simp only [opK, hd]
theorem made_typeAssert (x : Operand) (xt t : TypeId) (ok : Bool) : Made ⟨dst, .typeAssert x xt t ok, type, pos, after, guard⟩ (opK Tryz.prog ⟨dst, .typeAssert x xt t ok, type, pos, after, guard⟩) := by
  cases hd : undT Tryz.prog t with
  | interface ms => exact made_bad (w := "assert to an interface") fun k => by simp only [opK, hd]
  | invalid => exact made_bad (w := "assert") fun k => by simp only [opK, hd]
  | _ =>
    have hu := und_of hd (fun e => by cases e)
    cases ok with
    | false => exact ⟨.p1 (gassert t) x, fun k => by simp only [opK, hd, fNB_eq], p1_of (assert_R (xt := xt) hu (fun ms e => by cases e)) fun ρ => rfl⟩
    | true =>
      cases e : (Tryz.prog.info? t).bind (·.zero) with
      | none => exact made_bad (w := "zero") fun k => by simp only [opK, hd, fNB_eq, zrB, e]
      | some v =>
        cases hz : okV v with
        | false => exact made_bad (w := "zero") fun k => by simp only [opK, hd, fNB_eq, zrB, e, hz, ifZ]
        | true => exact ⟨.p1 (gassertOk t (absV v)) x, fun k => by simp only [opK, hd, fNB_eq, zrB, e, hz, ifZ, absB_eq], p1_of (assertOk_R (xt := xt) hu (fun ms e => by cases e) (fun m F => absV_VR hz) (zero_run e)) fun ρ => rfl⟩
end
end Go.Proofs.YtpknalhjgbgpiaaGreatDoor
namespace Go.Proofs.YtpknalhjgbgpiaaGreatDoor
open Go Go.RowKit
theorem clB_eq (t : TypeId) : (∃ cl C, kcOf cl = some C ∧ KeyC C t ∧ ∀ {R : Type} (bad : R) (k : Nat → R), clB Tryz.prog t bad k = k cl) ∨ ∀ {R : Type} (bad : R) (k : Nat → R), clB Tryz.prog t bad k = bad := by
  have other : ∀ {R : Type} (bad : R) (k : Nat → R), (∀ (n : Nat) (e : TypeId), undT Tryz.prog t ≠ .array n e) → undT Tryz.prog t ≠ .int .i64 → undT Tryz.prog t ≠ .string → clB Tryz.prog t bad k = ifZ (Nat.beq t 281) (k 3) bad := by
    intro R bad k h1 h2 h3
    unfold clB
    cases hd : undT Tryz.prog t with
    | array n e => exact absurd hd (h1 n e)
    | string => exact absurd hd h3
    | int a => cases a <;> first | exact absurd hd h2 | rfl
    | _ => rfl
  have node : (∀ (n : Nat) (e : TypeId), undT Tryz.prog t ≠ .array n e) → undT Tryz.prog t ≠ .int .i64 → undT Tryz.prog t ≠ .string → (∃ cl C, kcOf cl = some C ∧ KeyC C t ∧ ∀ {R : Type} (bad : R) (k : Nat → R), clB Tryz.prog t bad k = k cl) ∨ ∀ {R : Type} (bad : R) (k : Nat → R), clB Tryz.prog t bad k = bad := by
    intro h1 h2 h3
    cases hz : Nat.beq t 281 with
    | true =>
      refine .inl ⟨3, kcN, rfl, ?_, fun bad k => by rw [other bad k h1 h2 h3, hz]; rfl⟩
      rw [Nat.eq_of_beq_eq_true hz]
      exact keyN
    | false => exact .inr fun bad k => by rw [other bad k h1 h2 h3, hz]; rfl
  cases hd : undT Tryz.prog t with
  | int a =>
    cases a with
    | i64 => exact .inl ⟨0, kcI, rfl, keyI (und_of hd (fun e => by cases e)), fun bad k => by simp only [clB, hd]⟩
    | _ => exact node (fun n e h => by rw [hd] at h; cases h) (fun h => by rw [hd] at h; cases h) (fun h => by rw [hd] at h; cases h)
  | string => exact .inl ⟨1, kcS, rfl, keyS (und_of hd (fun e => by cases e)), fun bad k => by simp only [clB, hd]⟩
  | array n e =>
    cases hz : Nat.beq t 172 with
    | true =>
      refine .inl ⟨2, kcP, rfl, ?_, fun bad k => by simp only [clB, hd, hz, ifZ]⟩
      rw [Nat.eq_of_beq_eq_true hz]
      exact keyP
    | false => exact .inr fun bad k => by simp only [clB, hd, hz, ifZ]
  | _ => exact node (fun n e h => by rw [hd] at h; cases h) (fun h => by rw [hd] at h; cases h) (fun h => by rw [hd] at h; cases h)
section
variable {dst : Option Tmp} {type : TypeId} {pos : String} {after : Array Edge} {guard : Option (Nat × Bool)}
theorem made_of {o : Oper} {f : {R : Type} → KR R COp} {C : COp} (h : COpS o C) (h1 : ∀ {R : Type} (k : COp → R), f k = k C) : Made o f := ⟨C, h1, h⟩
theorem mapSet_of {o : Oper} {t kt et : TypeId} {m x v : Operand} {cl : Nat} {C : KC} (ho : o.op = .insert t m x v) (hC : kcOf cl = some C) (hK : KeyC C kt) (hu : Tryz.prog.underlying t = some (.map kt et)) : COpS o (.ch (cmapSet cl) [m, x, v]) := by
  refine chu_of (mapSet_R hC hK hu) fun ρ => ?_
  unfold execOp
  rw [ho]
  rfl
theorem mapSet_of2 {o : Oper} {t kt et : TypeId} {m x v : Operand} {cl : Nat} {C : KC} (ho : o.op = .mapUpdate t m x v) (hC : kcOf cl = some C) (hK : KeyC C kt) (hu : Tryz.prog.underlying t = some (.map kt et)) : COpS o (.ch (cmapSet cl) [m, x, v]) := by
  refine chu_of (mapSet_R hC hK hu) fun ρ => ?_
  unfold execOp
  rw [ho]
  rfl
set_option maxRecDepth 100000 in
theorem made_insert (t : TypeId) (m x v : Operand) : Made ⟨dst, .insert t m x v, type, pos, after, guard⟩ (opK Tryz.prog ⟨dst, .insert t m x v, type, pos, after, guard⟩) := by
  cases hd : undT Tryz.prog t with
  | map kt et =>
    have hu := und_of hd (fun e => by cases e)
    rcases clB_eq kt with ⟨cl, C, hC, hK, hc⟩ | hc
    · have h := @mapSet_of ⟨dst, .insert t m x v, type, pos, after, guard⟩ t kt et m x v cl C rfl hC hK hu
      exact made_of h fun k => by simp only [opK, hd, hc]
    · exact made_bad (w := "keys") fun k => by simp only [opK, hd, hc]
  | _ => exact made_bad (w := "mapUpdate") fun k => by simp only [opK, hd]
set_option maxRecDepth 100000 in
theorem made_mapUpdate (t : TypeId) (m x v : Operand) : Made ⟨dst, .mapUpdate t m x v, type, pos, after, guard⟩ (opK Tryz.prog ⟨dst, .mapUpdate t m x v, type, pos, after, guard⟩) := by
  cases hd : undT Tryz.prog t with
  | map kt et =>
    have hu := und_of hd (fun e => by cases e)
    rcases clB_eq kt with ⟨cl, C, hC, hK, hc⟩ | hc
    · have h := @mapSet_of2 ⟨dst, .mapUpdate t m x v, type, pos, after, guard⟩ t kt et m x v cl C rfl hC hK hu
      exact made_of h fun k => by simp only [opK, hd, hc]
    · exact made_bad (w := "keys") fun k => by simp only [opK, hd, hc]
  | _ => exact made_bad (w := "mapUpdate") fun k => by simp only [opK, hd]
theorem made_makeMap (t : TypeId) : Made ⟨dst, .makeMap t none, type, pos, after, guard⟩ (opK Tryz.prog ⟨dst, .makeMap t none, type, pos, after, guard⟩) := by
  cases hd : undT Tryz.prog t with
  | map kt et =>
    have hu := und_of hd (fun e => by cases e)
    rcases clB_eq kt with ⟨cl, C, hC, hK, hc⟩ | hc
    · exact ⟨.al (smakeMap cl) [], fun k => by simp only [opK, hd, hc], al_of (makeMap_R (t := t) hC) fun ρ => rfl⟩
    · exact made_bad (w := "keys") fun k => by simp only [opK, hd, hc]
  | _ => exact made_bad (w := "makeMap") fun k => by simp only [opK, hd]
theorem made_lookup (t : TypeId) (m x : Operand) : Made ⟨dst, .lookup t m x true, type, pos, after, guard⟩ (opK Tryz.prog ⟨dst, .lookup t m x true, type, pos, after, guard⟩) := by
  cases hd : undT Tryz.prog t with
  | map kt et =>
    have hu := und_of hd (fun e => by cases e)
    rcases clB_eq kt with ⟨cl, C, hC, hK, hc⟩ | hc
    · cases e : (Tryz.prog.info? et).bind (·.zero) with
      | none => exact made_bad (w := "zero") fun k => by simp only [opK, hd, hc, zrB, e]
      | some v =>
        cases hz : okV v with
        | false => exact made_bad (w := "zero") fun k => by simp only [opK, hd, hc, zrB, e, hz, ifZ]
        | true => exact ⟨.r2 (rlookupOk cl (absV v)) m x, fun k => by simp only [opK, hd, hc, zrB, e, hz, ifZ, absB_eq], r2_of (lookupOk_R hC hK (und_of hd (fun e => by cases e)) (fun m F => absV_VR hz) (zero_run e)) fun ρ => rfl⟩
    · exact made_bad (w := "keys") fun k => by simp only [opK, hd, hc]
  | _ => exact made_bad (w := "lookup") fun k => by simp only [opK, hd]
end
end Go.Proofs.YtpknalhjgbgpiaaGreatDoor
namespace Go.Proofs.YtpknalhjgbgpiaaGreatDoor
open Go Go.RowKit
theorem cellsV_len {v : Value} (h : okZ v = true) : (cellsV (absV v)).length = v.cells.size := by
  have := (zero_VR (m := fun _ => none) (F := 0) h).1.length
  rw [this, Array.length_toList]
section
variable {dst : Option Tmp} {type : TypeId} {pos : String} {after : Array Edge} {guard : Option (Nat × Bool)}
theorem made_makeSlice (t : TypeId) (a b : Operand) : Made ⟨dst, .makeSlice t a b, type, pos, after, guard⟩ (opK Tryz.prog ⟨dst, .makeSlice t a b, type, pos, after, guard⟩) := by
  cases hd : undT Tryz.prog t with
  | slice e =>
    have hu := und_of hd (fun e => by cases e)
    cases hi : Tryz.prog.info? e with
    | none => exact made_bad (w := "zero") fun k => by simp only [opK, hd, zcB, hi, Option.bind_none]
    | some j =>
      cases hv : j.zero with
      | none => exact made_bad (w := "zero") fun k => by simp only [opK, hd, zcB, hi, Option.bind_some, hv]
      | some v =>
        cases hz : okZ v with
        | false => exact made_bad (w := "zero") fun k => by simp only [opK, hd, zcB, hi, Option.bind_some, hv, hz, ifZ]
        | true =>
          have em : ∀ {R : Type} (k : List A → R), mapB (cellsV (absV v)) aB k = k (cellsV (absV v)) := fun k => mapB_id (fun x k => aB_eq x k) _ _
          cases hb : Nat.ble j.bytes 4096 with
          | false => exact made_bad (w := "size") fun k => by simp only [opK, hd, zcB, hi, Option.bind_some, hv, hz, ifZ, em, smB, hb]
          | true =>
            cases hl : Nat.beq (cellsV (absV v)).length j.size with
            | false => exact made_bad (w := "makeSlice") fun k => by simp only [opK, hd, zcB, hi, Option.bind_some, hv, hz, ifZ, em, smB, hb, fNB_eq, hl]
            | true =>
              exact ⟨.al (smake j.size (cellsV (absV v))) [a, b], fun k => by simp only [opK, hd, zcB, hi, Option.bind_some, hv, hz, ifZ, em, smB, hb, fNB_eq, hl],
                al_of (make_R hu hi rfl (Nat.le_of_ble_eq_true hb) hv ((cellsV_len hz).symm.trans (Nat.eq_of_beq_eq_true hl)) (fun m F => (zero_VR hz).1) (zero_VR (m := fun _ => none) (F := 0) hz).2) fun ρ => rfl⟩
  | _ => exact made_bad (w := "makeSlice") fun k => by simp only [opK, hd]
end
end Go.Proofs.YtpknalhjgbgpiaaGreatDoor
namespace Go.Proofs.YtpknalhjgbgpiaaGreatDoor
open Go Go.RowKit
section
variable {dst : Option Tmp} {type : TypeId} {pos : String} {after : Array Edge} {guard : Option (Nat × Bool)}
theorem slice_of {o : Oper} {g : Option A → Option A → Option A → A → KA → Bool} {t : TypeId} (hs : SlR g t) {x : Operand} {l h n : Option Operand} (ho : o.op = .slice t x l h n) : COpS o (.pl (gslice g l.isSome h.isSome n.isSome) (x :: (l.toList ++ h.toList ++ n.toList))) := by
  have run : ∀ (ρ : Operand → Value) (w : World) {y y' : Value} {a b c : Option Value}, (∀ w : World, (Instr.sliceAt t y a b c).run Tryz.prog w = .ok y' w) → ρ x = y → l.map ρ = a → h.map ρ = b → n.map ρ = c → (execOp ρ o).run Tryz.prog w = .ok (.value y') w := by
    intro ρ w y y' a b c hr e1 e2 e3 e4
    have : execOp ρ o = (do pure (.value (← Instr.sliceAt t (ρ x) (l.map ρ) (h.map ρ) (n.map ρ))) : Sem Next) := by
      unfold execOp
      rw [ho]
    rw [this, e1, e2, e3, e4, Sem.run_bind, hr]
    rfl
  intro m F ll ys k hlen hv hg
  cases l with
  | none =>
    cases h with
    | none =>
      cases n with
      | none =>
        match ll, hlen with
        | [u], _ =>
          cases hv with | cons g0 hv => cases hv with | nil =>
          obtain ⟨v, e1, y, e2, e3⟩ := hs m F none none none u _ _ _ _ k .none .none .none (fun e => e) g0 hg
          refine ⟨v, e1, y, e2, fun ρ w hρ => ?_⟩
          simp only [Option.toList_none, List.append_nil, List.map_cons, List.map_nil, List.cons.injEq, and_true] at hρ
          have h0 := hρ
          exact run ρ w e3 h0 rfl rfl rfl
      | some on =>
        match ll, hlen with
        | [u, c], _ => exact no hg
    | some oh =>
      cases n with
      | none =>
        match ll, hlen with
        | [u, b], _ =>
          cases hv with | cons g0 hv => cases hv with | cons g1 hv => cases hv with | nil =>
          obtain ⟨v, e1, y, e2, e3⟩ := hs m F none (some b) none u _ _ _ _ k .none (.some g1) .none (fun _ => rfl) g0 hg
          refine ⟨v, e1, y, e2, fun ρ w hρ => ?_⟩
          simp only [Option.toList_some, Option.toList_none, List.append_nil, List.nil_append, List.map_cons, List.map_nil, List.cons.injEq, and_true] at hρ
          obtain ⟨h0, h1⟩ := hρ
          exact run ρ w e3 h0 rfl (congrArg some h1) rfl
      | some on =>
        match ll, hlen with
        | [u, b, c], _ =>
          cases hv with | cons g0 hv => cases hv with | cons g1 hv => cases hv with | cons g2 hv => cases hv with | nil =>
          obtain ⟨v, e1, y, e2, e3⟩ := hs m F none (some b) (some c) u _ _ _ _ k .none (.some g1) (.some g2) (fun _ => rfl) g0 hg
          refine ⟨v, e1, y, e2, fun ρ w hρ => ?_⟩
          simp only [Option.toList_some, Option.toList_none, List.nil_append, List.cons_append, List.map_cons, List.map_nil, List.cons.injEq, and_true] at hρ
          obtain ⟨h0, h1, h2⟩ := hρ
          exact run ρ w e3 h0 rfl (congrArg some h1) (congrArg some h2)
  | some ol =>
    cases h with
    | none =>
      cases n with
      | none =>
        match ll, hlen with
        | [u, a], _ =>
          cases hv with | cons g0 hv => cases hv with | cons g1 hv => cases hv with | nil =>
          obtain ⟨v, e1, y, e2, e3⟩ := hs m F (some a) none none u _ _ _ _ k (.some g1) .none .none (fun e => e) g0 hg
          refine ⟨v, e1, y, e2, fun ρ w hρ => ?_⟩
          simp only [Option.toList_some, Option.toList_none, List.append_nil, List.map_cons, List.map_nil, List.cons.injEq, and_true] at hρ
          obtain ⟨h0, h1⟩ := hρ
          exact run ρ w e3 h0 (congrArg some h1) rfl rfl
      | some on =>
        match ll, hlen with
        | [u, a, c], _ => exact no hg
    | some oh =>
      cases n with
      | none =>
        match ll, hlen with
        | [u, a, b], _ =>
          cases hv with | cons g0 hv => cases hv with | cons g1 hv => cases hv with | cons g2 hv => cases hv with | nil =>
          obtain ⟨v, e1, y, e2, e3⟩ := hs m F (some a) (some b) none u _ _ _ _ k (.some g1) (.some g2) .none (fun _ => rfl) g0 hg
          refine ⟨v, e1, y, e2, fun ρ w hρ => ?_⟩
          simp only [Option.toList_some, Option.toList_none, List.append_nil, List.nil_append, List.cons_append, List.map_cons, List.map_nil, List.cons.injEq, and_true] at hρ
          obtain ⟨h0, h1, h2⟩ := hρ
          exact run ρ w e3 h0 (congrArg some h1) (congrArg some h2) rfl
      | some on =>
        match ll, hlen with
        | [u, a, b, c], _ =>
          cases hv with | cons g0 hv => cases hv with | cons g1 hv => cases hv with | cons g2 hv => cases hv with | cons g3 hv => cases hv with | nil =>
          obtain ⟨v, e1, y, e2, e3⟩ := hs m F (some a) (some b) (some c) u _ _ _ _ k (.some g1) (.some g2) (.some g3) (fun _ => rfl) g0 hg
          refine ⟨v, e1, y, e2, fun ρ w hρ => ?_⟩
          simp only [Option.toList_some, List.nil_append, List.cons_append, List.map_cons, List.map_nil, List.cons.injEq, and_true] at hρ
          obtain ⟨h0, h1, h2, h3⟩ := hρ
          exact run ρ w e3 h0 (congrArg some h1) (congrArg some h2) (congrArg some h3)
theorem made_slice (t : TypeId) (x : Operand) (l h n : Option Operand) : Made ⟨dst, .slice t x l h n, type, pos, after, guard⟩ (opK Tryz.prog ⟨dst, .slice t x l h n, type, pos, after, guard⟩) := by
  cases hd : undT Tryz.prog t with
  | string => exact ⟨.pl (gslice gsliceS l.isSome h.isSome n.isSome) (x :: (l.toList ++ h.toList ++ n.toList)), fun k => by simp only [opK, hd, fBB_eq], slice_of (sliceS_R (und_of hd (fun e => by cases e))) rfl⟩
  | slice e =>
    have hu := und_of hd (fun e => by cases e)
    cases hi : Tryz.prog.info? e with
    | none => exact made_bad (w := "size") fun k => by simp only [opK, hd, fBB_eq, szB, hi]
    | some j => exact ⟨.pl (gslice (gsliceSl j.size) l.isSome h.isSome n.isSome) (x :: (l.toList ++ h.toList ++ n.toList)), fun k => by simp only [opK, hd, fBB_eq, szB, hi, fNB_eq], slice_of (sliceSl_R hu (by rw [hi]; rfl)) rfl⟩
  | _ => exact made_bad (w := "slice") fun k => by simp only [opK, hd, fBB_eq]
end
end Go.Proofs.YtpknalhjgbgpiaaGreatDoor
namespace Go.Proofs.YtpknalhjgbgpiaaGreatDoor
open Go Go.RowKit
theorem builtin_run {o : Oper} {c : Call} {b : Go.Builtin} (ho : o.op = .call c) (hb : c.callee = .builtin b) (ρ : Operand → Value) : execOp ρ o = builtin b c.argTypes o.type (c.args.map fun | .const _ => true | _ => false) (c.args.map ρ) := by
  unfold execOp
  rw [ho]
  show (do let d ← resolve ρ c o.type; invoke d.target d.args : Sem Next) = _
  unfold resolve
  rw [hb]
  rfl
theorem max_of {o : Oper} {c : Call} (ho : o.op = .call c) (hb : c.callee = .builtin .max) : COpS o (.pl gmax c.args.toList) := by
  refine pl_of (max_R (at_ := c.argTypes) (ty := o.type)) fun ρ => ?_
  rw [builtin_run ho hb]
  show (do pure (.value (← Builtin.max_ c.argTypes o.type (c.args.map ρ))) : Sem Next) = _
  rw [show (c.args.toList.map ρ).toArray = c.args.map ρ from Array.toList_inj.1 (by rw [Array.toList_map])]
theorem min_of {o : Oper} {c : Call} (ho : o.op = .call c) (hb : c.callee = .builtin .min) : COpS o (.pl gmin c.args.toList) := by
  refine pl_of (min_R (at_ := c.argTypes) (ty := o.type)) fun ρ => ?_
  rw [builtin_run ho hb]
  show (do pure (.value (← Builtin.min_ c.argTypes o.type (c.args.map ρ))) : Sem Next) = _
  rw [show (c.args.toList.map ρ).toArray = c.args.map ρ from Array.toList_inj.1 (by rw [Array.toList_map])]
end Go.Proofs.YtpknalhjgbgpiaaGreatDoor
