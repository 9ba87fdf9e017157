/- Parts of the proof: EvR1. -/
import Derived.LoopNIn
import Derived.RangeFuncSeq
import Derived.Test.YtpknalhjgbgpiaaGreatDoorM16
noncomputable section
namespace Go.Proofs.YtpknalhjgbgpiaaGreatDoor
open Go Go.RowKit
def dE (n : Nat) : Edge := ⟨n, .data⟩
def pE (n : Nat) : Edge := ⟨n, .phase⟩
def bOp (d : Tmp) (op : Op) (t : TypeId) (p : String) (after : Array Edge) : Oper := { dst := some d, op, type := t, pos := p, after, guard := none }
def back0 (SL : TypeId) : Array Oper := #[bOp 4 (.load SL (.tmp 1)) SL "iter.go:28" #[],
  bOp 5 (.call { callee := .builtin .len, args := #[.tmp 4], argTypes := #[SL] }) 3 "iter.go:28" #[dE 0],
  bOp 6 (.binOp .sub 3 (.tmp 5) (.const (.int .i64 1)) 3) 3 "iter.go:28" #[dE 1],
  bOp 3 (.assign (.tmp 6)) 3 "iter.go:28" #[dE 2, pE 0, pE 1, pE 2]]
def back1 : Array Oper := #[bOp 7 (.move (.tmp 3)) 3 "iter.go:28" #[], bOp 8 (.binOp .geq 3 (.tmp 7) (.const (.int .i64 0)) 3) 4 "iter.go:28" #[dE 0]]
def back2 : Array Oper := #[bOp 9 (.move (.tmp 3)) 3 "iter.go:28" #[], bOp 10 (.binOp .sub 3 (.tmp 9) (.const (.int .i64 1)) 3) 3 "iter.go:28" #[dE 0], bOp 3 (.assign (.tmp 10)) 3 "iter.go:28" #[dE 1, pE 0, pE 1]]
def back3 (Y SL T : TypeId) : Array Oper := #[bOp 11 (.move (.tmp 0)) Y "iter.go:29" #[], bOp 12 (.move (.tmp 3)) 3 "iter.go:29" #[], bOp 13 (.load SL (.tmp 1)) SL "iter.go:29" #[], bOp 14 (.move (.tmp 3)) 3 "iter.go:29" #[],
  bOp 15 (.indexAddr SL (.tmp 13) (.tmp 14)) 0 "iter.go:29" #[dE 2, dE 3], bOp 16 (.load T (.tmp 15)) T "iter.go:29" #[dE 4],
  bOp 17 (.call { callee := .value (.tmp 11), args := #[.tmp 12, .tmp 16], argTypes := #[3, T] }) 4 "iter.go:29" #[dE 0, dE 1, dE 5],
  bOp 18 (.unOp .not 4 (.tmp 17)) 4 "iter.go:29" #[dE 6]]
def backLoop (Y SL T : TypeId) : Code := .seq (.seq (.region 1 back1 false) (.cond (.tmp 8) .skip (.exit 0))) (.seq (.block 1 (.seq (.region 3 (back3 Y SL T) false) (.cond (.tmp 18) .ret .skip))) (.region 2 back2 false))
def backCode (Y SL T : TypeId) : Code := .seq (.region 0 (back0 SL) false) (.block 0 (.loop (backLoop Y SL T)))
/-- A function that is such a closure. -/
structure IsBack (g : FuncId) (SL T : TypeId) (sz : Nat) : Prop where
  fn : ∃ fn Y, Tryz.prog.funcs[g]? = some fn ∧ fn.body = some (backCode Y SL T) ∧ fn.ntmps = 19 ∧ fn.results = #[]
  enters : Enters g
  sl : Tryz.prog.underlying SL = some (.slice T)
  size : (Tryz.prog.info? T).map (·.size) = some sz
set_option maxRecDepth 100000 in
theorem isBack_of {g : FuncId} {SL T : TypeId} {sz : Nat} (fn : Func) (Y : TypeId) (h1 : Tryz.prog.funcs[g]? = some fn) (h2 : fn.body = some (backCode Y SL T)) (h3 : fn.ntmps = 19) (h4 : fn.results = #[]) (h5 : (fn.name == "runtime.NumGoroutine") = false) (h6 : Tryz.prog.underlying SL = some (.slice T)) (h7 : (Tryz.prog.info? T).map (·.size) = some sz) : IsBack g SL T sz :=
  ⟨⟨fn, Y, h1, h2, h3, h4⟩, enters_of h1 h2 h5, h6, h7⟩
section
variable {n : Nat} {ops : Array Oper} {Q : Exit → Act → World → Prop} {a : Act} {w : World}
/-- An operation that yields a value. -/
theorem opsIn_val {i : Nat} {rest : List Nat} {o : Oper} {d : Tmp} {y : Value} (ho : ops[i]? = some o) (hds : o.dst = some d) (hg : o.guard = none) (hd : ∀ c, o.op ≠ .defer c) (hr : (execOp a.eval o).run Tryz.prog w = .ok (.value y) w)
    (hn : wpOpsIn Fence.wide n Tryz.prog ops Q rest (a.put (some d) y) w) : wpOpsIn Fence.wide n Tryz.prog ops Q (i :: rest) a w := by
  unfold wpOpsIn
  have hw : Region.wanted o (yielded ops a.tmps) = true := by unfold Region.wanted; rw [hg]
  simp only [ho, hw, if_true]
  refine ⟨fun f _ => trivial, ?_⟩
  rw [Oper.semAt_eq _ _ _ hd, hr, Oper.uponIn_value, hds]
  exact hn
theorem eval_put_same {d : Tmp} {v : Value} (h : d < a.tmps.size) : (a.put (some d) v).eval (.tmp d) = v := by
  show (a.tmps.setIfInBounds d v).getD d undef = v
  rw [Array.getD_eq_getD_getElem?, Array.getElem?_setIfInBounds_self_of_lt h]
  rfl
theorem eval_put_ne {d t : Tmp} {v : Value} (h : d ≠ t) : (a.put (some d) v).eval (.tmp t) = a.eval (.tmp t) := by
  show (a.tmps.setIfInBounds d v).getD t undef = a.tmps.getD t undef
  rw [Array.getD_eq_getD_getElem?, Array.getElem?_setIfInBounds_ne h, ← Array.getD_eq_getD_getElem?]
end
theorem inBlock_same {Q : Exit → Act → World → Prop} {id : Nat} {a : Act} {w : World} (h : Q .normal a w) : Exit.inBlock id Q (.exit id) a w := by
  show if id = id then _ else _
  rw [if_pos rfl]
  exact h
/-- The closure's temporaries. -/
structure BA (yv cv : Value) (i : Int) (a : Act) : Prop where
  size : a.tmps.size = 19
  defers : a.defers = []
  t0 : a.eval (.tmp 0) = yv
  t1 : a.eval (.tmp 1) = cv
  t3 : a.eval (.tmp 3) = .int .i64 i
section
variable {yv cv : Value} {i j : Int} {a : Act} {d : Tmp} {v : Value}
theorem ne_of_lt3 {d k : Nat} (hd : 3 < d) (hk : k ≤ 3) : d ≠ k := fun e => by omega
theorem BA.put (h : BA yv cv i a) (hd : 3 < d) : BA yv cv i (a.put (some d) v) :=
  ⟨(put_size a _ v).trans h.size, (put_defers a _ v).trans h.defers, (eval_put_ne (ne_of_lt3 hd (by decide))).trans h.t0, (eval_put_ne (ne_of_lt3 hd (by decide))).trans h.t1, (eval_put_ne (ne_of_lt3 hd (by decide))).trans h.t3⟩
theorem BA.set (h : BA yv cv i a) : BA yv cv j (a.put (some 3) (.int .i64 j)) :=
  ⟨(put_size a _ _).trans h.size, (put_defers a _ _).trans h.defers, (eval_put_ne (by decide)).trans h.t0, (eval_put_ne (by decide)).trans h.t1, eval_put_same (by rw [h.size]; decide)⟩
/-- .. as they are when it begins. -/
structure B0 (yv cv : Value) (a : Act) : Prop where
  size : a.tmps.size = 19
  defers : a.defers = []
  t0 : a.eval (.tmp 0) = yv
  t1 : a.eval (.tmp 1) = cv
theorem B0.put (h : B0 yv cv a) (hd : 3 < d) : B0 yv cv (a.put (some d) v) :=
  ⟨(put_size a _ v).trans h.size, (put_defers a _ v).trans h.defers, (eval_put_ne (ne_of_lt3 hd (by decide))).trans h.t0, (eval_put_ne (ne_of_lt3 hd (by decide))).trans h.t1⟩
theorem B0.set (h : B0 yv cv a) : BA yv cv j (a.put (some 3) (.int .i64 j)) :=
  ⟨(put_size a _ _).trans h.size, (put_defers a _ _).trans h.defers, (eval_put_ne (by decide)).trans h.t0, (eval_put_ne (by decide)).trans h.t1, eval_put_same (by rw [h.size]; decide)⟩
theorem sub1_run {i : Int} {x : Operand} (h1 : -9223372036854775808 < i) (h2 : i ≤ 9223372036854775807) (w : World) : (do eqGuard .sub 3 x (.const (.int .i64 1)) (.int .i64 i) (.int .i64 1); binOp .sub 3 (.int .i64 i) (.int .i64 1) : Sem Value).run Tryz.prog w = .ok (.int .i64 (i - 1)) w := by
  rw [Sem.run_bind, guard_int, Result.andThen_ok]
  have : (binOp .sub 3 (.int .i64 i) (.int .i64 1)).run Tryz.prog w = .ok (.int .i64 (IntKind.i64.wrap (i - 1))) w := by simp [binOp, Op.intArith]
  rw [this, wrap64 ⟨by omega, by omega⟩]
theorem geq0_run {i : Int} {x : Operand} (w : World) : (do eqGuard .geq 3 x (.const (.int .i64 0)) (.int .i64 i) (.int .i64 0); binOp .geq 3 (.int .i64 i) (.int .i64 0) : Sem Value).run Tryz.prog w = .ok (.bool (decide (0 ≤ i))) w := by
  rw [Sem.run_bind, guard_int, Result.andThen_ok]
  simp [binOp, Op.intCmp]
theorem exec_bin {o : Oper} {op : BinOp} {t u : TypeId} {x y : Operand} (ho : o.op = .binOp op t x y u) {ρ : Operand → Value} {r : Value} {w : World} (h : (do eqGuard op t x y (ρ x) (ρ y); binOp op t (ρ x) (ρ y) : Sem Value).run Tryz.prog w = .ok r w) : (execOp ρ o).run Tryz.prog w = .ok (.value r) w := by
  have : execOp ρ o = (do pure (.value (← (do eqGuard op t x y (ρ x) (ρ y); binOp op t (ρ x) (ρ y) : Sem Value))) : Sem Next) := by
    unfold execOp
    rw [ho]
  rw [this, Sem.run_bind, h]
  rfl
end
set_option maxHeartbeats 4000000 in
/-- What the closure does with its rounds. -/
theorem back_in {g : FuncId} {SL T : TypeId} {sz : Nat} (hB : IsBack g SL T sz) {nf l len : Nat} {A0 : Option Addr} {Bc : Addr} {J : Nat → World → Prop} {Jx : World → Prop} (hlen : len ≤ 1000000)
    (hread : ∀ k W, k < len → J (k + 1) W → ∃ cap, (Instr.loadAt SL (.pointer (some Bc))).run Tryz.prog W = .ok (.slice A0 len cap) W)
    (hround : ∀ k W, k < len → J (k + 1) W → ∃ ad y, A0 = some ad ∧ (Instr.loadAt T (.pointer (some (ad.add (k * sz))))).run Tryz.prog W = .ok y W ∧ YieldAt Fence.wide (nf - 1) Tryz.prog l #[.int .i64 k, y] W fun e W' => (e = .returned (.bool true) ∧ J k W') ∨ (e = .returned (.bool false) ∧ Jx W'))
    {W : World} (hfirst : ∃ cap, (Instr.loadAt SL (.pointer (some Bc))).run Tryz.prog W = .ok (.slice A0 len cap) W) (h0 : J len W) : CallsIn Fence.wide nf Tryz.prog g #[.func (.yield l) #[] #[], .pointer (some Bc)] W fun e W' => (∃ v, e = .returned v) ∧ (J 0 W' ∨ Jx W') := by
  obtain ⟨fn, Y, hf, hb, hn, hres⟩ := hB.fn
  have hsl := hB.sl
  have hsz := hB.size
  refine callsIn_of_wp hf hb trivial ?_ rfl
  rw [hn]
  generalize hyv : (.func (.yield l) #[] #[] : Value) = yv
  generalize hcv : (.pointer (some Bc) : Value) = cv at *
  -- the rounds
  have rounds : ∀ k a w, k ≤ len → BA yv cv ((k : Int) - 1) a → J k w → Code.roundsIn Fence.wide nf Tryz.prog (backLoop Y SL T) (Exit.inBlock 0 (bodyPost Tryz.prog fn fun e W' => (∃ v, e = .returned v) ∧ (J 0 W' ∨ Jx W'))) (k + 1) a w := by
    intro k
    induction k with
    | zero =>
      intro a w hk ha hJ
      rw [roundsIn_succ]
      refine wpIn_seq (wpIn_seq (wpIn_region ?_))
      show wpOpsIn Fence.wide nf Tryz.prog back1 _ [0, 1] a w
      refine opsIn_val (o := bOp 7 (.move (.tmp 3)) 3 "iter.go:28" #[]) rfl rfl rfl (fun c e => by cases e) (y := .int .i64 (-1)) (by show Result.ok (Next.value (a.eval (.tmp 3))) w = _; rw [ha.t3]; rfl) ?_
      have h7 : (a.put (some 7) (.int .i64 (-1))).eval (.tmp 7) = .int .i64 (-1) := eval_put_same (by rw [ha.size]; decide)
      refine opsIn_val (o := bOp 8 (.binOp .geq 3 (.tmp 7) (.const (.int .i64 0)) 3) 4 "iter.go:28" #[dE 0]) rfl rfl rfl (fun c e => by cases e) (y := .bool false) (exec_bin rfl (by
        show (do eqGuard .geq 3 _ _ ((a.put (some 7) (.int .i64 (-1))).eval (.tmp 7)) (.int .i64 0); binOp .geq 3 ((a.put (some 7) (.int .i64 (-1))).eval (.tmp 7)) (.int .i64 0) : Sem Value).run Tryz.prog w = _
        rw [h7]
        exact geq0_run w)) ?_
      have ha' : BA yv cv (-1) ((a.put (some 7) (.int .i64 (-1))).put (some 8) (.bool false)) := (show BA yv cv (-1) a from ha).put (by decide) |>.put (by decide)
      refine wpIn_cond_false (eval_put_same (by rw [put_size, ha.size]; decide)) (wpIn_exit ?_)
      show Exit.inBlock 0 (bodyPost Tryz.prog fn fun e W' => (∃ v, e = .returned v) ∧ (J 0 W' ∨ Jx W')) (.exit 0) _ w
      refine inBlock_same ?_
      exact ⟨ha'.defers, _, results_none hres _ _ _, ⟨_, rfl⟩, .inl hJ⟩
    | succ k ih =>
      intro a w hk ha hJ
      have ha0 : BA yv cv (k : Int) a := by
        have e : (((k + 1 : Nat) : Int) - 1) = (k : Int) := by omega
        rw [e] at ha
        exact ha
      rw [roundsIn_succ]
      refine wpIn_seq (wpIn_seq (wpIn_region ?_))
      show wpOpsIn Fence.wide nf Tryz.prog back1 _ [0, 1] a w
      refine opsIn_val (o := bOp 7 (.move (.tmp 3)) 3 "iter.go:28" #[]) rfl rfl rfl (fun c e => by cases e) (y := .int .i64 k) (by show Result.ok (Next.value (a.eval (.tmp 3))) w = _; rw [ha0.t3]) ?_
      have h7 : (a.put (some 7) (.int .i64 k)).eval (.tmp 7) = .int .i64 k := eval_put_same (by rw [ha.size]; decide)
      refine opsIn_val (o := bOp 8 (.binOp .geq 3 (.tmp 7) (.const (.int .i64 0)) 3) 4 "iter.go:28" #[dE 0]) rfl rfl rfl (fun c e => by cases e) (y := .bool true) (exec_bin rfl (by
        show (do eqGuard .geq 3 _ _ ((a.put (some 7) (.int .i64 k)).eval (.tmp 7)) (.int .i64 0); binOp .geq 3 ((a.put (some 7) (.int .i64 k)).eval (.tmp 7)) (.int .i64 0) : Sem Value).run Tryz.prog w = _
        rw [h7, geq0_run w]
        have : (0 : Int) ≤ (k : Int) := by omega
        rw [decide_eq_true this])) ?_
      generalize ha1 : (a.put (some 7) (.int .i64 k)).put (some 8) (.bool true) = a1
      have hA1 : BA yv cv k a1 := by rw [← ha1]; exact (ha0.put (by decide)).put (by decide)
      refine wpIn_cond_true (by rw [← ha1]; exact eval_put_same (by rw [put_size, ha.size]; decide)) (wpIn_skip ?_)
      show (Code.seq (.block 1 (.seq (.region 3 (back3 Y SL T) false) (.cond (.tmp 18) .ret .skip))) (.region 2 back2 false)).wpIn Fence.wide nf Tryz.prog _ a1 w
      refine wpIn_seq (wpIn_block (wpIn_seq (wpIn_region ?_)))
      show wpOpsIn Fence.wide nf Tryz.prog (back3 Y SL T) _ [0, 1, 2, 3, 4, 5, 6, 7] a1 w
      obtain ⟨ad, y, hA0, hy, fn2, tmps2, as2, bd2, hyl, hrd⟩ := hround k w (by omega) hJ
      refine opsIn_val (o := bOp 11 (.move (.tmp 0)) Y "iter.go:29" #[]) rfl rfl rfl (fun c e => by cases e) (y := yv) (by show Result.ok (Next.value (a1.eval (.tmp 0))) w = _; rw [hA1.t0]) ?_
      generalize ha2 : a1.put (some 11) yv = a2
      have hA2 : BA yv cv k a2 := by rw [← ha2]; exact hA1.put (by decide)
      have e2 : a2.eval (.tmp 11) = yv := by rw [← ha2]; exact eval_put_same (by rw [hA1.size]; decide)
      refine opsIn_val (o := bOp 12 (.move (.tmp 3)) 3 "iter.go:29" #[]) rfl rfl rfl (fun c e => by cases e) (y := .int .i64 k) (by show Result.ok (Next.value (a2.eval (.tmp 3))) w = _; rw [hA2.t3]) ?_
      generalize ha3 : a2.put (some 12) (.int .i64 k) = a3
      have hA3 : BA yv cv k a3 := by rw [← ha3]; exact hA2.put (by decide)
      have e3 : a3.eval (.tmp 11) = yv ∧ a3.eval (.tmp 12) = .int .i64 k := by rw [← ha3]; exact ⟨(eval_put_ne (by decide)).trans e2, eval_put_same (by rw [hA2.size]; decide)⟩
      obtain ⟨cap, rd⟩ := hread k w (by omega) hJ
      refine opsIn_val (o := bOp 13 (.load SL (.tmp 1)) SL "iter.go:29" #[]) rfl rfl rfl (fun c e => by cases e) (y := .slice A0 len cap) (by
        show (do pure (.value (← Instr.loadAt SL (a3.eval (.tmp 1)))) : Sem Next).run Tryz.prog w = _
        rw [hA3.t1, Sem.run_bind, rd]
        rfl) ?_
      generalize ha4 : a3.put (some 13) (.slice A0 len cap) = a4
      have hA4 : BA yv cv k a4 := by rw [← ha4]; exact hA3.put (by decide)
      have e4 : (a4.eval (.tmp 11) = yv ∧ a4.eval (.tmp 12) = .int .i64 k) ∧ a4.eval (.tmp 13) = .slice A0 len cap := by rw [← ha4]; exact ⟨⟨(eval_put_ne (by decide)).trans e3.1, (eval_put_ne (by decide)).trans e3.2⟩, eval_put_same (by rw [hA3.size]; decide)⟩
      refine opsIn_val (o := bOp 14 (.move (.tmp 3)) 3 "iter.go:29" #[]) rfl rfl rfl (fun c e => by cases e) (y := .int .i64 k) (by show Result.ok (Next.value (a4.eval (.tmp 3))) w = _; rw [hA4.t3]) ?_
      generalize ha5 : a4.put (some 14) (.int .i64 k) = a5
      have hA5 : BA yv cv k a5 := by rw [← ha5]; exact hA4.put (by decide)
      have e5 : (a5.eval (.tmp 11) = yv ∧ a5.eval (.tmp 12) = .int .i64 k) ∧ a5.eval (.tmp 13) = .slice A0 len cap ∧ a5.eval (.tmp 14) = .int .i64 k := by rw [← ha5]; exact ⟨⟨(eval_put_ne (by decide)).trans e4.1.1, (eval_put_ne (by decide)).trans e4.1.2⟩, (eval_put_ne (by decide)).trans e4.2, eval_put_same (by rw [hA4.size]; decide)⟩
      refine opsIn_val (o := bOp 15 (.indexAddr SL (.tmp 13) (.tmp 14)) 0 "iter.go:29" #[dE 2, dE 3]) rfl rfl rfl (fun c e => by cases e) (y := .pointer (some (ad.add (k * sz)))) (by
        show (do pure (.value (← Instr.indexAt SL (a5.eval (.tmp 13)) (a5.eval (.tmp 14)))) : Sem Next).run Tryz.prog w = _
        rw [e5.2.1, e5.2.2, hA0]
        have h3 : (k : Int) < (len : Int) := by omega
        have h4 : k < len := by omega
        simp [Instr.indexAt, asIntOf, run_underlying hsl, sizeOf_run hsz, Result.andThen, h4]) ?_
      generalize ha6 : a5.put (some 15) (.pointer (some (ad.add (k * sz)))) = a6
      have hA6 : BA yv cv k a6 := by rw [← ha6]; exact hA5.put (by decide)
      have e6 : (a6.eval (.tmp 11) = yv ∧ a6.eval (.tmp 12) = .int .i64 k) ∧ a6.eval (.tmp 15) = .pointer (some (ad.add (k * sz))) := by rw [← ha6]; exact ⟨⟨(eval_put_ne (by decide)).trans e5.1.1, (eval_put_ne (by decide)).trans e5.1.2⟩, eval_put_same (by rw [hA5.size]; decide)⟩
      refine opsIn_val (o := bOp 16 (.load T (.tmp 15)) T "iter.go:29" #[dE 4]) rfl rfl rfl (fun c e => by cases e) (y := y) (by
        show (do pure (.value (← Instr.loadAt T (a6.eval (.tmp 15)))) : Sem Next).run Tryz.prog w = _
        rw [e6.2, Sem.run_bind, hy]
        rfl) ?_
      generalize ha7 : a6.put (some 16) y = a7
      have hA7 : BA yv cv k a7 := by rw [← ha7]; exact hA6.put (by decide)
      have e7 : (a7.eval (.tmp 11) = yv ∧ a7.eval (.tmp 12) = .int .i64 k) ∧ a7.eval (.tmp 16) = y := by rw [← ha7]; exact ⟨⟨(eval_put_ne (by decide)).trans e6.1.1, (eval_put_ne (by decide)).trans e6.1.2⟩, eval_put_same (by rw [hA6.size]; decide)⟩
      -- the round
      unfold wpOpsIn
      have hidx : (back3 Y SL T)[6]? = some (bOp 17 (.call { callee := .value (.tmp 11), args := #[.tmp 12, .tmp 16], argTypes := #[3, T] }) 4 "iter.go:29" #[dE 0, dE 1, dE 5]) := rfl
      simp only [hidx]
      rw [if_pos (show Region.wanted _ _ = true from rfl)]
      refine ⟨fun f _ => trivial, ?_⟩
      rw [Oper.semAt_eq _ _ _ (fun c e => by cases e)]
      have hx : (execOp a7.eval (bOp 17 (.call { callee := .value (.tmp 11), args := #[.tmp 12, .tmp 16], argTypes := #[3, T] }) 4 "iter.go:29" #[dE 0, dE 1, dE 5])).run Tryz.prog w = .ok (.round l fn2 tmps2 as2 bd2) w := by
        show (do let d ← Deferred.ofValue (a7.eval (.tmp 11)) (#[.tmp 12, .tmp 16].map a7.eval); invoke d.target d.args : Sem Next).run Tryz.prog w = _
        rw [e7.1.1, ← hyv, map2, e7.1.2, e7.2]
        exact hyl
      rw [hx, Oper.uponIn_round]
      refine ⟨(fun h => by cases h), hrd.mono fun e W' hE => ?_⟩
      rcases hE with ⟨rfl, hJ'⟩ | ⟨rfl, hJ'⟩
      · show wpOpsIn Fence.wide nf Tryz.prog (back3 Y SL T) _ [7] (a7.put (some 17) (.bool true)) W'
        have e8 : (a7.put (some 17) (.bool true)).eval (.tmp 17) = .bool true := eval_put_same (by rw [hA7.size]; decide)
        refine opsIn_val (o := bOp 18 (.unOp .not 4 (.tmp 17)) 4 "iter.go:29" #[dE 6]) rfl rfl rfl (fun c e => by cases e) (y := .bool false) (by
          show (do pure (.value (← Op.unary .not ((a7.put (some 17) (.bool true)).eval (.tmp 17)))) : Sem Next).run Tryz.prog W' = _
          rw [e8]
          rfl) ?_
        generalize ha9 : (a7.put (some 17) (.bool true)).put (some 18) (.bool false) = a9
        have hA9 : BA yv cv k a9 := by rw [← ha9]; exact (hA7.put (by decide)).put (by decide)
        refine wpIn_cond_false (by rw [← ha9]; exact eval_put_same (by rw [put_size, hA7.size]; decide)) (wpIn_skip ?_)
        show (Code.region 2 back2 false).wpIn Fence.wide nf Tryz.prog _ a9 W'
        refine wpIn_region ?_
        show wpOpsIn Fence.wide nf Tryz.prog back2 _ [0, 1, 2] a9 W'
        refine opsIn_val (o := bOp 9 (.move (.tmp 3)) 3 "iter.go:28" #[]) rfl rfl rfl (fun c e => by cases e) (y := .int .i64 k) (by show Result.ok (Next.value (a9.eval (.tmp 3))) W' = _; rw [hA9.t3]) ?_
        have e10 : (a9.put (some 9) (.int .i64 k)).eval (.tmp 9) = .int .i64 k := eval_put_same (by rw [hA9.size]; decide)
        refine opsIn_val (o := bOp 10 (.binOp .sub 3 (.tmp 9) (.const (.int .i64 1)) 3) 3 "iter.go:28" #[dE 0]) rfl rfl rfl (fun c e => by cases e) (y := .int .i64 ((k : Int) - 1)) (exec_bin rfl (by
          show (do eqGuard .sub 3 _ _ ((a9.put (some 9) (.int .i64 k)).eval (.tmp 9)) (.int .i64 1); binOp .sub 3 ((a9.put (some 9) (.int .i64 k)).eval (.tmp 9)) (.int .i64 1) : Sem Value).run Tryz.prog W' = _
          rw [e10]
          exact sub1_run (by omega) (by omega) W')) ?_
        have e11 : ((a9.put (some 9) (.int .i64 k)).put (some 10) (.int .i64 ((k : Int) - 1))).eval (.tmp 10) = .int .i64 ((k : Int) - 1) := eval_put_same (by rw [put_size, hA9.size]; decide)
        refine opsIn_val (o := bOp 3 (.assign (.tmp 10)) 3 "iter.go:28" #[dE 1, pE 0, pE 1]) rfl rfl rfl (fun c e => by cases e) (y := .int .i64 ((k : Int) - 1)) (by
          show Result.ok (Next.value (((a9.put (some 9) (.int .i64 k)).put (some 10) (.int .i64 ((k : Int) - 1))).eval (.tmp 10))) W' = _
          rw [e11]) ?_
        exact ih _ W' (by omega) (((hA9.put (by decide)).put (by decide)).set) hJ'
      · show wpOpsIn Fence.wide nf Tryz.prog (back3 Y SL T) _ [7] (a7.put (some 17) (.bool false)) W'
        have e8 : (a7.put (some 17) (.bool false)).eval (.tmp 17) = .bool false := eval_put_same (by rw [hA7.size]; decide)
        refine opsIn_val (o := bOp 18 (.unOp .not 4 (.tmp 17)) 4 "iter.go:29" #[dE 6]) rfl rfl rfl (fun c e => by cases e) (y := .bool true) (by
          show (do pure (.value (← Op.unary .not ((a7.put (some 17) (.bool false)).eval (.tmp 17)))) : Sem Next).run Tryz.prog W' = _
          rw [e8]
          rfl) ?_
        generalize ha9 : (a7.put (some 17) (.bool false)).put (some 18) (.bool true) = a9
        have hA9 : BA yv cv k a9 := by rw [← ha9]; exact (hA7.put (by decide)).put (by decide)
        refine wpIn_cond_true (by rw [← ha9]; exact eval_put_same (by rw [put_size, hA7.size]; decide)) (wpIn_ret ?_)
        exact ⟨hA9.defers, _, results_none hres _ _ _, ⟨_, rfl⟩, .inr hJ'⟩
  have hA0 : B0 yv cv { tmps := #[yv, cv] ++ Array.replicate (19 - #[yv, cv].size) undef, defers := [] } := ⟨by simp, rfl, rfl, rfl⟩
  generalize ({ tmps := #[yv, cv] ++ Array.replicate (19 - #[yv, cv].size) undef, defers := [] } : Act) = a0 at *
  refine wpIn_seq (wpIn_region ?_)
  show wpOpsIn Fence.wide nf Tryz.prog (back0 SL) _ [0, 1, 2, 3] a0 W
  obtain ⟨cap, rd⟩ := hfirst
  refine opsIn_val (o := bOp 4 (.load SL (.tmp 1)) SL "iter.go:28" #[]) rfl rfl rfl (fun c e => by cases e) (y := .slice A0 len cap) (by
    show (do pure (.value (← Instr.loadAt SL (a0.eval (.tmp 1)))) : Sem Next).run Tryz.prog W = _
    rw [hA0.t1, Sem.run_bind, rd]
    rfl) ?_
  have e4 : (a0.put (some 4) (.slice A0 len cap)).eval (.tmp 4) = .slice A0 len cap := eval_put_same (by rw [hA0.size]; decide)
  refine opsIn_val (o := bOp 5 (.call { callee := .builtin .len, args := #[.tmp 4], argTypes := #[SL] }) 3 "iter.go:28" #[dE 0]) rfl rfl rfl (fun c e => by cases e) (y := .int .i64 len) (by
    rw [builtin_run (c := { callee := .builtin .len, args := #[.tmp 4], argTypes := #[SL] }) rfl rfl, map1, e4]
    show (do pure (.value (← Builtin.len_ #[SL] 3 #[.slice A0 len cap])) : Sem Next).run Tryz.prog W = _
    simp [Builtin.len_, run_underlying hsl, Result.andThen, goInt]) ?_
  have e5 : ((a0.put (some 4) (.slice A0 len cap)).put (some 5) (.int .i64 len)).eval (.tmp 5) = .int .i64 len := eval_put_same (by rw [put_size, hA0.size]; decide)
  generalize ha5 : (a0.put (some 4) (.slice A0 len cap)).put (some 5) (.int .i64 len) = a5 at *
  have hA5 : B0 yv cv a5 := by rw [← ha5]; exact (hA0.put (by decide)).put (by decide)
  refine opsIn_val (o := bOp 6 (.binOp .sub 3 (.tmp 5) (.const (.int .i64 1)) 3) 3 "iter.go:28" #[dE 1]) rfl rfl rfl (fun c e => by cases e) (y := .int .i64 ((len : Int) - 1)) (exec_bin rfl (by
    show (do eqGuard .sub 3 _ _ (a5.eval (.tmp 5)) (.int .i64 1); binOp .sub 3 (a5.eval (.tmp 5)) (.int .i64 1) : Sem Value).run Tryz.prog W = _
    rw [e5]
    exact sub1_run (by omega) (by omega) W)) ?_
  have e6 : (a5.put (some 6) (.int .i64 ((len : Int) - 1))).eval (.tmp 6) = .int .i64 ((len : Int) - 1) := eval_put_same (by rw [hA5.size]; decide)
  refine opsIn_val (o := bOp 3 (.assign (.tmp 6)) 3 "iter.go:28" #[dE 2, pE 0, pE 1, pE 2]) rfl rfl rfl (fun c e => by cases e) (y := .int .i64 ((len : Int) - 1)) (by
    show Result.ok (Next.value ((a5.put (some 6) (.int .i64 ((len : Int) - 1))).eval (.tmp 6))) W = _
    rw [e6]) ?_
  show (Code.block 0 (.loop (backLoop Y SL T))).wpIn Fence.wide nf Tryz.prog _ _ W
  exact wpIn_block (wpIn_loop_rounds (len + 1) (rounds len _ W (Nat.le_refl _) ((hA5.put (by decide)).set) h0))
end Go.Proofs.YtpknalhjgbgpiaaGreatDoor
