/- Parts of the proof: EvH3, EvH4, EvH5. -/
import Derived.Test.YtpknalhjgbgpiaaGreatDoorM5
namespace Go.Proofs.YtpknalhjgbgpiaaGreatDoor
open Go Go.RowKit
section
variable {F : Int} {b : Base} {m : Mp} {s : S} {w w' : World}
theorem But.refl_ {β : Nat} {obj : Obj} (h : w.heap[β]? = some obj) : But β obj w w := ⟨rfl, rfl, rfl, rfl, h, fun _ _ => rfl⟩
theorem But.trans_ {w'' : World} {β : Nat} {o1 o2 : Obj} (h : But β o1 w w') (k : But β o2 w' w'') : But β o2 w w'' :=
  ⟨k.os.trans h.os, k.tape.trans h.tape, k.output.trans h.output, k.size.trans h.size, k.at_, fun i hi => (k.other i hi).trans (h.other i hi)⟩
theorem setCell_but {β o : Nat} {c : Array Value} {t : TypeId} {fr : Nat × Nat} (h : w.heap[β]? = some (.cells c t fr)) (v : Value) : But β (.cells (c.setIfInBounds o v) t fr) w (w.setCell ⟨β, o, none⟩ v) := by
  refine ⟨rfl, rfl, rfl, by simp [World.setCell], ?_, fun i hi => Below.heap_setCell w _ v i (fun e => hi (by rw [e]))⟩
  simp [World.setCell, Array.getElem?_modify, h]
theorem setCells_but {β : Nat} {t : TypeId} {fr : Nat × Nat} : ∀ (vs : List Value) {o : Nat} {c : Array Value} {w : World}, w.heap[β]? = some (.cells c t fr) → o + vs.length ≤ c.size →
    ∃ c', c'.toList = c.toList.take o ++ vs ++ c.toList.drop (o + vs.length) ∧ But β (.cells c' t fr) w (w.setCells β o vs) := by
  intro vs
  induction vs with
  | nil => intro o c w h _; exact ⟨c, by simp, But.refl_ h⟩
  | cons v vs ih =>
    intro o c w h hl
    simp only [List.length_cons] at hl
    have h1 := setCell_but (o := o) h v
    obtain ⟨c', h2, h3⟩ := ih (o := o + 1) h1.at_ (by simp; omega)
    refine ⟨c', ?_, h1.trans_ h3⟩
    rw [h2]
    simp only [Array.toList_setIfInBounds]
    have hlt : o < c.toList.length := by simp; omega
    have e1 : (c.toList.set o v).take (o + 1) = c.toList.take o ++ [v] := by
      rw [List.take_add_one, List.take_set_of_le (Nat.le_refl _), List.getElem?_set_self hlt]
      rfl
    have e2 : (c.toList.set o v).drop (o + 1 + vs.length) = c.toList.drop (o + (vs.length + 1)) := by
      rw [List.drop_set_of_lt (by omega)]
      congr 1
      omega
    rw [e1, e2]
    simp
/-- Cells written into a block that is in use. -/
theorem St.write (h : St F b m s w) {q : Q} {β z o : Nat} (hq : m q = some (β, z)) {l vs : List A} {ys : List Value} (hl : getO q s.h = .cells l) (ho : o + vs.length ≤ l.length) (hv : VRs m F vs ys) (h1 : ∀ x ∈ vs, oneA x = true) :
    w.there β o ys.length ∧ (∀ y ∈ ys, y.oneCell' = true) ∧ St F b m (s.put q (.cells (l.take o ++ vs ++ l.drop (o + vs.length)))) (w.setCells β o ys) := by
  obtain ⟨c, t, fr, k1, k2, k3, k4, k5, k6, k7⟩ := h.cells hq hl
  have hlen : vs.length = ys.length := hv.length
  refine ⟨fun j hj => ⟨?_, ?_⟩, hv.ones h1, ?_⟩
  · rw [k7]
    have : o + j < c.size := by omega
    simp [this]
  · simp only [World.frozen?, k1]
    rcases k5 with k5 | k5
    · simp; omega
    · simp; omega
  · obtain ⟨c', e1, e2⟩ := setCells_but ys (o := o) k1 (by omega)
    have hOR : OR m F z (.cells (l.take o ++ vs ++ l.drop (o + vs.length))) (.cells c' t fr) := by
      refine ⟨?_, ?_, k5, ?_⟩
      · have := congrArg List.length e1
        simp at this
        omega
      · have hc : c'.toList.take (l.take o ++ vs ++ l.drop (o + vs.length)).length = (c.toList.take l.length).take o ++ ys ++ (c.toList.take l.length).drop (o + vs.length) := by
          rw [e1, List.take_take, Nat.min_eq_left (by omega), List.drop_take]
          have a1 : (l.take o ++ vs ++ l.drop (o + vs.length)).length = l.length := by simp; omega
          rw [a1, List.take_append, List.take_of_length_le (by simp; omega), hlen]
          congr 2
          simp
          omega
        rw [hc]
        exact ((k4.take o).append hv).append (k4.drop _)
      · intro x hx
        rcases List.mem_append.1 hx with hx | hx
        · rcases List.mem_append.1 hx with hx | hx
          · exact k6 x (List.mem_of_mem_take hx)
          · exact h1 x hx
        · exact k6 x (List.mem_of_mem_drop hx)
    exact h.turn hq (by rw [hl]; exact cells_ne) hOR e2
end
/-- An operation that turns the memory; no call. -/
def ChR (g : GC) (f : List Value → Sem Value) : Prop := ∀ (F : Int) (b : Base) (m : Mp) (s : S) (w : World) (l : List A) (ys : List Value) (rec : Rec) (c : KS), St F b m s w → VRs m F l ys → g rec s l c = true →
  ∃ v s' m' y' w', c v s' = true ∧ St F b m' s' w' ∧ m.le m' ∧ VR m' F v y' ∧ (f ys).run Tryz.prog w = .ok y' w'
theorem undef_VR {m : Mp} {F : Int} : VR m F undefA undef := VR.tup_iff.2 ⟨_, rfl, .nil⟩
theorem store1_R {t : TypeId} (hs : (Tryz.prog.info? t).map (·.size) = some 1) : ChR cstore1 (fun l => (do Instr.storeAt t (l.getD 0 undef) (l.getD 1 undef); pure undef : Sem Value)) := by
  intro F b m s w l ys rec c hS hl hg
  unfold cstore1 at hg
  obtain ⟨x, v, rfl, g1⟩ := list2_iff hg
  obtain ⟨y1, y2, rfl, h1, h2⟩ := hl.inv2
  obtain ⟨q, o, rfl, g2⟩ := asP_iff.1 g1
  obtain ⟨ho, g3⟩ := ifB_t.1 g2
  obtain ⟨β, z, hq, rfl⟩ := h1.p_inv
  obtain ⟨l', hl', g4, _⟩ := readK_iff g3
  obtain ⟨hlt, g5⟩ := setK_iff.1 g4
  rw [writeK_eq] at g5
  have hone := h2.one ho
  obtain ⟨k1, k2, k3⟩ := hS.write hq hl' (o := o) (vs := [v]) (ys := [y2]) (by simp; omega) (.one h2) (by intro x hx; rw [List.mem_singleton.1 hx]; exact ho)
  have e : l'.take o ++ [v] ++ l'.drop (o + [v].length) = l'.set o v := by
    rw [List.set_eq_take_append_cons_drop, if_pos hlt]
    simp
  rw [e] at k3
  refine ⟨undefA, _, m, undef, _, g5, k3, Mp.le_refl m, undef_VR, ?_⟩
  have hc : y2.cells = #[y2] := by cases y2 <;> first | rfl | exact no hone
  have hst := run_storeCells_cells (P := Tryz.prog) β o [y2] 0 w (fun j hj => by simpa using (k1 j hj).1) (fun j hj => by simpa using (k1 j hj).2) k2
  simp only [Nat.add_zero] at hst
  have hne : ¬ ((#[y2] : Array Value).size ≠ 1) := by simp
  show (do Instr.storeAt t (.pointer (some ⟨β, o, none⟩)) y2; pure undef : Sem Value).run Tryz.prog w = _
  simp only [Instr.storeAt, Instr.sureAddr, Sem.run_bind, Sem.run_pure, Result.andThen_ok, storeVar, sizeOf_run hs, hc]
  rw [if_neg hne]
  show ((storeCells ⟨β, o, none⟩ [y2]).run Tryz.prog w).andThen _ = _
  rw [hst]
  rfl
theorem storeN_R {t : TypeId} {sz : Nat} (hs : (Tryz.prog.info? t).map (·.size) = some sz) : ChR (cstoreN sz) (fun l => (do Instr.storeAt t (l.getD 0 undef) (l.getD 1 undef); pure undef : Sem Value)) := by
  intro F b m s w l ys rec c hS hl hg
  unfold cstoreN at hg
  obtain ⟨x, v, rfl, g1⟩ := list2_iff hg
  obtain ⟨y1, y2, rfl, h1, h2⟩ := hl.inv2
  obtain ⟨q, o, rfl, g2⟩ := asP_iff.1 g1
  obtain ⟨vs, rfl, g3⟩ := asAg_iff.1 g2
  rw [lenK_eq] at g3
  obtain ⟨hn, g4⟩ := ifB_t.1 g3
  obtain ⟨β, z, hq, rfl⟩ := h1.p_inv
  obtain ⟨cs, rfl, ho, hcs⟩ := VR.agg_iff.1 h2
  obtain ⟨l', hl', g5, _⟩ := readK_iff g4
  obtain ⟨hlt, g6⟩ := putK_iff.1 g5
  rw [writeK_eq] at g6
  obtain ⟨k1, k2, k3⟩ := hS.write hq hl' (o := o) hlt hcs ho
  refine ⟨undefA, _, m, undef, _, g6, k3, Mp.le_refl m, undef_VR, ?_⟩
  have hsz : cs.size = sz := by
    have a1 := hcs.length
    have a2 := Nat.eq_of_beq_eq_true hn
    rw [← a2, a1]
    simp
  have hst := run_storeAt_mid (P := Tryz.prog) w β o t cs (by have := k1; simpa using this) (by rw [hsz]; exact hs) (by
    rw [Array.all_eq_true_iff_forall_mem]
    intro x hx
    exact k2 x (by simpa using hx))
  show (do Instr.storeAt t (.pointer (some ⟨β, o, none⟩)) (.agg cs); pure undef : Sem Value).run Tryz.prog w = _
  rw [Sem.run_bind, hst]
  rfl
theorem decode_ascii {s : ByteArray} {i : Nat} {u : UInt8} (h : s[i]? = some u) (hu : u.toNat < 128) : Utf8.decode s i = (u.toNat, 1) := by
  have hlt : i < s.size := by
    rcases Nat.lt_or_ge i s.size with h' | h'
    · exact h'
    · rw [getElem?_neg s i (by omega)] at h
      cases h
  have e : s.get! (i + 0) = u := by
    rw [getElem?_pos s i hlt] at h
    have h2 : s[i] = u := Option.some.inj h
    have h3 : s.get! i = s[i] := by
      show s.data[i]! = s.data[i]
      exact getElem!_pos s.data i hlt
    rw [Nat.add_zero, h3, h2]
  unfold Utf8.decode
  simp only [e]
  rw [if_pos (by omega)]
theorem setObj_but {w : World} {β : Nat} {obj : Obj} (h : β < w.heap.size) : But β obj w { w with heap := w.heap.setIfInBounds β obj } :=
  ⟨rfl, rfl, rfl, by simp, by simp [h], fun i hi => by simp [Ne.symm hi]⟩
theorem next_R {ty : TypeId} : ChR cnext fun l => Instr.next (l.getD 0 undef) true ty := by
  intro F b m s w l ys rec c hS hl hg
  unfold cnext at hg
  obtain ⟨x, rfl, g1⟩ := list1_iff hg
  obtain ⟨y, rfl, hx⟩ := hl.inv1
  obtain ⟨q, o, rfl, g2⟩ := asP_iff.1 g1
  obtain ⟨ho, g3⟩ := ifB_t.1 g2
  have ho := Nat.eq_of_beq_eq_true ho
  subst ho
  obtain ⟨l, pos, hl', g4⟩ := asItr_iff.1 g3
  rw [lenN_eq] at g4
  obtain ⟨β, z, hq, rfl⟩ := hx.p_inv
  obtain ⟨obj, h1, h2⟩ := hS.live q β z hq (by rw [hl']; exact fun e => by cases e)
  rw [hl'] at h2
  obtain ⟨bs, rfl, rfl⟩ := h2.iter_inv
  have hget : (getObj β).run Tryz.prog w = .ok (.stringIter bs pos) w := by simp [getObj, Sem.run, h1]
  rcases ifB_iff.1 g4 with ⟨hp, g5⟩ | ⟨hp, g5⟩
  · rw [Nat.blt_eq] at hp
    rw [bytesOf_length] at hp
    obtain ⟨x, hx2, g6⟩ := getN_iff g5
    obtain ⟨hb, g7⟩ := ifB_t.1 g6
    rw [Nat.blt_eq] at hb
    rw [fN_eq, writeK_eq] at g7
    obtain ⟨u, hu, rfl⟩ := bytesOf_get hx2
    have hd := decode_ascii hu hb
    have hlt : β < w.heap.size := (Array.getElem?_eq_some_iff.1 h1).1
    refine ⟨_, _, m, .tuple #[.bool true, .int .i64 pos, .int .i32 u.toNat], _, g7, hS.turn hq (by rw [hl']; exact fun e => by cases e) (o := .iter (bytesOf bs) (pos + 1)) (obj := .stringIter bs (pos + 1)) ⟨rfl, rfl⟩ (setObj_but hlt), Mp.le_refl m, VR.tup_iff.2 ⟨_, rfl, .cons (.b true) (.cons (.i _) (.cons (.j _ _) .nil))⟩, ?_⟩
    have hset : (setObj β (.stringIter bs (pos + 1))).run Tryz.prog w = .ok () { w with heap := w.heap.setIfInBounds β (.stringIter bs (pos + 1)) } := by simp [setObj, Sem.run, h1]
    show (Instr.next (.pointer (some ⟨β, 0, none⟩)) true ty).run Tryz.prog w = _
    unfold Instr.next
    simp [hget, Result.andThen, hp, hd, hset, goInt]
  · refine ⟨_, s, m, .tuple #[.bool false], w, g5, hS, Mp.le_refl m, VR.tup_iff.2 ⟨_, rfl, .cons (.b false) .nil⟩, ?_⟩
    have hp' : ¬ pos < bs.size := by
      intro h
      have : Nat.blt pos (bytesOf bs).length = true := by rw [Nat.blt_eq, bytesOf_length]; exact h
      rw [this] at hp
      cases hp
    show (Instr.next (.pointer (some ⟨β, 0, none⟩)) true ty).run Tryz.prog w = _
    unfold Instr.next
    simp [hget, Result.andThen, hp']
end Go.Proofs.YtpknalhjgbgpiaaGreatDoor
namespace Go.Proofs.YtpknalhjgbgpiaaGreatDoor
open Go Go.RowKit
theorem layK_iff {es : List (Nat × A)} {x : Nat} {v : A} {k : List (Nat × A) → Bool} (h : layK es x v k = true) : (∀ e ∈ es, e.1 ≠ x) ∧ k (es ++ [(x, v)]) = true := by
  induction es generalizing k with
  | nil => exact ⟨fun e he => (by cases he), h⟩
  | cons e es ih =>
    have h' : ifB (Nat.beq x e.1) false (layK es x v fun r => k (e :: r)) = true := h
    rcases ifB_iff.1 h' with ⟨_, h1⟩ | ⟨hb, h1⟩
    · exact no h1
    · obtain ⟨h2, h3⟩ := ih h1
      refine ⟨fun e' he => ?_, h3⟩
      rcases List.mem_cons.1 he with rfl | he
      · exact fun h => Nat.ne_of_beq_eq_false hb h.symm
      · exact h2 e' he
theorem grown_but {w w' : World} {β : Nat} {obj : Obj} (h : w.grownBy w' (some β)) (hs : w'.heap.size = w.heap.size) (ha : w'.heap[β]? = some obj) : But β obj w w' := by
  refine ⟨h.os, h.tape, h.output, hs, ha, fun i hi => ?_⟩
  rcases Nat.lt_or_ge i w.heap.size with hlt | hge
  · exact h.block i hlt (fun e => hi (Option.some.inj e))
  · rw [Array.getElem?_eq_none hge, Array.getElem?_eq_none (by omega)]
theorem mapSet_R {t kt et : TypeId} {cl : Nat} {C : KC} (hC : kcOf cl = some C) (hK : KeyC C kt) (hu : Tryz.prog.underlying t = some (.map kt et)) :
    ChR (cmapSet cl) (fun l => (do Instr.mapUpdate t (l.getD 0 undef) (l.getD 1 undef) (l.getD 2 undef); pure undef : Sem Value)) := by
  letI := C.dec
  intro F b m s w l ys rec c hS hl hg
  unfold cmapSet at hg
  obtain ⟨x, y, v, rfl, g1⟩ := list3_iff hg
  obtain ⟨x', y', v', rfl, hx, hy, hv⟩ := hl.inv3
  obtain ⟨q, rfl, g2⟩ := asM_iff.1 g1
  obtain ⟨β, zz, hq, rfl⟩ := hx.m_inv
  obtain ⟨cl', es, hl', g3⟩ := asMp_iff.1 g2
  obtain ⟨hp, g4⟩ := ifB_t.1 g3
  have e := Nat.eq_of_beq_eq_true hp
  subst e
  obtain ⟨obj, h1, h2⟩ := hS.live q β zz hq (by rw [hl']; exact fun e => by cases e)
  rw [hl'] at h2
  obtain ⟨C', hC', l, rfl, h3, h4, h5⟩ := h2
  rw [hC] at hC'
  cases hC'
  obtain ⟨a, ha, rfl, g5, _⟩ := encK_R hy g4 C hC
  obtain ⟨hnot, g6⟩ := layK_iff g5
  rw [writeK_eq] at g6
  have hm : @KMapAt C.K C.kv w β l := h1
  have hnone : l.find? (fun e => decide (a = e.1)) = none := by
    rw [List.find?_eq_none]
    intro ent hent hd
    have hae : a = ent.1 := of_decide_eq_true hd
    have hmem : C.enc ent.1 ∈ es.map (·.1) := by
      rw [h4]
      exact List.mem_map.2 ⟨ent, hent, rfl⟩
    obtain ⟨e', he', hee⟩ := List.mem_map.1 hmem
    exact hnot e' he' (by rw [hee, hae])
  obtain ⟨w', hrun, r1, r2, r3⟩ := kput hK hu hm a v' hnone
  have hb : But β (.map (kents C.kv (l ++ [(a, v')]) 0).toArray (l ++ [(a, v')]).length) w w' := grown_but r2 r3 r1
  have hOR : OR m F zz (.map cl (es ++ [(C.enc a, v)])) (.map (kents C.kv (l ++ [(a, v')]) 0).toArray (l ++ [(a, v')]).length) := by
    refine ⟨C, hC, l ++ [(a, v')], rfl, fun e he => ?_, ?_, ?_⟩
    · rcases List.mem_append.1 he with he | he
      · exact h3 e he
      · rw [List.mem_singleton.1 he]; exact ha
    · rw [List.map_append, List.map_append, h4]
      rfl
    · rw [List.map_append, List.map_append]
      exact h5.append (.one hv)
  refine ⟨undefA, _, m, undef, w', g6, hS.turn hq (by rw [hl']; exact fun e => by cases e) hOR hb, Mp.le_refl m, undef_VR, ?_⟩
  show (do Instr.mapUpdate t (.map (some β)) (C.kv a) v'; pure undef : Sem Value).run Tryz.prog w = _
  rw [Sem.run_bind, hrun]
  rfl
theorem clear_R {t e ty : TypeId} {sz : Nat} {z : Value} {zero : List A} (hu : Tryz.prog.underlying t = some (.slice e)) (hz : ∀ m F, VRs m F zero z.cells.toList) (h1 : ∀ x ∈ zero, oneA x = true) (hr : ∀ w, (zeroValue e).run Tryz.prog w = .ok z w) :
    ChR (cclear sz zero) fun l => Builtin.clear_ #[t] ty #[l.getD 0 undef] := by
  intro F b m s w l ys rec c hS hl hg
  unfold cclear at hg
  obtain ⟨x, rfl, g1⟩ := list1_iff hg
  obtain ⟨y, rfl, hx⟩ := hl.inv1
  have hun : VR m F undefA (.tuple #[]) := undef_VR
  rcases asSl_iff.1 g1 with ⟨rfl, g2⟩ | ⟨q, o, n, es, cap, rfl, g2⟩
  · obtain rfl := hx.z1_inv
    refine ⟨_, s, m, _, w, g2, hS, Mp.le_refl m, hun, ?_⟩
    simp [Builtin.clear_, run_underlying hu, Result.andThen]
  · obtain ⟨β, zz, cc, hq, hlc, hzz, hcap, rfl⟩ := hx.sl_inv
    rcases ifB_iff.1 g2 with ⟨h0, g3⟩ | ⟨h0, g3⟩
    · have hn := Nat.eq_of_beq_eq_true h0
      subst hn
      refine ⟨_, s, m, _, w, g3, hS, Mp.le_refl m, hun, ?_⟩
      simp [Builtin.clear_, run_underlying hu, Result.andThen]
    · have hn := Nat.ne_of_beq_eq_false h0
      obtain ⟨hes, g4⟩ := ifB_t.1 g3
      rw [repK_eq] at g4
      obtain ⟨l', hl', g5, _⟩ := readK_iff g4
      obtain ⟨hlt, g6⟩ := putK_iff.1 g5
      rw [writeK_eq] at g6
      obtain ⟨k1, k2, k3⟩ := hS.write hq hl' (o := o) hlt ((hz m F).rep n) (rep_one h1 n)
      refine ⟨_, _, m, _, _, g6, k3, Mp.le_refl m, hun, ?_⟩
      have hzc : (Builtin.zeroCells z.cells n).toList = (List.replicate n z.cells.toList).flatten := rep_zero z.cells n
      have hst := run_storeCells_cells (P := Tryz.prog) β o (Builtin.zeroCells z.cells n).toList 0 w (fun j hj => by rw [hzc] at hj; simpa using (k1 j hj).1) (fun j hj => by rw [hzc] at hj; simpa using (k1 j hj).2) (by rw [hzc]; exact k2)
      simp only [Nat.add_zero] at hst
      show (Builtin.clear_ #[t] ty #[.slice (some ⟨β, o, none⟩) n cc]).run Tryz.prog w = _
      obtain ⟨n, rfl⟩ : ∃ k, n = k + 1 := ⟨n - 1, by omega⟩
      simp only [Builtin.clear_]
      simp [Sem.run_bind, run_underlying hu, Result.andThen, hr, hst]
      rw [hzc]
end Go.Proofs.YtpknalhjgbgpiaaGreatDoor
namespace Go.Proofs.YtpknalhjgbgpiaaGreatDoor
open Go Go.RowKit
theorem growBy_le (newLen : Nat) : ∀ (r c : Nat), Builtin.growBy newLen r c ≤ (c + 768) * 2 ^ r := by
  intro r
  induction r with
  | zero => intro c; simp [Builtin.growBy]
  | succ r ih =>
    intro c
    have hp : 1 ≤ 2 ^ r := Nat.one_le_two_pow
    have e : (c + 768) * 2 ^ (r + 1) = 2 * ((c + 768) * 2 ^ r) := by rw [Nat.pow_succ]; rw [Nat.mul_comm (2 ^ r) 2, ← Nat.mul_assoc, Nat.mul_comm (c + 768) 2, Nat.mul_assoc]
    unfold Builtin.growBy
    split
    · have : c + 768 ≤ (c + 768) * 2 ^ r := Nat.le_mul_of_pos_right _ hp
      omega
    · refine Nat.le_trans (ih _) ?_
      rw [e, ← Nat.mul_assoc]
      apply Nat.mul_le_mul_right
      omega
theorem nextcap_le {need old : Nat} (h : old < need) (hn : need ≤ 1000000) : Builtin.nextslicecap need old ≤ 20000000 := by
  unfold Builtin.nextslicecap
  split
  · omega
  · split
    · omega
    · have h1 : old + 768 ≤ 1000768 := by omega
      exact Nat.le_trans (growBy_le need 4 old) (Nat.le_trans (Nat.mul_le_mul_right _ h1) (Nat.le_of_ble_eq_true rfl))
section
variable {t xt e ty : TypeId} {sz n sLen sCap : Nat} {base : Option Addr} {x : Value} {new : Array Value} {w : World}
theorem append_in (hu : Tryz.prog.underlying t = some (.slice e)) (hs : (Tryz.prog.info? e).map (·.size) = some sz) {d : TypeDesc} (hx : Tryz.prog.underlying xt = some d) (hd : (∃ f, d = .slice f) ∨ d = .string)
    (hlen : ∀ w, (Builtin.lenOf x).run Tryz.prog w = .ok n w) (hnew : (Builtin.firstCells sz n x).run Tryz.prog w = .ok new w) (hle : sLen + n ≤ sCap) :
    (Builtin.append_ #[t, xt] ty #[.slice base sLen sCap, x]).run Tryz.prog w = match base with
      | some a => ((storeCells (a.add (sLen * sz)) new.toList).run Tryz.prog w).andThen fun _ w' => .ok (.slice base (sLen + n) sCap) w'
      | none => .ok (.slice base (sLen + n) sCap) w := by
  unfold Builtin.append_
  rcases hd with ⟨f, rfl⟩ | rfl <;> cases base <;> simp [run_underlying hu, run_underlying hx, Result.andThen, sizeOf_run hs, hlen, hnew, hle]
theorem append_new {i : TypeInfo} {z : Value} {old : Array Value} (hu : Tryz.prog.underlying t = some (.slice e)) (hi : Tryz.prog.info? e = some i) (hsz : i.size = sz) (hbytes : i.bytes ≤ 4096) (hzero : i.zero = some z) {d : TypeDesc} (hx : Tryz.prog.underlying xt = some d) (hd : (∃ f, d = .slice f) ∨ d = .string)
    (hlen : ∀ w, (Builtin.lenOf x).run Tryz.prog w = .ok n w) (hnew : ∀ k, (Builtin.firstCells sz n x).run Tryz.prog (w.drewN k) = .ok new (w.drewN k)) (hold : ∀ k, (Builtin.firstCells sz sLen (.slice base sLen sCap)).run Tryz.prog (w.drewN k) = .ok old (w.drewN k))
    (hgt : sCap < sLen + n) (hsmall : sLen + n ≤ 1000000) :
    ∃ cap, sLen + n ≤ cap ∧ (Builtin.append_ #[t, xt] ty #[.slice base sLen sCap, x]).run Tryz.prog w =
      .ok (.slice (some ⟨w.heap.size, 0, none⟩) (sLen + n) cap) ((w.drewN 1).alloc (.cells (old ++ new ++ Builtin.zeroCells z.cells (cap - (sLen + n))) e)) := by
  have hle : ¬ sLen + n ≤ sCap := by omega
  have hs : (Tryz.prog.info? e).map (·.size) = some sz := by rw [hi, ← hsz]; rfl
  have h1 : ¬ ((((sLen + n : Nat) : Int)) > IntKind.i64.max ∧ i.bytes = 0) := by
    have hm : IntKind.i64.max = 9223372036854775807 := by decide
    omega
  have h2 : ¬ (Builtin.nextslicecap (sLen + n) sCap * i.bytes > 2 ^ 48) := by
    have := Nat.mul_le_mul (nextcap_le hgt hsmall) hbytes
    have e48 : (2 : Nat) ^ 48 = 281474976710656 := by decide
    omega
  refine ⟨Question.cut (.appendCap (sLen + n) sCap e) (w.tape w.drawn (.appendCap (sLen + n) sCap e)), by simp [Question.cut], ?_⟩
  generalize hcap : Question.cut (.appendCap (sLen + n) sCap e) (w.tape w.drawn (.appendCap (sLen + n) sCap e)) = cap
  have hch : (choose (.appendCap (sLen + n) sCap e)).run Tryz.prog w = .ok cap (w.drewN 1) := by
    rw [run_choose, if_neg (by simp [Question.forced]), hcap]
    rfl
  have hin : (typeInfo e).run Tryz.prog w = .ok i w := by simp [typeInfo, hi]
  have hin1 : (typeInfo e).run Tryz.prog (w.drewN 1) = .ok i (w.drewN 1) := by simp [typeInfo, hi]
  have hzr : (zeroValue e).run Tryz.prog (w.drewN 1) = .ok z (w.drewN 1) := by simp [zeroValue, typeInfo, hi, hzero]
  have hask : ∀ k, (askRoom k).run Tryz.prog (w.drewN 1) = .ok () (w.drewN 1) := fun k => run_askRoom _ _ _
  unfold Builtin.append_
  have hmx : ¬ (IntKind.i64.max < (sLen : Int) + (n : Int)) := by
    have hm : IntKind.i64.max = 9223372036854775807 := by decide
    omega
  have hb3 : ¬ (281474976710656 < Builtin.nextslicecap (sLen + n) sCap * i.bytes) := by
    have e48 : (2 : Nat) ^ 48 = 281474976710656 := by decide
    omega
  have hn1 := hnew 1
  have ho1 := hold 1
  rcases hd with ⟨f, rfl⟩ | rfl
  · simp [run_underlying hu, run_underlying hx, Result.andThen, sizeOf_run hs, hlen, hle, typeInfo, hi, hb3, -run_choose, -run_choose_drew, hch, hn1, ho1, zeroValue, hzero, new_run]
    intro h
    exfalso
    omega
  · simp [run_underlying hu, run_underlying hx, Result.andThen, sizeOf_run hs, hlen, hle, typeInfo, hi, hb3, -run_choose, -run_choose_drew, hch, hn1, ho1, zeroValue, hzero, new_run]
    intro h
    exfalso
    omega
end
end Go.Proofs.YtpknalhjgbgpiaaGreatDoor
