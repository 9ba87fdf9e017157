/- Parts of the proof: EvH6, EvH7, EvO1. -/
import Derived.Laws.BytesString
import Derived.Test.YtpknalhjgbgpiaaGreatDoorM6
namespace Go.Proofs.YtpknalhjgbgpiaaGreatDoor
open Go Go.RowKit
section
variable {F : Int} {b : Base} {m : Mp} {s : S} {w : World}
theorem St.load (h : St F b m s w) {q : Q} {β z o n : Nat} (hq : m q = some (β, z)) {l : List A} (hl : getO q s.h = .cells l) (ho : o + n ≤ l.length) :
    ∃ new : Array Value, VRs m F ((l.drop o).take n) new.toList ∧ ∀ k, (loadCells ⟨β, o, none⟩ n).run Tryz.prog (w.drewN k) = .ok new (w.drewN k) := by
  obtain ⟨c, t, fr, k1, k2, k3, k4, k5, k6, k7⟩ := h.cells hq hl
  refine ⟨((c.toList.drop o).take n).toArray, ?_, fun k => ?_⟩
  · have := (k4.drop o).take n
    rw [List.drop_take, List.take_take, Nat.min_eq_left (by omega)] at this
    exact this
  · have hlen : ((c.toList.drop o).take n).length = n := by simp; omega
    have := run_loadCells_list (P := Tryz.prog) (w.drewN k) ⟨β, o, none⟩ ((c.toList.drop o).take n) (fun j v hj => by
      rw [Addr.add_mid]
      have hj2 : j < n := by
        have := (List.getElem?_eq_some_iff.1 hj).1
        omega
      rw [List.getElem?_take_of_lt hj2, List.getElem?_drop] at hj
      have : (w.drewN k).cell? ⟨β, o + j, none⟩ = c[o + j]? := k7 (o + j)
      rw [this]
      simpa using hj)
    rw [hlen] at this
    exact this
theorem bytesA_VR (bs : ByteArray) : VRs m F ((bytesOf bs).map fun x => .j .u8 (Int.ofNat x)) (bs.data.map fun b => Value.int .u8 b.toNat).toList := by
  rw [Array.toList_map]
  unfold bytesOf
  induction bs.data.toList with
  | nil => exact .nil
  | cons x l ih => exact .cons (.j _ _) ih
/-- What is appended. -/
theorem addedK_R (h : St F b m s w) {sz : Nat} {y : A} {Y : Value} (hy : VR m F y Y) {k : Nat → List A → Bool} (hk : addedK s sz y k = true) :
    ∃ n l, ∃ new : Array Value, k n l = true ∧ VRs m F l new.toList ∧ (∀ x ∈ l, oneA x = true) ∧ l.length = n * sz ∧ (∀ w, (Builtin.lenOf Y).run Tryz.prog w = .ok n w) ∧ ∀ j, (Builtin.firstCells sz n Y).run Tryz.prog (w.drewN j) = .ok new (w.drewN j) := by
  unfold addedK at hk
  rcases asAdd_iff.1 hk with ⟨l, rfl, h1⟩ | ⟨rfl, h1⟩ | ⟨q, o, n, es, cap, rfl, h1⟩
  · obtain ⟨bs, rfl, rfl⟩ := hy.s_inv
    obtain ⟨hs, h2⟩ := ifB_t.1 h1
    have hs := Nat.eq_of_beq_eq_true hs
    subst hs
    rw [lenN_eq, bytesA_eq] at h2
    refine ⟨_, _, bs.data.map fun b => Value.int .u8 b.toNat, h2, bytesA_VR bs, fun x hx => ?_, by simp, fun w => ?_, fun j => ?_⟩
    · obtain ⟨v, _, rfl⟩ := List.mem_map.1 hx
      rfl
    · rw [bytesOf_length]
      rfl
    · rw [bytesOf_length]
      have e : (bs.extract 0 bs.size).data = bs.data := by
        rw [ByteArray.data_extract]
        show bs.data.extract 0 bs.data.size = bs.data
        exact Array.extract_size
      show Result.ok ((bs.extract 0 bs.size).data.map fun b => Value.int .u8 b.toNat) (w.drewN j) = _
      rw [e]
  · obtain rfl := hy.z1_inv
    exact ⟨0, [], #[], h1, .nil, (fun x hx => by cases hx), by simp, fun w => rfl, fun j => rfl⟩
  · obtain ⟨hes, h2⟩ := ifB_t.1 h1
    have hes := Nat.eq_of_beq_eq_true hes
    subst hes
    obtain ⟨β, z, cc, hq, hlc, hz, hcap, rfl⟩ := hy.sl_inv
    obtain ⟨l, hl, h3, _⟩ := readK_iff h2
    obtain ⟨h4, h5⟩ := dropK_iff.1 h3
    obtain ⟨h6, h7⟩ := takeK_iff.1 h5
    rw [List.length_drop] at h6
    have h6' : n * es ≤ l.length - o := h6
    obtain ⟨new, k1, k2⟩ := h.load hq hl (o := o) (n := n * es) (by omega)
    obtain ⟨_, _, _, _, _, _, _, _, ones, _⟩ := h.cells hq hl
    refine ⟨n, _, new, h7, k1, fun x hx => ones x (List.mem_of_mem_drop (List.mem_of_mem_take hx)), ?_, fun w => rfl, fun j => k2 j⟩
    show ((l.drop o).take (n * es)).length = n * es
    rw [List.length_take, List.length_drop]
    omega
end
theorem append_R {t xt e ty : TypeId} {sz : Nat} {i : TypeInfo} {z : Value} {d : TypeDesc} (hu : Tryz.prog.underlying t = some (.slice e)) (hi : Tryz.prog.info? e = some i) (hsz : i.size = sz) (hbytes : i.bytes ≤ 4096) (hzero : i.zero = some z) (hzl : z.cells.size = sz)
    (hx : Tryz.prog.underlying xt = some d) (hd : (∃ f, d = .slice f) ∨ d = .string) : ChR (cappend sz) fun l => Builtin.append_ #[t, xt] ty #[l.getD 0 undef, l.getD 1 undef] := by
  have hs : (Tryz.prog.info? e).map (·.size) = some sz := by rw [hi, ← hsz]; rfl
  have zsize : ∀ k, (Builtin.zeroCells z.cells k).size = k * sz := fun k => by simp [Builtin.zeroCells, hzl]
  intro F b m s w l ys rec c hS hl hg
  unfold cappend at hg
  obtain ⟨x, y, rfl, g1⟩ := list2_iff hg
  obtain ⟨X, Y, rfl, hx1, hy1⟩ := hl.inv2
  obtain ⟨n, al, new, g2, a1, a2, a3, a4, a5⟩ := addedK_R hS hy1 g1
  have a5' : (Builtin.firstCells sz n Y).run Tryz.prog w = .ok new w := a5 0
  have nsz : new.size = n * sz := by
    have := a1.length
    rw [a3] at this
    simpa using this.symm
  -- a new block in the world
  have fresh : ∀ (m0 : Mp) (s0 : S) (old : Array Value) (ol : List A) (len cap : Nat) (k : Q → S → Bool), m.le m0 → St F b m0 s0 w → VRs m F ol old.toList → (∀ x ∈ ol, oneA x = true) → old.size = len * sz → len + n ≤ cap → newK s0 (.cells (ol ++ al)) k = true →
      ∃ s' m', k s0.next s' = true ∧ St F b m' s' ((w.drewN 1).alloc (.cells (old ++ new ++ Builtin.zeroCells z.cells (cap - (len + n))) e)) ∧ m.le m' ∧ VR m' F (.sl s0.next 0 (len + n) sz none) (.slice (some ⟨w.heap.size, 0, none⟩) (len + n) cap) := by
    intro m0 s0 old ol len cap k hm0 hS0 ho1 ho2 ho3 hcap hk
    obtain ⟨r, hr, hk2⟩ := newK_iff hk
    have h1 := (hS0.drewN 1).new (o := .cells (ol ++ al)) hr
    have hfr := hS0.fresh s0.next (Nat.le_refl _)
    have gs : getO s0.next (s0.put s0.next (.cells (ol ++ al))).h = .cells (ol ++ al) := S.get_put_same _ _ _
    have hsize : (old ++ new ++ Builtin.zeroCells z.cells (cap - (len + n))).size = cap * sz := by
      simp only [Array.size_append, zsize, ho3, nsz]
      have e0 : len + n + (cap - (len + n)) = cap := by omega
      rw [← Nat.add_mul, ← Nat.add_mul, e0]
    have hOR : OR m0 F (cap * sz) (getO s0.next (⟨(s0.put s0.next (.cells (ol ++ al))).h, r, s0.lo, s0.hi⟩ : S).h) (.cells (old ++ new ++ Builtin.zeroCells z.cells (cap - (len + n))) e) := by
      rw [gs]
      refine ⟨hsize, ?_, .inl (Nat.le_refl _), fun x hx => ?_⟩
      · have e1 : ((old ++ new ++ Builtin.zeroCells z.cells (cap - (len + n))).toList.take (ol ++ al).length) = old.toList ++ new.toList := by
          rw [Array.toList_append, Array.toList_append]
          rw [List.take_append_of_le_length (by rw [List.length_append, List.length_append, ho1.length, a1.length]; omega)]
          exact List.take_of_length_le (by rw [List.length_append, List.length_append, ho1.length, a1.length]; omega)
        rw [e1]
        exact (ho1.append a1).mono hm0
      · rcases List.mem_append.1 hx with hx | hx
        · exact ho2 x hx
        · exact a2 x hx
    obtain ⟨h2, h3⟩ := h1.born (q := s0.next) (by simp only; omega) hS0.next hfr.2 hOR
    exact ⟨_, _, hk2, h2, Mp.le_trans hm0 h3, .sl (Mp.set_same _ _ _) hcap (by omega) (fun n hn => by cases hn)⟩
  rcases asSl_iff.1 g2 with ⟨rfl, g3⟩ | ⟨q, o, len, es, cap, rfl, g3⟩
  · obtain rfl := hx1.z1_inv
    rcases ifB_iff.1 g3 with ⟨h0, g4⟩ | ⟨h0, g4⟩
    · have hn := Nat.eq_of_beq_eq_true h0
      subst hn
      refine ⟨_, s, m, .slice none 0 0, w, g4, hS, Mp.le_refl m, .z1, ?_⟩
      exact append_in hu hs hx hd a4 a5' (Nat.le_refl _)
    · have hn := Nat.ne_of_beq_eq_false h0
      obtain ⟨hsm, g5⟩ := ifB_t.1 g4
      have hsm := Nat.le_of_ble_eq_true hsm
      obtain ⟨cap, hc, hrun⟩ := append_new (base := none) (sLen := 0) (sCap := 0) (ty := ty) (old := #[]) hu hi hsz hbytes hzero hx hd a4 a5 (fun k => rfl) (by omega) (by omega)
      obtain ⟨s', m', k1, k2, k3, k4⟩ := fresh m s #[] [] 0 cap _ (Mp.le_refl m) hS .nil (fun x hx => by cases hx) (by simp) hc g5
      refine ⟨_, s', m', _, _, k1, k2, k3, ?_, hrun⟩
      simpa only [Nat.zero_add] using k4
  · obtain ⟨hes, g4⟩ := ifB_t.1 g3
    have hes := Nat.eq_of_beq_eq_true hes
    subst hes
    obtain ⟨β, zz, cc, hq, hlc, hz, hcap, rfl⟩ := hx1.sl_inv
    rcases ifB_iff.1 g4 with ⟨h0, g5⟩ | ⟨h0, g5⟩
    · have hn := Nat.eq_of_beq_eq_true h0
      subst hn
      refine ⟨_, s, m, _, w, g5, hS, Mp.le_refl m, hx1, ?_⟩
      have hnil : new = #[] := Array.eq_empty_of_size_eq_zero (by rw [nsz]; simp)
      have := append_in (ty := ty) (base := some ⟨β, o, none⟩) hu hs hx hd a4 a5' (sLen := len) (sCap := cc) (by omega)
      refine this.trans ?_
      rw [hnil]
      rfl
    · have hn := Nat.ne_of_beq_eq_false h0
      rw [fN_eq] at g5
      obtain ⟨hsm, g6⟩ := ifB_t.1 g5
      have hsm : len + n ≤ 1000000 := Nat.le_of_ble_eq_true hsm
      obtain ⟨l', hl', g7, _⟩ := readK_iff g6
      obtain ⟨cs, ct, fr, k1, k2, k3, k4, k5, k6, k7⟩ := hS.cells hq hl'
      have hcells : getO q s.h ≠ .none := by rw [hl']; exact cells_ne
      have there : ∀ {p : Nat}, p + new.size ≤ zz → w.there β p new.toList.length := by
        intro p hp j hj
        have hj2 : j < new.size := by simpa using hj
        refine ⟨?_, ?_⟩
        · rw [k7]
          have : p + j < cs.size := by omega
          simp [this]
        · simp only [World.frozen?, k1]
          rcases k5 with k5 | k5
          · simp; omega
          · simp; omega
      have store : ∀ {p : Nat}, p + new.size ≤ zz → ((storeCells ⟨β, p, none⟩ new.toList).run Tryz.prog w) = .ok () (w.setCells β p new.toList) := by
        intro p hp
        have th := there hp
        have := run_storeCells_cells (P := Tryz.prog) β p new.toList 0 w (fun j hj => by simpa using (th j hj).1) (fun j hj => by simpa using (th j hj).2) (a1.ones a2)
        simpa only [Nat.add_zero] using this
      cases cap with
      | none =>
        have g8 : ifB (Nat.beq o 0) (takeK (Nat.mul len es) l' fun old => appK old al fun l => writeK s q .none fun s => newK s (.cells l) fun q s => c (.sl q 0 (len + n) es none) s) (stk "append open") = true := g7
        obtain ⟨ho, g9⟩ := ifB_t.1 g8
        have ho := Nat.eq_of_beq_eq_true ho
        subst ho
        obtain ⟨hlen, g10⟩ := takeK_iff.1 g9
        rw [appK_eq, writeK_eq] at g10
        have hlen : len * es ≤ l'.length := hlen
        by_cases hfit : len + n ≤ cc
        · have hbound : len * es + new.size ≤ zz := by
            rw [nsz, ← Nat.add_mul]
            have := Nat.mul_le_mul_right es hfit
            omega
          obtain ⟨c', e1, e2⟩ := setCells_but new.toList (o := len * es) k1 (by rw [k2]; simpa using hbound)
          have hOR : OR m F zz (.cells (l'.take (len * es) ++ al)) (.cells c' ct fr) := by
            refine ⟨?_, ?_, k5, fun x hx => ?_⟩
            · have := congrArg List.length e1
              simp at this
              omega
            · have e3 : c'.toList.take (l'.take (len * es) ++ al).length = (cs.toList.take l'.length).take (len * es) ++ new.toList := by
                rw [e1, List.take_take, Nat.min_eq_left hlen]
                have e4 : (l'.take (len * es) ++ al).length = (cs.toList.take (len * es) ++ new.toList).length := by
                  rw [List.length_append, List.length_append, List.length_take, List.length_take, a1.length]
                  have : cs.toList.length = zz := by simpa using k2
                  omega
                rw [e4]
                exact List.take_left
              rw [e3]
              exact (k4.take _).append a1
            · rcases List.mem_append.1 hx with hx | hx
              · exact k6 x (List.mem_of_mem_take hx)
              · exact a2 x hx
          obtain ⟨r, hr, g11⟩ := newK_iff g10
          obtain ⟨r1, r2⟩ := hS.heir hq hcells hOR e2 hr
          refine ⟨_, _, _, .slice (some ⟨β, 0, none⟩) (len + n) cc, _, g11, r1, r2, .sl (Mp.set_same _ _ _) hfit hz (fun n hn => by cases hn), ?_⟩
          have := append_in (ty := ty) (base := some ⟨β, 0, none⟩) hu hs hx hd a4 a5' hfit
          show (Builtin.append_ #[t, xt] ty #[.slice (some ⟨β, 0, none⟩) len cc, Y]).run Tryz.prog w = _
          rw [this]
          have ha : (⟨β, 0, none⟩ : Addr).add (len * es) = ⟨β, len * es, none⟩ := by rw [Addr.add_mid, Nat.zero_add]
          simp only [ha, store hbound]
          rfl
        · obtain ⟨old, o1, o2⟩ := hS.load hq hl' (o := 0) (n := len * es) (by omega)
          obtain ⟨cap, hc, hrun⟩ := append_new (base := some ⟨β, 0, none⟩) (sLen := len) (sCap := cc) (ty := ty) (old := old) hu hi hsz hbytes hzero hx hd a4 a5 o2 (by omega) hsm
          have osz : old.size = len * es := by
            have := o1.length
            rw [List.length_take, List.length_drop] at this
            have h2 : old.toList.length = old.size := Array.length_toList
            omega
          obtain ⟨s', m', r1, r2, r3, r4⟩ := fresh m (s.put q .none) old (l'.take (len * es)) len cap _ (Mp.le_refl m) (hS.kill hq) (by simpa using o1) (fun x hx => k6 x (List.mem_of_mem_take hx)) osz hc g10
          exact ⟨_, s', m', _, _, r1, r2, r3, r4, hrun⟩
      | some cp =>
        have hcp : cc = cp := hcap cp rfl
        subst hcp
        have g8 : ifB (Nat.ble (len + n) cc) (putK al (Nat.add o (Nat.mul len es)) l' fun l => writeK s q (.cells l) fun s => c (.sl q o (len + n) es (some cc)) s) (dropK o l' fun old => takeK (Nat.mul len es) old fun old => appK old al fun l => newK s (.cells l) fun q s => c (.sl q 0 (len + n) es none) s) = true := g7
        rcases ifB_iff.1 g8 with ⟨hfit, g9⟩ | ⟨hfit, g9⟩
        · have hfit := Nat.le_of_ble_eq_true hfit
          obtain ⟨hlt, g10⟩ := putK_iff.1 g9
          rw [writeK_eq] at g10
          have hlt : o + len * es + al.length ≤ l'.length := hlt
          obtain ⟨_, _, r3⟩ := hS.write hq hl' (o := o + len * es) hlt a1 a2
          refine ⟨_, _, m, .slice (some ⟨β, o, none⟩) (len + n) cc, _, g10, r3, Mp.le_refl m, .sl hq hfit hz (fun n hn => by cases hn; rfl), ?_⟩
          have := append_in (ty := ty) (base := some ⟨β, o, none⟩) hu hs hx hd a4 a5' hfit
          show (Builtin.append_ #[t, xt] ty #[.slice (some ⟨β, o, none⟩) len cc, Y]).run Tryz.prog w = _
          rw [this]
          have hbound : o + len * es + new.size ≤ zz := by
            have := a1.length
            rw [Array.length_toList] at this
            omega
          simp only [Addr.add_mid, store hbound]
          rfl
        · have hfit : ¬ len + n ≤ cc := fun h => by rw [Nat.ble_eq_true_of_le h] at hfit; cases hfit
          obtain ⟨d1, g10⟩ := dropK_iff.1 g9
          obtain ⟨d2, g11⟩ := takeK_iff.1 g10
          rw [appK_eq] at g11
          have d2 : len * es ≤ (l'.drop o).length := d2
          rw [List.length_drop] at d2
          obtain ⟨old, o1, o2⟩ := hS.load hq hl' (o := o) (n := len * es) (by omega)
          obtain ⟨cap, hc, hrun⟩ := append_new (base := some ⟨β, o, none⟩) (sLen := len) (sCap := cc) (ty := ty) (old := old) hu hi hsz hbytes hzero hx hd a4 a5 o2 (by omega) hsm
          have osz : old.size = len * es := by
            have := o1.length
            rw [List.length_take, List.length_drop] at this
            have h2 : old.toList.length = old.size := Array.length_toList
            omega
          obtain ⟨s', m', r1, r2, r3, r4⟩ := fresh m s old ((l'.drop o).take (len * es)) len cap _ (Mp.le_refl m) hS o1 (fun x hx => k6 x (List.mem_of_mem_drop (List.mem_of_mem_take hx))) osz hc g11
          exact ⟨_, s', m', _, _, r1, r2, r3, r4, hrun⟩
end Go.Proofs.YtpknalhjgbgpiaaGreatDoor
namespace Go.Proofs.YtpknalhjgbgpiaaGreatDoor
open Go Go.RowKit
theorem make_R {t e : TypeId} {sz : Nat} {i : TypeInfo} {z : Value} {zero : List A} (hu : Tryz.prog.underlying t = some (.slice e)) (hi : Tryz.prog.info? e = some i) (hsz : i.size = sz) (hbytes : i.bytes ≤ 4096) (hzero : i.zero = some z) (hzl : z.cells.size = sz)
    (hz : ∀ m F, VRs m F zero z.cells.toList) (h1 : ∀ x ∈ zero, oneA x = true) : AlR (smake sz zero) fun l => Instr.makeSlice t (l.getD 0 undef) (l.getD 1 undef) := by
  intro m F l ys c hl hg
  unfold smake at hg
  obtain ⟨a, b, rfl, g1⟩ := list2_iff hg
  obtain ⟨y1, y2, rfl, ha, hb⟩ := hl.inv2
  obtain ⟨n, rfl, g2⟩ := asI_iff.1 g1
  obtain ⟨k, rfl, g3⟩ := asI_iff.1 g2
  obtain ⟨n, rfl, g4⟩ := natI_iff.1 g3
  obtain ⟨k, rfl, g5⟩ := natI_iff.1 g4
  obtain ⟨hp, g6⟩ := ifB_t.1 g5
  have hp' := hp
  obtain ⟨p1, p2⟩ := ifB_t.1 hp
  have p1 := Nat.le_of_ble_eq_true p1
  have p2 := Nat.le_of_ble_eq_true p2
  rw [repK_eq] at g6
  obtain rfl := ha.i_inv
  obtain rfl := hb.i_inv
  have hcells : VRs m F (List.replicate k zero).flatten ((Array.range (k * z.cells.size)).map fun i => z.cells[i % z.cells.size]!).toList := by
    rw [rep_zero]
    exact (hz m F).rep k
  have hsize : ((Array.range (k * z.cells.size)).map fun i => z.cells[i % z.cells.size]!).size = k * sz := by simp [hzl]
  refine ⟨.cells (List.replicate k zero).flatten, fun q => .sl q 0 n sz (some k), fun c' => ?_, g6, cells_ne, .cells ((Array.range (k * z.cells.size)).map fun i => z.cells[i % z.cells.size]!) e, k * sz, fun β => .slice (some ⟨β, 0, none⟩) n k, ?_, fun m' q β h => .sl h p1 (by omega) (fun n hn => by cases hn; rfl), fun w => ?_⟩
  · show ifB (ifB (Nat.ble n k) (Nat.ble k 100000) false) (repK k zero fun z => c' (.cells z) fun q => .sl q 0 n sz (some k)) (stk "makeSlice") = _
    rw [ifB_pos hp', repK_eq]
  · have := OR.new (t := e) hcells (rep_one h1 k)
    rw [hsize] at this
    exact this
  · have hs : (Tryz.prog.info? e).map (·.size) = some sz := by rw [hi, ← hsz]; rfl
    have hin : (typeInfo e).run Tryz.prog w = .ok i w := by simp [typeInfo, hi]
    have hzr : (zeroValue e).run Tryz.prog w = .ok z w := by simp [zeroValue, typeInfo, hi, hzero]
    have w1 : IntKind.i64.wrap (n : Int) = n := wrap64 ⟨by omega, by omega⟩
    have w2 : IntKind.i64.wrap (k : Int) = k := wrap64 ⟨by omega, by omega⟩
    have hbk : ¬ ((i.bytes : Int) * (k : Int) > 2 ^ 48) := by
      have h := Nat.mul_le_mul hbytes p2
      have e48 : (2 : Int) ^ 48 = 281474976710656 := by decide
      rw [e48]
      have : ((i.bytes * k : Nat) : Int) ≤ 409600000 := by omega
      rw [Int.natCast_mul] at this
      omega
    have hk0 : ¬ ((k : Int) < 0) := by omega
    have hn0 : ¬ ((n : Int) < 0) := by omega
    have hnk : ¬ ((n : Int) > (k : Int)) := by omega
    have hk2 : (k : Int).toNat = k := rfl
    have hn2 : (n : Int).toNat = n := rfl
    have hfinal : ∀ (zz : Array Value), zz = (if k * sz = 0 then #[] else z.cells) → ((Array.range (k * sz)).map fun x => zz[x % zz.size]!) = (Array.range (k * z.cells.size)).map fun i => z.cells[i % z.cells.size]! := by
      intro zz hzz
      rw [hzl]
      by_cases h0 : k * sz = 0
      · rw [h0]
        simp
      · rw [if_neg h0] at hzz
        rw [hzz, hzl]
    show (Instr.makeSlice t (.int .i64 n) (.int .i64 k)).run Tryz.prog w = _
    unfold Instr.makeSlice
    simp only [Sem.run_bind, run_underlying hu, Result.andThen_ok, asInt, asIntOf, Sem.run_pure, hin, w1, w2, hbk, hk0, hn0, hnk, decide_false, Bool.or_false, Bool.false_eq_true, if_false, run_askRoom, sizeOf_run hs, hk2, hn2, Sem.run_ite, hzr]
    by_cases h0 : k * sz = 0
    · simp only [if_pos h0]
      rw [hfinal #[] (by rw [if_pos h0])]
      rfl
    · simp only [if_neg h0]
      rw [hfinal z.cells (by rw [if_neg h0])]
      rfl
theorem bytesK_R {m : Mp} {F : Int} : ∀ {l : List A} {ys : List Value} {k : List Nat → Bool}, VRs m F l ys → bytesK l k = true → ∃ us : List UInt8, ys = us.map (fun u => .int .u8 u.toNat) ∧ k (us.map (·.toNat)) = true ∧ ∀ k', bytesK l k' = k' (us.map (·.toNat)) := by
  intro l
  induction l with
  | nil =>
    intro ys k hl hk
    cases hl
    exact ⟨[], rfl, hk, fun _ => rfl⟩
  | cons x l ih =>
    intro ys k hl hk
    cases hl with
    | cons hx ht =>
      rename_i y ys
      have hk' : (asJ x fun a n => natI n fun n => ifB (ifB (kEq a .u8) (Nat.blt n 256) false) (bytesK l fun r => k (n :: r)) false) = true := hk
      obtain ⟨a, n, rfl, h1, e1⟩ := asJ_VR hk' hx
      obtain ⟨n, rfl, h2⟩ := natI_iff.1 h1
      obtain ⟨hp, h3⟩ := ifB_t.1 h2
      have hp' := hp
      obtain ⟨p1, p2⟩ := ifB_t.1 hp
      rw [kEq_eq, decide_eq_true_eq] at p1
      rw [Nat.blt_eq] at p2
      subst p1
      obtain ⟨us, rfl, h4, e2⟩ := ih ht h3
      have hn : (UInt8.ofNat n).toNat = n := by rw [UInt8.toNat_ofNat']; omega
      refine ⟨UInt8.ofNat n :: us, ?_, ?_, fun k' => ?_⟩
      · simp only [List.map_cons, hn]
      · simp only [List.map_cons, hn]
        exact h4
      · show (asJ x fun a n => natI n fun n => ifB (ifB (kEq a .u8) (Nat.blt n 256) false) (bytesK l fun r => k' (n :: r)) false) = _
        rw [e1]
        show ifB (ifB (kEq .u8 .u8) (Nat.blt n 256) false) (bytesK l fun r => k' (n :: r)) false = _
        rw [ifB_pos hp', e2]
        simp only [List.map_cons, hn]
theorem push_fold (us : List UInt8) : ∀ acc : ByteArray, (us.map fun u => (u.toNat : Int)).foldl (fun r n => r.push (UInt8.ofNat n.toNat)) acc = ⟨acc.data ++ us.toArray⟩ := by
  induction us with
  | nil => intro acc; simp
  | cons u us ih =>
    intro acc
    simp only [List.map_cons, List.foldl_cons]
    rw [ih]
    have : UInt8.ofNat ((u.toNat : Int)).toNat = u := by simp
    rw [this]
    congr 1
    simp [ByteArray.push]
theorem bytesStr_R {t t' e : TypeId} (hu : Tryz.prog.underlying t = some (.slice e)) (he : Tryz.prog.underlying e = some (.int .u8)) (hd : Tryz.prog.underlying t' = some .string) : R1R rbytesStr fun y => convert t t' y := by
  intro F b m s w v y c hS hv hg
  unfold rbytesStr at hg
  rcases asSl_iff.1 hg with ⟨rfl, g1⟩ | ⟨q, o, n, es, cap, rfl, g1⟩
  · obtain rfl := hv.z1_inv
    refine ⟨.s [], fun c' => rfl, .string .empty, .s .empty, ?_⟩
    rw [run_convert_bytes_string w t t' e none 0 0 hu he hd]
    rfl
  · obtain ⟨β, z, cc, hq, _, _, _, rfl⟩ := hv.sl_inv
    obtain ⟨l, hl, g2, e2⟩ := readK_iff g1
    obtain ⟨h1, g3⟩ := dropK_iff.1 g2
    obtain ⟨h2, g4⟩ := takeK_iff.1 g3
    rw [List.length_drop] at h2
    obtain ⟨new, k1, k2⟩ := hS.load hq hl (o := o) (n := n) (by omega)
    obtain ⟨us, e3, h3, e4⟩ := bytesK_R k1 g4
    refine ⟨.s (us.map (·.toNat)), fun c' => ?_, .string ⟨us.toArray⟩, ?_, ?_⟩
    · show readK s q (fun l => dropK o l fun l => takeK n l fun l => bytesK l fun l => c' (.s l)) = _
      rw [e2, dropK_eq h1, takeK_eq (by rw [List.length_drop]; exact h2), e4]
    · have : bytesOf ⟨us.toArray⟩ = us.map (·.toNat) := rfl
      rw [← this]
      exact .s _
    · rw [run_convert_bytes_string w t t' e _ n cc hu he hd]
      have hnew : new = ((us.map fun u => (u.toNat : Int)).map (Value.int .u8)).toArray := by
        obtain ⟨nl⟩ := new
        simp only at e3
        rw [e3, List.map_map]
        rfl
      have := run_bytesToString (P := Tryz.prog) w ⟨β, o, none⟩ n cc (us.map fun u => (u.toNat : Int)) (by rw [← hnew]; exact k2 0)
      have e5 : ByteArray.empty.data ++ us.toArray = us.toArray := by
        show #[] ++ us.toArray = _
        simp
      rw [this, push_fold, e5]
end Go.Proofs.YtpknalhjgbgpiaaGreatDoor
namespace Go.Proofs.YtpknalhjgbgpiaaGreatDoor
open Go Go.RowKit
section
variable {R : Type}
theorem fNB_eq (n : Nat) (k : Nat → R) : fNB n k = k n := by cases n <;> rfl
theorem fBB_eq (n : Bool) (k : Bool → R) : fBB n k = k n := by cases n <;> rfl
theorem fIB_eq (n : Int) (k : Int → R) : fIB n k = k n := by cases n <;> exact fNB_eq _ _
theorem kindB_eq (a : IntKind) (k : IntKind → R) : kindB a k = k a := by cases a <;> rfl
theorem mapB_eq {α β : Type} {g : α → KR R β} {f : α → β} (h : ∀ x k, g x k = k (f x)) (l : List α) (k : List β → R) : mapB l g k = k (l.map f) := by
  induction l generalizing k with
  | nil => rfl
  | cons x l ih =>
    show g x (fun y => mapB l g fun r => k (y :: r)) = _
    rw [h, ih]
    rfl
theorem mapB_id {α : Type} {g : α → KR R α} (h : ∀ x k, g x k = k x) (l : List α) (k : List α → R) : mapB l g k = k l := by
  rw [mapB_eq (f := fun x => x) h, List.map_id']
theorem aB_eq (a : A) (k : A → R) : aB a k = k a := by
  cases a with
  | i n => exact fIB_eq n _
  | b x => exact fBB_eq x _
  | s l => exact mapB_id (fun x k => fNB_eq x k) l _
  | j a n =>
    show kindB a (fun a => fIB n fun n => k (.j a n)) = _
    rw [kindB_eq, fIB_eq]
  | z n => exact fNB_eq n _
  | _ => rfl
theorem absB_eq (v : Value) (k : A → R) : absB v k = k (absV v) := by
  unfold absB
  split
  · rename_i t l e
    rw [fBB_eq, mapB_id (fun x k => aB_eq x k)]
    rw [e]
  · exact aB_eq _ _
theorem szB_eq (P : Program) (t : TypeId) (bad : R) (k : Nat → R) : (∃ n, (P.info? t).map (·.size) = some n ∧ szB P t bad k = k n) ∨ szB P t bad k = bad := by
  unfold szB
  cases P.info? t with
  | none => exact .inr rfl
  | some i => exact .inl ⟨i.size, rfl, fNB_eq _ _⟩
theorem repB_eq (n : Nat) (z : List A) (k : List A → R) : repB n z k = k (List.replicate n z).flatten := by
  induction n generalizing k with
  | zero => rfl
  | succ n ih =>
    have app : ∀ (z r : List A) (k : List A → R), (List.rec (motive := fun _ => (List A → R) → R) (fun k => k r) (fun x _ ih k => ih fun l => k (x :: l)) z k : R) = k (z ++ r) := by
      intro z
      induction z with
      | nil => intro r k; rfl
      | cons x z ihz => intro r k; exact ihz r fun l => k (x :: l)
    show repB n z (fun r => List.rec (motive := fun _ => (List A → R) → R) (fun k => k r) (fun x _ ih k => ih fun l => k (x :: l)) z k) = _
    rw [ih, app, List.replicate_succ, List.flatten_cons]
theorem ifZ_cases (b : Bool) (x y : R) : (b = true ∧ ifZ b x y = x) ∨ (b = false ∧ ifZ b x y = y) := by cases b <;> simp [ifZ]
end
theorem oneV_eq (v : Value) : oneV v = v.oneCell' := by cases v <;> rfl
theorem abs1_VR {m : Mp} {F : Int} {v : Value} (h : v.oneCell' = true) : VR m F (abs1 v) v ∧ oneA (abs1 v) = true := by
  unfold abs1
  split <;> first
    | exact ⟨.b _, rfl⟩
    | exact ⟨.i _, rfl⟩
    | exact ⟨.j _ _, rfl⟩
    | exact ⟨.s _, rfl⟩
    | exact ⟨.z0, rfl⟩
    | exact ⟨.z1, rfl⟩
    | exact ⟨.z2, rfl⟩
    | exact ⟨.z3, rfl⟩
    | exact ⟨.z4, rfl⟩
    | exact ⟨.val h, rfl⟩
theorem abs_row {m : Mp} {F : Int} {l : List Value} (h : l.all oneV = true) : VRs m F (l.map abs1) l ∧ ∀ x ∈ l.map abs1, oneA x = true := by
  induction l with
  | nil => exact ⟨.nil, fun x hx => by cases hx⟩
  | cons v l ih =>
    rw [List.all_cons, Bool.and_eq_true, oneV_eq] at h
    obtain ⟨h1, h2⟩ := ih h.2
    obtain ⟨h3, h4⟩ := abs1_VR (m := m) (F := F) h.1
    refine ⟨.cons h3 h1, fun x hx => ?_⟩
    rcases List.mem_cons.1 hx with rfl | hx
    · exact h4
    · exact h2 x hx
theorem absV_one {v : Value} (h : v.oneCell' = true) : absV v = abs1 v := by cases v <;> first | rfl | exact no h
theorem absV_VR {m : Mp} {F : Int} {v : Value} (h : okV v = true) : VR m F (absV v) v := by
  cases hv : v.oneCell' with
  | true =>
    rw [absV_one hv]
    exact (abs1_VR hv).1
  | false =>
    cases v with
    | agg cs =>
      obtain ⟨h1, h2⟩ := abs_row (m := m) (F := F) (l := cs.toList) h
      exact VR.agg_iff.2 ⟨cs, rfl, h2, h1⟩
    | tuple cs =>
      obtain ⟨l⟩ := cs
      cases l with
      | nil => exact VR.tup_iff.2 ⟨_, rfl, .nil⟩
      | cons x l => exact no h
    | _ => cases hv
theorem zero_VR {m : Mp} {F : Int} {v : Value} (h : okZ v = true) : VRs m F (cellsV (absV v)) v.cells.toList ∧ ∀ x ∈ cellsV (absV v), oneA x = true := by
  cases hv : v.oneCell' with
  | true =>
    rw [absV_one hv]
    obtain ⟨h1, h2⟩ := abs1_VR (m := m) (F := F) hv
    have e : cellsV (abs1 v) = [abs1 v] := by
      cases hv : abs1 v <;> first | rfl | (rw [hv] at h2; exact no h2)
    have e2 : v.cells = #[v] := by cases v <;> first | rfl | exact no hv
    rw [e, e2]
    exact ⟨.one h1, fun x hx => by rw [List.mem_singleton.1 hx]; exact h2⟩
  | false =>
    cases v with
    | agg cs => exact abs_row (m := m) (F := F) (l := cs.toList) h
    | tuple cs => exact no h
    | _ => cases hv
theorem okZ_okV {v : Value} (h : okZ v = true) : okV v = true := by cases v <;> first | exact h | exact no h | rfl
/-- A type's zero. -/
theorem zcB_eq {R : Type} (P : Program) (t : TypeId) (bad : R) (k : List A → R) : (∃ v, (P.info? t).bind (·.zero) = some v ∧ okZ v = true ∧ zcB P t bad k = k (cellsV (absV v))) ∨ zcB P t bad k = bad := by
  unfold zcB
  cases e : (P.info? t).bind (·.zero) with
  | none => exact .inr rfl
  | some v =>
    rcases ifZ_cases (okZ v) (mapB (cellsV (absV v)) aB k) bad with ⟨h1, h2⟩ | ⟨_, h2⟩
    · exact .inl ⟨v, rfl, h1, h2.trans (mapB_id (fun x k => aB_eq x k) _ _)⟩
    · exact .inr h2
theorem zrB_eq {R : Type} (P : Program) (t : TypeId) (bad : R) (k : A → R) : (∃ v, (P.info? t).bind (·.zero) = some v ∧ okV v = true ∧ zrB P t bad k = k (absV v)) ∨ zrB P t bad k = bad := by
  unfold zrB
  cases e : (P.info? t).bind (·.zero) with
  | none => exact .inr rfl
  | some v =>
    rcases ifZ_cases (okV v) (absB v k) bad with ⟨h1, h2⟩ | ⟨_, h2⟩
    · exact .inl ⟨v, rfl, h1, h2.trans (absB_eq _ _)⟩
    · exact .inr h2
theorem zero_run {t : TypeId} {v : Value} (h : (Tryz.prog.info? t).bind (·.zero) = some v) (w : World) : (zeroValue t).run Tryz.prog w = .ok v w := by
  cases hi : Tryz.prog.info? t with
  | none => rw [hi] at h; cases h
  | some i =>
    rw [hi] at h
    have h' : i.zero = some v := h
    simp [zeroValue, typeInfo, hi, h', Result.andThen]
end Go.Proofs.YtpknalhjgbgpiaaGreatDoor
