/- Parts of the proof: EvZ, EvZ2. -/
import Derived.Test.YtpknalhjgbgpiaaGreatDoorM11
import Derived.Test.YtpknalhjgbgpiaaGreatDoorM24
noncomputable section
namespace Go.Proofs.YtpknalhjgbgpiaaGreatDoor
open Go Go.RowKit
section
variable {F : Int} {b : Base} {m : Mp} {s : S} {w : World}
theorem St.cell_at (h : St F b m s w) {q : Q} {β z : Nat} (hq : m q = some (β, z)) {cl : List A} (hl : getO q s.h = .cells cl) {i : Nat} {x : A} (hx : cl[i]? = some x) : ∃ y, w.cell? ⟨β, i, none⟩ = some y ∧ VR m F x y := by
  obtain ⟨c, t, fr, _, _, _, k4, _, _, k7⟩ := h.cells hq hl
  obtain ⟨y, hy, hv⟩ := k4.at_ hx
  refine ⟨y, ?_, hv⟩
  rw [k7]
  have hi : i < cl.length := (List.getElem?_eq_some_iff.1 hx).1
  rw [List.getElem?_take_of_lt hi] at hy
  rw [← Array.getElem?_toList]
  exact hy
theorem isInts_get (l : List A) : ∀ (r : List Int), isInts l r = true → ∀ k (h : k < r.length), l[k]? = some (.i r[k]) := by
  induction l with
  | nil =>
    intro r hh k h
    cases r with
    | nil => exact absurd h (by simp)
    | cons x r => cases hh
  | cons a l ih =>
    intro r hh k h
    cases r with
    | nil => exact absurd h (by simp)
    | cons x r =>
      cases a with
      | i n =>
        have h' : (decide (n = x) && isInts l r) = true := hh
        rw [Bool.and_eq_true_iff] at h'
        have e : n = x := of_decide_eq_true h'.1
        cases k with
        | zero => rw [e]; rfl
        | succ k => exact ih r h'.2 k (by simpa using h)
      | _ => cases hh
theorem drop_take_get {α : Type} {l : List α} {o n k : Nat} {x : α} (h : ((l.drop o).take n)[k]? = some x) : l[o + k]? = some x := by
  have hk : k < n := by
    have := (List.getElem?_eq_some_iff.1 h).1
    rw [List.length_take] at this
    omega
  rw [List.getElem?_take_of_lt hk, List.getElem?_drop] at h
  exact h
theorem isEmpty_nil {α : Type} {l : List α} (h : l.isEmpty = true) : l = [] := by simpa using h
theorem set_at {lo : Nat} (hlo : ∀ q β z, m q = some (β, z) → getO q s.h ≠ .none → lo ≤ β) (hS : St F b m s w) {v : A} {x : Value} (hv : VR m F v x) {r : List Int} (hi : isSet s v r = true) (hr : r.length ≤ 140737488355328) : ∃ A c, x = .slice A r.length c ∧ IntsAt w (fun b => lo ≤ b ∧ b < w.heap.size) A c r := by
  cases v with
  | z n =>
    have h' : (Nat.beq n 1 && r.isEmpty) = true := hi
    rw [Bool.and_eq_true_iff] at h'
    obtain rfl := Nat.eq_of_beq_eq_true h'.1
    obtain rfl := isEmpty_nil h'.2
    cases hv
    exact ⟨none, 0, rfl, IntsAt.nil⟩
  | sl q o l e c =>
    cases hv with
    | sl hq h1 h2 h3 =>
      rename_i β z cc
      cases l with
      | zero =>
        have h' : r.isEmpty = true := hi
        obtain rfl := isEmpty_nil h'
        exact ⟨_, _, rfl, IntsAt.nil⟩
      | succ l =>
        have h' : (match getO q s.h with
          | .cells c => Nat.beq (l + 1) r.length && isInts ((c.drop o).take (l + 1)) r
          | _ => false) = true := hi
        cases hl : getO q s.h with
        | cells cl =>
          rw [hl] at h'
          have h'' : (Nat.beq (l + 1) r.length && isInts ((cl.drop o).take (l + 1)) r) = true := h'
          rw [Bool.and_eq_true_iff] at h''
          have e := Nat.eq_of_beq_eq_true h''.1
          rw [e] at h1 ⊢
          refine ⟨_, _, rfl, ⟨h1, hr, fun _ => ⟨β, o, rfl, ⟨hlo q β z hq (by rw [hl]; exact fun e => by cases e), hS.lt q β z hq⟩, fun k hk => ?_⟩⟩⟩
          obtain ⟨y, hy, hvy⟩ := hS.cell_at hq hl (drop_take_get (isInts_get _ _ h''.2 k hk))
          rw [hy, hvy.i_inv]
        | _ => rw [hl] at h'; cases h'
  | _ => cases hi
theorem isRows_get (r : List (List Nat × Int × List Int)) : ∀ (l : List A), isRows s l r = true → ∀ k (h : k < r.length), l[k * 3]? = some (.s r[k].1) ∧ l[k * 3 + 1]? = some (.i r[k].2.1) ∧ ∃ v, l[k * 3 + 2]? = some v ∧ isSet s v r[k].2.2 = true := by
  induction r with
  | nil => exact fun _ _ k h => absurd h (by simp)
  | cons x r ih =>
    intro l hh k h
    rcases l with _ | ⟨a, _ | ⟨c, _ | ⟨v, l⟩⟩⟩
    · cases hh
    · cases a <;> cases hh
    · cases a with
      | s n => cases c <;> cases hh
      | _ => cases hh
    · cases a with
      | s n =>
        cases c with
        | i o =>
          have h' : (eqLN n x.1 && (decide (o = x.2.1) && (isSet s v x.2.2 && isRows s l r))) = true := hh
          simp only [Bool.and_eq_true_iff] at h'
          obtain ⟨h1, h2, h3, h4⟩ := h'
          cases k with
          | zero =>
            refine ⟨?_, ?_, v, rfl, h3⟩
            · rw [eqLN_eq] at h1; rw [of_decide_eq_true h1]; rfl
            · rw [of_decide_eq_true h2]; rfl
          | succ k =>
            have := ih l h4 k (by simpa using h)
            rw [show (k + 1) * 3 = k * 3 + 3 by omega]
            exact this
        | _ => cases hh
      | _ => cases hh
/-- A value's words. -/
def vp (x : List Nat × Int × List Int) : ValP := ⟨x.1.map UInt8.ofNat, x.2.1, x.2.2⟩
theorem bytes_back {b : ByteArray} {l : List Nat} (h : bytesOf b = l) : b = ⟨(l.map UInt8.ofNat).toArray⟩ := by
  subst h
  obtain ⟨⟨a⟩⟩ := b
  have : (bytesOf ⟨⟨a⟩⟩).map UInt8.ofNat = a := by
    unfold bytesOf
    rw [List.map_map]
    have e : (UInt8.ofNat ∘ UInt8.toNat) = id := by
      funext u
      exact UInt8.ofNat_toNat
    simp [e]
  rw [this]
def smallR (r : List (List Nat × Int × List Int)) : Prop := r.length ≤ 140737488355328 ∧ ∀ x ∈ r, x.1.length ≤ 140737488355328 ∧ x.2.2.length ≤ 140737488355328
theorem vals_at {lo : Nat} (hlo : ∀ q β z, m q = some (β, z) → getO q s.h ≠ .none → lo ≤ β) (hS : St F b m s w) {v : A} {x : Value} (hv : VR m F v x) {r : List (List Nat × Int × List Int)} (hi : isVals s v r = true) (hr : smallR r) : ∃ A c, x = .slice A (r.map vp).length c ∧ ValsAt w (fun b => lo ≤ b ∧ b < w.heap.size) A c (r.map vp) := by
  cases v with
  | z n =>
    have h' : (Nat.beq n 1 && r.isEmpty) = true := hi
    rw [Bool.and_eq_true_iff] at h'
    obtain rfl := Nat.eq_of_beq_eq_true h'.1
    obtain rfl := isEmpty_nil h'.2
    cases hv
    exact ⟨none, 0, rfl, ⟨Nat.zero_le _, Nat.zero_le _, fun _ h => absurd h (by simp), fun k h => absurd h (by simp)⟩⟩
  | sl q o l e c =>
    cases hv with
    | sl hq h1 h2 h3 =>
      rename_i β z cc
      cases l with
      | zero =>
        have h' : r.isEmpty = true := hi
        obtain rfl := isEmpty_nil h'
        exact ⟨_, _, rfl, ⟨Nat.zero_le _, Nat.zero_le _, fun _ h => absurd h (by simp), fun k h => absurd h (by simp)⟩⟩
      | succ l =>
        have h' : (match getO q s.h with
          | .cells c => Nat.beq (l + 1) r.length && isRows s ((c.drop o).take (3 * (l + 1))) r
          | _ => false) = true := hi
        cases hl : getO q s.h with
        | cells cl =>
          rw [hl] at h'
          have h'' : (Nat.beq (l + 1) r.length && isRows s ((cl.drop o).take (3 * (l + 1))) r) = true := h'
          rw [Bool.and_eq_true_iff] at h''
          have e := Nat.eq_of_beq_eq_true h''.1
          have em : (r.map vp).length = r.length := List.length_map _
          rw [e, ← em] at h1 ⊢
          refine ⟨_, _, rfl, ⟨h1, by rw [em]; exact hr.1, fun y hy => ?_, fun k hk => ?_⟩⟩
          · obtain ⟨x, hx, rfl⟩ := List.mem_map.1 hy
            show (x.1.map UInt8.ofNat).length ≤ _
            rw [List.length_map]
            exact (hr.2 x hx).1
          · have hk' : k < r.length := by rw [em] at hk; exact hk
            obtain ⟨g1, g2, v, g3, g4⟩ := isRows_get _ _ h''.2 k hk'
            obtain ⟨y1, c1, v1⟩ := hS.cell_at hq hl (drop_take_get g1)
            obtain ⟨y2, c2, v2⟩ := hS.cell_at hq hl (drop_take_get g2)
            obtain ⟨y3, c3, v3⟩ := hS.cell_at hq hl (drop_take_get g3)
            obtain ⟨A1, cc1, rfl, hs⟩ := set_at hlo hS v3 g4 (hr.2 _ (List.getElem_mem hk')).2
            obtain ⟨bs, rfl, hbs⟩ := v1.s_inv
            have e2 := v2.i_inv
            subst e2
            have ek : (r.map vp)[k]'hk = vp r[k] := List.getElem_map _
            refine ⟨β, o, A1, cc1, rfl, ⟨hlo q β z hq (by rw [hl]; exact fun e => by cases e), hS.lt q β z hq⟩, ?_, ?_, ?_, ?_⟩
            · rw [ek, c1, bytes_back hbs]; rfl
            · rw [ek]; exact c2
            · rw [ek]; exact c3
            · rw [ek]; exact hs
        | _ => rw [hl] at h'; cases h'
  | _ => cases hi
end
end Go.Proofs.YtpknalhjgbgpiaaGreatDoor
noncomputable section
namespace Go.Proofs.YtpknalhjgbgpiaaGreatDoor
open Go Go.RowKit
/-- Tag, model, counter-model, the fuel being F. -/
def outR (F : Int) (T : Nat) (tag : Int) (M C : List (List Nat × Int × List Int)) : Int × List ValP × List ValP := if F < T then (5, [], []) else (tag, M.map vp, C.map vp)
theorem isRes_inv {T : Nat} {tag : Int} {M C : List (List Nat × Int × List Int)} {v : A} {s : S} (h : isRes T tag M C v s = true) :
    ∃ t m c, v = .g false [.i t, .i 0, .i 0, m, c] ∧ ((t = 5 ∧ isVals s m [] = true ∧ isVals s c [] = true ∧ 0 < s.hi ∧ s.hi ≤ T) ∨ (t = tag ∧ isVals s m M = true ∧ isVals s c C = true ∧ T ≤ s.lo)) := by
  unfold isRes at h
  split at h
  · rename_i t e a m c
    simp only [Bool.and_eq_true_iff] at h
    obtain ⟨h1, h2, h3⟩ := h
    obtain rfl := of_decide_eq_true h1
    obtain rfl := of_decide_eq_true h2
    refine ⟨t, m, c, rfl, ?_⟩
    split at h3
    · rename_i h4
      simp only [Bool.and_eq_true_iff] at h3
      obtain ⟨k1, k2, k3, k4⟩ := h3
      exact .inl ⟨of_decide_eq_true h4, k1, k2, by rw [Nat.blt_eq] at k3; exact k3, Nat.le_of_ble_eq_true k4⟩
    · simp only [Bool.and_eq_true_iff] at h3
      obtain ⟨k1, k2, k3, k4⟩ := h3
      exact .inr ⟨of_decide_eq_true k1, k2, k3, Nat.le_of_ble_eq_true k4⟩
  · cases h
theorem VRs.cons_inv {m : Mp} {F : Int} {x : A} {l : List A} {ys : List Value} (h : VRs m F (x :: l) ys) : ∃ y r, ys = y :: r ∧ VR m F x y ∧ VRs m F l r := by
  cases h with
  | cons h t => exact ⟨_, _, rfl, h, t⟩
theorem smallR_nil : smallR [] := ⟨Nat.zero_le _, fun _ h => absurd h (by simp)⟩
theorem fr_below {w w' : World} (h : Fr (fun _ => False) w w') : Below w.heap.size w w' := ⟨h.os, h.tape, h.output, h.size, fun k hk => h.block k hk id⟩
theorem decide_any {F : Int} (h0 : 0 ≤ F) (hF : F ≤ 1073741824) {bs : ByteArray} {l : List Nat} (hb : bytesOf bs = l) {T : Nat} {tag : Int} {M C : List (List Nat × Int × List Int)} (hM : smallR M) (hC : smallR C)
    (hd : runG boxA 1000 4 [.s l, .o (.sym 0)] s00 (isRes T tag M C) = true) {w : World} (hw : 4 ≤ w.heap.size) :
    Calls Tryz.prog 4 #[.string bs, .int .i64 F] w fun e w' => ∃ A c A2 c2, e = .returned (resVal (outR F T tag M C).1 A A2 (outR F T tag M C).2.1.length c (outR F T tag M C).2.2.length c2) ∧ Below w.heap.size w w' ∧
      ValsAt w' (fun b => w.heap.size ≤ b ∧ b < w'.heap.size) A c (outR F T tag M C).2.1 ∧ ValsAt w' (fun b => w.heap.size ≤ b ∧ b < w'.heap.size) A2 c2 (outR F T tag M C).2.2 := by
  have hsym : VR m00 F (.o (.sym 0)) (.int .i64 F) := by
    have := VR.sym (m := m00) (F := F) (off := 0) (by simpa using h0)
    rw [show F - ((0 : Nat) : Int) = F by simp] at this
    exact this
  have hstr : VR m00 F (.s l) (.string bs) := hb ▸ VR.s bs
  refine (((runA_sound hF 1000) _ _ _ _ hd).2 _ m00 w _ (St.start h0 hw) (.cons hstr (.one hsym))).mono fun e w' he => ?_
  obtain ⟨v, s', m', x, rfl, hk, hS, _, hv⟩ := he
  obtain ⟨t, vm, vc, rfl, hor⟩ := isRes_inv hk
  have hlo := hS.lo
  have hhi := hS.hi
  cases hv with
  | agg h1 hl hg =>
    rename_i cs
    have hlw : ∀ q β z, m' q = some (β, z) → getO q s'.h ≠ .none → w.heap.size ≤ β := fun q β z h1 h2 => (hS.own q β z h1 h2).elim (fun h => h.elim) id
    have hv5 : VRs m' F [.i t, .i 0, .i 0, vm, vc] cs.toList := VRs.of (by simpa using hl) fun i x y hx hy => hg i x y hx (by rw [← Array.getElem?_toList]; exact hy)
    obtain ⟨y1, r1, e1, g1, hv4⟩ := hv5.cons_inv
    obtain ⟨y2, r2, rfl, g2, hv3⟩ := hv4.cons_inv
    obtain ⟨y3, r3, rfl, g3, hv2⟩ := hv3.cons_inv
    obtain ⟨ym, yc, rfl, gm, gc⟩ := hv2.inv2
    have ecs : cs = #[y1, y2, y3, ym, yc] := Array.toList_inj.1 e1
    obtain rfl := g1.i_inv
    obtain rfl := g2.i_inv
    obtain rfl := g3.i_inv
    subst ecs
    rcases hor with ⟨rfl, k1, k2, k3, k4⟩ | ⟨rfl, k1, k2, k3⟩
    · have hlt : F < T := by rcases hhi with h | h <;> omega
      obtain ⟨A, c, rfl, a1⟩ := vals_at hlw hS gm k1 smallR_nil
      obtain ⟨A2, c2, rfl, a2⟩ := vals_at hlw hS gc k2 smallR_nil
      have eo : outR F T tag M C = (5, [], []) := if_pos hlt
      rw [eo]
      exact ⟨A, c, A2, c2, rfl, fr_below hS.fr, a1, a2⟩
    · have hlt : ¬ F < T := by omega
      obtain ⟨A, c, rfl, a1⟩ := vals_at hlw hS gm k1 hM
      obtain ⟨A2, c2, rfl, a2⟩ := vals_at hlw hS gc k2 hC
      have eo : outR F T t M C = (t, M.map vp, C.map vp) := if_neg hlt
      rw [eo]
      exact ⟨A, c, A2, c2, rfl, fr_below hS.fr, a1, a2⟩
end Go.Proofs.YtpknalhjgbgpiaaGreatDoor
