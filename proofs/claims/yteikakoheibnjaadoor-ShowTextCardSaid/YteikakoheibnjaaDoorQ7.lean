/- Parts of the proof: Decl2, ParseShow. -/
import Derived.Test.YteikakoheibnjaaDoorQ6
import Derived.Deep.RegionHeld3
namespace Go.Proofs.YteikakoheibnjaaDoor
open Go Go.RowKit

theorem declB_len {d : DeclP} (h : declB d = true) : (declS d).length ≤ 2020 := by
 unfold declB at h
 simp only [Bool.and_eq_true, decide_eq_true_eq] at h
 have h1 := nameB_len h.1.1
 have h2 := dig_len100 ⟨d.order.toNat, by omega⟩
 simp only at h2
 unfold declS nVarK
 simp only [List.length_append, List.length_cons, List.length_nil]
 omega
theorem commasD_len : ∀ ds : List DeclP, (∀ d ∈ ds, declB d = true) → (commas (ds.map declS)).length ≤ 2022 * ds.length
 | [], _ => by simp [commas]
 | [x], h => by
   have := declB_len (h x (by simp))
   simp only [List.map_cons, List.map_nil, commas, List.length_cons, List.length_nil]
   omega
 | x :: y :: r, h => by
   have h1 := declB_len (h x (by simp))
   have h2 := commasD_len (y :: r) (fun d hd => h d (by simp [hd]))
   simp only [List.map_cons] at h2
   simp only [List.map_cons, commas, List.length_append, List.length_cons, List.length_nil] at h2 ⊢
   omega
theorem predS_len {x : PredP} (h : predB x = true) (hn : nodes x.body ≤ 2000) : (predS x).length ≤ 4250000 := by
 unfold predB at h
 simp only [Bool.and_eq_true, decide_eq_true_eq, List.all_eq_true] at h
 have h1 := nameB_len h.1.1.1
 have h2 := commasD_len x.params h.1.2
 have h3 := formS_len x.body h.2.2
 unfold predS nPred
 simp only [List.length_append, List.length_cons, List.length_nil]
 omega
theorem flat_le {α : Type} {f : α → List UInt8} {M : Nat} : ∀ l : List α, (∀ x ∈ l, (f x).length ≤ M) → (l.flatMap f).length ≤ M * l.length
 | [], _ => by simp
 | x :: r, h => by
   have h1 := h x (by simp)
   have h2 := flat_le r (fun y hy => h y (by simp [hy]))
   simp only [List.flatMap_cons, List.length_append, List.length_cons, Nat.mul_add] at h2 ⊢
   omega
theorem flat_snoc {α : Type} {f : α → List UInt8} {l : List α} {k : Nat} (hk : k < l.length) : (l.take (k + 1)).flatMap f = (l.take k).flatMap f ++ f l[k] := by
 rw [List.take_succ_eq_append_getElem hk, List.flatMap_append]
 simp
abbrev declV (nm : List UInt8) (o a : Int) : Value := .agg #[.string ⟨nm.toArray⟩, .int .i64 o, .int .i64 a]
theorem box3 {w W : World} {nm : List UInt8} {o a : Int} (h : Below (w.heap.size + 1) (w.alloc (boxD nm o a)) W) :
  W.cell? ⟨w.heap.size, 0, none⟩ = some (.string ⟨nm.toArray⟩) ∧ W.cell? ⟨w.heap.size, 1, none⟩ = some (.int .i64 o) ∧ W.cell? ⟨w.heap.size, 2, none⟩ = some (.int .i64 a) :=
 ⟨box_at h 0 _ rfl, box_at h 1 _ rfl, box_at h 2 _ rfl⟩
set_option maxHeartbeats 2000000 in
theorem sdecl_any (nm : List UInt8) (o a : Int) (w : World) (h : declB ⟨nm, o, a⟩ = true) :
  Calls Tryd.prog 35 #[declV nm o a] w fun e w' => e = .returned (.string ⟨(declS ⟨nm, o, a⟩).toArray⟩) ∧ Below w.heap.size w w' := by
 have hl := declB_len h
 unfold declB at h
 simp only [Bool.and_eq_true, decide_eq_true_eq] at h
 obtain ⟨⟨_, h0⟩, h2⟩ := h
 have HD := Lib.hid (fun (W : World) => itoa_any o.toNat (by omega) W)
 rw [show ((o.toNat : Nat) : Int) = o by omega] at HD
 have HF := Lib.hid (show [118, 97, 114] ++ dig o.toNat ++ [32] ++ nm = declS ⟨nm, o, a⟩ from rfl)
 rw [← HF.out] at hl
 simp only [List.length_append, List.length_cons, List.length_nil] at hl
 generalize declS ⟨nm, o, a⟩ = V at *
 generalize dig o.toNat = D at *
 obtain ⟨T1, hadd1, hT1⟩ := add_ex ⟨#[118, 97, 114]⟩ ⟨D.toArray⟩ (X := [118, 97, 114]) (Y := D) rfl rfl (by simp only [List.length_cons, List.length_nil]; omega)
 obtain ⟨T2, hadd2, hT2⟩ := add_ex T1 ⟨#[32]⟩ (Y := [32]) hT1 rfl (by simp only [List.length_append, List.length_cons, List.length_nil]; omega)
 obtain ⟨T3, hadd3, hT3⟩ := add_ex T2 ⟨nm.toArray⟩ (Y := nm) hT2 rfl (by simp only [List.length_append, List.length_cons, List.length_nil]; omega)
 have HE := Lib.hid (show T3 = ⟨V.toArray⟩ from bytes_of (hT3.trans HF.out))
 clear hT1 hT2 hT3 hl h0 h2
 have HSS := Lib.hid (fun (W : World) (hW : Below (w.heap.size + 1) (w.alloc (boxD nm o a)) W) => (⟨hW, box3 hW⟩ : (fun W : World => Below (w.heap.size + 1) (w.alloc (boxD nm o a)) W ∧ (W.cell? ⟨w.heap.size, 0, none⟩ = some (.string ⟨nm.toArray⟩) ∧ W.cell? ⟨w.heap.size, 1, none⟩ = some (.int .i64 o) ∧ W.cell? ⟨w.heap.size, 2, none⟩ = some (.int .i64 a))) W))
 have HW := Lib.hid (fun (W : World) (hW : Below (w.heap.size + 1) (w.alloc (boxD nm o a)) W) => fresh_w hW)
 have HB0 := Lib.hid (Below.refl (w.heap.size + 1) (w.alloc (boxD nm o a)))
 go_enter Tryd.func35, Tryd.ntmps35
 go_upto_region 1 with fail
 generalize w.alloc _ = Z at *
 go_region_held3 (fun W : World => Below (w.heap.size + 1) Z W ∧ (W.cell? ⟨w.heap.size, 0, none⟩ = some (.string ⟨nm.toArray⟩) ∧ W.cell? ⟨w.heap.size, 1, none⟩ = some (.int .i64 o) ∧ W.cell? ⟨w.heap.size, 2, none⟩ = some (.int .i64 a))) (first | assumption | exact HSS.out _ HB0.out.drew | exact HSS.out _ HB0.out) (
  (go_at_call 28
   refine (HD.out _).mono ?_
   rintro e w4 ⟨rfl, rfl⟩))
 all_goals
  have hh := (show Below (w.heap.size + 1) Z _ ∧ _ by assumption).1
  go_wp2_with fail
  go_ret
  exact ⟨congrArg (fun x : ByteArray => Ending.returned (.string x)) HE.out, HW.out _ hh⟩
end Go.Proofs.YteikakoheibnjaaDoor
namespace Go.Proofs.YteikakoheibnjaaDoor
open Go

-- a node without places
mutual
def ers : Node → Node
 | .node o s n _ ks => .node o s n 0 (ersL ks)
def ersL : List Node → List Node
 | [] => []
 | x :: r => ers x :: ersL r
end
theorem ersL_map : ∀ ks, ersL ks = ks.map ers
 | [] => by simp [ersL]
 | x :: r => by rw [ersL, ersL_map r, List.map_cons]
theorem ers_node (o s : List UInt8) (n p : Int) (ks : List Node) : ers (.node o s n p ks) = .node o s n 0 (ks.map ers) := by rw [ers, ersL_map]

-- behind an error nothing is read
section
variable {l : List Tok} {s : PS}
theorem now_er (h : s.e ≠ 0) : nowP l s = ⟨4, [], 0, 0⟩ := by unfold nowP; rw [if_neg h]
theorem isW_er (h : s.e ≠ 0) (x : List UInt8) : isW l s x = false := by unfold isW; rw [now_er h]; rfl
theorem failP_er (h : s.e ≠ 0) (p e : Nat) : failP s p e = s := by unfold failP; rw [if_neg h]
theorem mustP_er (h : s.e ≠ 0) (x : List UInt8) : mustP l s x = s := by unfold mustP; rw [isW_er h, if_neg (by decide), failP_er h]
end
def keepsE (u : PS → Node × PS) : Prop := ∀ s : PS, s.e ≠ 0 → (u s).2 = s
theorem formulaP_keeps {l : List Tok} {u : PS → Node × PS} (k : Nat) : keepsE (formulaP l u k) := fun s h => by
 have e : enterP l k s = s := by
  unfold enterP
  split
  · exact failP_er h _ _
  · rfl
 unfold formulaP
 rw [e, if_neg h]
-- the next token
abbrev st (i a : Nat) : PS := ⟨i, 0, a⟩
section
variable {l : List Tok} {i a : Nat} {x : TS} {r : List TS}
theorem now_at (h : (l.drop i).map spec = x :: r) : spec (nowP l (st i a)) = x ∧ (l.drop (i + 1)).map spec = r ∧ i < l.length := by
 have hi : i < l.length := by
  rcases Nat.lt_or_ge i l.length with h1 | h1
  · exact h1
  · rw [List.drop_eq_nil_of_le h1] at h
    cases h
 rw [List.drop_eq_getElem_cons hi, List.map_cons] at h
 injection h with h1 h2
 refine ⟨?_, h2, hi⟩
 unfold nowP
 rw [if_pos rfl]
 simp only
 rw [List.getD_eq_getElem?_getD, List.getElem?_eq_getElem hi]
 exact h1
theorem kind_at (h : (l.drop i).map spec = x :: r) : (nowP l (st i a)).kind = x.1 := congrArg (·.1) (now_at (a := a) h).1
theorem text_at (h : (l.drop i).map spec = x :: r) : (nowP l (st i a)).text = x.2.1 := congrArg (·.2.1) (now_at (a := a) h).1
theorem num_at (h : (l.drop i).map spec = x :: r) : (nowP l (st i a)).n = x.2.2 := congrArg (·.2.2) (now_at (a := a) h).1
theorem isW_at (h : (l.drop i).map spec = x :: r) (y : List UInt8) : isW l (st i a) y = (x.1 == 3 && x.2.1 == y) := by
 unfold isW
 rw [kind_at h, text_at h]
theorem next_at (h : (l.drop i).map spec = x :: r) (h4 : x.1 ≠ 4) : nextP l (st i a) = st (i + 1) a := by
 unfold nextP
 rw [kind_at h, if_pos ⟨rfl, h4⟩]
theorem take_no (h : (l.drop i).map spec = x :: r) (y : List UInt8) (hy : (x.1 == 3 && x.2.1 == y) = false) : takeP l (st i a) y = (false, st i a) := by
 unfold takeP
 rw [isW_at h, hy]
 rfl
theorem take_yes {y : List UInt8} (h : (l.drop i).map spec = (3, y, 0) :: r) : takeP l (st i a) y = (true, st (i + 1) a) := by
 unfold takeP
 rw [isW_at h, next_at h (by simp)]
 simp
theorem must_yes {y : List UInt8} (h : (l.drop i).map spec = (3, y, 0) :: r) : mustP l (st i a) y = st (i + 1) a := by
 unfold mustP
 rw [isW_at h, next_at h (by simp)]
 simp
theorem name_yes {y : List UInt8} (h : (l.drop i).map spec = (1, y, 0) :: r) : ∃ p, nameP l (st i a) = (⟨1, y, 0, p⟩, st (i + 1) a) := by
 unfold nameP
 rw [kind_at h, if_pos rfl, next_at h (by simp)]
 have e := (now_at (a := a) h).1
 refine ⟨(nowP l (st i a)).at_, ?_⟩
 generalize nowP l (st i a) = t at *
 obtain ⟨k, y', n, p⟩ := t
 simp only [spec, Prod.mk.injEq] at e
 obtain ⟨rfl, rfl, rfl⟩ := e
 rfl
theorem drop_app {ts : List TS} : ∀ {i : Nat}, (l.drop i).map spec = ts ++ r → (l.drop (i + ts.length)).map spec = r := by
 intro i h
 have := congrArg (List.drop ts.length) h
 rw [← List.map_drop, List.drop_drop, List.drop_left] at this
 exact this
end
theorem pair_st (n : Node) {i j a : Nat} (h : i = j) : (n, st i a) = (n, st j a) := by rw [h]
def goes (p : List UInt8 → Bool) (r : List TS) : Prop := ∃ x r', r = (3, x, 0) :: r' ∧ p x = true
def okPart (x : List UInt8) : Bool := x != [43]
def okTerm (x : List UInt8) : Bool := x != [43] && x != nUnion && x != nInter && x != [92] && x != [40]
def okForm (x : List UInt8) : Bool := x == [38] || x == [124] || x == [61, 62] || x == [60, 61, 62] || x == [41] || x == [59]
def Parses (l : List Tok) (g : PS → Node × PS) (ok : List UInt8 → Bool) (ts : List TS) (t : Node) : Prop :=
 ∀ i a r, (l.drop i).map spec = ts ++ r → goes ok r → ∃ t', g (st i a) = (t', st (i + ts.length) a) ∧ ers t' = ers t
def isPart (o : List UInt8) : Bool := o == nVar || o == nNum || o == nPlus
theorem partName_var {l : List Tok} {i a : Nat} {s : List UInt8} {r : List TS} (h : (l.drop i).map spec = (1, s, 0) :: r) (hr : goes okPart r) : ∃ p, partName l (st i a) = (.node nVar s 0 p [], st (i + 1) a) := by
 obtain ⟨x, r', rfl, hx⟩ := hr
 have h1 := now_at (a := a) h
 have ht := take_no (l := l) (i := i + 1) (a := a) h1.2.1 [43] (by unfold okPart at hx; simpa using hx)
 unfold partName
 simp only [next_at h (by simp), ht]
 rw [if_neg (by decide), text_at h]
 exact ⟨_, rfl⟩
theorem partName_plus {l : List Tok} {i a n : Nat} {s : List UInt8} {r : List TS} (h : (l.drop i).map spec = (1, s, 0) :: (3, [43], 0) :: (2, [], n) :: r) (hn : n ≠ 0) :
  ∃ p, partName l (st i a) = (.node nPlus [] n p [.node nVar s 0 p []], st (i + 3) a) := by
 have h1 := now_at (a := a) h
 have ht := take_yes (l := l) (i := i + 1) (a := a) h1.2.1
 have h2 := now_at (a := a) h1.2.1
 unfold partName
 simp only [next_at h (by simp), ht]
 rw [if_pos (by decide), kind_at h2.2.1, num_at h2.2.1, if_neg (by simpa using hn), next_at h2.2.1 (by simp), text_at h]
 exact ⟨_, rfl⟩
theorem nil_of {ks : List Node} (h : ks.length = 0) : ks = [] := List.eq_nil_of_length_eq_zero h
theorem toNat_of {n : Int} (h : 0 ≤ n) : ((n.toNat : Nat) : Int) = n := by omega
theorem part_name {l : List Tok} {o s : List UInt8} {n p : Int} {ks : List Node} (h : termB (.node o s n p ks) = true) (ho : o = nVar ∨ o = nPlus) :
  ∃ x rest, tkT (.node o s n p ks) = (1, x, 0) :: rest ∧ Parses l (partName l) okPart (tkT (.node o s n p ks)) (.node o s n p ks) := by
 rcases ho with rfl | rfl
 · rw [termB, if_pos rfl] at h
   obtain ⟨_, h2, h3, h4, _⟩ := hasB_name h
   have h4 := h4 rfl
   have h2 := nil_of h2
   subst h2
   subst h4
   have e : tkT (.node nVar s 0 p []) = [(1, s, 0)] := by rw [tkT, if_pos rfl]
   refine ⟨s, [], e, fun i a r hl hr => ?_⟩
   rw [e] at hl ⊢
   obtain ⟨q, hq⟩ := partName_var (a := a) hl hr
   exact ⟨_, hq, by rw [ers_node, ers_node]⟩
 · rw [termB, if_neg (by decide), if_neg (by decide), if_pos rfl] at h
   simp only [Bool.and_eq_true, decide_eq_true_eq] at h
   obtain ⟨⟨⟨⟨h1, hn1⟩, hn2⟩, hv⟩, hk⟩ := h
   obtain ⟨_, h2, h3, h4, _⟩ := hasB_name h1
   have h3 := h3 rfl
   subst h3
   obtain ⟨x, rfl⟩ := one_kid h2
   cases x with
   | node o1 s1 n1 p1 ks1 =>
     simp only [List.all_cons, List.all_nil, Bool.and_true, decide_eq_true_eq] at hv
     have hv : o1 = nVar := hv
     subst hv
     rw [termsB, termsB, Bool.and_true, termB, if_pos rfl] at hk
     obtain ⟨_, k2, k3, k4, _⟩ := hasB_name hk
     have k4 := k4 rfl
     have k2 := nil_of k2
     subst k2
     subst k4
     have e : tkT (.node nPlus [] n p [.node nVar s1 0 p1 []]) = [(1, s1, 0), (3, [43], 0), (2, [], n.toNat)] := by
      rw [tkT, if_neg (by decide), if_neg (by decide), if_pos rfl, tkTL, List.getD_cons_zero, tkT, if_pos rfl]
      rfl
     refine ⟨s1, _, e, fun i a r hl hr => ?_⟩
     rw [e] at hl ⊢
     obtain ⟨q, hq⟩ := partName_plus (a := a) (r := r) hl (by omega)
     refine ⟨_, hq, ?_⟩
     rw [ers_node, ers_node, toNat_of (by omega)]
     simp only [List.map_cons, List.map_nil, ers_node]
theorem part_num {l : List Tok} {s : List UInt8} {n p : Int} {ks : List Node} (h : termB (.node nNum s n p ks) = true) :
  tkT (.node nNum s n p ks) = [(2, [], n.toNat)] ∧ ∃ x, ers x = ers (.node nNum s n p ks) ∧ ∀ i a r, (l.drop i).map spec = (2, [], n.toNat) :: r → (nowP l (st i a)).kind = 2 ∧ ∃ q, ers (.node nNum [] (nowP l (st i a)).n q []) = ers x ∧ nextP l (st i a) = st (i + 1) a := by
 rw [termB, if_neg (by decide), if_pos rfl] at h
 simp only [Bool.and_eq_true, decide_eq_true_eq] at h
 obtain ⟨_, h2, h3, h4, _⟩ := hasB_name h.1.1
 have h3 := h3 rfl
 have h2 := nil_of h2
 subst h2
 subst h3
 refine ⟨by rw [tkT, if_neg (by decide), if_pos rfl], _, rfl, fun i a r hl => ⟨kind_at hl, 0, ?_, next_at hl (by simp)⟩⟩
 rw [num_at hl, ers_node, ers_node, toNat_of h.1.2]
theorem partT_parses {l : List Tok} (t : Node) (h : termB t = true) (ho : isPart t.op = true) : Parses l (partT l) okPart (tkT t) t := by
 cases t with
 | node o s n p ks =>
   have ho : isPart o = true := ho
   unfold isPart at ho
   simp only [Bool.or_eq_true, beq_iff_eq] at ho
   by_cases hnum : o = nNum
   · subst hnum
     obtain ⟨e, x, hx, hp⟩ := part_num (l := l) h
     intro i a r hl hr
     rw [e] at hl ⊢
     obtain ⟨h1, q, h2, h3⟩ := hp i a r hl
     unfold partT
     simp only
     rw [if_neg (by rw [h1]; decide), if_pos h1, h3]
     refine ⟨_, rfl, ?_⟩
     rw [← hx, ← h2, ers_node, ers_node]
   · have ho2 : o = nVar ∨ o = nPlus := by
      rcases ho with (h | h) | h
      · exact Or.inl h
      · exact absurd h hnum
      · exact Or.inr h
     obtain ⟨x, rest, e, hp⟩ := part_name (l := l) h ho2
     intro i a r hl hr
     have hk : (nowP l (st i a)).kind = 1 := by
      rw [e] at hl
      exact kind_at hl
     unfold partT
     simp only
     rw [if_pos hk]
     exact hp i a r hl hr
theorem tkT_head : ∀ t : Node, termB t = true → ∃ x r, tkT t = x :: r ∧ (x.1 = 1 ∨ x.1 = 2 ∨ x = (3, [123], 0)) ∧ (∀ y r', r = y :: r' → ¬ (y.1 = 3 ∧ y.2.1 = [40])) ∧ (r = [] → True) := by
 intro t
 induction t using Node.ind with
 | h o s n p ks ih =>
   intro h
   rw [termB] at h
   rw [tkT, tkTL_map]
   by_cases h1 : o = nVar
   · rw [if_pos h1]
     exact ⟨_, _, rfl, Or.inl rfl, fun y r' e => (by cases e), fun _ => trivial⟩
   rw [if_neg h1] at h ⊢
   by_cases h2 : o = nNum
   · rw [if_pos h2]
     exact ⟨_, _, rfl, Or.inr (Or.inl rfl), fun y r' e => (by cases e), fun _ => trivial⟩
   rw [if_neg h2] at h ⊢
   by_cases h3 : o = nPlus
   · rw [if_pos h3] at h ⊢
     simp only [Bool.and_eq_true, decide_eq_true_eq] at h
     obtain ⟨x, rfl⟩ := one_kid (hasB_name h.1.1.1.1).2.1
     rw [termsB, termsB, Bool.and_true] at h
     obtain ⟨y, r, e, hy, hr, _⟩ := ih x (by simp) h.2
     refine ⟨y, r ++ [(3, [43], 0), (2, [], n.toNat)], by simp [e], hy, fun z r' ez => ?_, fun _ => trivial⟩
     cases r with
     | nil => rw [List.nil_append] at ez; injection ez with e1 _; rw [← e1]; decide
     | cons u v => rw [List.cons_append] at ez; injection ez with e1 _; rw [← e1]; exact hr u v rfl
   rw [if_neg h3] at h ⊢
   by_cases h4 : o = nSet
   · rw [if_pos h4] at h ⊢
     simp only [Bool.and_eq_true, decide_eq_true_eq] at h
     refine ⟨_, _, rfl, Or.inr (Or.inr rfl), fun z r' ez => ?_, fun _ => trivial⟩
     cases ks with
     | nil => simp only [List.map_nil, sepT, List.nil_append] at ez; injection ez with e1 _; rw [← e1]; decide
     | cons x ks =>
       rw [termsB, Bool.and_eq_true] at h
       obtain ⟨y, r, e, hy, hr, _⟩ := ih x (by simp) h.2.1
       have hz : z = y := by
        rw [List.map_cons, e] at ez
        cases hm : ks.map tkT with
        | nil => rw [hm] at ez; simp only [sepT, List.cons_append] at ez; injection ez with e1 _; exact e1.symm
        | cons u v => rw [hm] at ez; simp only [sepT, List.cons_append] at ez; injection ez with e1 _; exact e1.symm
       rw [hz]
       rcases hy with hy | hy | hy
       · intro e; rw [hy] at e; exact absurd e.1 (by decide)
       · intro e; rw [hy] at e; exact absurd e.1 (by decide)
       · rw [hy]; decide
   rw [if_neg h4] at h ⊢
   simp only [Bool.and_eq_true] at h
   obtain ⟨x, y, hxy, e1, e2⟩ := two_kids (f := tkT) (d := []) (hasB_name h.1.1.2).2.1
   rw [e1, e2]
   have hT := h.1.2
   rw [hxy, termsB, Bool.and_eq_true] at hT
   obtain ⟨z, r, e, hz, hr, _⟩ := ih x (by simp [hxy]) hT.1
   refine ⟨z, r ++ (3, signOf o, 0) :: tkT y, by simp [e], hz, fun u r' eu => ?_, fun _ => trivial⟩
   cases r with
   | nil =>
     rw [List.nil_append] at eu
     injection eu with e1 _
     rw [← e1]
     have := h.1.1.1
     unfold setOp at this
     simp only [Bool.or_eq_true, decide_eq_true_eq] at this
     rcases this with (rfl | rfl) | rfl <;> decide
   | cons u' v => rw [List.cons_append] at eu; injection eu with e1 _; rw [← e1]; exact hr u' v rfl
theorem rowF_parses {l : List Tok} {g : PS → Node × PS} {ok : List UInt8 → Bool} {stop : List UInt8} (hok1 : ok [44] = true) (hok2 : ok stop = true) (hs : stop ≠ [44]) :
  ∀ (ks : List Node) (acc : List Node) (f i a : Nat) (r : List TS), ks ≠ [] → acc.length + ks.length ≤ 6 → ks.length < f → (∀ k ∈ ks, Parses l g ok (tkT k) k) → (l.drop i).map spec = sepT (ks.map tkT) ++ (3, stop, 0) :: r →
    ∃ ks', rowF l g stop f acc (st i a) = (acc ++ ks', st (i + (sepT (ks.map tkT)).length + 1) a) ∧ ks'.map ers = ks.map ers := by
 intro ks
 induction ks with
 | nil => intro _ _ _ _ _ h; exact absurd rfl h
 | cons k ks ih =>
   intro acc f i a r _ h6 hf hp hl
   cases f with
   | zero => simp at hf
   | succ f =>
     simp only [List.length_cons] at h6 hf
     unfold rowF
     rw [if_pos rfl, if_neg (by omega)]
     cases ks with
     | nil =>
       simp only [List.map_cons, List.map_nil, sepT] at hl ⊢
       obtain ⟨t', e1, e2⟩ := hp k (by simp) i a _ hl ⟨stop, r, rfl, hok2⟩
       have hd := drop_app hl
       rw [e1]
       simp only
       have hn : ((3 : Nat) == 3 && stop == [44]) = false := by simpa using hs
       rw [take_no hd [44] hn]
       simp only
       rw [if_neg (by decide), must_yes hd]
       exact ⟨[t'], rfl, by simp [e2]⟩
     | cons k2 ks =>
       simp only [List.map_cons, sepT, List.append_assoc, List.cons_append] at hl ⊢
       obtain ⟨t', e1, e2⟩ := hp k (by simp) i a _ hl ⟨[44], _, rfl, hok1⟩
       have hd := drop_app hl
       rw [e1]
       simp only
       rw [take_yes hd]
       simp only
       rw [if_pos (by decide)]
       obtain ⟨ks', e3, e4⟩ := ih (acc ++ [t']) f (i + (tkT k).length + 1) a r (by simp) (by simp at h6 ⊢; omega) (by simp at hf ⊢; omega) (fun x hx => hp x (by simp [hx])) (by
        simpa only [List.map_cons] using (now_at (a := a) hd).2.1)
       refine ⟨t' :: ks', ?_, ?_⟩
       · rw [e3]
         simp only [List.map_cons, List.append_assoc, List.cons_append, List.nil_append, List.length_append, List.length_cons, Prod.mk.injEq, true_and]
         congr 1
         omega
       · simp only [List.map_cons, e2, e4]
theorem rowP_parses {l : List Tok} {g : PS → Node × PS} {ok : List UInt8 → Bool} {stop : List UInt8} (hok1 : ok [44] = true) (hok2 : ok stop = true) (hs : stop = [125] ∨ stop = [41])
  (ks : List Node) (i a : Nat) (r : List TS) (h6 : ks.length ≤ 6) (hT : termsB ks = true) (hp : ∀ k ∈ ks, Parses l g ok (tkT k) k) (hl : (l.drop i).map spec = sepT (ks.map tkT) ++ (3, stop, 0) :: r) :
  ∃ ks', rowP l g stop (st i a) = (ks', st (i + (sepT (ks.map tkT)).length + 1) a) ∧ ks'.map ers = ks.map ers := by
 unfold rowP
 cases ks with
 | nil =>
   simp only [List.map_nil, sepT, List.nil_append] at hl ⊢
   rw [take_yes hl]
   simp only
   rw [if_pos (by decide)]
   exact ⟨[], rfl, rfl⟩
 | cons k ks =>
   have hT1 : termB k = true := by rw [termsB, Bool.and_eq_true] at hT; exact hT.1
   obtain ⟨x, r', e, hx, _⟩ := tkT_head k hT1
   have hd : ∃ r2, (l.drop i).map spec = x :: r2 := by
    rw [hl, List.map_cons, e]
    cases hm : ks.map tkT with
    | nil => simp only [sepT, List.cons_append]; exact ⟨_, rfl⟩
    | cons u v => simp only [sepT, List.cons_append]; exact ⟨_, rfl⟩
   obtain ⟨r2, hd⟩ := hd
   have hn : (x.1 == 3 && x.2.1 == stop) = false := by
    rcases hx with hx | hx | hx
    · rw [hx]; rfl
    · rw [hx]; rfl
    · rw [hx]
      rcases hs with rfl | rfl <;> decide
   rw [take_no hd stop hn]
   simp only
   rw [if_neg (by decide)]
   obtain ⟨ks', e3, e4⟩ := rowF_parses hok1 hok2 (by rcases hs with rfl | rfl <;> decide) (k :: ks) [] 8 i a r (by simp) (by simpa using h6) (by omega) hp hl
   exact ⟨ks', by rw [e3]; rfl, e4⟩
theorem part_parses {l : List Tok} (t : Node) (h : termB t = true) (ho : setOp t.op = false) : Parses l (part l) okPart (tkT t) t := by
 cases t with
 | node o s n p ks =>
   have ho : setOp o = false := ho
   by_cases hset : o = nSet
   · subst hset
     intro i a r hl hr
     rw [termB, if_neg (by decide), if_neg (by decide), if_neg (by decide), if_pos rfl] at h
     simp only [Bool.and_eq_true, decide_eq_true_eq, Bool.not_eq_true'] at h
     obtain ⟨⟨⟨h1, h2⟩, h3⟩, h4⟩ := h
     obtain ⟨_, _, s0, n0, _⟩ := hasB_name h2
     have s0 := s0 rfl
     have n0 := n0 rfl
     subst s0
     subst n0
     have e : tkT (.node nSet [] 0 p ks) = (3, [123], 0) :: (sepT (ks.map tkT) ++ [(3, [125], 0)]) := by rw [tkT, if_neg (by decide), if_neg (by decide), if_neg (by decide), if_pos rfl, tkTL_map]
     rw [e] at hl ⊢
     simp only [List.cons_append, List.append_assoc, List.nil_append] at hl
     have hn := now_at (a := a) hl
     obtain ⟨ks', e1, e2⟩ := rowP_parses (l := l) (g := partT l) (ok := okPart) (stop := [125]) (by decide) (by decide) (Or.inl rfl) ks (i + 1) a r h3 h4 (fun k hk => by
      rw [termsB_all, List.all_eq_true] at h4
      refine partT_parses k (h4 k hk) ?_
      have hk2 : (setOp k.op || decide (k.op = nSet)) = false := by
       rw [List.any_eq_false] at h1
       simpa using h1 k hk
      have hk3 := h4 k hk
      cases k with
      | node ko ks2 kn kp kks =>
        have hk2 : (setOp ko || decide (ko = nSet)) = false := hk2
        rw [Bool.or_eq_false_iff, decide_eq_false_iff_not] at hk2
        show isPart ko = true
        unfold isPart
        rw [termB] at hk3
        by_cases c1 : ko = nVar
        · subst c1; decide
        rw [if_neg c1] at hk3
        by_cases c2 : ko = nNum
        · subst c2; decide
        rw [if_neg c2] at hk3
        by_cases c3 : ko = nPlus
        · subst c3; decide
        rw [if_neg c3, if_neg hk2.2, hk2.1] at hk3
        simp at hk3) hn.2.1
     unfold part
     simp only
     rw [if_neg (by rw [kind_at hl]; decide), if_neg (by rw [kind_at hl]; decide), isW_at hl, if_pos (by decide), next_at hl (by simp), e1]
     refine ⟨_, pair_st _ ?_, ?_⟩
     · simp only [List.length_cons, List.length_append, List.length_nil]
       omega
     · simp only [ers_node, e2]
   · have hp : isPart o = true := by
      unfold isPart
      rw [termB] at h
      by_cases c1 : o = nVar
      · subst c1; decide
      rw [if_neg c1] at h
      by_cases c2 : o = nNum
      · subst c2; decide
      rw [if_neg c2] at h
      by_cases c3 : o = nPlus
      · subst c3; decide
      rw [if_neg c3, if_neg hset, ho] at h
      simp at h
     intro i a r hl hr
     obtain ⟨t', e1, e2⟩ := partT_parses (l := l) (.node o s n p ks) h hp i a r hl hr
     refine ⟨t', ?_, e2⟩
     rw [← e1]
     obtain ⟨x, r', e, hx, _⟩ := tkT_head (.node o s n p ks) h
     rw [e] at hl
     unfold part partT
     simp only
     rcases hx with hx | hx | hx
     · rw [if_pos (by rw [kind_at hl, hx]), if_pos (by rw [kind_at hl, hx])]
     · rw [if_neg (by rw [kind_at hl, hx]; decide), if_pos (by rw [kind_at hl, hx]), if_neg (by rw [kind_at hl, hx]; decide), if_pos (by rw [kind_at hl, hx])]
     · exfalso
       unfold isPart at hp
       simp only [Bool.or_eq_true, beq_iff_eq] at hp
       rcases hp with (rfl | rfl) | rfl
       · obtain ⟨y, _, e', _⟩ := part_name (l := l) h (Or.inl rfl)
         rw [e] at e'
         injection e' with e'
         rw [hx] at e'
         cases e'
       · rw [(part_num (l := l) h).1] at e
         injection e with e'
         rw [hx] at e'
         cases e'
       · obtain ⟨y, _, e', _⟩ := part_name (l := l) h (Or.inr rfl)
         rw [e] at e'
         injection e' with e'
         rw [hx] at e'
         cases e'
theorem termP_goes {l : List Tok} : ∀ t : Node, termB t = true → ∀ i a r, (l.drop i).map spec = tkT t ++ r → goes okPart r →
  ∃ t' f, termP l (st i a) = termF l f t' (st (i + (tkT t).length) a) ∧ l.length + 1 ≤ f + (tkT t).length ∧ ers t' = ers t := by
 intro t
 induction t using Node.ind with
 | h o s n p ks ih =>
   intro h i a r hl hr
   by_cases ho : setOp o = true
   · have hb := h
     rw [termB] at h
     have c1 : ¬ o = nVar := by rintro rfl; revert ho; decide
     have c2 : ¬ o = nNum := by rintro rfl; revert ho; decide
     have c3 : ¬ o = nPlus := by rintro rfl; revert ho; decide
     have c4 : ¬ o = nSet := by rintro rfl; revert ho; decide
     rw [if_neg c1, if_neg c2, if_neg c3, if_neg c4] at h
     simp only [Bool.and_eq_true, Bool.not_eq_true'] at h
     obtain ⟨⟨⟨_, h2⟩, h3⟩, h4⟩ := h
     obtain ⟨_, hlen, s0, n0, _⟩ := hasB_name h2
     have s0 := s0 rfl
     have n0 := n0 rfl
     subst s0
     subst n0
     obtain ⟨x, y, hxy, e1, e2⟩ := two_kids (f := tkT) (d := []) hlen
     subst hxy
     have e : tkT (.node o [] 0 p [x, y]) = tkT x ++ (3, signOf o, 0) :: tkT y := by
      rw [tkT, if_neg c1, if_neg c2, if_neg c3, if_neg c4, tkTL_map, e1, e2]
     rw [e] at hl ⊢
     rw [List.append_assoc, List.cons_append] at hl
     rw [termsB, termsB, termsB, Bool.and_true, Bool.and_eq_true] at h3
     simp only [List.drop_succ_cons, List.drop_zero, List.any_cons, List.any_nil, Bool.or_false] at h4
     have hsg : okPart (signOf o) = true := by
      unfold setOp at ho
      simp only [Bool.or_eq_true, decide_eq_true_eq] at ho
      rcases ho with (rfl | rfl) | rfl <;> decide
     obtain ⟨x', f, g1, g2, g3⟩ := ih x (by simp) h3.1 i a _ hl ⟨_, _, rfl, hsg⟩
     have hd := drop_app hl
     have hn := now_at (a := a) hd
     obtain ⟨y', k1, k2⟩ := part_parses (l := l) y h3.2 h4 (i + (tkT x).length + 1) a r hn.2.1 hr
     have hf : 1 ≤ f := by have := hn.2.2; omega
     obtain ⟨f', rfl⟩ : ∃ f', f = f' + 1 := ⟨f - 1, by omega⟩
     refine ⟨.node o [] 0 (nowP l (st (i + (tkT x).length) a)).at_ [x', y'], f', ?_, ?_, ?_⟩
     · rw [g1]
       conv => lhs; unfold termF
       rw [if_pos rfl]
       simp only
       have hidx : i + (tkT x).length + 1 + (tkT y).length = i + (tkT x ++ (3, signOf o, 0) :: tkT y).length := by simp <;> omega
       unfold setOp at ho
       simp only [Bool.or_eq_true, decide_eq_true_eq] at ho
       rw [isW_at hd, isW_at hd, isW_at hd, next_at hd (by simp), k1, hidx, text_at hd]
       rcases ho with (rfl | rfl) | rfl
       · rw [if_pos (by decide)]
         rfl
       · rw [if_pos (by decide)]
         rfl
       · rw [if_neg (by decide), if_pos (by decide)]
     · simp only [List.length_append, List.length_cons]
       omega
     · simp only [ers_node, List.map_cons, List.map_nil, g3, k2]
   · have ho : setOp o = false := by simpa using ho
     obtain ⟨t', e1, e2⟩ := part_parses (l := l) (.node o s n p ks) h ho i a r hl hr
     refine ⟨t', l.length + 1, ?_, by omega, e2⟩
     unfold termP
     rw [e1]
theorem termP_parses {l : List Tok} (t : Node) (h : termB t = true) : Parses l (termP l) okTerm (tkT t) t := by
 intro i a r hl hr
 obtain ⟨x, r', rfl, hx⟩ := hr
 have hx' := hx
 unfold okTerm at hx
 simp only [Bool.and_eq_true, bne_iff_ne, ne_eq] at hx
 obtain ⟨t', f, e1, _, e2⟩ := termP_goes t h i a _ hl ⟨x, r', rfl, by unfold okPart; simpa using hx.1.1.1.1⟩
 have hd := drop_app hl
 refine ⟨t', ?_, e2⟩
 rw [e1]
 cases f with
 | zero => rfl
 | succ f =>
   unfold termF
   rw [if_pos rfl]
   simp only
   rw [isW_at hd, isW_at hd, isW_at hd, if_neg (by simp [hx.1.1.1.2, hx.1.1.2]), if_neg (by simp [hx.1.2])]
-- formulas
theorem okForm_all {x : List UInt8} (h : okForm x = true) : okTerm x = true ∧ x ≠ [61] ∧ x ≠ [126, 61] ∧ x ≠ [60] ∧ x ≠ [60, 61] ∧ x ≠ nIn ∧ x ≠ nNotin ∧ x ≠ nSub := by
 unfold okForm at h
 simp only [Bool.or_eq_true, beq_iff_eq] at h
 rcases h with ((((rfl | rfl) | rfl) | rfl) | rfl) | rfl <;> decide
theorem relP_none {l : List Tok} {i a : Nat} {x : List UInt8} {r : List TS} (h : (l.drop i).map spec = (3, x, 0) :: r) (hx : okForm x = true) : relP l (st i a) = [] := by
 obtain ⟨_, h1, h2, h3, h4, h5, h6, h7⟩ := okForm_all hx
 unfold relP
 simp only [isW_at h]
 simp [h1, h2, h3, h4, h5, h6, h7]
theorem getD_at {l : List Tok} {i : Nat} {x : TS} {r : List TS} (h : (l.drop i).map spec = x :: r) : spec (l.getD i ⟨4, [], 0, 0⟩) = x := by
 have := (now_at (a := 0) h).1
 unfold nowP at this
 rw [if_pos rfl] at this
 exact this
theorem atom_parses {l : List Tok} (t : Node) (h : formB t = true) (ho : t.op = nIs ∨ t.op = nCall ∨ relOp t.op = true) : Parses l (atomP l) okForm (tkF t) t := by
 cases t with
 | node o s n p ks =>
   have ho : o = nIs ∨ o = nCall ∨ relOp o = true := ho
   intro i a r hl hr
   rw [formB] at h
   rw [tkF, tkTL_map, tkFL_map] at hl ⊢
   by_cases c5 : o = nIs
   · subst c5
     rw [if_neg (by decide), if_neg (by decide), if_neg (by decide), if_neg (by decide), if_pos rfl] at h hl ⊢
     obtain ⟨_, h2, _, h4, _⟩ := hasB_name h
     have h4 := h4 rfl
     have h2 := nil_of h2
     subst h2
     subst h4
     obtain ⟨x, r', rfl, hx⟩ := hr
     simp only [List.cons_append, List.nil_append] at hl
     have hn := now_at (a := a) hl
     have hx2 := (okForm_all hx).1
     obtain ⟨t', e1, e2⟩ := termP_parses (l := l) (.node nVar s 0 0 []) (by rw [termB, if_pos rfl]; exact h) i a _ (by rw [tkT, if_pos rfl]; exact hl) ⟨x, r', rfl, hx2⟩
     rw [tkT, if_pos rfl] at e1
     have e3 : tkT (.node nVar s 0 0 []) = [(1, s, 0)] := by rw [tkT, if_pos rfl]
     unfold atomP
     simp only
     have hg := getD_at (l := l) (i := i + 1) hn.2.1
     rw [if_neg (fun hh => by
      have := congrArg (·.2.1) hg
      rw [show (spec (l.getD (i + 1) ⟨4, [], 0, 0⟩)).2.1 = (l.getD (i + 1) ⟨4, [], 0, 0⟩).text from rfl, hh.2.2] at this
      simp only at this
      rw [← this] at hx2
      revert hx2
      decide), e1]
     simp only [List.length_cons, List.length_nil, Nat.zero_add]
     rw [relP_none hn.2.1 hx, if_neg (by simp)]
     cases t' with
     | node o' s' n' p' ks' =>
       rw [ers_node, ers_node] at e2
       injection e2 with i1 i2 i3 i4 i5
       subst i1
       subst i2
       refine ⟨.node nIs s' 0 (nowP l (st i a)).at_ [], ?_, ?_⟩
       · rw [if_pos (show (Node.node nVar s' n' p' ks').op = nVar from rfl)]
         rfl
       · simp only [ers_node, List.map_nil]
   by_cases c7 : o = nCall
   · subst c7
     rw [if_neg (by decide), if_neg (by decide), if_neg (by decide), if_neg (by decide), if_neg (by decide), if_neg (by decide), if_pos rfl] at h
     rw [if_neg (by decide), if_neg (by decide), if_neg (by decide), if_neg (by decide), if_neg (by decide), if_pos rfl] at hl ⊢
     simp only [Bool.and_eq_true, decide_eq_true_eq] at h
     obtain ⟨_, _, _, n0, _⟩ := hasB_name h.1.1
     have n0 := n0 rfl
     subst n0
     simp only [List.cons_append, List.append_assoc, List.nil_append] at hl
     have hn := now_at (a := a) hl
     have hn2 := now_at (a := a) hn.2.1
     have hg := getD_at (l := l) (i := i + 1) hn.2.1
     obtain ⟨ks', e1, e2⟩ := rowP_parses (l := l) (g := termP l) (ok := okTerm) (stop := [41]) (by decide) (by decide) (Or.inr rfl) ks (i + 1 + 1) a r h.1.2 h.2 (fun k hk => by
      have h4 := h.2
      rw [termsB_all, List.all_eq_true] at h4
      exact termP_parses k (h4 k hk)) hn2.2.1
     unfold atomP
     simp only
     rw [if_pos ⟨kind_at hl, congrArg (·.1) hg, congrArg (·.2.1) hg⟩, next_at hl (by simp), next_at hn.2.1 (by simp), e1, text_at hl]
     refine ⟨_, pair_st _ ?_, ?_⟩
     · simp only [List.length_cons, List.length_append, List.length_nil]
       omega
     · simp only [ers_node, e2]
   have c6 : relOp o = true := by
    rcases ho with h | h | h
    · exact absurd h c5
    · exact absurd h c7
    · exact h
   have hnot : ¬ (o = nTrue ∨ o = nFalse) ∧ ¬ o = nNot ∧ ¬ binOp o = true ∧ ¬ (o = nEx ∨ o = nAll) := by
    unfold relOp at c6
    simp only [Bool.or_eq_true, decide_eq_true_eq] at c6
    rcases c6 with (((((rfl | rfl) | rfl) | rfl) | rfl) | rfl) | rfl <;> decide
   rw [if_neg hnot.1, if_neg hnot.2.1, if_neg hnot.2.2.1, if_neg hnot.2.2.2, if_neg c5, if_pos c6] at h
   rw [if_neg hnot.1, if_neg hnot.2.1, if_neg hnot.2.2.1, if_neg hnot.2.2.2, if_neg c5, if_neg c7] at hl ⊢
   simp only [Bool.and_eq_true] at h
   obtain ⟨_, hlen, s0, n0, _⟩ := hasB_name h.1
   have s0 := s0 rfl
   have n0 := n0 rfl
   subst s0
   subst n0
   obtain ⟨x, y, hxy, e1, e2⟩ := two_kids (f := tkT) (d := []) hlen
   subst hxy
   rw [e1, e2] at hl ⊢
   have hT := h.2
   rw [termsB, termsB, termsB, Bool.and_true, Bool.and_eq_true] at hT
   rw [List.append_assoc, List.cons_append] at hl
   have hsg : okTerm (signOf o) = true ∧ signOf o ≠ [40] := by
    unfold relOp at c6
    simp only [Bool.or_eq_true, decide_eq_true_eq] at c6
    rcases c6 with (((((rfl | rfl) | rfl) | rfl) | rfl) | rfl) | rfl <;> decide
   obtain ⟨x', f1, f2⟩ := termP_parses (l := l) x hT.1 i a _ hl ⟨_, _, rfl, hsg.1⟩
   have hd := drop_app hl
   have hn := now_at (a := a) hd
   obtain ⟨z, r', rfl, hz⟩ := hr
   obtain ⟨y', g1, g2⟩ := termP_parses (l := l) y hT.2 (i + (tkT x).length + 1) a _ hn.2.1 ⟨z, r', rfl, (okForm_all hz).1⟩
   have hrel : relP l (st (i + (tkT x).length) a) = o := by
    unfold relP
    simp only [isW_at hd]
    unfold relOp at c6
    simp only [Bool.or_eq_true, decide_eq_true_eq] at c6
    rcases c6 with (((((rfl | rfl) | rfl) | rfl) | rfl) | rfl) | rfl <;> decide
   have hne : o ≠ [] := by rintro rfl; revert c6; decide
   have hno : ¬ ((nowP l (st i a)).kind = 1 ∧ (l.getD (i + 1) ⟨4, [], 0, 0⟩).kind = 3 ∧ (l.getD (i + 1) ⟨4, [], 0, 0⟩).text = [40]) := by
    rintro ⟨_, k1, k2⟩
    obtain ⟨u, v, e, hu, hv, _⟩ := tkT_head x hT.1
    rw [e] at hl
    have hm := now_at (a := a) hl
    cases v with
    | nil =>
      have hg := getD_at (l := l) (i := i + 1) hm.2.1
      have := congrArg (·.2.1) hg
      exact hsg.2 (this.symm.trans k2)
    | cons v1 v2 =>
      have hg := getD_at (l := l) (i := i + 1) hm.2.1
      exact hv v1 v2 rfl ⟨(congrArg (·.1) hg).symm.trans k1, (congrArg (·.2.1) hg).symm.trans k2⟩
   unfold atomP
   simp only
   rw [if_neg hno, f1]
   simp only
   rw [hrel, if_pos ⟨by trivial, hne⟩, next_at hd (by simp), g1]
   refine ⟨_, pair_st _ ?_, ?_⟩
   · simp only [List.length_append, List.length_cons]
     omega
   · simp only [ers_node, List.map_cons, List.map_nil, f2, g2]

-- operands, a sign between
theorem leftP_thru {l : List Tok} {g : PS → Node × PS} {x op : List UInt8} {s : PS} (h : isW l (g s).2 x = false) : leftP l g x op s = g s := by
 unfold leftP
 simp only
 unfold leftF
 rw [if_neg (by rw [h]; decide)]
theorem leftP_two {l : List Tok} {g : PS → Node × PS} {x op : List UInt8} {s : PS} (h : isW l (g s).2 x = true) (h2 : isW l (g (nextP l (g s).2)).2 x = false) :
  leftP l g x op s = (.node op [] 0 (nowP l (g s).2).at_ [(g s).1, (g (nextP l (g s).2)).1], (g (nextP l (g s).2)).2) := by
 unfold leftP
 simp only
 unfold leftF
 rw [if_pos h]
 simp only
 cases l.length with
 | zero => rfl
 | succ f =>
   unfold leftF
   rw [if_neg (by rw [h2]; decide)]
def closed (l : List Tok) (s : PS) : Prop := isW l s [38] = false ∧ isW l s [124] = false ∧ isW l s [61, 62] = false ∧ isW l s [60, 61, 62] = false
theorem closed_er {l : List Tok} {s : PS} (h : s.e ≠ 0) : closed l s := ⟨isW_er h _, isW_er h _, isW_er h _, isW_er h _⟩
theorem closed_at {l : List Tok} {i a : Nat} {x : List UInt8} {r : List TS} (h : (l.drop i).map spec = (3, x, 0) :: r) (hx : x = [41] ∨ x = [59]) : closed l (st i a) := by
 unfold closed
 simp only [isW_at h]
 rcases hx with rfl | rfl <;> decide
section
variable {l : List Tok} {u : PS → Node × PS} {s : PS}
theorem andP_thru (h : isW l (u s).2 [38] = false) : andP l u s = u s := leftP_thru h
theorem orP_thru (h : isW l (u s).2 [38] = false) (h2 : isW l (u s).2 [124] = false) : orP l u s = u s := by
 unfold orP
 have e := andP_thru h
 rw [leftP_thru (by rw [e]; exact h2), e]
theorem impF_thru (f : Nat) (h : isW l (u s).2 [38] = false) (h2 : isW l (u s).2 [124] = false) (h3 : isW l (u s).2 [61, 62] = false) : impF l u f s = u s := by
 have e := orP_thru h h2
 cases f with
 | zero => exact e
 | succ f =>
   unfold impF
   simp only
   rw [e, if_neg (by rw [h3]; decide)]
theorem iffP_thru (h : closed l (u s).2) : leftP l (impP l u) [60, 61, 62] nIff s = u s := by
 have e : impP l u s = u s := impF_thru _ h.1 h.2.1 h.2.2.1
 rw [leftP_thru (by rw [e]; exact h.2.2.2), e]
end
theorem sign_closed {l : List Tok} {i a : Nat} {o : List UInt8} {r : List TS} (ho : binOp o = true) (h : (l.drop i).map spec = (3, signOf o, 0) :: r) :
  (isW l (st i a) [38] = decide (o = nAnd)) ∧ (isW l (st i a) [124] = decide (o = nOr)) ∧ (isW l (st i a) [61, 62] = decide (o = nImp)) ∧ (isW l (st i a) [60, 61, 62] = decide (o = nIff)) := by
 simp only [isW_at h]
 unfold binOp at ho
 simp only [Bool.or_eq_true, decide_eq_true_eq] at ho
 rcases ho with ((rfl | rfl) | rfl) | rfl <;> decide
theorem bin_parses {l : List Tok} {u : PS → Node × PS} {o : List UInt8} (ho : binOp o = true) (i a j : Nat) (A : Node) (hA : u (st i a) = (A, st j a)) (r : List TS) (h : (l.drop j).map spec = (3, signOf o, 0) :: r) (hc : closed l (u (st (j + 1) a)).2) :
  ∃ q, leftP l (impP l u) [60, 61, 62] nIff (st i a) = (.node o [] 0 q [A, (u (st (j + 1) a)).1], (u (st (j + 1) a)).2) := by
 obtain ⟨s1, s2, s3, s4⟩ := sign_closed (a := a) ho h
 have hnx : nextP l (st j a) = st (j + 1) a := next_at h (by simp)
 refine ⟨(nowP l (st j a)).at_, ?_⟩
 unfold binOp at ho
 simp only [Bool.or_eq_true, decide_eq_true_eq] at ho
 rcases ho with ((rfl | rfl) | rfl) | rfl
 · have e : andP l u (st i a) = (.node nAnd [] 0 (nowP l (st j a)).at_ [A, (u (st (j + 1) a)).1], (u (st (j + 1) a)).2) := by
    unfold andP
    rw [leftP_two (by rw [hA]; exact s1) (by rw [hA, hnx]; exact hc.1), hA, hnx]
   have e2 : orP l u (st i a) = _ := (leftP_thru (by rw [e]; exact hc.2.1)).trans e
   have e3 : impP l u (st i a) = orP l u (st i a) := by
    unfold impP impF
    simp only
    rw [e2, if_neg (by simpa using hc.2.2.1)]
   rw [leftP_thru (by rw [e3, e2]; exact hc.2.2.2), e3, e2]
 · have e0 : andP l u (st i a) = u (st i a) := andP_thru (by rw [hA]; exact s1)
   have e1 : andP l u (st (j + 1) a) = u (st (j + 1) a) := andP_thru hc.1
   have e2 : orP l u (st i a) = (.node nOr [] 0 (nowP l (st j a)).at_ [A, (u (st (j + 1) a)).1], (u (st (j + 1) a)).2) := by
    unfold orP
    rw [leftP_two (by rw [e0, hA]; exact s2) (by rw [e0, hA, hnx, e1]; exact hc.2.1), e0, hA, hnx, e1]
   have e3 : impP l u (st i a) = orP l u (st i a) := by
    unfold impP impF
    simp only
    rw [e2, if_neg (by simpa using hc.2.2.1)]
   rw [leftP_thru (by rw [e3, e2]; exact hc.2.2.2), e3, e2]
 · have e2 : orP l u (st i a) = (A, st j a) := (orP_thru (by rw [hA]; exact s1) (by rw [hA]; exact s2)).trans hA
   have e3 : impP l u (st i a) = (.node nImp [] 0 (nowP l (st j a)).at_ [A, (u (st (j + 1) a)).1], (u (st (j + 1) a)).2) := by
    unfold impP
    conv => lhs; unfold impF
    simp only
    rw [e2, if_pos (s3.trans (by decide)), hnx, impF_thru _ hc.1 hc.2.1 hc.2.2.1]
   rw [leftP_thru (by rw [e3]; exact hc.2.2.2), e3]
 · have e3 : impP l u (st i a) = (A, st j a) := (impF_thru _ (by rw [hA]; exact s1) (by rw [hA]; exact s2) (by rw [hA]; exact s3)).trans hA
   have e4 : impP l u (st (j + 1) a) = u (st (j + 1) a) := impF_thru _ hc.1 hc.2.1 hc.2.2.1
   rw [leftP_two (by rw [e3]; exact s4) (by rw [e3, hnx, e4]; exact hc.2.2.2), e3, hnx, e4]
def Deep (s : PS) (g : Node × PS) (ts : List TS) (t : Node) : Prop := g.2.e = 4 ∨ ∃ t', g = (t', st (s.i + ts.length) s.at_) ∧ ers t' = ers t
def UnP (l : List Tok) (k : Nat) (t : Node) : Prop := ∀ i a r, (l.drop i).map spec = tkF t ++ r → goes okForm r → Deep (st i a) (unP l k (st i a)) (tkF t) t
def okEnd (x : List UInt8) : Bool := x == [41] || x == [59]
theorem okEnd_form {x : List UInt8} (h : okEnd x = true) : okForm x = true := by
 unfold okEnd at h
 unfold okForm
 simp only [Bool.or_eq_true, beq_iff_eq] at h ⊢
 rcases h with rfl | rfl <;> simp
theorem okEnd_or {x : List UInt8} (h : okEnd x = true) : x = [41] ∨ x = [59] := by
 unfold okEnd at h
 simpa using h
theorem enter_zero {l : List Tok} (i a : Nat) : (enterP l 0 (st i a)).e = 4 := by
 unfold enterP failP
 rfl
theorem enter_succ {l : List Tok} (k : Nat) (s : PS) : enterP l (k + 1) s = s := by
 unfold enterP
 rw [if_neg (by omega)]
theorem formulaP_zero {l : List Tok} (u : PS → Node × PS) (i a : Nat) : (formulaP l u 0 (st i a)).2.e = 4 := by
 unfold formulaP
 rw [if_neg (by rw [enter_zero]; decide)]
 exact enter_zero i a
theorem formulaP_succ {l : List Tok} (u : PS → Node × PS) (k i a : Nat) : formulaP l u (k + 1) (st i a) = leftP l (impP l u) [60, 61, 62] nIff (st i a) := by
 unfold formulaP
 rw [enter_succ, if_pos rfl]
theorem form_parses {l : List Tok} {t : Node} (k : Nat) (h : ∀ k, UnP l k t) (i a : Nat) (r : List TS) (hl : (l.drop i).map spec = tkF t ++ r) (hr : goes okEnd r) : Deep (st i a) (formulaP l (unP l k) k (st i a)) (tkF t) t := by
 cases k with
 | zero => exact Or.inl (formulaP_zero _ i a)
 | succ k =>
   obtain ⟨x, r', rfl, hx⟩ := hr
   have hd := drop_app hl
   rw [formulaP_succ]
   rcases h (k + 1) i a _ hl ⟨x, r', rfl, okEnd_form hx⟩ with h4 | ⟨t', e1, e2⟩
   · rw [iffP_thru (closed_er (by rw [h4]; decide))]
     exact Or.inl h4
   · rw [iffP_thru (by rw [e1]; exact closed_at hd (okEnd_or hx))]
     exact Or.inr ⟨t', e1, e2⟩
theorem tkF_atom {t : Node} (h : formB t = true) (ho : t.op = nIs ∨ t.op = nCall ∨ relOp t.op = true) : ∃ x r, tkF t = x :: r ∧ (x.1 = 1 ∨ x.1 = 2 ∨ x = (3, [123], 0)) := by
 cases t with
 | node o s n p ks =>
   have ho : o = nIs ∨ o = nCall ∨ relOp o = true := ho
   rw [formB] at h
   rw [tkF, tkTL_map]
   by_cases c5 : o = nIs
   · subst c5
     rw [if_neg (by decide), if_neg (by decide), if_neg (by decide), if_neg (by decide), if_pos rfl]
     exact ⟨_, _, rfl, Or.inl rfl⟩
   by_cases c7 : o = nCall
   · subst c7
     rw [if_neg (by decide), if_neg (by decide), if_neg (by decide), if_neg (by decide), if_neg (by decide), if_pos rfl]
     exact ⟨_, _, rfl, Or.inl rfl⟩
   have c6 : relOp o = true := by
    rcases ho with h | h | h
    · exact absurd h c5
    · exact absurd h c7
    · exact h
   have hnot : ¬ (o = nTrue ∨ o = nFalse) ∧ ¬ o = nNot ∧ ¬ binOp o = true ∧ ¬ (o = nEx ∨ o = nAll) := by
    unfold relOp at c6
    simp only [Bool.or_eq_true, decide_eq_true_eq] at c6
    rcases c6 with (((((rfl | rfl) | rfl) | rfl) | rfl) | rfl) | rfl <;> decide
   rw [if_neg hnot.1, if_neg hnot.2.1, if_neg hnot.2.2.1, if_neg hnot.2.2.2, if_neg c5, if_pos c6] at h
   rw [if_neg hnot.1, if_neg hnot.2.1, if_neg hnot.2.2.1, if_neg hnot.2.2.2, if_neg c5, if_neg c7]
   simp only [Bool.and_eq_true] at h
   obtain ⟨x, y, hxy, e1, e2⟩ := two_kids (f := tkT) (d := []) (hasB_name h.1).2.1
   subst hxy
   rw [e1]
   have hT := h.2
   rw [termsB, Bool.and_eq_true] at hT
   obtain ⟨u, v, e, hu, _⟩ := tkT_head x hT.1
   exact ⟨u, v ++ (3, signOf o, 0) :: _, by rw [e]; rfl, hu⟩
theorem order_no {l : List Tok} {i a : Nat} {x : TS} {r : List TS} (h : (l.drop i).map spec = x :: r) (w : List UInt8) (h0 : (x.1 == 3 && x.2.1 == w ++ [48]) = false) (h1 : (x.1 == 3 && x.2.1 == w ++ [49]) = false) (h2 : (x.1 == 3 && x.2.1 == w ++ [50]) = false) : orderP l (st i a) w = -1 := by
 unfold orderP
 rw [isW_at h, isW_at h, isW_at h, h0, h1, h2]
 rfl
theorem order_yes {l : List Tok} {i a : Nat} {n : Int} {w : List UInt8} {r : List TS} (hn : 0 ≤ n ∧ n ≤ 2) (h : (l.drop i).map spec = (3, w ++ dig n.toNat, 0) :: r) : orderP l (st i a) w = n := by
 unfold orderP
 rw [isW_at h, isW_at h, isW_at h]
 have h012 : n = 0 ∨ n = 1 ∨ n = 2 := by omega
 rcases h012 with rfl | rfl | rfl
 · rw [if_pos (by simp; decide)]
 · rw [if_neg (by simp; decide), if_pos (by simp; decide)]
 · rw [if_neg (by simp; decide), if_neg (by simp; decide), if_pos (by simp; decide)]
theorem un_atom {l : List Tok} {k i a : Nat} {x : TS} {r : List TS} (h : (l.drop i).map spec = x :: r) (hx : x.1 = 1 ∨ x.1 = 2 ∨ x = (3, [123], 0)) : unP l (k + 1) (st i a) = atomP l (st i a) := by
 have hw : ∀ y : List UInt8, y ≠ [123] → (x.1 == 3 && x.2.1 == y) = false := fun y hy => by
  rcases hx with hx | hx | hx
  · rw [hx]; rfl
  · rw [hx]; rfl
  · rw [hx]; simpa using fun e => hy e.symm
 unfold unP
 rw [if_neg (by simp)]
 simp only
 rw [isW_at h, hw _ (by decide), if_neg (by decide), order_no h nEx (hw _ (by decide)) (hw _ (by decide)) (hw _ (by decide)), order_no h nAll (hw _ (by decide)) (hw _ (by decide)) (hw _ (by decide)), if_neg (by decide), isW_at h, isW_at h, hw _ (by decide), hw _ (by decide), if_neg (by decide), isW_at h, hw _ (by decide), if_neg (by decide)]
theorem un_parses {l : List Tok} : ∀ t : Node, formB t = true → ∀ k, UnP l k t := by
 intro t
 induction t using Node.ind with
 | h o s n p ks ih =>
   intro h k i a r hl hr
   cases k with
   | zero =>
     refine Or.inl ?_
     unfold unP
     exact enter_zero i a
   | succ k =>
     have hb := h
     rw [formB] at h
     rw [tkF, tkFL_map, tkTL_map] at hl ⊢
     have hk : formsB ks = true → ∀ x ∈ ks, ∀ k, UnP l k x := fun hh x hx => by
      rw [formsB_all, List.all_eq_true] at hh
      exact ih x hx (hh x hx)
     clear ih
     by_cases c1 : o = nTrue ∨ o = nFalse
     · rw [if_pos c1] at h hl ⊢
       obtain ⟨_, h2, h3, h4, _⟩ := hasB_name h
       have h2 := nil_of h2
       have h3 := h3 rfl
       have h4 := h4 rfl
       subst h2
       subst h3
       subst h4
       rw [List.cons_append, List.nil_append] at hl
       unfold unP
       rw [if_neg (by simp)]
       simp only
       have hi := isW_at (a := a) hl
       rw [hi, if_neg (by rcases c1 with rfl | rfl <;> decide), order_no hl nEx (by rcases c1 with rfl | rfl <;> decide) (by rcases c1 with rfl | rfl <;> decide) (by rcases c1 with rfl | rfl <;> decide),
        order_no hl nAll (by rcases c1 with rfl | rfl <;> decide) (by rcases c1 with rfl | rfl <;> decide) (by rcases c1 with rfl | rfl <;> decide), if_neg (by decide), hi, hi, if_pos (by rcases c1 with rfl | rfl <;> decide),
        next_at hl (by simp), text_at hl]
       refine Or.inr ⟨_, rfl, ?_⟩
       simp only [ers_node]
     rw [if_neg c1] at h hl ⊢
     by_cases c2 : o = nNot
     · rw [if_pos c2] at h hl ⊢
       subst c2
       simp only [Bool.and_eq_true] at h
       obtain ⟨_, h2, h3, h4, _⟩ := hasB_name h.1
       have h3 := h3 rfl
       have h4 := h4 rfl
       obtain ⟨x, rfl⟩ := one_kid h2
       subst h3
       subst h4
       simp only [List.map_cons, List.map_nil, List.getD_cons_zero, List.cons_append] at hl ⊢
       have hn := now_at (a := a) hl
       have hu := hk h.2 x (by simp) k (i + 1) a r hn.2.1 hr
       unfold unP
       rw [if_neg (by simp)]
       simp only
       rw [isW_at hl, if_pos (by decide), next_at hl (by simp)]
       rcases hu with h4 | ⟨t', e1, e2⟩
       · exact Or.inl h4
       · rw [e1]
         refine Or.inr ⟨_, pair_st _ ?_, ?_⟩
         · simp only [List.length_cons]
           omega
         · simp only [ers_node, List.map_cons, List.map_nil, e2]
     rw [if_neg c2] at h hl ⊢
     by_cases c3 : binOp o = true
     · rw [if_pos c3] at h hl ⊢
       simp only [Bool.and_eq_true] at h
       obtain ⟨_, hlen, h3, h4, _⟩ := hasB_name h.1
       have h3 := h3 rfl
       have h4 := h4 rfl
       subst h3
       subst h4
       obtain ⟨x, y, hxy, e1, e2⟩ := two_kids (f := tkF) (d := []) hlen
       subst hxy
       rw [e1, e2] at hl ⊢
       simp only [List.cons_append, List.append_assoc, List.nil_append] at hl
       have hn := now_at (a := a) hl
       have hsg : okForm (signOf o) = true := by
        unfold binOp at c3
        simp only [Bool.or_eq_true, decide_eq_true_eq] at c3
        rcases c3 with ((rfl | rfl) | rfl) | rfl <;> decide
       unfold unP
       rw [if_neg (by simp)]
       simp only
       rw [isW_at hl, if_neg (by decide), order_no hl nEx (by decide) (by decide) (by decide), order_no hl nAll (by decide) (by decide) (by decide), if_neg (by decide), isW_at hl, isW_at hl, if_neg (by decide), isW_at hl, if_pos (by decide), next_at hl (by simp)]
       cases k with
       | zero =>
         refine Or.inl ?_
         have h4 := formulaP_zero (l := l) (unP l 0) (i + 1) a
         simp only
         rw [mustP_er (by rw [h4]; decide)]
         exact h4
       | succ k =>
         rw [formulaP_succ]
         rcases hk h.2 x (by simp) (k + 1) (i + 1) a _ hn.2.1 ⟨_, _, rfl, hsg⟩ with h4 | ⟨x', f1, f2⟩
         · rw [iffP_thru (closed_er (by rw [h4]; decide))]
           refine Or.inl ?_
           simp only
           rw [mustP_er (by rw [h4]; decide)]
           exact h4
         · have hd := drop_app hn.2.1
           have hm := now_at (a := a) hd
           simp only at f1
           rcases hk h.2 y (by simp) (k + 1) (i + 1 + (tkF x).length + 1) a _ hm.2.1 ⟨_, _, rfl, by decide⟩ with h4 | ⟨y', g1, g2⟩
           · obtain ⟨q, e⟩ := bin_parses (l := l) (u := unP l (k + 1)) c3 (i + 1) a (i + 1 + (tkF x).length) x' f1 _ hd (closed_er (by rw [h4]; decide))
             rw [e]
             refine Or.inl ?_
             simp only
             rw [mustP_er (by rw [h4]; decide)]
             exact h4
           · have hd2 := drop_app hm.2.1
             obtain ⟨q, e⟩ := bin_parses (l := l) (u := unP l (k + 1)) c3 (i + 1) a (i + 1 + (tkF x).length) x' f1 _ hd (by rw [g1]; exact closed_at hd2 (Or.inl rfl))
             rw [e, g1]
             simp only
             rw [must_yes hd2]
             refine Or.inr ⟨_, pair_st _ ?_, ?_⟩
             · simp only [List.length_cons, List.length_append, List.length_nil]
               omega
             · simp only [ers_node, List.map_cons, List.map_nil, f2, g2]
     rw [if_neg c3] at h hl ⊢
     by_cases c4 : o = nEx ∨ o = nAll
     · rw [if_pos c4] at h hl ⊢
       simp only [Bool.and_eq_true, decide_eq_true_eq] at h
       obtain ⟨_, h2, _, _, h5⟩ := hasB_name h.1.1.1
       obtain ⟨x, rfl⟩ := one_kid h2
       simp only [List.map_cons, List.map_nil, List.getD_cons_zero, List.cons_append, List.append_assoc, List.nil_append] at hl ⊢
       have n1 := now_at (a := a) hl
       have n2 := now_at (a := a) n1.2.1
       have n3 := now_at (a := a) n2.2.1
       have n4 := now_at (a := a) n3.2.1
       unfold unP
       rw [if_neg (by simp)]
       simp only
       rw [isW_at hl, if_neg (by decide), order_no hl nEx (by decide) (by decide) (by decide), order_no hl nAll (by decide) (by decide) (by decide), if_neg (by decide), isW_at hl, isW_at hl, if_neg (by decide), isW_at hl, if_pos (by decide), next_at hl (by simp)]
       cases k with
       | zero =>
         refine Or.inl ?_
         have h4 := formulaP_zero (l := l) (unP l 0) (i + 1) a
         simp only
         rw [mustP_er (by rw [h4]; decide)]
         exact h4
       | succ k =>
         rw [formulaP_succ]
         have hn012 : 0 ≤ n ∧ n ≤ 2 := ⟨h.1.1.2, h.1.2⟩
         have hword : isW l (st (i + 1) a) [126] = false := by
          rw [isW_at n1.2.1]
          have h012 : n.toNat = 0 ∨ n.toNat = 1 ∨ n.toNat = 2 := by omega
          rcases c4 with rfl | rfl <;> rcases h012 with e | e | e <;> rw [e] <;> decide
         obtain ⟨q, hname⟩ := name_yes (a := a) n2.2.1
         have hun : unP l (k + 1) (st (i + 1) a) = (.node o s n (nowP l (st (i + 1) a)).at_ [(formulaP l (unP l k) k (st (i + 1 + 1 + 1 + 1) a)).1], (formulaP l (unP l k) k (st (i + 1 + 1 + 1 + 1) a)).2) := by
          conv => lhs; unfold unP
          rw [if_neg (by simp)]
          simp only
          rw [hword, if_neg (by decide)]
          rcases c4 with rfl | rfl
          · have ho := order_yes (a := a) hn012 n1.2.1
            rw [ho, if_pos (Or.inl hn012.1), next_at n1.2.1 (by simp), hname]
            simp only
            rw [must_yes n3.2.1, if_neg (by omega), if_neg (by omega)]
          · have ho := order_yes (a := a) hn012 n1.2.1
            have hex : orderP l (st (i + 1) a) nEx = -1 := by
             have h012 : n.toNat = 0 ∨ n.toNat = 1 ∨ n.toNat = 2 := by omega
             refine order_no n1.2.1 nEx ?_ ?_ ?_ <;> rcases h012 with e | e | e <;> rw [e] <;> decide
            rw [hex, ho, if_pos (Or.inr hn012.1), next_at n1.2.1 (by simp), hname]
            simp only
            rw [must_yes n3.2.1, if_pos (by omega), if_pos (by omega)]
         have hf := form_parses k (hk h.2 x (by simp)) (i + 1 + 1 + 1 + 1) a _ n4.2.1 ⟨_, _, rfl, by decide⟩
         rcases hf with h4 | ⟨x', f1, f2⟩
         · rw [iffP_thru (by rw [hun]; exact closed_er (by rw [h4]; decide)), hun]
           refine Or.inl ?_
           simp only
           rw [mustP_er (by rw [h4]; decide)]
           exact h4
         · have hd := drop_app n4.2.1
           rw [f1] at hun
           rw [iffP_thru (by rw [hun]; exact closed_at hd (Or.inl rfl)), hun]
           simp only
           rw [must_yes hd]
           refine Or.inr ⟨_, pair_st _ ?_, ?_⟩
           · simp only [List.length_cons, List.length_append, List.length_nil]
             omega
           · simp only [ers_node, List.map_cons, List.map_nil, f2]
     rw [if_neg c4] at h hl ⊢
     have ho : o = nIs ∨ o = nCall ∨ relOp o = true := by
      by_cases c5 : o = nIs
      · exact Or.inl c5
      rw [if_neg c5] at h
      by_cases c6 : relOp o = true
      · exact Or.inr (Or.inr c6)
      rw [if_neg c6] at h
      by_cases c7 : o = nCall
      · exact Or.inr (Or.inl c7)
      rw [if_neg c7] at h
      cases h
     have e : tkF (.node o s n p ks) = if o = nIs then [(1, s, 0)] else if o = nCall then (1, s, 0) :: (3, [40], 0) :: (sepT (ks.map tkT) ++ [(3, [41], 0)]) else (ks.map tkT).getD 0 [] ++ (3, signOf o, 0) :: (ks.map tkT).getD 1 [] := by
      rw [tkF, tkFL_map, tkTL_map, if_neg c1, if_neg c2, if_neg c3, if_neg c4]
     rw [← e] at hl ⊢
     obtain ⟨x, r', e2, hx⟩ := tkF_atom hb ho
     have hl2 := hl
     rw [e2, List.cons_append] at hl2
     rw [un_atom hl2 hx]
     exact Or.inr (atom_parses _ hb ho i a r hl hr)
