/- Parts of the proof: ProgShow, FineEr, Row, SSign, SJoin, Join, SList. -/
import Derived.Test.YteikakoheibnjaaDoorQ7
import Derived.KernelRfl
import Derived.Lib.Join
import Derived.Maps.OwnOps
import Derived.Shelf.Strings.Builder1
import Derived.Shelf.Strings.Builder2
import Derived.Shelf.Strings.OnBuilder
import Derived.Test.YteikakoheibnjaaDoorProg
namespace Go.Proofs.YteikakoheibnjaaDoor
open Go

theorem pair_sp {α : Type} (n : α) {i j a : Nat} (h : i = j) : (n, st i a) = (n, st j a) := by rw [h]
def erD (d : DeclP) : DeclP := ⟨d.name, d.order, 0⟩
def erQ (x : PredP) : PredP := ⟨x.name, x.params.map erD, ers x.body, 0⟩
def erP (p : ProgP) : ProgP := ⟨p.decls.map erD, p.preds.map erQ, ers p.main⟩
mutual
def sameB : Node → Node → Bool
 | .node o s n _ ks, .node o' s' n' _ ks' => o == o' && s == s' && n == n' && ks.length == ks'.length && sameL ks ks'
def sameL : List Node → List Node → Bool
 | x :: r, y :: q => sameB x y && sameL r q
 | _, _ => true
end
def sameD (a b : DeclP) : Bool := a.name == b.name && a.order == b.order
def sameDs : List DeclP → List DeclP → Bool
 | x :: r, y :: q => sameD x y && sameDs r q
 | [], [] => true
 | _, _ => false
def sameQ (a b : PredP) : Bool := a.name == b.name && sameDs a.params b.params && sameB a.body b.body
def sameQs : List PredP → List PredP → Bool
 | x :: r, y :: q => sameQ x y && sameQs r q
 | [], [] => true
 | _, _ => false
def sameP (a b : ProgP) : Bool := sameDs a.decls b.decls && sameQs a.preds b.preds && sameB a.main b.main
theorem sameB_of : ∀ a b : Node, ers a = ers b → sameB a b = true := by
 intro a
 induction a using Node.ind with
 | h o s n p ks ih =>
   intro b h
   cases b with
   | node o' s' n' p' ks' =>
     rw [ers_node, ers_node] at h
     injection h with h1 h2 h3 _ h5
     subst h1
     subst h2
     subst h3
     have hl : ks.length = ks'.length := by simpa using congrArg List.length h5
     rw [sameB]
     simp only [beq_self_eq_true, Bool.true_and, hl]
     clear hl
     induction ks generalizing ks' with
     | nil => simp [sameL]
     | cons x r ihr =>
       cases ks' with
       | nil => simp [sameL]
       | cons y q =>
         simp only [List.map_cons, List.cons.injEq] at h5
         rw [sameL, ih x (by simp) y h5.1, ihr (fun k hk => ih k (by simp [hk])) q h5.2]
         rfl
theorem sameD_of {a b : DeclP} (h : erD a = erD b) : sameD a b = true := by
 unfold erD at h
 injection h with h1 h2
 unfold sameD
 rw [h1, h2]
 simp
theorem sameDs_of : ∀ {a b : List DeclP}, a.map erD = b.map erD → sameDs a b = true
 | [], [], _ => rfl
 | [], _ :: _, h => by cases h
 | _ :: _, [], h => by cases h
 | x :: r, y :: q, h => by
   simp only [List.map_cons, List.cons.injEq] at h
   rw [sameDs, sameD_of h.1, sameDs_of h.2]
   rfl
theorem sameQ_of {a b : PredP} (h : erQ a = erQ b) : sameQ a b = true := by
 unfold erQ at h
 injection h with h1 h2 h3
 unfold sameQ
 rw [h1, sameDs_of h2, sameB_of _ _ h3]
 simp
theorem sameQs_of : ∀ {a b : List PredP}, a.map erQ = b.map erQ → sameQs a b = true
 | [], [], _ => rfl
 | [], _ :: _, h => by cases h
 | _ :: _, [], h => by cases h
 | x :: r, y :: q, h => by
   simp only [List.map_cons, List.cons.injEq] at h
   rw [sameQs, sameQ_of h.1, sameQs_of h.2]
   rfl
theorem sameP_of {a b : ProgP} (h : erP a = erP b) : sameP a b = true := by
 unfold erP at h
 injection h with h1 h2 h3
 unfold sameP
 rw [sameDs_of h1, sameQs_of h2, sameB_of _ _ h3]
 rfl
-- a text does not hang on places
theorem termS_er : ∀ t : Node, termS (ers t) = termS t := by
 intro t
 induction t using Node.ind with
 | h o s n p ks ih =>
   have hm : (ks.map ers).map termS = ks.map termS := by
    rw [List.map_map]
    exact List.map_congr_left ih
   rw [ers_node, termS, termS, termSL_map, termSL_map, hm]
theorem formS_er : ∀ t : Node, formS (ers t) = formS t := by
 intro t
 induction t using Node.ind with
 | h o s n p ks ih =>
   have hm : (ks.map ers).map formS = ks.map formS := by
    rw [List.map_map]
    exact List.map_congr_left ih
   have ht : (ks.map ers).map termS = ks.map termS := by
    rw [List.map_map]
    exact List.map_congr_left fun k _ => termS_er k
   rw [ers_node, formS, formS, formSL_map, formSL_map, termSL_map, termSL_map, hm, ht]
theorem predS_er (x : PredP) : predS (erQ x) = predS x := by
 have h : (x.params.map erD).map declS = x.params.map declS := by
  rw [List.map_map]
  rfl
 unfold predS erQ
 simp only
 rw [h, formS_er]
theorem progS_er (p : ProgP) : progS (erP p) = progS p := by
 have h1 : ∀ l : List DeclP, (l.map erD).flatMap (fun d => declS d ++ [59, 10]) = l.flatMap (fun d => declS d ++ [59, 10]) := fun l => by
  rw [List.flatMap_map]
  rfl
 have h2 : ∀ l : List PredP, (l.map erQ).flatMap predS = l.flatMap predS := fun l => by
  rw [List.flatMap_map]
  congr 1
  funext x
  exact predS_er x
 unfold progS erP
 simp only
 rw [h1, h2, formS_er]
theorem progS_same {p q : ProgP} (h : erP q = erP p) : progS q = progS p := by rw [← progS_er q, h, progS_er]

-- the parser
theorem orderD {d : DeclP} (h : declB d = true) {l : List Tok} {i a : Nat} {r : List TS} (hl : (l.drop i).map spec = sixT d ++ r) : orderP l (st i a) nVarK = d.order ∧ (l.drop (i + 1)).map spec = (1, d.name, 0) :: r ∧ nextP l (st i a) = st (i + 1) a := by
 unfold declB at h
 simp only [Bool.and_eq_true, decide_eq_true_eq] at h
 unfold sixT at hl
 exact ⟨order_yes ⟨h.1.2, h.2⟩ hl, (now_at (a := a) hl).2.1, next_at hl (by simp)⟩
theorem decl_parses {l : List Tok} {d : DeclP} (h : declB d = true) {i a : Nat} {r : List TS} (hl : (l.drop i).map spec = tkD d ++ r) : ∃ d', declP l (st i a) = ([d'], st (i + (tkD d).length) a) ∧ erD d' = erD d := by
 unfold tkD at hl
 rw [List.append_assoc] at hl
 obtain ⟨h1, h2, h3⟩ := orderD (a := a) h hl
 have h4 := (now_at (a := a) h2).2.1
 obtain ⟨q, hn⟩ := name_yes (a := a) h2
 rw [List.cons_append, List.nil_append] at h4
 refine ⟨⟨d.name, d.order, q⟩, ?_, rfl⟩
 unfold declP declF
 rw [h1, h3, if_pos rfl]
 simp only
 rw [hn]
 simp only
 rw [take_no h4 [44] (by decide)]
 simp only
 rw [if_neg (by decide), must_yes h4]
 rfl
theorem paramsF_parses {l : List Tok} : ∀ (ds acc : List DeclP) (f i a : Nat) (r : List TS), ds ≠ [] → acc.length + ds.length ≤ 6 → ds.length < f → (∀ d ∈ ds, declB d = true) → (l.drop i).map spec = sepT (ds.map sixT) ++ (3, [41], 0) :: r →
  ∃ ds', paramsF l f acc (st i a) = (acc ++ ds', st (i + (sepT (ds.map sixT)).length + 1) a) ∧ ds'.map erD = ds.map erD := by
 intro ds
 induction ds with
 | nil => intro _ _ _ _ _ h; exact absurd rfl h
 | cons d ds ih =>
   intro acc f i a r _ h6 hf hp hl
   cases f with
   | zero => simp at hf
   | succ f =>
     simp only [List.length_cons] at h6 hf
     have hB := hp d (by simp)
     have hs : ∃ r2, (l.drop i).map spec = sixT d ++ r2 ∧ (ds = [] → r2 = (3, [41], 0) :: r) ∧ (ds ≠ [] → r2 = (3, [44], 0) :: (sepT (ds.map sixT) ++ (3, [41], 0) :: r)) := by
      cases ds with
      | nil => exact ⟨_, by rw [hl]; rfl, fun _ => rfl, fun h => absurd rfl h⟩
      | cons d2 ds => exact ⟨_, by rw [hl]; simp only [List.map_cons, sepT, List.append_assoc, List.cons_append], fun h => (by cases h), fun _ => rfl⟩
     obtain ⟨r2, hl2, hr1, hr2⟩ := hs
     obtain ⟨h1, h2, h3⟩ := orderD (a := a) hB hl2
     have hpos : 0 ≤ d.order := by
      unfold declB at hB
      simp only [Bool.and_eq_true, decide_eq_true_eq] at hB
      exact hB.1.2
     have h4 := (now_at (a := a) h2).2.1
     obtain ⟨q, hn⟩ := name_yes (a := a) h2
     unfold paramsF
     rw [if_pos rfl, h1]
     simp only
     have hneg : ¬ d.order < 0 := by omega
     have h66 : ¬ acc.length = 6 := by omega
     rw [if_neg hneg, h3, if_neg h66, hn]
     simp only
     cases ds with
     | nil =>
       rw [hr1 rfl] at h4
       rw [take_no h4 [44] (by decide)]
       simp only
       rw [if_neg (by decide), must_yes h4]
       exact ⟨[⟨d.name, d.order, q⟩], by simp [sepT, sixT], rfl⟩
     | cons d2 ds =>
       rw [hr2 (by simp)] at h4
       rw [take_yes h4]
       simp only
       rw [if_pos (by decide)]
       obtain ⟨ds', e3, e4⟩ := ih (acc ++ [⟨d.name, d.order, q⟩]) f (i + 1 + 1 + 1) a r (by simp) (by simp at h6 ⊢; omega) (by simp at hf ⊢; omega) (fun x hx => hp x (by simp [hx])) (now_at (a := a) h4).2.1
       refine ⟨⟨d.name, d.order, q⟩ :: ds', ?_, ?_⟩
       · rw [e3, List.append_assoc, List.cons_append, List.nil_append]
         refine pair_sp _ ?_
         simp only [List.map_cons, sepT, sixT, List.cons_append, List.nil_append, List.length_cons]
         omega
       · simp only [List.map_cons] at e4 ⊢
         rw [e4]
         rfl
theorem params_parses {l : List Tok} (ds : List DeclP) (i a : Nat) (r : List TS) (h6 : ds.length ≤ 6) (hp : ∀ d ∈ ds, declB d = true) (hl : (l.drop i).map spec = sepT (ds.map sixT) ++ (3, [41], 0) :: r) :
  ∃ ds', paramsP l (st i a) = (ds', st (i + (sepT (ds.map sixT)).length + 1) a) ∧ ds'.map erD = ds.map erD := by
 unfold paramsP
 cases ds with
 | nil =>
   simp only [List.map_nil, sepT, List.nil_append] at hl ⊢
   rw [take_yes hl]
   simp only
   rw [if_pos (by decide)]
   exact ⟨[], rfl, rfl⟩
 | cons d ds =>
   have hd : ∃ r2, (l.drop i).map spec = (3, nVarK ++ dig d.order.toNat, 0) :: r2 := by
    rw [hl, List.map_cons]
    cases hm : ds.map sixT with
    | nil => simp only [sepT, sixT, List.cons_append]; exact ⟨_, rfl⟩
    | cons u v => simp only [sepT, sixT, List.cons_append]; exact ⟨_, rfl⟩
   obtain ⟨r2, hd⟩ := hd
   rw [take_no hd [41] (by simp [nVarK])]
   simp only
   rw [if_neg (by decide)]
   obtain ⟨ds', e3, e4⟩ := paramsF_parses (d :: ds) [] 8 i a r (by simp) (by simpa using h6) (by omega) hp hl
   exact ⟨ds', by rw [e3]; rfl, e4⟩
theorem form_law {l : List Tok} (t : Node) (h : formB t = true) (i a : Nat) (r : List TS) (hl : (l.drop i).map spec = tkF t ++ r) (hr : goes okEnd r) : Deep (st i a) (formP l (st i a)) (tkF t) t :=
 form_parses 30 (un_parses t h) i a r hl hr
theorem pred_parses {l : List Tok} {x : PredP} (h : predB x = true) {i a : Nat} {r : List TS} (hl : (l.drop i).map spec = tkQ x ++ r) : (predP l (st i a)).2.e = 4 ∨ ∃ x', predP l (st i a) = (x', st (i + (tkQ x).length) a) ∧ erQ x' = erQ x := by
 unfold predB at h
 simp only [Bool.and_eq_true, decide_eq_true_eq, List.all_eq_true] at h
 unfold tkQ at hl ⊢
 simp only [List.cons_append, List.append_assoc, List.nil_append] at hl
 have n1 := now_at (a := a) hl
 have n2 := now_at (a := a) n1.2.1
 have n3 := now_at (a := a) n2.2.1
 obtain ⟨q, hn⟩ := name_yes (a := a) n1.2.1
 obtain ⟨ds', e1, e2⟩ := params_parses (a := a) x.params (i + 1 + 1 + 1) _ (by exact h.1.1.2) (fun d hd => h.1.2 d hd) n3.2.1
 have hd := drop_app n3.2.1
 have n4 := now_at (a := a) hd
 have n5 := now_at (a := a) n4.2.1
 unfold predP
 simp only
 rw [next_at hl (by simp), hn]
 simp only
 rw [must_yes n2.2.1, e1]
 simp only
 rw [must_yes n4.2.1]
 rcases form_law x.body h.2.2 (i + 1 + 1 + 1 + (sepT (x.params.map sixT)).length + 1 + 1) a _ n5.2.1 ⟨_, _, rfl, by decide⟩ with h4 | ⟨t', f1, f2⟩
 · refine Or.inl ?_
   rw [mustP_er (by rw [h4]; decide)]
   exact h4
 · have hd2 := drop_app n5.2.1
   rw [f1]
   simp only
   rw [must_yes hd2]
   refine Or.inr ⟨⟨x.name, ds', t', q⟩, ?_, ?_⟩
   · refine pair_sp _ ?_
     simp only [List.length_cons, List.length_append, List.length_nil]
     omega
   · unfold erQ
     simp only
     rw [e2, f2]
theorem tkF_first (t : Node) (h : formB t = true) : ∃ x r, tkF t = x :: r ∧ (x.1 = 1 ∨ x.1 = 2 ∨ x.2.1 ∈ [nTrue, nFalse, [126], [40], [123]]) := by
 by_cases ho : t.op = nIs ∨ t.op = nCall ∨ relOp t.op = true
 · obtain ⟨x, r, e, hx⟩ := tkF_atom h ho
   refine ⟨x, r, e, ?_⟩
   rcases hx with hx | hx | hx
   · exact Or.inl hx
   · exact Or.inr (Or.inl hx)
   · rw [hx]; exact Or.inr (Or.inr (by decide))
 · cases t with
   | node o s n p ks =>
     have ho : ¬ (o = nIs ∨ o = nCall ∨ relOp o = true) := ho
     rw [formB] at h
     rw [tkF]
     by_cases c1 : o = nTrue ∨ o = nFalse
     · rw [if_pos c1]
       exact ⟨_, _, rfl, Or.inr (Or.inr (by rcases c1 with rfl | rfl <;> decide))⟩
     rw [if_neg c1] at h ⊢
     by_cases c2 : o = nNot
     · rw [if_pos c2]
       exact ⟨_, _, rfl, Or.inr (Or.inr (by decide))⟩
     rw [if_neg c2] at h ⊢
     by_cases c3 : binOp o = true
     · rw [if_pos c3]
       exact ⟨_, _, rfl, Or.inr (Or.inr (by decide))⟩
     rw [if_neg c3] at h ⊢
     by_cases c4 : o = nEx ∨ o = nAll
     · rw [if_pos c4]
       exact ⟨_, _, rfl, Or.inr (Or.inr (by decide))⟩
     rw [if_neg c4, if_neg (fun e => ho (Or.inl e)), if_neg (fun e => ho (Or.inr (Or.inr e))), if_neg (fun e => ho (Or.inr (Or.inl e)))] at h
     cases h
theorem first_no {l : List Tok} {i a : Nat} {x : TS} {r : List TS} (h : (l.drop i).map spec = x :: r) (hx : x.1 = 1 ∨ x.1 = 2 ∨ x.2.1 ∈ [nTrue, nFalse, [126], [40], [123]]) : isW l (st i a) nPred = false ∧ orderP l (st i a) nVarK = -1 := by
 have hw : ∀ y : List UInt8, y ∉ [nTrue, nFalse, [126], [40], [123]] → (x.1 == 3 && x.2.1 == y) = false := fun y hy => by
  rcases hx with hx | hx | hx
  · rw [hx]; rfl
  · rw [hx]; rfl
  · have : (x.2.1 == y) = false := beq_false_of_ne (fun e => hy (e ▸ hx))
    rw [this, Bool.and_false]
 exact ⟨by rw [isW_at h]; exact hw _ (by decide), order_no h nVarK (hw _ (by decide)) (hw _ (by decide)) (hw _ (by decide))⟩
theorem progF_er {l : List Tok} {s : PS} (h : s.e ≠ 0) (f : Nat) (ds : List DeclP) (ps : List PredP) : progF l f ds ps s = ((ds, ps), s) := by
 cases f with
 | zero => rfl
 | succ f => unfold progF; rw [if_neg (fun hh => h hh.1)]
theorem progF_end {l : List Tok} {i a : Nat} {x : TS} {r : List TS} (h : (l.drop i).map spec = x :: r) (hx : x.1 = 1 ∨ x.1 = 2 ∨ x.2.1 ∈ [nTrue, nFalse, [126], [40], [123]]) (f : Nat) (ds : List DeclP) (ps : List PredP) : progF l f ds ps (st i a) = ((ds, ps), st i a) := by
 obtain ⟨h1, h2⟩ := first_no (a := a) h hx
 cases f with
 | zero => rfl
 | succ f =>
   unfold progF
   rw [h1, h2, if_neg (fun hh => by rcases hh.2 with h | h; exact absurd h (by decide); exact absurd h (by decide))]
theorem progF_preds {l : List Tok} : ∀ (ps acc : List PredP) (ds : List DeclP) (f i a : Nat) (x : TS) (r : List TS), (∀ y ∈ ps, predB y = true) → l.length + 1 ≤ f + i → (x.1 = 1 ∨ x.1 = 2 ∨ x.2.1 ∈ [nTrue, nFalse, [126], [40], [123]]) → (l.drop i).map spec = ps.flatMap tkQ ++ x :: r →
  (progF l f ds acc (st i a)).2.e = 4 ∨ ∃ ps', progF l f ds acc (st i a) = ((ds, acc ++ ps'), st (i + (ps.flatMap tkQ).length) a) ∧ ps'.map erQ = ps.map erQ := by
 intro ps
 induction ps with
 | nil =>
   intro acc ds f i a x r _ _ hx hl
   rw [List.flatMap_nil, List.nil_append] at hl
   refine Or.inr ⟨[], ?_, rfl⟩
   rw [progF_end hl hx]
   simp
 | cons y ps ih =>
   intro acc ds f i a x r hp hf hx hl
   rw [List.flatMap_cons, List.append_assoc] at hl
   have hl0 := hl
   unfold tkQ at hl0
   rw [List.cons_append] at hl0
   have hi := (now_at (a := a) hl0).2.2
   obtain ⟨f', rfl⟩ : ∃ f', f = f' + 1 := ⟨f - 1, by omega⟩
   have hw : isW l (st i a) nPred = true := by rw [isW_at hl0]; decide
   have hst : progF l (f' + 1) ds acc (st i a) = progF l f' ds (acc ++ [(predP l (st i a)).1]) (predP l (st i a)).2 := by
    conv => lhs; unfold progF
    rw [if_pos ⟨rfl, Or.inl hw⟩, if_pos hw]
   rw [hst]
   rcases pred_parses (a := a) (hp y (by simp)) hl with h4 | ⟨y', e1, e2⟩
   · rw [progF_er (by rw [h4]; decide)]
     exact Or.inl h4
   · rw [e1]
     simp only
     have hd := drop_app hl
     have hlen : 1 ≤ (tkQ y).length := by unfold tkQ; simp
     rcases ih (acc ++ [y']) ds f' (i + (tkQ y).length) a x r (fun z hz => hp z (by simp [hz])) (by omega) hx hd with h4 | ⟨ps', f1, f2⟩
     · exact Or.inl h4
     · refine Or.inr ⟨y' :: ps', ?_, ?_⟩
       · rw [f1, List.append_assoc, List.cons_append, List.nil_append]
         refine pair_sp _ ?_
         simp only [List.flatMap_cons, List.length_append]
         omega
       · simp only [List.map_cons, e2, f2]
theorem progF_decls {l : List Tok} : ∀ (ds acc : List DeclP) (ps : List PredP) (f i a : Nat) (x : TS) (r : List TS), (∀ d ∈ ds, declB d = true) → (∀ y ∈ ps, predB y = true) → l.length + 1 ≤ f + i → (x.1 = 1 ∨ x.1 = 2 ∨ x.2.1 ∈ [nTrue, nFalse, [126], [40], [123]]) → (l.drop i).map spec = ds.flatMap tkD ++ (ps.flatMap tkQ ++ x :: r) →
  (progF l f acc [] (st i a)).2.e = 4 ∨ ∃ ds' ps', progF l f acc [] (st i a) = ((acc ++ ds', ps'), st (i + (ds.flatMap tkD).length + (ps.flatMap tkQ).length) a) ∧ ds'.map erD = ds.map erD ∧ ps'.map erQ = ps.map erQ := by
 intro ds
 induction ds with
 | nil =>
   intro acc ps f i a x r _ hps hf hx hl
   rw [List.flatMap_nil, List.nil_append] at hl
   rcases progF_preds ps [] acc f i a x r hps hf hx hl with h4 | ⟨ps', e1, e2⟩
   · exact Or.inl h4
   · refine Or.inr ⟨[], ps', ?_, rfl, e2⟩
     rw [e1]
     simp
 | cons d ds ih =>
   intro acc ps f i a x r hp hps hf hx hl
   rw [List.flatMap_cons, List.append_assoc] at hl
   have hl0 := hl
   unfold tkD sixT at hl0
   rw [List.append_assoc, List.cons_append] at hl0
   have hi := (now_at (a := a) hl0).2.2
   obtain ⟨f', rfl⟩ : ∃ f', f = f' + 1 := ⟨f - 1, by omega⟩
   have hB := hp d (by simp)
   have hB2 := hB
   unfold declB at hB2
   simp only [Bool.and_eq_true, decide_eq_true_eq] at hB2
   have hw : isW l (st i a) nPred = false := by
    rw [isW_at hl0]
    have h012 : d.order.toNat = 0 ∨ d.order.toNat = 1 ∨ d.order.toNat = 2 := by omega
    rcases h012 with e | e | e <;> rw [e] <;> decide
   have ho : orderP l (st i a) nVarK = d.order := order_yes ⟨hB2.1.2, hB2.2⟩ hl0
   have hst : progF l (f' + 1) acc [] (st i a) = progF l f' (acc ++ (declP l (st i a)).1) [] (declP l (st i a)).2 := by
    conv => lhs; unfold progF
    rw [if_pos ⟨rfl, Or.inr (by rw [ho]; exact hB2.1.2)⟩, if_neg (by rw [hw]; decide)]
   obtain ⟨d', e1, e2⟩ := decl_parses (a := a) hB hl
   rw [hst, e1]
   simp only
   have hd := drop_app hl
   have hlen : 1 ≤ (tkD d).length := by unfold tkD sixT; simp
   rcases ih (acc ++ [d']) ps f' (i + (tkD d).length) a x r (fun z hz => hp z (by simp [hz])) hps (by omega) hx hd with h4 | ⟨ds', ps', f1, f2, f3⟩
   · exact Or.inl h4
   · refine Or.inr ⟨d' :: ds', ps', ?_, ?_, f3⟩
     · rw [f1, List.append_assoc acc, List.cons_append, List.nil_append]
       refine pair_sp _ ?_
       simp only [List.flatMap_cons, List.length_append]
       omega
     · simp only [List.map_cons, e2, f2]
theorem parse_show {p : ProgP} (h : progB p = true) (hs : (progS p).length ≤ 2000) : (parseP (progS p)).2.2 = 4 ∨ ∃ q, parseP (progS p) = (q, (progS p).length, 0) ∧ erP q = erP p := by
 obtain ⟨l, ht, hl⟩ := tokens_of_lx (lx_prog h) hs
 unfold progB at h
 simp only [Bool.and_eq_true, List.all_eq_true] at h
 unfold parseP
 rw [ht]
 simp only
 rw [if_neg (by decide)]
 have hl0 : (l.drop 0).map spec = p.decls.flatMap tkD ++ (p.preds.flatMap tkQ ++ (tkF p.main ++ [(3, [59], 0), (4, [], 0)])) := by
  rw [List.drop_zero, hl]
  unfold tkP
  simp only [List.append_assoc, List.cons_append, List.nil_append]
 obtain ⟨x, r, ex, hx⟩ := tkF_first p.main h.2.2
 have hpr : (progP l).2.e = 4 ∨ ∃ q, progP l = (q, st ((p.decls.flatMap tkD).length + (p.preds.flatMap tkQ).length + (tkF p.main).length + 1) 0) ∧ erP q = erP p := by
  have hl1 := hl0
  rw [ex, List.cons_append] at hl1
  unfold progP
  simp only
  rcases progF_decls p.decls [] p.preds (l.length + 1) 0 0 x _ h.1.2 h.1.1 (by omega) hx hl1 with h4 | ⟨ds', ps', e1, e2, e3⟩
  · have hne : (progF l (l.length + 1) [] [] ⟨0, 0, 0⟩).2.e ≠ 0 := by rw [h4]; decide
    have hk := formulaP_keeps (l := l) (u := unP l 30) 30 _ hne
    unfold formP
    rw [hk, mustP_er hne, now_er hne, if_neg (by decide)]
    exact Or.inl h4
  · rw [e1]
    simp only [Nat.zero_add]
    have hd := drop_app (drop_app hl0)
    simp only [Nat.zero_add] at hd
    rcases form_law p.main h.2.2 _ 0 _ hd ⟨_, _, rfl, by decide⟩ with h4 | ⟨t', f1, f2⟩
    · have hne : (formP l (st ((p.decls.flatMap tkD).length + (p.preds.flatMap tkQ).length) 0)).2.e ≠ 0 := by rw [h4]; decide
      rw [mustP_er hne, now_er hne, if_neg (by decide)]
      exact Or.inl h4
    · have hd2 := drop_app hd
      have hm := now_at (a := 0) hd2
      rw [f1]
      simp only
      rw [must_yes hd2, kind_at hm.2.1, if_neg (by decide)]
      refine Or.inr ⟨⟨ds', ps', t'⟩, rfl, ?_⟩
      unfold erP
      simp only
      rw [e2, e3, f2]
 rcases hpr with h4 | ⟨q, e1, e2⟩
 · rw [if_pos (by rw [h4]; decide)]
   exact Or.inl h4
 · rw [e1, if_neg (fun hh => hh rfl)]
   exact Or.inr ⟨q, rfl, e2⟩
end Go.Proofs.YteikakoheibnjaaDoor
namespace Go.Proofs.YteikakoheibnjaaDoor
open Go

theorem op_er (t : Node) : (ers t).op = t.op := by
 cases t
 rw [ers_node]
 rfl
theorem nodesL_map : ∀ ks : List Node, (∀ k ∈ ks, nodes (ers k) = nodes k) → nodesL (ks.map ers) = nodesL ks
 | [], _ => rfl
 | x :: r, h => by
   rw [List.map_cons, nodesL, nodesL, h x (by simp), nodesL_map r fun k hk => h k (by simp [hk])]
theorem nodes_er : ∀ t : Node, nodes (ers t) = nodes t := by
 intro t
 induction t using Node.ind with
 | h o s n p ks ih => rw [ers_node, nodes_node, nodes_node, nodesL_map ks ih]
theorem depthL_map : ∀ ks : List Node, (∀ k ∈ ks, depth (ers k) = depth k) → depthL (ks.map ers) = depthL ks
 | [], _ => rfl
 | x :: r, h => by
   rw [List.map_cons, depthL, depthL, h x (by simp), depthL_map r fun k hk => h k (by simp [hk])]
theorem depth_er : ∀ t : Node, depth (ers t) = depth t := by
 intro t
 induction t using Node.ind with
 | h o s n p ks ih => rw [ers_node, depth_node, depth_node, depthL_map ks ih]
theorem all_map_er {f : Node → Bool} (ks : List Node) (h : ∀ k ∈ ks, f (ers k) = f k) : (ks.map ers).all f = ks.all f := by
 induction ks with
 | nil => rfl
 | cons x r ih => rw [List.map_cons, List.all_cons, List.all_cons, h x (by simp), ih fun k hk => h k (by simp [hk])]
theorem any_map_er {f : Node → Bool} (ks : List Node) (h : ∀ k ∈ ks, f (ers k) = f k) : (ks.map ers).any f = ks.any f := by
 induction ks with
 | nil => rfl
 | cons x r ih => rw [List.map_cons, List.any_cons, List.any_cons, h x (by simp), ih fun k hk => h k (by simp [hk])]
theorem termB_er : ∀ t : Node, termB (ers t) = termB t := by
 intro t
 induction t using Node.ind with
 | h o s n p ks ih =>
   rw [ers_node, termB, termB, termsB_all, termsB_all, all_map_er (f := termB) ks ih, List.length_map, all_map_er (f := fun k => decide (k.op = nVar)) ks (fun k _ => by rw [op_er]),
    any_map_er (f := fun k => setOp k.op || decide (k.op = nSet)) ks (fun k _ => by rw [op_er]), ← List.map_drop, any_map_er (f := fun k => setOp k.op) (ks.drop 1) (fun k _ => by rw [op_er])]
theorem formB_er : ∀ t : Node, formB (ers t) = formB t := by
 intro t
 induction t using Node.ind with
 | h o s n p ks ih =>
   rw [ers_node, formB, formB, formsB_all, formsB_all, termsB_all, termsB_all, all_map_er (f := formB) ks ih, all_map_er (f := termB) ks (fun k _ => termB_er k), List.length_map]
theorem smallB_er (t : Node) : smallB (ers t) = smallB t := by
 unfold smallB
 rw [depth_er, nodes_er]
theorem predB_er (x : PredP) : predB (erQ x) = predB x := by
 have h : (x.params.map erD).all declB = x.params.all declB := by
  rw [List.all_map]
  rfl
 unfold predB erQ
 simp only
 rw [h, List.length_map, smallB_er, formB_er]
theorem fineB_er (p : ProgP) : fineB (erP p) = fineB p := by
 have h1 : (p.decls.map erD).all declB = p.decls.all declB := by
  rw [List.all_map]
  rfl
 have h2 : (p.preds.map erQ).all predB = p.preds.all predB := by
  rw [List.all_map]
  congr 1
  funext x
  exact predB_er x
 have h3 : (p.preds.map erQ).all (fun x => decide (nodes x.body ≤ 100)) = p.preds.all (fun x => decide (nodes x.body ≤ 100)) := by
  rw [List.all_map]
  congr 1
  funext x
  show decide (nodes (ers x.body) ≤ 100) = _
  rw [nodes_er]
 unfold fineB progB erP
 simp only
 rw [h1, h2, h3, List.length_map, List.length_map, nodes_er, smallB_er, formB_er]
theorem fineB_same {p q : ProgP} (h : erP q = erP p) : fineB q = fineB p := by rw [← fineB_er q, h, fineB_er]
theorem progS_len {p : ProgP} (h : fineB p = true) : (progS p).length ≤ 100000000 := by
 obtain ⟨ds, ps, t⟩ := p
 obtain ⟨h1, h2, h3, h4, h5⟩ := fine_parts h
 unfold progB at h5
 simp only [Bool.and_eq_true, List.all_eq_true] at h5
 have hd := flat_le (M := 2022) (f := fun d => declS d ++ [59, 10]) ds (fun d hd => by
  have := declB_len (h5.1.2 d hd)
  simp only [List.length_append, List.length_cons, List.length_nil]
  omega)
 have hp := flat_le (M := 4250000) (f := predS) ps (fun x hx => predS_len (h5.1.1 x hx) (h4 x hx))
 have hm := formS_len t h5.2.2
 unfold progS
 simp only [List.length_append, List.length_cons, List.length_nil]
 have h6 : 2022 * ds.length ≤ 2022 * 20 := Nat.mul_le_mul_left _ h1
 have h7 : 4250000 * ps.length ≤ 4250000 * 10 := Nat.mul_le_mul_left _ h2
 have h8 : 2100 * nodes t ≤ 2100 * 2000 := Nat.mul_le_mul_left _ h3
 omega
theorem parse_fine {p : ProgP} (h : fineB p = true) : (parseP (progS p)).2.2 = 3 ∨ (parseP (progS p)).2.2 = 4 ∨ ∃ q a, parseP (progS p) = (q, a, 0) ∧ erP q = erP p := by
 rcases Nat.lt_or_ge 2000 (progS p).length with hl | hl
 · left
   unfold parseP
   rw [tokens_long hl]
   rfl
 · right
   obtain ⟨ds, ps, t⟩ := p
   rcases parse_show (fine_parts h).2.2.2.2 hl with h1 | ⟨q, h1, h2⟩
   · exact .inl h1
   · exact .inr ⟨q, _, h1, h2⟩
end Go.Proofs.YteikakoheibnjaaDoor
namespace Go.Proofs.YteikakoheibnjaaDoor
open Go Go.RowKit

def RTermLaw (x : Node) : Prop := ∀ (A : Option Addr) (cap : Nat) (w : World), NodeAt w w.heap.size x A cap → termB x = true → nodes x ≤ 2000 →
 Calls Tryd.prog 14 #[nodeT x A cap] w fun e w' => e = .returned (.string ⟨(termS x).toArray⟩) ∧ Below w.heap.size w w'
theorem row_len (ks : List Node) (h : termsB ks = true) (hN : nodesL ks ≤ 2000) (k : Nat) : (commas ((ks.take k).map termS)).length ≤ 4200000 := by
 rw [termsB_all, List.all_eq_true] at h
 have h1 := commas_len 0 ((ks.take k).map termS)
 have h2 := sum_map_len (f := termS) (B := 2100) (ks.take k) (fun x hx => by have := termS_len x (h x (List.mem_of_mem_take hx)); omega)
 have h3 := nodesL_take_le ks k
 omega
end Go.Proofs.YteikakoheibnjaaDoor
namespace Go.Proofs.YteikakoheibnjaaDoor
open Go Go.RowKit Go.ChangeMaps Go.MapKept

def ents : List (ByteArray × Value) → Nat → List MapEntry
 | [], _ => []
 | x :: r, i => ⟨.string x.1, x.2, i⟩ :: ents r (i + 1)
theorem ents_snoc (l : List (ByteArray × Value)) (x : ByteArray × Value) (i : Nat) : ents (l ++ [x]) i = ents l i ++ [⟨.string x.1, x.2, i + l.length⟩] := by
 induction l generalizing i with
 | nil => simp [ents]
 | cons y r ih => simp [ents, ih]; omega
def MapAt (w : World) (b : Nat) (l : List (ByteArray × Value)) : Prop := w.heap[b]? = some (.map (ents l 0).toArray l.length)
theorem findNow_ents (s : ByteArray) (l : List (ByteArray × Value)) (i : Nat) (c : Nat) :
  ∃ j, Instr.findNow .string (.string s) (ents l c) i = some ((l.find? (fun e => s == e.1)).map fun e => (j, e.2)) := by
 induction l generalizing i c with
 | nil => exact ⟨0, rfl⟩
 | cons x r ih =>
   obtain ⟨j, hj⟩ := ih (i + 1) (c + 1)
   cases h : (s == x.1) with
   | true => exact ⟨i, by simp [ents, Instr.findNow, Instr.sameNow, h]⟩
   | false => exact ⟨j, by simp [ents, Instr.findNow, Instr.sameNow, h, hj]⟩
theorem und_map : Tryd.prog.underlying 114 = some (.map 9 9) := by kernel_rfl
theorem und_str : Tryd.prog.underlying 9 = some .string := by kernel_rfl
theorem insert_run {w : World} {b : Nat} {l : List (ByteArray × Value)} (h : MapAt w b l) (s : ByteArray) (v : Value) (hn : l.find? (fun e => s == e.1) = none) :
  ∃ w', (Instr.mapUpdate 114 (.map (some b)) (.string s) v).run Tryd.prog w = .ok () w' ∧ MapAt w' b (l ++ [(s, v)]) ∧ w.grownBy w' (some b) := by
 obtain ⟨j, hj⟩ := findNow_ents s l 0 0
 rw [hn] at hj
 refine ⟨setBlock w b (.map (ents (l ++ [(s, v)]) 0).toArray (l ++ [(s, v)]).length), ?_, ?_, ?_⟩
 · have hkey : IsKey .string (.string s) := trivial
   unfold MapAt at h
   have e : (ents (l ++ [(s, v)]) 0).toArray = (ents l 0).toArray.push ⟨.string s, v, l.length⟩ := by
    rw [ents_snoc]
    simp
   rw [e]
   simp [Instr.mapUpdate, run_underlying und_map, MapKept.run_getObj_map h, run_checkKey und_str hkey, run_findKey und_str hj, MapKept.run_setObj_map _ h, Result.andThen, setBlock]
 · exact heap_setBlock_same h _
 · exact ⟨rfl, rfl, rfl, by simp [setBlock], fun i _ hi => heap_setBlock_other h _ (fun e => hi (by rw [e]))⟩
theorem lookup_run {w : World} {b : Nat} {l : List (ByteArray × Value)} (h : MapAt w b l) (s : ByteArray) :
  (Instr.lookup 114 (.map (some b)) (.string s) false).run Tryd.prog w = .ok (((l.find? (fun e => s == e.1)).map (·.2)).getD (.string ⟨#[]⟩)) w := by
 obtain ⟨j, hj⟩ := findNow_ents s l 0 0
 have hkey : IsKey .string (.string s) := trivial
 unfold MapAt at h
 cases hf : l.find? (fun e => s == e.1) with
 | none =>
   rw [hf] at hj
   simp [Instr.lookup, run_underlying und_map, MapKept.run_getObj_map h, run_checkKey und_str hkey, run_findKey und_str hj, Result.andThen]
 | some x =>
   rw [hf] at hj
   simp [Instr.lookup, run_underlying und_map, MapKept.run_getObj_map h, run_checkKey und_str hkey, run_findKey und_str hj, Result.andThen]
theorem wpList_insert_at (w : World) {ops : Array Oper} {rest : List Oper} {o : Oper} {a : Act} {Q : Exit → Act → World → Prop}
  (hg : o.guard = none) (m x v : Operand) (hop : o.op = Op.insert 114 m x v) (b : Nat) (l : List (ByteArray × Value))
  (hm : a.eval m = .map (some b)) (h : MapAt w b l) (s : ByteArray) (val : Value) (hx : a.eval x = .string s) (hv : a.eval v = val) (hn : l.find? (fun e => s == e.1) = none)
  (hK : ∀ w', MapAt w' b (l ++ [(s, val)]) → w.grownBy w' (some b) → wpList Tryd.prog ops Q rest (a.put o.dst undef) w') :
  wpList Tryd.prog ops Q (o :: rest) a w := by
 refine wpList_plain hg fun K' hK' => ?_
 obtain ⟨w', hrun, r1, r2⟩ := insert_run h s val hn
 unfold Oper.wp
 simp [execOp, hop, hm, hx, hv, hrun, Result.andThen]
 exact hK' _ _ (hK w' r1 r2)
theorem wpList_lookup_at (w : World) {ops : Array Oper} {rest : List Oper} {o : Oper} {a : Act} {Q : Exit → Act → World → Prop}
  (hg : o.guard = none) (m x : Operand) (hop : o.op = Op.lookup 114 m x false) (b : Nat) (l : List (ByteArray × Value))
  (hm : a.eval m = .map (some b)) (h : MapAt w b l) (s : ByteArray) (hx : a.eval x = .string s) (val : Value) (hv : ((l.find? (fun e => s == e.1)).map (·.2)).getD (.string ⟨#[]⟩) = val)
  (hK : wpList Tryd.prog ops Q rest (a.put o.dst val) w) :
  wpList Tryd.prog ops Q (o :: rest) a w := by
 refine wpList_plain hg fun K' hK' => ?_
 have hrun := lookup_run h s
 rw [hv] at hrun
 unfold Oper.wp
 simp [execOp, hop, hm, hx, hrun, Result.andThen]
 exact hK' _ _ hK
theorem wpList_insert_op (w : World) {ops : Array Oper} {rest : List Oper} {a : Act} {Q : Exit → Act → World → Prop} {dst : Option Tmp} {m x v : Operand} {t : TypeId} {pos : String} {after : Array Edge}
  (b : Nat) (l : List (ByteArray × Value))
  (hm : a.eval m = .map (some b)) (h : MapAt w b l) (s : ByteArray) (val : Value) (hx : a.eval x = .string s) (hv : a.eval v = val) (hn : l.find? (fun e => s == e.1) = none)
  (hK : ∀ w', MapAt w' b (l ++ [(s, val)]) → w.grownBy w' (some b) → wpList Tryd.prog ops Q rest (a.put dst undef) w') :
  wpList Tryd.prog ops Q (⟨dst, Op.insert 114 m x v, t, pos, after, none⟩ :: rest) a w :=
 wpList_insert_at w (o := ⟨dst, Op.insert 114 m x v, t, pos, after, none⟩) rfl m x v rfl b l hm h s val hx hv hn hK
theorem wpList_lookup_op (w : World) {ops : Array Oper} {rest : List Oper} {a : Act} {Q : Exit → Act → World → Prop} {dst : Option Tmp} {m x : Operand} {t : TypeId} {pos : String} {after : Array Edge}
  (b : Nat) (l : List (ByteArray × Value))
  (hm : a.eval m = .map (some b)) (h : MapAt w b l) (s : ByteArray) (hx : a.eval x = .string s) (val : Value) (hv : ((l.find? (fun e => s == e.1)).map (·.2)).getD (.string ⟨#[]⟩) = val)
  (hK : wpList Tryd.prog ops Q rest (a.put dst val) w) :
  wpList Tryd.prog ops Q (⟨dst, Op.lookup 114 m x false, t, pos, after, none⟩ :: rest) a w :=
 wpList_lookup_at w (o := ⟨dst, Op.lookup 114 m x false, t, pos, after, none⟩) rfl m x rfl b l hm h s hx val hv hK
def signRows : List (List UInt8 × List UInt8) := [(nUnion, nUnion), (nInter, nInter), (nMinus, [92]), (nAnd, [38]), (nOr, [124]), (nImp, [61, 62]), (nIff, [60, 61, 62]), (nEq, [61]), (nNe, [126, 61]), (nLt, [60]), (nLe, [60, 61]), (nIn, nIn), (nNotin, nNotin), (nSub, nSub)]
def signL14 : List (ByteArray × Value) := signRows.map fun e => (⟨e.1.toArray⟩, .string ⟨e.2.toArray⟩)
theorem find_bytes (o : List UInt8) : ∀ l : List (List UInt8 × List UInt8), (((l.map fun e => ((⟨e.1.toArray⟩ : ByteArray), Value.string ⟨e.2.toArray⟩)).find? (fun e => (⟨o.toArray⟩ : ByteArray) == e.1)).map (·.2)) = (l.find? (fun e => e.1 == o)).map fun e => Value.string ⟨e.2.toArray⟩
 | [] => rfl
 | x :: r => by
   have ih := find_bytes o r
   simp only [List.map_cons, List.find?_cons]
   by_cases h : x.1 = o
   · have h1 : (x.1 == o) = true := beq_iff_eq.2 h
     have h2 : ((⟨o.toArray⟩ : ByteArray) == ⟨x.1.toArray⟩) = true := by rw [h]; exact (bytes_beq _ _).2 rfl
     rw [h1, h2]
     rfl
   · have h1 : (x.1 == o) = false := beq_false_of_ne h
     have h2 : ((⟨o.toArray⟩ : ByteArray) == ⟨x.1.toArray⟩) = false := by
      cases hb : ((⟨o.toArray⟩ : ByteArray) == ⟨x.1.toArray⟩) with
      | false => rfl
      | true =>
        have := (bytes_beq _ _).1 hb
        have := congrArg (fun b : ByteArray => b.data.toList) this
        simp only at this
        exact absurd this.symm h
     rw [h1, h2]
     exact ih
theorem sign_found (o : List UInt8) (ho : setOp o = true ∨ binOp o = true ∨ relOp o = true) : ((signL14.find? (fun e => (⟨o.toArray⟩ : ByteArray) == e.1)).map (·.2)).getD (.string ⟨#[]⟩) = .string ⟨(signOf o).toArray⟩ := by
 unfold signL14
 rw [find_bytes]
 unfold setOp binOp relOp at ho
 simp only [Bool.or_eq_true, decide_eq_true_eq] at ho
 rcases ho with ((rfl | rfl) | rfl) | (((rfl | rfl) | rfl) | rfl) | ((((((rfl | rfl) | rfl) | rfl) | rfl) | rfl) | rfl) <;> rfl
set_option maxRecDepth 100000 in
set_option maxHeartbeats 2000000 in
theorem ssign_any (o : List UInt8) (ho : setOp o = true ∨ binOp o = true ∨ relOp o = true) (w : World) : Calls Tryd.prog 62 #[.string ⟨o.toArray⟩] w fun e w' => e = .returned (.string ⟨(signOf o).toArray⟩) ∧ Below w.heap.size w w' := by
 have hmm := @run_makeMap Tryd.prog
 have hL : ∀ (W : World) (b : Nat), MapAt W b ([] ++ [(⟨#[117, 110, 105, 111, 110]⟩, .string ⟨#[117, 110, 105, 111, 110]⟩)] ++ [(⟨#[105, 110, 116, 101, 114]⟩, .string ⟨#[105, 110, 116, 101, 114]⟩)] ++ [(⟨#[109, 105, 110, 117, 115]⟩, .string ⟨#[92]⟩)] ++ [(⟨#[97, 110, 100]⟩, .string ⟨#[38]⟩)] ++ [(⟨#[111, 114]⟩, .string ⟨#[124]⟩)] ++ [(⟨#[105, 109, 112]⟩, .string ⟨#[61, 62]⟩)] ++ [(⟨#[105, 102, 102]⟩, .string ⟨#[60, 61, 62]⟩)] ++ [(⟨#[101, 113]⟩, .string ⟨#[61]⟩)] ++ [(⟨#[110, 101]⟩, .string ⟨#[126, 61]⟩)] ++ [(⟨#[108, 116]⟩, .string ⟨#[60]⟩)] ++ [(⟨#[108, 101]⟩, .string ⟨#[60, 61]⟩)] ++ [(⟨#[105, 110]⟩, .string ⟨#[105, 110]⟩)] ++ [(⟨#[110, 111, 116, 105, 110]⟩, .string ⟨#[110, 111, 116, 105, 110]⟩)] ++ [(⟨#[115, 117, 98]⟩, .string ⟨#[115, 117, 98]⟩)]) → MapAt W b signL14 := fun W b h => h
 have HS := Lib.hid (sign_found o ho)
 clear ho
 generalize signOf o = V at *
 go_enter Tryd.func62, Tryd.ntmps62
 have hA : MapAt (w.alloc (.map #[] 0)) w.heap.size [] := by
  unfold MapAt
  rw [(heap_alloc w _).1]
  rfl
 have hB : Below w.heap.size w (w.alloc (.map #[] 0)) := (Below.refl _ _).alloc (Nat.le_refl _) _
 have hs : w.heap.size < (w.alloc (.map #[] 0)).heap.size := by simp
 go_upto_region 2 with (
   (refine wpList_insert_op _ _ _ rfl hA _ _ rfl rfl (by rfl) ?_; clear hA; intro w1 hA hg; replace hB := hB.grown hg (Nat.le_of_lt hs) (by intro k hk; cases hk; exact Nat.le_refl _); replace hs := Nat.lt_of_lt_of_le hs hg.size; clear hg))
 have hA2 := hL _ _ hA
 clear hA
 go_wp2_with (
  (refine wpList_lookup_op _ _ _ rfl hA2 ⟨o.toArray⟩ rfl _ HS.out ?_))
 go_ret
 exact ⟨rfl, hB⟩
end Go.Proofs.YteikakoheibnjaaDoor
namespace Go.Proofs.YteikakoheibnjaaDoor
open Go Go.RowKit

set_option maxHeartbeats 2000000 in
theorem joined_any (a o b : List UInt8) (ho : setOp o = true ∨ binOp o = true ∨ relOp o = true) (hl : (joined a o b).length ≤ 90000000) (w : World) :
  Calls Tryd.prog 27 #[.string ⟨a.toArray⟩, .string ⟨o.toArray⟩, .string ⟨b.toArray⟩] w fun e w' => e = .returned (.string ⟨(joined a o b).toArray⟩) ∧ Below w.heap.size w w' := by
 have HS := Lib.hid (fun W => ssign_any o ho W)
 have HF := Lib.hid (show a ++ [32] ++ signOf o ++ [32] ++ b = joined a o b from rfl)
 rw [← HF.out] at hl
 simp only [List.length_append, List.length_cons, List.length_nil] at hl
 clear ho
 generalize joined a o b = V at *
 generalize signOf o = G at *
 obtain ⟨T1, hadd1, hT1⟩ := add_ex ⟨a.toArray⟩ ⟨#[32]⟩ (X := a) (Y := [32]) rfl rfl (by simp only [List.length_cons, List.length_nil]; omega)
 obtain ⟨T2, hadd2, hT2⟩ := add_ex T1 ⟨G.toArray⟩ (Y := G) hT1 rfl (by simp only [List.length_append, List.length_cons, List.length_nil]; omega)
 obtain ⟨T3, hadd3, hT3⟩ := add_ex T2 ⟨#[32]⟩ (Y := [32]) hT2 rfl (by simp only [List.length_append, List.length_cons, List.length_nil]; omega)
 obtain ⟨T4, hadd4, hT4⟩ := add_ex T3 ⟨b.toArray⟩ (Y := b) hT3 rfl (by simp only [List.length_append, List.length_cons, List.length_nil]; omega)
 have HE := Lib.hid (show T4 = ⟨V.toArray⟩ from bytes_of (hT4.trans (by rw [← HF.out]; try simp only [List.append_assoc])))
 clear hT1 hT2 hT3 hT4
 clear hl
 go_enter Tryd.func27, Tryd.ntmps27
 go_wp2_with (
  go_at_call 62
  refine (HS.out _).mono ?_
  rintro e w2 ⟨rfl, hb⟩
  have HB := Lib.hid hb
  clear hb)
 all_goals
  go_ret
  exact ⟨congrArg (fun x : ByteArray => Ending.returned (.string x)) HE.out, HB.out⟩
end Go.Proofs.YteikakoheibnjaaDoor
namespace Go.Proofs
open Go.Shelf
def Tryd.lays156_ren : Go.Shelf.Ren := ⟨fun | 156 => 36 | 165 => 67 | 166 => 34 | 169 => 37 | 240 => 66 | 241 => 89 | 276 => 88 | 277 => 115 | n => n, fun | 31 => 40 | 9 => 9 | 3 => 3 | 4 => 4 | 0 => 0 | 20 => 20 | 72 => 58 | 76 => 63 | 70 => 55 | 37 => 56 | 75 => 62 | 127 => 99 | 164 => 116 | 5 => 5 | 80 => 67 | n => n, fun | n => n⟩
theorem Tryd.lays156 : Go.Proofs.Lays.n156 Tryd.prog Tryd.lays156_ren := {
 mixed := by kernel_rfl
 f156 := Tryd.func36.trans (congrArg some (by kernel_rfl))
 f165 := Tryd.func67.trans (congrArg some (by kernel_rfl))
 f166 := Tryd.func34.trans (congrArg some (by kernel_rfl))
 f169 := Tryd.func37.trans (congrArg some (by kernel_rfl))
 f240 := Tryd.func66.trans (congrArg some (by kernel_rfl))
 f241 := Tryd.func89.trans (congrArg some (by kernel_rfl))
 f276 := Tryd.func88.trans (congrArg some (by kernel_rfl))
 f277 := Tryd.func115.trans (congrArg some (by kernel_rfl))
 t0 := Tryd.underlying0
 a0 := Tryd.isAgg0
 z0 := Tryd.sizeOf0
 v0 := Tryd.zeroValue0
 t3 := Tryd.underlying3
 a3 := Tryd.isAgg3
 z3 := Tryd.sizeOf3
 v3 := Tryd.zeroValue3
 t4 := Tryd.underlying4
 a4 := Tryd.isAgg4
 z4 := Tryd.sizeOf4
 v4 := Tryd.zeroValue4
 t9 := Tryd.underlying9
 a9 := Tryd.isAgg9
 z9 := Tryd.sizeOf9
 v9 := Tryd.zeroValue9
 t20 := Tryd.underlying20
 a20 := Tryd.isAgg20
 z20 := Tryd.sizeOf20
 v20 := Tryd.zeroValue20
 t31 := Tryd.underlying40
 a31 := Tryd.isAgg40
 z31 := Tryd.sizeOf40
 v31 := Tryd.zeroValue40
 t37 := Tryd.underlying56
 a37 := Tryd.isAgg56
 z37 := Tryd.sizeOf56
 v37 := Tryd.zeroValue56
 t70 := Tryd.underlying55
 a70 := Tryd.isAgg55
 z70 := Tryd.sizeOf55
 v70 := Tryd.zeroValue55
 t72 := Tryd.underlying58
 a72 := Tryd.isAgg58
 z72 := Tryd.sizeOf58
 v72 := Tryd.zeroValue58
 t75 := Tryd.underlying62
 a75 := Tryd.isAgg62
 z75 := Tryd.sizeOf62
 v75 := Tryd.zeroValue62
 t76 := Tryd.underlying63
 a76 := Tryd.isAgg63
 z76 := Tryd.sizeOf63
 v76 := Tryd.zeroValue63
 t127 := Tryd.underlying99
 a127 := Tryd.isAgg99
 z127 := Tryd.sizeOf99
 v127 := Tryd.zeroValue99
 t164 := Tryd.underlying116
 a164 := Tryd.isAgg116
 z164 := Tryd.sizeOf116
 v164 := Tryd.zeroValue116 }
theorem Tryd.Builder_Extra_156 : Builder.Extra Tryd.prog Tryd.lays156_ren := {
 sizeBuilder := by kernel_rfl
 liesBuilder := by kernel_rfl
 t5 := Tryd.underlying5
 a5 := Tryd.isAgg5
 z5 := Tryd.sizeOf5
 v5 := Tryd.zeroValue5
 infoByte := by kernel_rfl
 cellsByte := by kernel_rfl
 sizeByte := by kernel_rfl
 neB5 := by decide }
open Go.RowKit in
theorem Tryd.strings_Join_none (a : Option Addr) (c : Nat) (sep : ByteArray) (w : World) :
  Calls Tryd.prog 36 #[.slice a 0 c, .string sep] w fun e w' => e = .returned (.string ⟨#[]⟩) ∧ w' = w := Any.strings_Join_none Tryd.lays156 Tryd.Builder_Extra_156 a c sep w
open Go.RowKit in
theorem Tryd.strings_Join (bk o c : Nat) (xs : List ByteArray) (sep : ByteArray) (w : World) (hcells : ∀ (j : Nat) x, xs[j]? = some x → w.cell? ⟨bk, o + j, none⟩ = some (.string x)) (hbk : bk < w.heap.size) (hN : xs.length ≤ 140737488355328) (hcap : xs.length ≤ c) (hlen : (Lib.join (xs.map (·.data.toList)) sep.data.toList).length ≤ 140737488355328) :
  Calls Tryd.prog 36 #[.slice (some ⟨bk, o, none⟩) xs.length c, .string sep] w fun e w' => e = .returned (.string ⟨(Lib.join (xs.map (·.data.toList)) sep.data.toList).toArray⟩) ∧ Below w.heap.size w w' := Any.strings_Join Tryd.lays156 Tryd.Builder_Extra_156 bk o c xs sep w hcells hbk hN hcap hlen
end Go.Proofs
namespace Go.Proofs.YteikakoheibnjaaDoor
open Go Go.RowKit

def STermLaw (x : Node) : Prop := ∀ (A : Option Addr) (cap : Nat) (w : World), NodeAt w w.heap.size x A cap → termB x = true → nodes x ≤ 2000 →
 Calls Tryd.prog 13 #[nodeT x A cap] w fun e w' => e = .returned (.string ⟨(termS x).toArray⟩) ∧ Below w.heap.size w w'
theorem join_commas : ∀ l : List (List UInt8), Lib.join l [44, 32] = commas l
 | [] => rfl
 | [x] => by rw [Lib.join_one]; rfl
 | x :: y :: r => by
   have := join_commas (y :: r)
   rw [Lib.join_cons] at this ⊢
   rw [commas, ← this]
   simp [Lib.joinTail]
theorem join_bytes (l : List (List UInt8)) : Lib.join ((l.map fun x => (⟨x.toArray⟩ : ByteArray)).map (·.data.toList)) ((⟨#[44, 32]⟩ : ByteArray).data.toList) = commas l := by
 have e : (l.map fun x => (⟨x.toArray⟩ : ByteArray)).map (·.data.toList) = l := by
  rw [List.map_map]
  exact List.map_id' l
 rw [e]
 exact join_commas l
theorem join_any {w : World} {base c : Nat} {A : Option Addr} {l : List (List UInt8)} (ho : w.ownsRow base 9 1 (.slice A l.length c) l.length (strVs l)) (hl : (commas l).length ≤ 140737488355328) (hn : l.length ≤ 100000) :
  Calls Tryd.prog 36 #[.slice A l.length c, .string ⟨#[44, 32]⟩] w fun e w' => e = .returned (.string ⟨(commas l).toArray⟩) ∧ Below w.heap.size w w' := by
 by_cases h0 : l = []
 · subst h0
   refine (Tryd.strings_Join_none A c _ w).mono ?_
   rintro e w' ⟨rfl, rfl⟩
   exact ⟨rfl, Below.refl _ _⟩
 · have hpos : 0 < l.length := by
    cases l with
    | nil => exact absurd rfl h0
    | cons x r => simp
   obtain ⟨g, cap, hv, hbase, hlt⟩ := ho.form hpos
   have hA : A = some ⟨g, 0, none⟩ := by injection hv
   subst hA
   have hcap : l.length ≤ c := by
    rcases ho.2 with ⟨hv', _⟩ | ⟨g', cap', cur, hv', _, _, hnc, _⟩
    · cases hv'
    · injection hv' with _ _ h3
      omega
   have hj := Tryd.strings_Join g 0 c (l.map fun x => (⟨x.toArray⟩ : ByteArray)) ⟨#[44, 32]⟩ w (fun j x hx => by
    have h1 := ho.cells (g := g) rfl j (.string x) (by
     rw [List.getElem?_map] at hx
     unfold strVs
     rw [List.getElem?_map]
     cases hlj : l[j]? with
     | none => rw [hlj] at hx; cases hx
     | some y => rw [hlj] at hx; injection hx with hx; rw [← hx]; rfl)
    unfold Addr.add at h1
    split at h1
    · next h => subst h; exact h1
    · simpa using h1) hlt (by rw [List.length_map]; omega) (by rw [List.length_map]; exact hcap) (by rw [join_bytes]; exact hl)
   rw [join_bytes, List.length_map] at hj
   exact hj
theorem strVs_snoc (l : List (List UInt8)) (x : List UInt8) : strVs (l ++ [x]) = strVs l ++ [.string ⟨x.toArray⟩] := by simp [strVs]
theorem inf_str : (Tryd.prog.info? 9).map (fun i => (i.zero, i.size, i.bytes)) = some (some (.string ⟨#[]⟩), 1, 16) := by kernel_rfl
theorem und_strs : Tryd.prog.underlying 40 = some (.slice 9) := by kernel_rfl
theorem str_one (s : ByteArray) : ∀ u ∈ ([.string s] : List Value), u.oneCell' = true := by
 intro u hu
 simp at hu
 subst hu
 rfl
theorem reads_one {w : World} {h : Nat} {t : TypeId} {u : Value} (hb : w.heap[h]? = some (.cells #[u] t (0, 0))) : Reads w (h + 1) 1 (some ⟨h, 0, none⟩) 1 [u] := by
 refine ⟨rfl, fun _ => ⟨_, rfl, by simp, fun j z hz => ?_⟩⟩
 have hj : j < 1 := (List.getElem?_eq_some_iff.1 hz).1
 have hj0 : j = 0 := by omega
 subst hj0
 have e : (⟨h, 0, none⟩ : Addr).add 0 = ⟨h, 0, none⟩ := by
  unfold Addr.add
  rw [if_pos rfl]
 rw [e, cell_of_row w h 0 #[u] t (0, 0) hb, ← hz]
 rfl
set_option maxHeartbeats 4000000 in
theorem slist_any (o s : List UInt8) (n p : Int) (ks : List Node) (A : Option Addr) (cap : Nat) (w : World) (h : NodeAt w w.heap.size (.node o s n p ks) A cap) (ih : ∀ k ∈ ks, STermLaw k) (hB : termsB ks = true) (hN : nodesL ks ≤ 2000) :
  Calls Tryd.prog 29 #[.slice A ks.length cap] w fun e w' => e = .returned (.string ⟨(commas (termSL ks)).toArray⟩) ∧ Below w.heap.size w w' := by
 have HC := Lib.hid h
 have HL := Lib.hid (row_len ks hB hN)
 have IH := Lib.hid (fun (k : Node) (hk : k ∈ ks) A cap W hC => ih k hk A cap W hC (by rw [termsB_all, List.all_eq_true] at hB; exact hB k hk) (Nat.le_trans (nodes_kid ks k hk) hN))
 have hl := h.len
 obtain ⟨hl1, hl2, _⟩ := hl
 have hkn : ks.length ≤ 2000 := by
  have hlen : ∀ l : List Node, l.length ≤ nodesL l := by
   intro l
   induction l with
   | nil => exact Nat.zero_le _
   | cons x r ihr =>
     have := nodes_pos x
     simp only [nodesL, List.length_cons]
     omega
  have := hlen ks
  omega
 clear h ih hB hN
 rw [termSL_map]
 have HV := Lib.hid (show (ks.take ks.length).map termS = ks.map termS by rw [List.take_length])
 generalize ks.map termS = V at *
 obtain ⟨i9, hi9, hz0, hz1, hz2⟩ := info_parts inf_str
 go_enter Tryd.func29, Tryd.ntmps29
 go_wp2_with fail
 go_loopg [3, 8] ks.length (fun r lv i wr => ∃ k : Nat, k ≤ ks.length ∧ r = ks.length - k ∧ i = .int .i64 (k : Int) ∧ Hid (wr.ownsRow w.heap.size 9 1 lv k (strVs ((ks.take k).map termS))) ∧ Hid (Below w.heap.size w wr))
 case atStart => exact ⟨0, Nat.zero_le _, rfl, rfl, Lib.hid ⟨rfl, .inl ⟨rfl, rfl⟩⟩, Lib.hid (Below.refl _ _)⟩
 case round =>
  obtain ⟨k, hk, hr, rfl, HO, HB⟩ := hrel
  have HRr := Lib.hid hr
  have hs1 := HB.out.size
  clear hr
  by_cases hlt : k < ks.length
  · obtain ⟨bb, off, A', cap', rfl, hlo, hcells, hkid⟩ := HC.out.kid k hlt
    have HI := Lib.hid (fun (W : World) (hh : NodeAt W W.heap.size ks[k] A' cap') => (IH.out ks[k] (List.getElem_mem hlt)) A' cap' W (by first | exact hh))
    have HSN := Lib.hid (show (ks.take (k + 1)).map termS = (ks.take k).map termS ++ [termS ks[k]] by rw [List.take_succ_eq_append_getElem hlt, List.map_append]; rfl)
    generalize hx : ks[k] = x at *
    clear hx
    generalize hX : termS x = X at *
    clear hX
    cases x with
    | node o' s' n' p' ks' =>
      obtain ⟨c0, c1, c2, c3, c4⟩ := kid_cells hlo hcells HB.out
      have HKD := Lib.hid hkid
      clear hcells hkid IH
      simp only [nodeT, nodeW, Node.op, Node.name, Node.num, Node.pos, Node.kids] at HI
      have g1 : decide ((k : Int) < (ks.length : Int)) = true := decide_eq_true (by omega)
      go_wp2_with (first
       | (at_builtin
          refine wpList_append_any _ rfl (.tmp 12) (.tmp 15) 40 rfl w.heap.size 9 i9 _ 1 16 und_strs hi9 hz0 hz1 hz2 rfl (by decide) _ k (strVs ((ks.take k).map termS)) rfl (HO5.out.alloc _) (w5.heap.size + 1) (some ⟨w5.heap.size, 0, none⟩) 1 1 [.string ⟨X.toArray⟩] rfl (reads_one (t := 9) (heap_new_at rfl)) (str_one _) (by simp only [maxLen]; omega) (by omega) (by have := HB5.out.size; simp <;> omega) ?_
          intro v7 w7 hown7 hg7 hv7
          have HOWN7 := Lib.hid hown7
          have HG7 := Lib.hid hg7
          clear hown7 hg7 hv7)
       | (go_at_call 13
          refine (HI.out _ (HKD.out.later (HB.out.alloc hs1 _) (by simp <;> omega))).mono ?_
          rintro e w5 ⟨rfl, hb5⟩
          have HB5 := Lib.hid ((HB.out.alloc hs1 (boxN o' s' n' p' ks'.length A' cap')).trans (hb5.mono (by simp <;> omega)))
          have HO5 := Lib.hid ((Fr.of_below hb5).own (HO.out.alloc (boxN o' s' n' p' ks'.length A' cap')) (fun k hk => by have := (HO.out.lt k hk).2; simp <;> omega))
          clear hb5))
      have hown7 := HOWN7.out
      have hg7 := HG7.out
      have HO7 := Lib.hid (show w7.ownsRow w.heap.size 9 1 v7 (k + 1) (strVs ((ks.take (k + 1)).map termS)) by
       rw [HSN.out, strVs_snoc]
       exact hown7)
      have HB7 := Lib.hid ((HB5.out.alloc HB5.out.size _).grown hg7 (by have := HB5.out.size; simp <;> omega) (fun k hk => by have := (HO5.out.lt k hk).1; omega))
      clear hown7 hg7
      go_roundg (ks.length - (k + 1))
      case measure => have := HRr.out; omega
      case rel => exact ⟨k + 1, by omega, rfl, by go_num, HO7, HB7⟩
  · have g1 : decide ((k : Int) < (ks.length : Int)) = false := decide_eq_false (by omega)
    have hkk : k = ks.length := by omega
    obtain ⟨A8, c8, rfl⟩ := own_slice HO.out
    have HO8 := Lib.hid (show wr.ownsRow w.heap.size 9 1 (.slice A8 V.length c8) V.length (strVs V) by
     have h1 := HO.out
     have h2 := HV.out
     subst hkk
     rw [h2] at h1
     have hlv : V.length = ks.length := by rw [← h2]; simp
     rw [hlv]
     exact h1)
    have hVl : V.length = ks.length := by
     have h2 := HV.out
     rw [← h2]
     simp
    have hVk : (V.length : Int) = (k : Int) := by omega
    have HJ := Lib.hid (join_any HO8.out (by
     have h3 := HL.out ks.length
     rw [HV.out] at h3
     omega) (by omega))
    rw [show V.length = k by omega] at HJ
    clear hVl hVk hkk
    go_wp2_with (
     go_at_call 36
     refine HJ.out.mono ?_
     rintro e w2 ⟨rfl, hb2⟩
     have HB2 := Lib.hid (HB.out.trans (hb2.mono hs1))
     clear hb2)
    all_goals
     go_ret
     exact ⟨rfl, HB2.out⟩
end Go.Proofs.YteikakoheibnjaaDoor
