/- Parts of the proof: TellInv. -/
import Derived.Test.YteikakoheibnjaaDoorM27
import Derived.Test.YteikakoheibnjaaDoorM6
import Derived.Test.YteikakoheibnjaaDoorM7
namespace Go.Proofs.YteikakoheibnjaaDoor
open Go

theorem occ_head {x sep rest : List UInt8} {h : UInt8} {t : List UInt8} (hs : sep = h :: t) (hx : h ∉ x) (j : Nat) (hj : j < x.length) : Lib.occAt (x ++ rest) sep j = false := by
  rw [← Bool.not_eq_true]
  intro e
  have h1 := Lib.occAt_head hs e
  rw [List.getElem?_append_left hj] at h1
  exact hx (List.mem_of_getElem? h1)
theorem index_at {x sep rest : List UInt8} {h : UInt8} {t : List UInt8} (hs : sep = h :: t) (hx : h ∉ x) : Lib.index (x ++ (sep ++ rest)) sep = x.length := by
  refine Lib.index_first (by simp) ?_ (occ_head hs hx)
  unfold Lib.occAt
  rw [List.drop_left]
  simp
theorem index_no {x sep : List UInt8} {h : UInt8} {t : List UInt8} (hs : sep = h :: t) (hx : h ∉ x) : Lib.index x sep = -1 := by
  refine Lib.index_none fun j hj => ?_
  rcases Nat.lt_or_ge j x.length with h1 | h1
  · have := occ_head (rest := []) hs hx j h1
    rwa [List.append_nil] at this
  · unfold Lib.occAt
    rw [List.drop_eq_nil_of_le h1, hs]
    rfl
theorem split_no {x sep : List UInt8} {h : UInt8} {t : List UInt8} (hs : sep = h :: t) (hx : h ∉ x) : Lib.split x sep = [x] := by
  unfold Lib.split
  rw [Lib.count_miss (index_no hs hx)]
  rfl
theorem split_at {x sep rest : List UInt8} {h : UInt8} {t : List UInt8} (hs : sep = h :: t) (hx : h ∉ x) : Lib.split (x ++ (sep ++ rest)) sep = x :: Lib.split rest sep := by
  have hi := index_at (rest := rest) hs hx
  have hd : (x ++ (sep ++ rest)).drop (x.length + sep.length) = rest := by
    rw [← List.drop_drop, List.drop_left, List.drop_left]
  have hc := Lib.count_hit (by rw [hs]; simp) hi
  rw [hd] at hc
  unfold Lib.split
  rw [hc, Nat.add_comm]
  conv => lhs; unfold Lib.splitK
  rw [hi, if_neg (by rw [beq_iff_eq]; omega)]
  show (x ++ (sep ++ rest)).take (x.length + 0) :: Lib.splitK sep 0 _ ((x ++ (sep ++ rest)).drop (x.length + sep.length)) = _
  rw [hd, Nat.add_zero, List.take_left]
theorem cut_at {x sep rest : List UInt8} {h : UInt8} {t : List UInt8} (hs : sep = h :: t) (hx : h ∉ x) : Lib.cut (x ++ (sep ++ rest)) sep = (x, rest, true) := by
  unfold Lib.cut
  rw [index_at hs hx, if_pos (by omega)]
  show ((x ++ (sep ++ rest)).take x.length, (x ++ (sep ++ rest)).drop (x.length + sep.length), true) = _
  rw [List.take_left, ← List.drop_drop, List.drop_left, List.drop_left]
theorem cut_no {x sep : List UInt8} {h : UInt8} {t : List UInt8} (hs : sep = h :: t) (hx : h ∉ x) : Lib.cut x sep = (x, [], false) := by
  unfold Lib.cut
  rw [index_no hs hx, if_neg (by omega)]
theorem split_lines : ∀ L : List (List UInt8), (∀ l ∈ L, (10 : UInt8) ∉ l) → Lib.split (L.flatMap (· ++ [10])) [10] = L ++ [[]]
  | [], _ => by
    show Lib.split [] [10] = [[]]
    exact split_no rfl (by simp)
  | l :: L, h => by
    rw [List.flatMap_cons, List.append_assoc, split_at rfl (h l List.mem_cons_self), split_lines L (fun x hx => h x (List.mem_cons_of_mem _ hx))]
    rfl
/-- Digits. -/
theorem dig_facts : ∀ i : Fin 2001, number (dig i.val) = (i.val : Int) ∧ (dig i.val).all isDig = true ∧ (dig i.val).isEmpty = false := by decide +kernel
theorem num_facts {n : Int} (h0 : 0 ≤ n) (h1 : n ≤ 2000) : number (num n) = n ∧ (num n).all isDig = true ∧ (num n).isEmpty = false := by
  have h := dig_facts ⟨n.toNat, by omega⟩
  refine ⟨?_, h.2.1, h.2.2⟩
  have := h.1
  unfold num
  rw [this]
  show ((n.toNat : Nat) : Int) = n
  omega
theorem num_not {n : Int} (h0 : 0 ≤ n) (h1 : n ≤ 2000) {c : UInt8} (hc : isDig c = false) : c ∉ num n := fun h => by
  have := List.all_eq_true.1 (num_facts h0 h1).2.1 c h
  rw [hc] at this
  cases this
/-- A row of numbers with commas. -/
theorem commas_not {l : List Int} (h : ∀ n ∈ l, 0 ≤ n ∧ n ≤ 2000) {c : UInt8} (hc : isDig c = false) (h1 : c ≠ 44) (h2 : c ≠ 32) : c ∉ commas (l.map num) := by
  induction l with
  | nil => simp [commas]
  | cons x r ih =>
    have hx := h x List.mem_cons_self
    have ih := ih fun n hn => h n (List.mem_cons_of_mem _ hn)
    cases r with
    | nil => exact num_not hx.1 hx.2 hc
    | cons y r =>
      show c ∉ num x ++ [44, 32] ++ commas ((y :: r).map num)
      simp only [List.mem_append, List.mem_cons, List.not_mem_nil, or_false, not_or]
      exact ⟨⟨num_not hx.1 hx.2 hc, h1, h2⟩, ih⟩
theorem split_commas : ∀ (x : Int) (r : List Int), (∀ n ∈ x :: r, 0 ≤ n ∧ n ≤ 2000) → Lib.split (commas ((x :: r).map num)) [44, 32] = (x :: r).map num
  | x, [], h => by
    have hx := h x List.mem_cons_self
    exact split_no rfl (num_not hx.1 hx.2 (by decide))
  | x, y :: r, h => by
    have hx := h x List.mem_cons_self
    have e : commas ((x :: y :: r).map num) = num x ++ ([44, 32] ++ commas ((y :: r).map num)) := by
      rw [← List.append_assoc]
      rfl
    rw [e, split_at rfl (num_not hx.1 hx.2 (by decide)), split_commas y r fun n hn => h n (List.mem_cons_of_mem _ hn)]
    rfl
theorem dropWhile_not {p : UInt8 → Bool} : ∀ {l : List UInt8}, (∀ c ∈ l, p c = false) → l.dropWhile p = l
  | [], _ => rfl
  | c :: l, h => by rw [List.dropWhile_cons, if_neg (by rw [h c List.mem_cons_self]; decide)]
theorem trim_braces {x : List UInt8} (h1 : (123 : UInt8) ∉ x) (h2 : (125 : UInt8) ∉ x) : Lib.trimS ([123] ++ x ++ [125]) [123, 125] = x := by
  have hp : ∀ c ∈ x, ([123, 125] : List UInt8).contains c = false := fun c hc => by
    rw [← Bool.not_eq_true, List.contains_iff_mem]
    intro h
    rcases List.mem_cons.1 h with rfl | h
    · exact h1 hc
    · rcases List.mem_cons.1 h with rfl | h
      · exact h2 hc
      · cases h
  cases x with
  | nil => decide
  | cons a t =>
    have e1 : Lib.trimRightS ([123] ++ (a :: t) ++ [125]) [123, 125] = [123] ++ (a :: t) := by
      unfold Lib.trimRightS
      rw [List.reverse_append, List.reverse_append]
      show ((125 :: ((a :: t).reverse ++ [123])).dropWhile _).reverse = _
      rw [List.dropWhile_cons, if_pos (by decide)]
      have : ((a :: t).reverse ++ [123]).dropWhile (([123, 125] : List UInt8).contains ·) = (a :: t).reverse ++ [123] := by
        cases hr : (a :: t).reverse with
        | nil => simp at hr
        | cons b u =>
          have hb : b ∈ a :: t := by rw [← List.mem_reverse, hr]; exact List.mem_cons_self
          rw [List.cons_append, List.dropWhile_cons, if_neg (by rw [hp b hb]; decide)]
      rw [this]
      simp
    unfold Lib.trimS
    rw [e1]
    unfold Lib.trimLeftS
    show (123 :: (a :: t)).dropWhile _ = _
    rw [List.dropWhile_cons, if_pos (by decide)]
    exact dropWhile_not hp
theorem setB_mem {l : List Int} (h : setB l = true) : ∀ n ∈ l, 0 ≤ n ∧ n ≤ 999 := by
  intro n hn
  obtain ⟨k, hk, rfl⟩ := List.getElem_of_mem hn
  have h1 := List.all_eq_true.1 h k (List.mem_range.2 hk)
  unfold setStep at h1
  rw [Bool.and_eq_true, Bool.and_eq_true, decide_eq_true_eq, decide_eq_true_eq] at h1
  rw [List.getD_eq_getElem?_getD, List.getElem?_eq_getElem hk] at h1
  exact h1.1
theorem valB_facts {v : ValP} (h : valB v = true) : nameB v.name = true ∧ (0 ≤ v.order ∧ v.order ≤ 2) ∧ setB v.set = true ∧ shapeB v.order v.set = true := by
  unfold valB at h
  rw [Bool.and_eq_true, Bool.and_eq_true, Bool.and_eq_true, Bool.and_eq_true, decide_eq_true_eq, decide_eq_true_eq] at h
  exact ⟨h.1.1.1, h.1.1.2, h.1.2, h.2⟩
theorem readV_dig : ∀ i : Fin 1000, readV (dig i.val) = (1, [(i.val : Int)]) := by decide +kernel
/-- A value comes back from its text. -/
theorem readV_of {v : ValP} (h : valB v = true) : readV (valueS v) = (v.order, v.set) := by
  obtain ⟨_, ⟨h0, h2⟩, hs, hq⟩ := valB_facts h
  have hm := setB_mem hs
  obtain ⟨nm, o, l⟩ := v
  dsimp only at *
  unfold shapeB at hq
  unfold valueS
  dsimp only
  by_cases ho : o = 0
  · subst ho
    rw [if_pos rfl] at hq ⊢
    rw [Bool.or_eq_true, beq_iff_eq, beq_iff_eq] at hq
    rcases hq with rfl | rfl
    · rw [if_pos rfl]
      decide
    · rw [if_neg (by simp)]
      decide
  rw [if_neg ho] at hq ⊢
  by_cases ho1 : o = 1
  · subst ho1
    rw [if_pos rfl] at hq ⊢
    rw [beq_iff_eq] at hq
    match l, hq with
    | [n], _ =>
      have hn := hm n List.mem_cons_self
      have h1 := readV_dig ⟨n.toNat, by omega⟩
      show readV (dig n.toNat) = _
      rw [h1]
      have : ((n.toNat : Nat) : Int) = n := by omega
      simp [this]
  have ho2 : o = 2 := by omega
  subst ho2
  rw [if_neg (by decide)]
  have hm2 : ∀ n ∈ l, 0 ≤ n ∧ n ≤ 2000 := fun n hn => by
    have := hm n hn
    omega
  have n1 : (123 : UInt8) ∉ commas (l.map num) := commas_not hm2 (by decide) (by decide) (by decide)
  have n2 : (125 : UInt8) ∉ commas (l.map num) := commas_not hm2 (by decide) (by decide) (by decide)
  unfold readV
  rw [if_neg (by unfold wTrue; simp), if_neg (by unfold wFalse; simp), if_pos (by simp [Lib.hasPrefix])]
  unfold readSet
  rw [trim_braces n1 n2]
  congr 1
  cases l with
  | nil => decide
  | cons x r =>
    rw [split_commas x r hm2]
    have : ((x :: r).map num).filter (fun x => !x.isEmpty) = (x :: r).map num := by
      rw [List.filter_eq_self]
      intro a ha
      obtain ⟨n, hn, rfl⟩ := List.mem_map.1 ha
      rw [(num_facts (hm2 n hn).1 (hm2 n hn).2).2.2]
      rfl
    rw [this, List.map_map]
    conv => rhs; rw [← List.map_id (x :: r)]
    refine List.map_congr_left fun n hn => ?_
    exact (num_facts (hm2 n hn).1 (hm2 n hn).2).1
/-- Within a rune of several bytes all are 128 or more. -/
theorem dec_cont (l : List UInt8) (h : ¬ (l.getD 0 0).toNat < 128) (hb : ¬ ((dec l).1 = 65533 ∧ (dec l).2 < 2)) : ∀ c ∈ l.take (dec l).2, 128 ≤ c.toNat := by
  intro c hc
  obtain ⟨k, hk, rfl⟩ := List.getElem_of_mem hc
  rw [List.length_take] at hk
  rw [List.getElem_take]
  have e : ∀ j (hj : j < l.length), l[j].toNat = (l.getD j 0).toNat := fun j hj => by rw [List.getD_eq_getElem?_getD, List.getElem?_eq_getElem hj]; rfl
  rw [e k (by omega)]
  have hk2 : k < (dec l).2 := by omega
  revert hk2 hb
  unfold dec decG
  dsimp only
  rw [if_neg h]
  have hlt (k : Nat) : (l.getD k 0).toNat < 256 := (l.getD k 0).toNat_lt
  have hk0 := hlt 0
  have hk1 := hlt 1
  have hk2 := hlt 2
  have hk3 := hlt 3
  have c3 : k = 0 ∨ k = 1 ∨ k = 2 ∨ k = 3 ∨ 4 ≤ k := by omega
  repeat' split
  all_goals simp only [Bool.and_eq_true, decide_eq_true_eq, beq_iff_eq] at *
  all_goals
    intro h1 h2
    rcases c3 with rfl | rfl | rfl | rfl | h9 <;> omega
/-- A rune's byte, if it is below 128, is the rune. -/
theorem snd_byte {r : Ru} (h : Snd r) {c : UInt8} (hc : c ∈ r.2) (h1 : c.toNat < 128) : r.1 = c.toNat := by
  obtain ⟨hne, hd, hb⟩ := h
  cases e : r.2 with
  | nil => exact absurd e hne
  | cons b t =>
    by_cases h2 : b.toNat < 128
    · have h4 := dec_ascii b t h2
      rw [e, h4] at hd
      injection hd with h5 h6
      simp at h6
      rw [e, h6] at hc
      rcases List.mem_cons.1 hc with rfl | hc
      · exact h5.symm
      · cases hc
    · exfalso
      rw [e] at hd hc
      have hall := dec_cont (b :: t) (by simpa using h2) (by
        rw [hd]
        intro h3
        exact hb (by rw [e]; exact h3)) c
      rw [hd] at hall
      have := hall (by simpa [e] using hc)
      omega
theorem name_not {s : List UInt8} (h : nameB s = true) {c : UInt8} (h1 : c.toNat < 128) (h2 : more (c.toNat, [c]) = false) : c ∉ s := by
  obtain ⟨_, ⟨hne, hhd, htl, _⟩, hf, _⟩ := nameB_runes h
  intro hc
  rw [← hf] at hc
  unfold flat at hc
  obtain ⟨r, hr, hcr⟩ := List.mem_flatMap.1 hc
  have e := snd_byte (each_snd s r hr) hcr h1
  have hm : more r = true := by
    cases hR : (each s).1 with
    | nil => exact absurd hR hne
    | cons a R =>
      rw [hR] at hr hhd htl
      rcases List.mem_cons.1 hr with rfl | hr
      · have := hhd r rfl
        unfold more
        rw [this]
        rfl
      · exact htl r hr
  unfold more at h2 hm
  rw [e] at hm
  rw [hm] at h2
  cases h2
/-- A value's line. -/
def valLine (v : ValP) : List UInt8 := v.name ++ ([32, 61, 32] ++ valueS v)
theorem valueS_not {v : ValP} (h : valB v = true) {c : UInt8} (hc : c = 10) : c ∉ valueS v := by
  subst hc
  obtain ⟨_, ⟨h0, h2⟩, hs, hq⟩ := valB_facts h
  have hm := setB_mem hs
  unfold valueS
  split
  · split <;> decide
  · split
    · next h1 =>
      unfold shapeB at hq
      rw [if_neg (by omega), if_pos h1, beq_iff_eq] at hq
      have hn := hm (v.set.getD 0 0) (by
        match v.set, hq with
        | [n], _ => simp)
      exact num_not hn.1 (by omega) (by decide)
    · have := commas_not (l := v.set) (fun n hn => by
        have := hm n hn
        omega) (c := 10) (by decide) (by decide) (by decide)
      simp [this]
theorem valLine_not {v : ValP} (h : valB v = true) : (10 : UInt8) ∉ valLine v := by
  have h1 := name_not (valB_facts h).1 (c := 10) (by decide) (by decide)
  have h2 := valueS_not h rfl
  unfold valLine
  simp [h1, h2]
theorem valOf_line {v : ValP} (h : valB v = true) : valOf (valLine v) = some v := by
  have h1 := name_not (valB_facts h).1 (c := 32) (by decide) (by decide)
  unfold valOf valLine
  rw [cut_at rfl h1]
  simp only [if_true]
  rw [readV_of h]
theorem valLine_late {v : ValP} (b : Bool) : lateOf b (valLine v) = b := by
  have : (valLine v == wCounter) = false := by
    rw [beq_eq_false_iff_ne]
    intro e
    have h1 : (32 : UInt8) ∈ valLine v := by simp [valLine]
    rw [e] at h1
    revert h1
    decide
  unfold lateOf
  rw [this, Bool.or_false]
theorem step_val {v : ValP} (h : valB v = true) (a : RdS) : a.step (valLine v) = if a.late then ⟨a.late, a.model, a.counter ++ [v]⟩ else ⟨a.late, a.model ++ [v], a.counter⟩ := by
  unfold RdS.step
  rw [valOf_line h, valLine_late]
theorem step_none {l : List UInt8} (h : (32 : UInt8) ∉ l) (a : RdS) : a.step l = ⟨lateOf a.late l, a.model, a.counter⟩ := by
  unfold RdS.step valOf
  rw [cut_no rfl h]
  rfl
theorem fold_model : ∀ (l m c : List ValP), (∀ v ∈ l, valB v = true) → (l.map valLine).foldl RdS.step ⟨false, m, c⟩ = ⟨false, m ++ l, c⟩
  | [], m, c, _ => by simp
  | v :: l, m, c, h => by
    rw [List.map_cons, List.foldl_cons, step_val (h v List.mem_cons_self)]
    show (l.map valLine).foldl RdS.step ⟨false, m ++ [v], c⟩ = _
    rw [fold_model l (m ++ [v]) c fun x hx => h x (List.mem_cons_of_mem _ hx)]
    simp
theorem fold_counter : ∀ (l m c : List ValP), (∀ v ∈ l, valB v = true) → (l.map valLine).foldl RdS.step ⟨true, m, c⟩ = ⟨true, m, c ++ l⟩
  | [], m, c, _ => by simp
  | v :: l, m, c, h => by
    rw [List.map_cons, List.foldl_cons, step_val (h v List.mem_cons_self)]
    show (l.map valLine).foldl RdS.step ⟨true, m, c ++ [v]⟩ = _
    rw [fold_counter l m (c ++ [v]) fun x hx => h x (List.mem_cons_of_mem _ hx)]
    simp
def modelL (r : ResP) : List (List UInt8) := if r.tag = 1 ∨ r.tag = 2 then wModel :: r.model.map valLine else []
def counterL (r : ResP) : List (List UInt8) := if r.tag = 3 ∨ r.tag = 2 then wCounter :: r.counter.map valLine else []
def headL (r : ResP) : List UInt8 := tagsL.getD r.tag.toNat [] ++ (if r.tag = 4 then [32] ++ num r.err ++ [32] ++ num r.at_ else [])
theorem listS_lines (t : List UInt8) (l : List ValP) : listS t l = (t :: l.map valLine).flatMap (· ++ [10]) := by
  unfold listS
  rw [List.flatMap_cons, List.flatMap_map]
  congr 1
  congr 1
  funext v
  unfold lineS valLine
  simp
theorem textS_lines (r : ResP) : textS r = (headL r :: (modelL r ++ counterL r)).flatMap (· ++ [10]) := by
  unfold textS
  rw [List.flatMap_cons, List.flatMap_append, ← List.append_assoc]
  congr 1
  · congr 1
    · unfold modelL
      split
      · exact listS_lines _ _
      · rfl
  · unfold counterL
    split
    · exact listS_lines _ _
    · rfl
theorem isB_facts {r : ResP} (h : isB r = true) : (1 ≤ r.tag ∧ r.tag ≤ 5) ∧ (∀ v ∈ r.model, valB v = true) ∧ (∀ v ∈ r.counter, valB v = true) ∧
    (r.tag = 1 ∨ r.tag = 2 ∨ r.model = []) ∧ (r.tag = 3 ∨ r.tag = 2 ∨ r.counter = []) ∧ (if r.tag = 4 then (1 ≤ r.err ∧ r.err ≤ 8) ∧ (0 ≤ r.at_ ∧ r.at_ ≤ 2000) else r.err = 0 ∧ r.at_ = 0) ∧ r.model.length ≤ 6 ∧ r.counter.length ≤ 6 := by
  unfold isB tagB restB valsB at h
  simp only [Bool.and_eq_true, decide_eq_true_eq, Bool.or_eq_true, List.all_eq_true, List.isEmpty_iff] at h
  obtain ⟨⟨h1, ⟨h2, h3⟩, h4, h5⟩, ⟨h6, h7⟩, h8⟩ := h
  refine ⟨h1, h3, h5, ?_, ?_, ?_, h2, h4⟩
  · rcases h6 with (h | h) | h
    · exact Or.inl h
    · exact Or.inr (Or.inl h)
    · exact Or.inr (Or.inr h)
  · rcases h7 with (h | h) | h
    · exact Or.inl h
    · exact Or.inr (Or.inl h)
    · exact Or.inr (Or.inr h)
  · by_cases h9 : r.tag = 4
    · rw [if_pos h9] at h8 ⊢
      simpa using h8
    · rw [if_neg h9] at h8 ⊢
      simpa using h8
theorem lines_not {r : ResP} (h : isB r = true) : ∀ l ∈ headL r :: (modelL r ++ counterL r), (10 : UInt8) ∉ l := by
  obtain ⟨⟨h1, h2⟩, h3, h4, _, _, h5, _⟩ := isB_facts h
  intro l hl
  rcases List.mem_cons.1 hl with rfl | hl
  · unfold headL
    have ht : ∀ k : Fin 6, (10 : UInt8) ∉ tagsL.getD k.val [] := by decide
    have h6 := ht ⟨r.tag.toNat, by omega⟩
    rw [List.mem_append, not_or]
    refine ⟨h6, ?_⟩
    split
    · next h7 =>
      rw [if_pos h7] at h5
      have a1 := num_not (n := r.err) (by omega) (by omega) (c := 10) (by decide)
      have a2 := num_not (n := r.at_) h5.2.1 h5.2.2 (c := 10) (by decide)
      simp [a1, a2]
    · simp
  · rcases List.mem_append.1 hl with hl | hl
    · unfold modelL at hl
      split at hl
      · rcases List.mem_cons.1 hl with rfl | hl
        · decide
        · obtain ⟨v, hv, rfl⟩ := List.mem_map.1 hl
          exact valLine_not (h3 v hv)
      · cases hl
    · unfold counterL at hl
      split at hl
      · rcases List.mem_cons.1 hl with rfl | hl
        · decide
        · obtain ⟨v, hv, rfl⟩ := List.mem_map.1 hl
          exact valLine_not (h4 v hv)
      · cases hl
theorem rdLines_text {r : ResP} (h : isB r = true) : (rdLines (modelL r ++ counterL r ++ [[]])).model = r.model ∧ (rdLines (modelL r ++ counterL r ++ [[]])).counter = r.counter := by
  obtain ⟨⟨h1, h2⟩, h3, h4, hm, hc, _⟩ := isB_facts h
  unfold rdLines
  rw [List.foldl_append, List.foldl_append]
  have e1 : (modelL r).foldl RdS.step ⟨false, [], []⟩ = ⟨false, r.model, []⟩ := by
    unfold modelL
    split
    · rw [List.foldl_cons, step_none (by decide)]
      show (r.model.map valLine).foldl RdS.step ⟨false, [], []⟩ = _
      rw [fold_model _ _ _ h3]
      rfl
    · next h5 =>
      have : r.model = [] := by
        rcases hm with h | h | h
        · exact absurd (Or.inl h) h5
        · exact absurd (Or.inr h) h5
        · exact h
      rw [this]
      rfl
  have e2 : ∃ b, (counterL r).foldl RdS.step ⟨false, r.model, []⟩ = ⟨b, r.model, r.counter⟩ := by
    unfold counterL
    split
    · refine ⟨true, ?_⟩
      rw [List.foldl_cons, step_none (by decide)]
      show (r.counter.map valLine).foldl RdS.step ⟨true, r.model, []⟩ = _
      rw [fold_counter _ _ _ h4]
      rfl
    · next h5 =>
      refine ⟨false, ?_⟩
      have : r.counter = [] := by
        rcases hc with h | h | h
        · exact absurd (Or.inl h) h5
        · exact absurd (Or.inr h) h5
        · exact h
      rw [this]
      rfl
  obtain ⟨b, e2⟩ := e2
  rw [e1, e2, List.foldl_cons, List.foldl_nil, step_none (by simp)]
  exact ⟨rfl, rfl⟩
theorem head_plain : ∀ k : Fin 6, k.val ≠ 0 → k.val ≠ 4 → tagOf ((Lib.split (tagsL.getD k.val []) [32]).getD 0 []) = (k.val : Int) ∧ (Lib.split (tagsL.getD k.val []) [32]).length ≠ 3 := by decide
theorem head_text {r : ResP} (h : isB r = true) : tagOf ((Lib.split (headL r) [32]).getD 0 []) = r.tag ∧ (if (Lib.split (headL r) [32]).length = 3 then number ((Lib.split (headL r) [32]).getD 1 []) else 0) = r.err ∧
    (if (Lib.split (headL r) [32]).length = 3 then number ((Lib.split (headL r) [32]).getD 2 []) else 0) = r.at_ := by
  obtain ⟨⟨h1, h2⟩, _, _, _, _, h5, _⟩ := isB_facts h
  obtain ⟨t, e, a, m, c⟩ := r
  dsimp only at *
  unfold headL
  dsimp only
  by_cases h4 : t = 4
  · subst h4
    rw [if_pos rfl] at h5 ⊢
    obtain ⟨⟨a1, a2⟩, a3, a4⟩ := h5
    have n1 := num_not (n := e) (by omega) (by omega) (c := 32) (by decide)
    have n2 := num_not a3 a4 (c := 32) (by decide)
    have e1 : tagsL.getD (4 : Int).toNat [] ++ ([32] ++ num e ++ [32] ++ num a) = wRefused ++ ([32] ++ (num e ++ ([32] ++ num a))) := by
      show wRefused ++ _ = _
      simp
    rw [e1, split_at rfl (by decide), split_at rfl n1, split_no rfl n2]
    refine ⟨?_, ?_, ?_⟩
    · show tagOf wRefused = 4
      decide
    · exact (num_facts (by omega) (by omega)).1
    · exact (num_facts a3 a4).1
  · rw [if_neg h4] at h5 ⊢
    rw [List.append_nil]
    obtain ⟨p1, p2⟩ := head_plain ⟨t.toNat, by omega⟩ (by show t.toNat ≠ 0; omega) (by show t.toNat ≠ 4; omega)
    dsimp only at p1 p2
    rw [if_neg p2, if_neg p2, p1]
    exact ⟨by omega, h5.1.symm, h5.2.symm⟩
/-- A result comes back from its text. -/
theorem read_text {r : ResP} (h : isB r = true) : readR (textS r) = r := by
  have hs : Lib.split (textS r) [10] = (headL r :: (modelL r ++ counterL r)) ++ [[]] := by
    rw [textS_lines]
    exact split_lines _ (lines_not h)
  obtain ⟨g1, g2⟩ := rdLines_text h
  obtain ⟨k1, k2, k3⟩ := head_text h
  unfold readR firstOf
  rw [hs]
  simp only [List.cons_append, List.getD_cons_zero, List.drop_succ_cons, List.drop_zero]
  rw [g1, g2, k1, k2, k3]
theorem text_ne {r : ResP} : textS r ≠ [] := by
  unfold textS
  simp
theorem text_inj {r q : ResP} (h : isB r = true) (hq : isB q = true) (e : textS r = textS q) : r = q := by
  rw [← read_text h, ← read_text hq, e]
theorem readOk_text {r : ResP} (h : isB r = true) : readP (textS r) = (r, true) := by
  have : readOk (textS r) = true := by
    unfold readOk textP
    rw [read_text h, if_pos h, beq_self_eq_true, Bool.and_true]
    have := text_ne (r := r)
    cases e : textS r with
    | nil => exact absurd e this
    | cons _ _ => rfl
  unfold readP
  rw [if_pos this, read_text h]
theorem readP_ok {s : List UInt8} (h : (readP s).2 = true) : isB (readP s).1 = true ∧ textS (readP s).1 = s ∧ s ≠ [] := by
  unfold readP at h ⊢
  by_cases hr : readOk s = true
  · rw [if_pos hr]
    unfold readOk textP at hr
    rw [Bool.and_eq_true, beq_iff_eq] at hr
    obtain ⟨h1, h2⟩ := hr
    have hne : s ≠ [] := by
      rintro rfl
      cases h1
    by_cases hb : isB (readR s) = true
    · rw [if_pos hb] at h2
      exact ⟨hb, h2, hne⟩
    · rw [if_neg hb] at h2
      exact absurd h2.symm hne
  · rw [if_neg hr] at h
    cases h
end Go.Proofs.YteikakoheibnjaaDoor
