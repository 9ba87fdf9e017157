/- The walk over show.list, given what the kids' calls of show.Term answer. -/
import Derived.Test.YteikakoheibnjaaDoorSJoin
import Derived.Test.YteikakoheibnjaaDoorJoin
import Derived.Test.YteikakoheibnjaaDoorWord
import Derived.Lib.Join
namespace Go.Proofs.YteikakoheibnjaaDoor
open Go Go.RowKit

/-- What a call of show.Term on x answers. -/
def STermLaw (x : Node) : Prop := ∀ (A : Option Addr) (cap : Nat) (w : World), NodeAt w w.heap.size x A cap → termB x = true → nodes x ≤ 2000 →
  Calls Tryd.prog 13 #[nodeT x A cap] w fun e w' => e = .returned (.string ⟨(termS x).toArray⟩) ∧ Below w.heap.size w w'
theorem join_commas : ∀ l : List (List UInt8), Lib.join l [44, 32] = commas l
  | [] => rfl
  | [x] => by rw [Lib.join_one]; rfl
  | x :: y :: r => by
    have := join_commas (y :: r)
    rw [Lib.join_cons] at this ⊢
    rw [commas, ← this]
    simp [Lib.joinTail]
theorem join_bytes (l : List (List UInt8)) : Lib.join ((l.map fun x => (⟨x.toArray⟩ : ByteArray)).map (·.data.toList)) ((⟨#[44, 32]⟩ : ByteArray).data.toList) = commas l := by
  have e : (l.map fun x => (⟨x.toArray⟩ : ByteArray)).map (·.data.toList) = l := by
    rw [List.map_map]
    exact List.map_id' l
  rw [e]
  exact join_commas l
/-- strings.Join, a comma and a blank between, of a row of the call's own. -/
theorem join_any {w : World} {base c : Nat} {A : Option Addr} {l : List (List UInt8)} (ho : w.ownsRow base 9 1 (.slice A l.length c) l.length (strVs l)) (hl : (commas l).length ≤ 140737488355328) (hn : l.length ≤ 100000) :
    Calls Tryd.prog 36 #[.slice A l.length c, .string ⟨#[44, 32]⟩] w fun e w' => e = .returned (.string ⟨(commas l).toArray⟩) ∧ Below w.heap.size w w' := by
  by_cases h0 : l = []
  · subst h0
    refine (Tryd.strings_Join_none A c _ w).mono ?_
    rintro e w' ⟨rfl, rfl⟩
    exact ⟨rfl, Below.refl _ _⟩
  · have hpos : 0 < l.length := by
      cases l with
      | nil => exact absurd rfl h0
      | cons x r => simp
    obtain ⟨g, cap, hv, hbase, hlt⟩ := ho.form hpos
    have hA : A = some ⟨g, 0, none⟩ := by injection hv
    subst hA
    have hcap : l.length ≤ c := by
      rcases ho.2 with ⟨hv', _⟩ | ⟨g', cap', cur, hv', _, _, hnc, _⟩
      · cases hv'
      · injection hv' with _ _ h3
        omega
    have hj := Tryd.strings_Join g 0 c (l.map fun x => (⟨x.toArray⟩ : ByteArray)) ⟨#[44, 32]⟩ w (fun j x hx => by
      have h1 := ho.cells (g := g) rfl j (.string x) (by
        rw [List.getElem?_map] at hx
        unfold strVs
        rw [List.getElem?_map]
        cases hlj : l[j]? with
        | none => rw [hlj] at hx; cases hx
        | some y => rw [hlj] at hx; injection hx with hx; rw [← hx]; rfl)
      unfold Addr.add at h1
      split at h1
      · next h => subst h; exact h1
      · simpa using h1) hlt (by rw [List.length_map]; omega) (by rw [List.length_map]; exact hcap) (by rw [join_bytes]; exact hl)
    rw [join_bytes, List.length_map] at hj
    exact hj
theorem strVs_snoc (l : List (List UInt8)) (x : List UInt8) : strVs (l ++ [x]) = strVs l ++ [.string ⟨x.toArray⟩] := by simp [strVs]
theorem inf_str : (Tryd.prog.info? 9).map (fun i => (i.zero, i.size, i.bytes)) = some (some (.string ⟨#[]⟩), 1, 16) := by kernel_rfl
theorem und_strs : Tryd.prog.underlying 40 = some (.slice 9) := by kernel_rfl
theorem str_one (s : ByteArray) : ∀ u ∈ ([.string s] : List Value), u.oneCell' = true := by
  intro u hu
  simp at hu
  subst hu
  rfl
theorem reads_one {w : World} {h : Nat} {t : TypeId} {u : Value} (hb : w.heap[h]? = some (.cells #[u] t (0, 0))) : Reads w (h + 1) 1 (some ⟨h, 0, none⟩) 1 [u] := by
  refine ⟨rfl, fun _ => ⟨_, rfl, by simp, fun j z hz => ?_⟩⟩
  have hj : j < 1 := (List.getElem?_eq_some_iff.1 hz).1
  have hj0 : j = 0 := by omega
  subst hj0
  have e : (⟨h, 0, none⟩ : Addr).add 0 = ⟨h, 0, none⟩ := by
    unfold Addr.add
    rw [if_pos rfl]
  rw [e, cell_of_row w h 0 #[u] t (0, 0) hb, ← hz]
  rfl
set_option maxHeartbeats 4000000 in
theorem slist_any (o s : List UInt8) (n p : Int) (ks : List Node) (A : Option Addr) (cap : Nat) (w : World) (h : NodeAt w w.heap.size (.node o s n p ks) A cap) (ih : ∀ k ∈ ks, STermLaw k) (hB : termsB ks = true) (hN : nodesL ks ≤ 2000) :
    Calls Tryd.prog 29 #[.slice A ks.length cap] w fun e w' => e = .returned (.string ⟨(commas (termSL ks)).toArray⟩) ∧ Below w.heap.size w w' := by
  have HC := Lib.hid h
  have HL := Lib.hid (row_len ks hB hN)
  have IH := Lib.hid (fun (k : Node) (hk : k ∈ ks) A cap W hC => ih k hk A cap W hC (by rw [termsB_all, List.all_eq_true] at hB; exact hB k hk) (Nat.le_trans (nodes_kid ks k hk) hN))
  have hl := h.len
  obtain ⟨hl1, hl2, _⟩ := hl
  have hkn : ks.length ≤ 2000 := by
    have hlen : ∀ l : List Node, l.length ≤ nodesL l := by
      intro l
      induction l with
      | nil => exact Nat.zero_le _
      | cons x r ihr =>
        have := nodes_pos x
        simp only [nodesL, List.length_cons]
        omega
    have := hlen ks
    omega
  clear h ih hB hN
  rw [termSL_map]
  have HV := Lib.hid (show (ks.take ks.length).map termS = ks.map termS by rw [List.take_length])
  generalize ks.map termS = V at *
  obtain ⟨i9, hi9, hz0, hz1, hz2⟩ := info_parts inf_str
  go_enter Tryd.func29, Tryd.ntmps29
  go_wp2_with fail
  go_loopg [3, 8] ks.length (fun r lv i wr => ∃ k : Nat, k ≤ ks.length ∧ r = ks.length - k ∧ i = .int .i64 (k : Int) ∧ Hid (wr.ownsRow w.heap.size 9 1 lv k (strVs ((ks.take k).map termS))) ∧ Hid (Below w.heap.size w wr))
  case atStart => exact ⟨0, Nat.zero_le _, rfl, rfl, Lib.hid ⟨rfl, .inl ⟨rfl, rfl⟩⟩, Lib.hid (Below.refl _ _)⟩
  case round =>
    obtain ⟨k, hk, hr, rfl, HO, HB⟩ := hrel
    have HRr := Lib.hid hr
    have hs1 := HB.out.size
    clear hr
    by_cases hlt : k < ks.length
    · obtain ⟨bb, off, A', cap', rfl, hlo, hcells, hkid⟩ := HC.out.kid k hlt
      have HI := Lib.hid (fun (W : World) (hh : NodeAt W W.heap.size ks[k] A' cap') => (IH.out ks[k] (List.getElem_mem hlt)) A' cap' W (by first | exact hh))
      have HSN := Lib.hid (show (ks.take (k + 1)).map termS = (ks.take k).map termS ++ [termS ks[k]] by rw [List.take_succ_eq_append_getElem hlt, List.map_append]; rfl)
      generalize hx : ks[k] = x at *
      clear hx
      generalize hX : termS x = X at *
      clear hX
      cases x with
      | node o' s' n' p' ks' =>
        obtain ⟨c0, c1, c2, c3, c4⟩ := kid_cells hlo hcells HB.out
        have HKD := Lib.hid hkid
        clear hcells hkid IH
        simp only [nodeT, nodeW, Node.op, Node.name, Node.num, Node.pos, Node.kids] at HI
        have g1 : decide ((k : Int) < (ks.length : Int)) = true := decide_eq_true (by omega)
        go_wp2_with (first
          | (at_builtin
             refine wpList_append_any _ rfl (.tmp 12) (.tmp 15) 40 rfl w.heap.size 9 i9 _ 1 16 und_strs hi9 hz0 hz1 hz2 rfl (by decide) _ k (strVs ((ks.take k).map termS)) rfl (HO5.out.alloc _) (w5.heap.size + 1) (some ⟨w5.heap.size, 0, none⟩) 1 1 [.string ⟨X.toArray⟩] rfl (reads_one (t := 9) (heap_new_at rfl)) (str_one _) (by simp only [maxLen]; omega) (by omega) (by have := HB5.out.size; simp <;> omega) ?_
             intro v7 w7 hown7 hg7 hv7
             have HOWN7 := Lib.hid hown7
             have HG7 := Lib.hid hg7
             clear hown7 hg7 hv7)
          | (go_at_call 13
             refine (HI.out _ (HKD.out.later (HB.out.alloc hs1 _) (by simp <;> omega))).mono ?_
             rintro e w5 ⟨rfl, hb5⟩
             have HB5 := Lib.hid ((HB.out.alloc hs1 (boxN o' s' n' p' ks'.length A' cap')).trans (hb5.mono (by simp <;> omega)))
             have HO5 := Lib.hid ((Fr.of_below hb5).own (HO.out.alloc (boxN o' s' n' p' ks'.length A' cap')) (fun k hk => by have := (HO.out.lt k hk).2; simp <;> omega))
             clear hb5))
        have hown7 := HOWN7.out
        have hg7 := HG7.out
        have HO7 := Lib.hid (show w7.ownsRow w.heap.size 9 1 v7 (k + 1) (strVs ((ks.take (k + 1)).map termS)) by
          rw [HSN.out, strVs_snoc]
          exact hown7)
        have HB7 := Lib.hid ((HB5.out.alloc HB5.out.size _).grown hg7 (by have := HB5.out.size; simp <;> omega) (fun k hk => by have := (HO5.out.lt k hk).1; omega))
        clear hown7 hg7
        go_roundg (ks.length - (k + 1))
        case measure => have := HRr.out; omega
        case rel => exact ⟨k + 1, by omega, rfl, by go_num, HO7, HB7⟩
    · have g1 : decide ((k : Int) < (ks.length : Int)) = false := decide_eq_false (by omega)
      have hkk : k = ks.length := by omega
      obtain ⟨A8, c8, rfl⟩ := own_slice HO.out
      have HO8 := Lib.hid (show wr.ownsRow w.heap.size 9 1 (.slice A8 V.length c8) V.length (strVs V) by
        have h1 := HO.out
        have h2 := HV.out
        subst hkk
        rw [h2] at h1
        have hlv : V.length = ks.length := by rw [← h2]; simp
        rw [hlv]
        exact h1)
      have hVl : V.length = ks.length := by
        have h2 := HV.out
        rw [← h2]
        simp
      have hVk : (V.length : Int) = (k : Int) := by omega
      have HJ := Lib.hid (join_any HO8.out (by
        have h3 := HL.out ks.length
        rw [HV.out] at h3
        omega) (by omega))
      rw [show V.length = k by omega] at HJ
      clear hVl hVk hkk
      go_wp2_with (
        go_at_call 36
        refine HJ.out.mono ?_
        rintro e w2 ⟨rfl, hb2⟩
        have HB2 := Lib.hid (HB.out.trans (hb2.mono hs1))
        clear hb2)
      all_goals
        go_ret
        exact ⟨rfl, HB2.out⟩
end Go.Proofs.YteikakoheibnjaaDoor
