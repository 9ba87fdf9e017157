/- Parts of the proof: PRow, ParseAdv, PFold. -/
import Derived.Test.YteikakoheibnjaaDoorQ14
namespace Go.Proofs.YteikakoheibnjaaDoor
open Go Go.RowKit

theorem ppart_name {w : World} {q : Nat} {A : Option Addr} {c : Nat} {l : List Tok} {s : PS} (h : Ps w q A c l s) (within : Bool) (hk : (nowP l s).kind = 1) :
  Calls Tryd.prog 161 #[.pointer (some ⟨q, 0, none⟩), .bool within] w (NPost w q A c l (partName l s)) := by
 cases ha : (takeP l (nextP l s) [43]).1 with
 | false => exact ppart_var h within hk ha
 | true =>
   by_cases hk2 : (nowP l (takeP l (nextP l s) [43]).2).kind = 2
   · by_cases hk3 : (nowP l (takeP l (nextP l s) [43]).2).n = 0
     · exact ppart_bad2 h within hk ha hk2 hk3
     · exact ppart_plus h within hk ha hk2 hk3
   · exact ppart_bad1 h within hk ha hk2
theorem ppartT_any {w : World} {q : Nat} {A : Option Addr} {c : Nat} {l : List Tok} {s : PS} (h : Ps w q A c l s) :
  Calls Tryd.prog 161 #[.pointer (some ⟨q, 0, none⟩), .bool true] w (NPost w q A c l (partT l s)) := by
 have e : partT l s = if (nowP l s).kind = 1 then partName l s else if (nowP l s).kind = 2 then (.node nNum [] (nowP l s).n (nowP l s).at_ [], nextP l s) else (zNode, failP s (nowP l s).at_ 2) := rfl
 rw [e]
 by_cases h1 : (nowP l s).kind = 1
 · rw [if_pos h1]
   exact ppart_name h true h1
 · rw [if_neg h1]
   by_cases h2 : (nowP l s).kind = 2
   · rw [if_pos h2]
     exact ppart_num h true h2
   · rw [if_neg h2]
     exact ppart_none h true h1 h2 (by simp)
theorem npost_open {w : World} {q : Nat} {A : Option Addr} {c : Nat} {l : List Tok} {o n : List UInt8} {k p : Int} {ks : List Node} {s : PS} {e : Ending} {w' : World} (h : NPost w q A c l (.node o n k p ks, s) e w') :
  ∃ A' c', e = .returned (.agg #[.string ⟨o.toArray⟩, .string ⟨n.toArray⟩, .int .i64 k, .int .i64 p, .slice A' ks.length c']) ∧ NodeF w' w.heap.size w'.heap.size (.node o n k p ks) A' c' ∧ Ps w' q A c l s ∧ Kq q w w' := h
def cellsK (xs : List (Node × Option Addr × Nat)) : List Value := xs.flatMap fun e => cellsN e.1 e.2.1 e.2.2
theorem cellsK_snoc (xs : List (Node × Option Addr × Nat)) (t : Node) (A : Option Addr) (c : Nat) : cellsK (xs ++ [(t, A, c)]) = cellsK xs ++ cellsN t A c := by simp [cellsK]
theorem cellsK_at : ∀ (xs : List (Node × Option Addr × Nat)) (j : Nat) (hj : j < xs.length) (m : Nat) (u : Value), (cellsN xs[j].1 xs[j].2.1 xs[j].2.2)[m]? = some u → (cellsK xs)[j * 5 + m]? = some u
 | x :: r, 0, _, m, u, h => by
   have hm : m < 5 := (List.getElem?_eq_some_iff.1 h).1
   show (cellsN x.1 x.2.1 x.2.2 ++ cellsK r)[0 * 5 + m]? = some u
   rw [show 0 * 5 + m = m by omega, List.getElem?_append_left (by exact hm)]
   exact h
 | x :: r, j + 1, hj, m, u, h => by
   show (cellsN x.1 x.2.1 x.2.2 ++ cellsK r)[(j + 1) * 5 + m]? = some u
   have h5 : (cellsN x.1 x.2.1 x.2.2).length = 5 := rfl
   rw [List.getElem?_append_right (by omega), h5, show (j + 1) * 5 + m - 5 = j * 5 + m by omega]
   exact cellsK_at r j (by simpa using hj) m u h
structure RowS (B : Nat) (W : World) (v : Value) (xs : List (Node × Option Addr × Nat)) : Prop where
 own : W.ownsRow B 24 5 v xs.length (cellsK xs)
 kids : ∀ e ∈ xs, NodeS W (fun b => B ≤ b ∧ b < W.heap.size ∧ v.ownBlock ≠ some b) e.1 e.2.1 e.2.2
section
variable {B q : Nat} {W w2 w7 : World} {v v7 : Value} {xs : List (Node × Option Addr × Nat)}
theorem RowS.nil (B : Nat) (W : World) : RowS B W (.slice none 0 0) [] := ⟨⟨rfl, .inl ⟨rfl, rfl⟩⟩, by simp⟩
theorem RowS.kq (h : RowS B W v xs) (hk : Kq q W w2) (hq : q < B) : RowS B w2 v xs :=
 ⟨Fr.own hk h.own (fun k hv hs => by have := (h.own.lt k hv).1; omega), fun e he => NodeS.turn (fun p hp => World.cell?_of_block (hk.block p.block hp.2.1 (by omega))) (fun b hb => ⟨hb.1, Nat.lt_of_lt_of_le hb.2.1 hk.size, hb.2.2⟩) _ _ _ (h.kids e he)⟩
theorem RowS.alloc (h : RowS B W v xs) (o : Obj) : RowS B (W.alloc o) v xs :=
 ⟨h.own.alloc o, fun e he => NodeS.turn (fun p hp => World.cell?_of_block (Below.heap_alloc W o p.block hp.2.1)) (fun b hb => ⟨hb.1, by simp; omega, hb.2.2⟩) _ _ _ (h.kids e he)⟩
theorem RowS.app (h : RowS B W v xs) {t : Node} {A : Option Addr} {c : Nat} (hn : NodeS W (fun b => B ≤ b ∧ b < W.heap.size ∧ v.ownBlock ≠ some b) t A c) (ho : w7.ownsRow B 24 5 v7 (xs.length + 1) (cellsK xs ++ cellsN t A c)) (hg : W.grownBy w7 v.ownBlock)
  (hor : v7.ownBlock = v.ownBlock ∨ v7.ownBlock = some W.heap.size) : RowS B w7 v7 (xs ++ [(t, A, c)]) := by
 have key : ∀ (t : Node) (A : Option Addr) (c : Nat), NodeS W (fun b => B ≤ b ∧ b < W.heap.size ∧ v.ownBlock ≠ some b) t A c → NodeS w7 (fun b => B ≤ b ∧ b < w7.heap.size ∧ v7.ownBlock ≠ some b) t A c := fun t A c hh =>
  NodeS.turn (fun p hp => World.cell?_of_block (hg.block p.block hp.2.1 (fun e => hp.2.2 e.symm))) (fun b hb => ⟨hb.1, Nat.lt_of_lt_of_le hb.2.1 hg.size, by
   rcases hor with e | e
   · rw [e]
     exact hb.2.2
   · rw [e]
     intro e2
     injection e2 with e2
     have := hb.2.1
     omega⟩) t A c hh
 refine ⟨by rw [cellsK_snoc, List.length_append]; exact ho, fun e he => ?_⟩
 rcases List.mem_append.1 he with he | he
 · exact key _ _ _ (h.kids e he)
 · simp only [List.mem_singleton] at he
   subst he
   exact key _ _ _ hn
theorem RowS.node {A : Option Addr} {n c : Nat} (h : RowS B W (.slice A n c) xs) (hl : xs.length ≤ 100) : NodeF W B W.heap.size (.node [] [] 0 0 (xs.map (·.1))) A c := by
 have hc : (xs.map (·.1)).length ≤ c := by
  rw [List.length_map]
  rcases h.own.2 with ⟨e, e2⟩ | ⟨g, cap, cur, e, _, _, hcap, _⟩
  · omega
  · injection e with _ _ e3
    omega
 refine NodeS.row (by decide) (by decide) hc (by rw [List.length_map]; omega) fun j hj => ?_
 have hj2 : j < xs.length := by simpa using hj
 obtain ⟨g, cap, hv, hbase, hlt⟩ := h.own.form (by omega)
 have hA : A = some ⟨g, 0, none⟩ := by injection hv
 subst hA
 have hx := h.kids xs[j] (List.getElem_mem hj2)
 rw [List.getElem_map]
 refine ⟨g, 0, xs[j].2.1, xs[j].2.2, rfl, ⟨hbase, hlt⟩, fun m u hu => ?_, NodeS.turn (fun _ _ => rfl) (fun b hb => ⟨hb.1, hb.2.1⟩) _ _ _ hx⟩
 have := h.own.cells (g := g) rfl _ _ (cellsK_at xs j hj2 m u hu)
 rw [Nat.zero_add]
 have e : (⟨g, 0, none⟩ : Addr).add (j * 5 + m) = ⟨g, j * 5 + m, none⟩ := by
  unfold Addr.add
  split
  · next h0 => rw [h0]
  · simp
 rw [e] at this
 exact this
end
theorem reads_five {w : World} {h : Nat} {t : TypeId} {u v x y z : Value} (hb : w.heap[h]? = some (.cells #[u, v, x, y, z] t (0, 0))) : Reads w (h + 1) 5 (some ⟨h, 0, none⟩) 1 [u, v, x, y, z] := by
 refine ⟨rfl, fun _ => ⟨_, rfl, by simp, fun j a ha => ?_⟩⟩
 have hj : j < 5 := (List.getElem?_eq_some_iff.1 ha).1
 have e : (⟨h, 0, none⟩ : Addr).add j = ⟨h, j, none⟩ := by
  unfold Addr.add
  split
  · next h0 => rw [h0]
  · simp
 rw [e, cell_of_row w h j #[u, v, x, y, z] t (0, 0) hb, ← ha]
 simp
theorem node_one (a b : ByteArray) (k n : Int) (A : Option Addr) (m c : Nat) : ∀ u ∈ ([.string a, .string b, .int .i64 k, .int .i64 n, .slice A m c] : List Value), u.oneCell' = true := by
 intro u hu
 simp at hu
 rcases hu with rfl | rfl | rfl | rfl | rfl <;> rfl
theorem und_nodes : Tryd.prog.underlying 22 = some (.slice 24) := by kernel_rfl
theorem inf_node3 : (Tryd.prog.info? 24).map (fun i => (i.zero, i.size, i.bytes)) = some (some (.agg #[.string ⟨#[]⟩, .string ⟨#[]⟩, .int .i64 0, .int .i64 0, .slice none 0 0]), 5, 72) := by kernel_rfl
theorem rowF_step (l : List Tok) (g : PS → Node × PS) (x : List UInt8) (f : Nat) (acc : List Node) (s : PS) : rowF l g x (f + 1) acc s = if s.e = 0 then if acc.length = 6 then (acc, failP s (nowP l s).at_ 2) else
  if (takeP l (g s).2 [44]).1 = true then rowF l g x f (acc ++ [(g s).1]) (takeP l (g s).2 [44]).2 else (acc ++ [(g s).1], mustP l (takeP l (g s).2 [44]).2 x) else (acc, s) := rfl
theorem rowP_eq (l : List Tok) (g : PS → Node × PS) (x : List UInt8) (s : PS) : rowP l g x s = if (takeP l s x).1 = true then ([], (takeP l s x).2) else rowF l g x 8 [] (takeP l s x).2 := rfl

set_option maxRecDepth 100000 in
set_option maxHeartbeats 4000000 in
theorem prowT_any {w : World} {q : Nat} {A : Option Addr} {c : Nat} {l : List Tok} {s : PS} (h : Ps w q A c l s) (x : List UInt8) :
  Calls Tryd.prog 154 #[.pointer (some ⟨q, 0, none⟩), .string ⟨x.toArray⟩, .bool true] w (KPost w q A c l (rowP l (partT l) x s)) := by
 have HP0 := Lib.hid h
 have hq := h.qlt
 have HT := Lib.hid (fun W (hW : Ps W q A c l s) => ptake_any hW x)
 have HV := Lib.hid (rowP_eq l (partT l) x s)
 clear h
 generalize rowP l (partT l) x s = V at *
 generalize takeP l s x = ta at *
 obtain ⟨tb, s1⟩ := ta
 cases tb with
 | true =>
   go_enter Tryd.func154, Tryd.ntmps154
   go_wp2_with (
    go_at_call 75
    refine (HT.out w HP0.out).mono ?_
    intro e w2 hpost
    obtain ⟨rfl, hp2, hk2⟩ := hpost
    have HP2 := Lib.hid hp2
    have HK2 := Lib.hid hk2
    clear hp2 hk2)
   all_goals
    go_ret
    rw [HV.out]
    exact ⟨none, 0, rfl, NodeS.leaf _ _ _ _ _ _ (by decide) (by decide) _, HP2.out, HK2.out⟩
 | false =>
   have HI := Lib.hid (fun W s' (hW : Ps W q A c l s') => ppartT_any hW)
   have HFA := Lib.hid (fun W s' (hW : Ps W q A c l s') => pfail_any hW (nowP l s').at_ 2 hW.now_small.2.2.2 (by decide))
   have HNW := Lib.hid (fun W s' (hW : Ps W q A c l s') => pnow_any hW)
   have HTK := Lib.hid (fun W s' (hW : Ps W q A c l s') => ptake_any hW [44])
   have HMU := Lib.hid (fun W s' (hW : Ps W q A c l s') => pmust_any hW x)
   have HVV := Lib.hid (show V = rowF l (partT l) x 8 [] s1 by rw [HV.out]; rfl)
   clear HV
   unfold tokV at HNW
   obtain ⟨i9, hi9, hz0, hz1, hz2⟩ := info_parts inf_node3
   have hf3 := fld3
   go_enter Tryd.func154, Tryd.ntmps154
   go_wp2_with (
    go_at_call 75
    refine (HT.out w HP0.out).mono ?_
    intro e w1 hpost
    obtain ⟨rfl, hp2, hk2⟩ := hpost
    have HP1 := Lib.hid hp2
    have HK1 := Lib.hid hk2
    have hs1 := hk2.size
    clear hp2 hk2)
   go_loopg [7] 9 (fun g lv wr => ∃ (xs : List (Node × Option Addr × Nat)) (s2 : PS), xs.length ≤ 6 ∧ g = 9 - xs.length ∧ Hid (V = rowF l (partT l) x (8 - xs.length) (xs.map (·.1)) s2) ∧ Hid (Ps wr q A c l s2) ∧ Hid (Kq q w wr) ∧ Hid (RowS w.heap.size wr lv xs) ∧ w.heap.size ≤ wr.heap.size)
   case atStart => exact ⟨[], s1, by simp, rfl, HVV, HP1, HK1, Lib.hid (RowS.nil _ _), hs1⟩
   case round =>
    obtain ⟨xs, s2, hxl, hg, HR, HPr, HKr, HRW, hwr⟩ := hrel
    have HG := Lib.hid hg
    clear hg HVV HP1 HK1
    obtain ⟨c0, c1, c2, c3⟩ := HPr.out.cells
    obtain ⟨A1, c5, rfl⟩ := own_slice HRW.out.own
    rw [show 8 - xs.length = (7 - xs.length) + 1 by omega, rowF_step] at HR
    by_cases he : s2.e = 0
    · rw [if_pos he] at HR
      rw [he] at c2
      by_cases h6 : xs.length = 6
      · have g6 : ((xs.length : Int) == 6) = true := by rw [h6]; rfl
        rw [if_pos (by rw [List.length_map]; exact h6)] at HR
        have HFA2 := Lib.hid (fun W (hW : Ps W q A c l s2) => HFA.out W s2 hW)
        have HNW2 := Lib.hid (fun W (hW : Ps W q A c l s2) => HNW.out W s2 hW)
        clear he h6 HFA HNW HI HTK HMU
        generalize nowP l s2 = t at *
        generalize failP s2 t.at_ 2 = s3 at *
        go_wp2_with (first
         | (
           go_at_call 46
           refine (HNW2.out _ HPr.out).mono ?_
           rintro e w3 ⟨rfl, hb⟩
           have HP3 := Lib.hid (HPr.out.below hb)
           have HK3 := Lib.hid (Kq.of_below (q := q) hb)
           clear hb)
         | (
           go_at_call 47
           refine (HFA2.out _ HP3.out).mono ?_
           intro e w4 hpost
           obtain ⟨rfl, hp4, hk4⟩ := hpost
           have HP4 := Lib.hid hp4
           have HK4 := Lib.hid (HK3.out.trans hk4)
           clear hp4 hk4))
        all_goals
         go_ret
         rw [HR.out]
         refine ⟨A1, c5, by rw [List.length_map]; rfl, ?_, HP4.out, HKr.out.trans HK4.out⟩
         exact RowS.node (HRW.out.kq HK4.out hq) (by omega)
      · have g6 : ((xs.length : Int) == 6) = false := by simp; omega
        rw [if_neg (by rw [List.length_map]; exact h6)] at HR
        clear he
        have HI2 := Lib.hid (fun W (hW : Ps W q A c l s2) => HI.out W s2 hW)
        generalize partT l s2 = r at *
        obtain ⟨⟨ro, rn, rm, rp, rk⟩, s3⟩ := r
        have HTK2 := Lib.hid (fun W (hW : Ps W q A c l s3) => HTK.out W s3 hW)
        simp only at HR
        generalize takeP l s3 [44] = tk at *
        obtain ⟨tb, s4⟩ := tk
        have HMU2 := Lib.hid (fun W (hW : Ps W q A c l s4) => HMU.out W s4 hW)
        clear HI HTK HNW HFA HMU
        simp only at HR
        go_wp2_with (first
         | (
           go_at_call 161
           refine (HI2.out _ HPr.out).mono ?_
           intro e w3 hpost
           obtain ⟨A3, c3', rfl, hnn, hp3, hk3⟩ := npost_open hpost
           have HNN := Lib.hid hnn
           have HP3 := Lib.hid hp3
           have HK3 := Lib.hid hk3
           have hs3 := hk3.size
           have HRW3 := Lib.hid (HRW.out.kq hk3 hq)
           clear hnn hp3 hk3)
         | (at_builtin; refine wpList_append_any _ rfl (.tmp 27) (.tmp 30) 22 rfl w.heap.size 24 i9 _ 5 72 und_nodes hi9 hz0 hz1 hz2 rfl (by decide) _ xs.length (cellsK xs) rfl (HRW3.out.own.alloc _) (w3.heap.size + 1) (some ⟨w3.heap.size, 0, none⟩) 1 1 [.string ⟨ro.toArray⟩, .string ⟨rn.toArray⟩, .int .i64 rm, .int .i64 rp, .slice A3 rk.length c3'] rfl ?_ (node_one _ _ _ _ _ _ _) (by simp only [maxLen]; omega) (by omega) (by simp <;> omega) ?_))
        · exact reads_five (t := 24) (heap_alloc_new w3 _)
        intro v7 w7 hown7 hg7 hor7
        have hpo := HP3.out.qlt
        have HRW7 := Lib.hid (RowS.app (HRW3.out.alloc _) (t := .node ro rn rm rp rk) (A := A3) (c := c3') (NodeS.turn (fun p hp => World.cell?_of_block (Below.heap_alloc _ _ p.block hp.2)) (fun b hb => ⟨by have := hb.1; omega, by have := hb.2; simp; omega, fun e => by
         have h1 := (HRW.out.own.lt b e).2
         have h2 := hb.1
         omega⟩) _ _ _ HNN.out) hown7 hg7 (hor7.imp id fun e => by rw [e]; simp))
        have HP7 := Lib.hid ((HP3.out.alloc _).grown hg7 (fun k hk => by have := (HRW3.out.own.lt k hk).1; omega))
        have HK7 := Lib.hid (((HKr.out.trans HK3.out).alloc _).grown hg7 (fun k hk => .inr (HRW3.out.own.lt k hk).1))
        have hs7 : w.heap.size ≤ w7.heap.size := HK7.out.size
        obtain ⟨A7, c7, rfl⟩ := own_slice hown7
        have hlen : (xs ++ [(Node.node ro rn rm rp rk, A3, c3')]).length = xs.length + 1 := by simp
        have hend : ∀ v, v = Value.slice A7 (xs.length + 1) c7 → Ending.returned v = Ending.returned (Value.slice A7 (xs.map (·.1) ++ [Node.node ro rn rm rp rk]).length c7) := fun v e => by
         rw [e, List.length_append, List.length_map]
         rfl
        clear hown7 hg7 hor7
        cases tb with
        | true =>
          rw [if_pos rfl] at HR
          go_wp2_with (
           go_at_call 75
           refine (HTK2.out _ HP7.out).mono ?_
           intro e w8 hpost
           obtain ⟨rfl, hp8, hk8⟩ := hpost
           have HP8 := Lib.hid hp8
           have HK8 := Lib.hid (HK7.out.trans hk8)
           have HRW8 := Lib.hid (HRW7.out.kq hk8 hq)
           clear hp8 hk8)
          all_goals
           go_roundg (9 - (xs.length + 1))
           case measure => have := HG.out; omega
           case rel => exact ⟨xs ++ [(.node ro rn rm rp rk, A3, c3')], s4, by rw [hlen]; omega, by rw [hlen], Lib.hid (by rw [HR.out, List.map_append, hlen, show 8 - (xs.length + 1) = 7 - xs.length by omega]; rfl), HP8, HK8, HRW8, HK8.out.size⟩
        | false =>
          rw [if_neg (by decide)] at HR
          go_wp2_with (first
           | (
             go_at_call 75
             refine (HTK2.out _ HP7.out).mono ?_
             intro e w8 hpost
             obtain ⟨rfl, hp8, hk8⟩ := hpost
             have HP8 := Lib.hid hp8
             have HK8 := Lib.hid hk8
             clear hp8 hk8)
           | (
             go_at_call 45
             refine (HMU2.out _ HP8.out).mono ?_
             intro e w9 hpost
             obtain ⟨rfl, hp9, hk9⟩ := hpost
             have HP9 := Lib.hid hp9
             have HK9 := Lib.hid (HK8.out.trans hk9)
             clear hp9 hk9))
          all_goals
           go_ret
           rw [HR.out]
           refine ⟨A7, c7, hend _ rfl, ?_, HP9.out, HK7.out.trans HK9.out⟩
           have := RowS.node (HRW7.out.kq HK9.out hq) (by rw [hlen]; omega)
           rw [List.map_append] at this
           exact this
    · rw [if_neg he] at HR
      have g0 : ((s2.e : Int) == 0) = false := by simp; omega
      clear he
      go_wp2_with fail
      go_ret
      rw [HR.out]
      exact ⟨A1, c5, by rw [List.length_map]; rfl, RowS.node HRW.out (by omega), HPr.out, HKr.out⟩
end Go.Proofs.YteikakoheibnjaaDoor
namespace Go.Proofs.YteikakoheibnjaaDoor
open Go

section
variable {l : List Tok}
theorem failP_i (s : PS) (p e : Nat) : (failP s p e).i = s.i := by unfold failP; split <;> rfl
theorem nextP_i (s : PS) : s.i ≤ (nextP l s).i := by
 unfold nextP
 split
 · exact Nat.le_succ _
 · exact Nat.le_refl _
theorem now_err {s : PS} (h : s.e ≠ 0) : nowP l s = ⟨4, [], 0, 0⟩ := by unfold nowP; rw [if_neg h]
theorem isW_good {s : PS} {x : List UInt8} (h : isW l s x = true) : s.e = 0 ∧ (nowP l s).kind = 3 := by
 unfold isW at h
 simp only [Bool.and_eq_true, beq_iff_eq] at h
 refine ⟨?_, h.1⟩
 by_cases he : s.e = 0
 · exact he
 · rw [now_err he] at h
   simp at h
theorem isW_err {s : PS} (h : s.e ≠ 0) (x : List UInt8) : isW l s x = false := by
 cases hh : isW l s x with
 | false => rfl
 | true => exact absurd (isW_good hh).1 h
theorem nextP_succ {s : PS} (he : s.e = 0) (hk : (nowP l s).kind ≠ 4) : (nextP l s).i = s.i + 1 := by
 unfold nextP
 rw [if_pos ⟨he, hk⟩]
theorem isW_next {s : PS} {x : List UInt8} (h : isW l s x = true) : (nextP l s).i = s.i + 1 :=
 nextP_succ (isW_good h).1 (by rw [(isW_good h).2]; decide)
theorem takeP_i (s : PS) (x : List UInt8) : s.i ≤ (takeP l s x).2.i := by
 unfold takeP
 split
 · exact nextP_i s
 · exact Nat.le_refl _
theorem mustP_i (s : PS) (x : List UInt8) : s.i ≤ (mustP l s x).i := by
 unfold mustP
 split
 · exact nextP_i s
 · rw [failP_i]
   exact Nat.le_refl _
theorem nameP_i (s : PS) : s.i ≤ (nameP l s).2.i := by
 unfold nameP
 split
 · exact nextP_i s
 · simp only [failP_i]
   exact Nat.le_refl _
theorem partName_i (s : PS) : s.i ≤ (partName l s).2.i := by
 have h1 := nextP_i (l := l) s
 have h2 := takeP_i (l := l) (nextP l s) [43]
 unfold partName
 simp only
 split
 · split
   · simp only [failP_i]
     omega
   · have h3 := nextP_i (l := l) (takeP l (nextP l s) [43]).2
     simp only
     omega
 · simp only
   omega
theorem partT_i (s : PS) : s.i ≤ (partT l s).2.i := by
 unfold partT
 simp only
 split
 · exact partName_i s
 · split
   · exact nextP_i s
   · simp only [failP_i]
     exact Nat.le_refl _
theorem rowF_i {g : PS → Node × PS} (hg : ∀ s, s.i ≤ (g s).2.i) (stop : List UInt8) : ∀ (f : Nat) (acc : List Node) (s : PS), s.i ≤ (rowF l g stop f acc s).2.i
 | 0, _, s => Nat.le_refl _
 | f + 1, acc, s => by
   have h1 := hg s
   have h2 := takeP_i (l := l) (g s).2 [44]
   unfold rowF
   split
   · split
     · simp only [failP_i]
       exact Nat.le_refl _
     · simp only
       split
       · have := rowF_i hg stop f (acc ++ [(g s).1]) (takeP l (g s).2 [44]).2
         omega
       · have := mustP_i (l := l) (takeP l (g s).2 [44]).2 stop
         simp only
         omega
   · exact Nat.le_refl _
theorem rowP_i {g : PS → Node × PS} (hg : ∀ s, s.i ≤ (g s).2.i) (stop : List UInt8) (s : PS) : s.i ≤ (rowP l g stop s).2.i := by
 have h1 := takeP_i (l := l) s stop
 unfold rowP
 simp only
 split
 · exact h1
 · have := rowF_i (l := l) hg stop 8 [] (takeP l s stop).2
   omega
theorem part_i (s : PS) : s.i ≤ (part l s).2.i := by
 unfold part
 simp only
 split
 · exact partName_i s
 · split
   · exact nextP_i s
   · split
     · have h1 := nextP_i (l := l) s
       have h2 := rowP_i (l := l) (g := partT l) partT_i [125] (nextP l s)
       simp only
       omega
     · simp only [failP_i]
       exact Nat.le_refl _
theorem termF_i : ∀ (f : Nat) (n : Node) (s : PS), s.i ≤ (termF l f n s).2.i
 | 0, _, s => Nat.le_refl _
 | f + 1, n, s => by
   have h1 := nextP_i (l := l) s
   have h2 := part_i (l := l) (nextP l s)
   unfold termF
   split
   · simp only
     split
     · have := termF_i f (.node (nowP l s).text [] 0 (nowP l s).at_ [n, (part l (nextP l s)).1]) (part l (nextP l s)).2
       omega
     · split
       · have := termF_i f (.node nMinus [] 0 (nowP l s).at_ [n, (part l (nextP l s)).1]) (part l (nextP l s)).2
         omega
       · exact Nat.le_refl _
   · exact Nat.le_refl _
theorem termP_i (s : PS) : s.i ≤ (termP l s).2.i := by
 have h1 := part_i (l := l) s
 have h2 := termF_i (l := l) (l.length + 1) (part l s).1 (part l s).2
 unfold termP
 simp only
 omega
theorem atomP_i (s : PS) : s.i ≤ (atomP l s).2.i := by
 unfold atomP
 simp only
 split
 · have h1 := nextP_i (l := l) s
   have h2 := nextP_i (l := l) (nextP l s)
   have h3 := rowP_i (l := l) (g := termP l) termP_i [41] (nextP l (nextP l s))
   simp only
   omega
 · have h1 := termP_i (l := l) s
   split
   · have h2 := nextP_i (l := l) (termP l s).2
     have h3 := termP_i (l := l) (nextP l (termP l s).2)
     simp only
     omega
   · simp only
     split
     · exact h1
     · rw [failP_i]
       exact h1
theorem leftF_i {g : PS → Node × PS} (hg : ∀ s, s.i ≤ (g s).2.i) (x op : List UInt8) : ∀ (f : Nat) (n : Node) (s : PS), s.i ≤ (leftF l g x op f n s).2.i
 | 0, _, s => Nat.le_refl _
 | f + 1, n, s => by
   have h1 := nextP_i (l := l) s
   have h2 := hg (nextP l s)
   unfold leftF
   split
   · have := leftF_i hg x op f (.node op [] 0 (nowP l s).at_ [n, (g (nextP l s)).1]) (g (nextP l s)).2
     simp only
     omega
   · exact Nat.le_refl _
theorem leftP_i {g : PS → Node × PS} (hg : ∀ s, s.i ≤ (g s).2.i) (x op : List UInt8) (s : PS) : s.i ≤ (leftP l g x op s).2.i := by
 have h1 := hg s
 have h2 := leftF_i (l := l) hg x op (l.length + 1) (g s).1 (g s).2
 unfold leftP
 simp only
 omega
theorem impF_i {u : PS → Node × PS} (hu : ∀ s, s.i ≤ (u s).2.i) : ∀ (f : Nat) (s : PS), s.i ≤ (impF l u f s).2.i
 | 0, s => leftP_i (leftP_i hu _ _) _ _ s
 | f + 1, s => by
   have h1 : s.i ≤ (orP l u s).2.i := leftP_i (leftP_i hu _ _) _ _ s
   unfold impF
   simp only
   split
   · have h2 := nextP_i (l := l) (orP l u s).2
     have h3 := impF_i hu f (nextP l (orP l u s).2)
     simp only
     omega
   · exact h1
theorem enterP_i (k : Nat) (s : PS) : (enterP l k s).i = s.i := by
 unfold enterP
 split
 · exact failP_i _ _ _
 · rfl
theorem formulaP_i {u : PS → Node × PS} (hu : ∀ s, s.i ≤ (u s).2.i) (k : Nat) (s : PS) : s.i ≤ (formulaP l u k s).2.i := by
 unfold formulaP
 split
 · have := leftP_i (l := l) (g := impP l u) (impF_i hu (l.length + 1)) [60, 61, 62] nIff (enterP l k s)
   rw [enterP_i] at this
   exact this
 · simp only [enterP_i]
   exact Nat.le_refl _
theorem unP_i : ∀ (k : Nat) (s : PS), s.i ≤ (unP l k s).2.i
 | 0, s => by
   unfold unP
   simp only [enterP_i]
   exact Nat.le_refl _
 | k + 1, s => by
   unfold unP
   have h1 := nextP_i (l := l) s
   split
   · exact Nat.le_refl _
   · simp only
     split
     · have := unP_i k (nextP l s)
       simp only
       omega
     · split
       · have h2 := nameP_i (l := l) (nextP l s)
         have h3 := mustP_i (l := l) (nameP l (nextP l s)).2 [58]
         have h4 := formulaP_i (l := l) (unP_i k) k (mustP l (nameP l (nextP l s)).2 [58])
         simp only
         omega
       · split
         · exact h1
         · split
           · have h2 := formulaP_i (l := l) (unP_i k) k (nextP l s)
             have h3 := mustP_i (l := l) (formulaP l (unP l k) k (nextP l s)).2 [41]
             simp only
             omega
           · exact atomP_i s
theorem formP_i (s : PS) : s.i ≤ (formP l s).2.i := formulaP_i (unP_i 30) 30 s
theorem declF_i (k : Int) : ∀ (f : Nat) (acc : List DeclP) (s : PS), s.i ≤ (declF l k f acc s).2.i
 | 0, _, s => Nat.le_refl _
 | f + 1, acc, s => by
   have h1 := nameP_i (l := l) s
   have h2 := takeP_i (l := l) (nameP l s).2 [44]
   unfold declF
   split
   · simp only
     split
     · have := declF_i k f (acc ++ [⟨(nameP l s).1.text, k, (nameP l s).1.at_⟩]) (takeP l (nameP l s).2 [44]).2
       omega
     · have := mustP_i (l := l) (takeP l (nameP l s).2 [44]).2 [59]
       simp only
       omega
   · exact Nat.le_refl _
theorem declP_i (s : PS) : (nextP l s).i ≤ (declP l s).2.i := declF_i _ _ _ _
theorem paramsF_i : ∀ (f : Nat) (acc : List DeclP) (s : PS), s.i ≤ (paramsF l f acc s).2.i
 | 0, _, s => Nat.le_refl _
 | f + 1, acc, s => by
   have key : ∀ s3 : PS, s.i ≤ s3.i → s.i ≤ ((if (takeP l (nameP l s3).2 [44]).1 = true then paramsF l f (acc ++ [⟨(nameP l s3).1.text, orderP l s nVarK, (nameP l s3).1.at_⟩]) (takeP l (nameP l s3).2 [44]).2 else
     (acc ++ [⟨(nameP l s3).1.text, orderP l s nVarK, (nameP l s3).1.at_⟩], mustP l (takeP l (nameP l s3).2 [44]).2 [41]))).2.i := fun s3 hs => by
    have h1 := nameP_i (l := l) s3
    have h2 := takeP_i (l := l) (nameP l s3).2 [44]
    split
    · have := paramsF_i f (acc ++ [⟨(nameP l s3).1.text, orderP l s nVarK, (nameP l s3).1.at_⟩]) (takeP l (nameP l s3).2 [44]).2
      omega
    · have := mustP_i (l := l) (takeP l (nameP l s3).2 [44]).2 [41]
      simp only
      omega
   unfold paramsF
   split
   · refine key _ ?_
     have h1 : s.i ≤ (if orderP l s nVarK < 0 then failP s (nowP l s).at_ 2 else s).i := by
      split
      · rw [failP_i]
        exact Nat.le_refl _
      · exact Nat.le_refl _
     generalize (if orderP l s nVarK < 0 then failP s (nowP l s).at_ 2 else s) = s1 at *
     have h2 := nextP_i (l := l) s1
     split
     · rw [failP_i]
       omega
     · omega
   · exact Nat.le_refl _
theorem paramsP_i (s : PS) : s.i ≤ (paramsP l s).2.i := by
 have h1 := takeP_i (l := l) s [41]
 unfold paramsP
 simp only
 split
 · exact h1
 · have := paramsF_i (l := l) 8 [] (takeP l s [41]).2
   omega
theorem predP_i (s : PS) : (nextP l s).i ≤ (predP l s).2.i := by
 unfold predP
 simp only
 have h1 := nameP_i (l := l) (nextP l s)
 have h2 := mustP_i (l := l) (nameP l (nextP l s)).2 [40]
 have h3 := paramsP_i (l := l) (mustP l (nameP l (nextP l s)).2 [40])
 have h4 := mustP_i (l := l) (paramsP l (mustP l (nameP l (nextP l s)).2 [40])).2 [61]
 have h5 := formP_i (l := l) (mustP l (paramsP l (mustP l (nameP l (nextP l s)).2 [40])).2 [61])
 have h6 := mustP_i (l := l) (formP l (mustP l (paramsP l (mustP l (nameP l (nextP l s)).2 [40])).2 [61])).2 [59]
 omega
end
end Go.Proofs.YteikakoheibnjaaDoor
namespace Go.Proofs.YteikakoheibnjaaDoor
open Go Go.RowKit

abbrev NodeX (w : World) (lo hi g : Nat) (t : Node) (A : Option Addr) (cap : Nat) : Prop := NodeS w (fun b => lo ≤ b ∧ b < hi ∧ b ≠ g) t A cap
section
variable {w w' : World} {lo hi lo' hi' g g' q : Nat} {t : Node} {A : Option Addr} {cap : Nat}
theorem nodex_turn (h : NodeX w lo hi g t A cap) (hk : ∀ b, lo ≤ b → b < hi → b ≠ g → w'.heap[b]? = w.heap[b]?) : NodeX w' lo hi g t A cap :=
 NodeS.turn (fun p hp => World.cell?_of_block (hk p.block hp.1 hp.2.1 hp.2.2)) (fun _ hb => hb) t A cap h
theorem nodex_wide (h : NodeX w lo hi g t A cap) (h1 : lo' ≤ lo) (h2 : hi ≤ hi') : NodeX w lo' hi' g t A cap :=
 NodeS.turn (fun _ _ => rfl) (fun _ hb => ⟨Nat.le_trans h1 hb.1, Nat.lt_of_lt_of_le hb.2.1 h2, hb.2.2⟩) t A cap h
theorem nodex_of (h : NodeF w lo hi t A cap) (hg : g < lo ∨ hi ≤ g) : NodeX w lo hi g t A cap :=
 NodeS.turn (fun _ _ => rfl) (fun _ hb => ⟨hb.1, hb.2, by have := hb.1; have := hb.2; omega⟩) t A cap h
theorem nodef_of (h : NodeX w lo hi g t A cap) : NodeF w lo hi t A cap := NodeS.turn (fun _ _ => rfl) (fun _ hb => ⟨hb.1, hb.2.1⟩) t A cap h
theorem nodex_kq (h : NodeX w lo hi g t A cap) (hk : Kq q w w') (h1 : q < lo) (h2 : hi ≤ w.heap.size) : NodeX w' lo hi g t A cap := nodex_turn h fun b hb hb2 _ => hk.block b (by omega) (by omega)
theorem nodex_far (h : NodeX w lo hi g t A cap) (hg : g' = g ∨ g' < lo ∨ hi ≤ g') (o : Nat) (u : Value) : NodeX (w.setCell ⟨g', o, none⟩ u) lo hi g t A cap := nodex_turn h fun b hb hb2 hb3 => Below.heap_setCell w ⟨g', o, none⟩ u b (by show b ≠ g'; omega)
theorem nodex_alloc (h : NodeX w lo hi g t A cap) (h2 : hi ≤ w.heap.size) (o : Obj) : NodeX (w.alloc o) lo hi g t A cap := nodex_turn h fun b _ hb2 _ => Below.heap_alloc w o b (by omega)
theorem nodex_drew (h : NodeX w lo hi g t A cap) : NodeX w.drew lo hi g t A cap := nodex_turn h fun _ _ _ _ => rfl
theorem nodex_two {b : Nat} {o s : List UInt8} {n p : Int} {x y : Node} {A2 : Option Addr} {c2 : Nat} (ho : o.length ≤ 140737488355328) (hb : Blk w b 24 (cellsN x A cap ++ cellsN y A2 c2).toArray) (h1 : lo ≤ b ∧ b < hi ∧ b ≠ g) (hx : NodeX w lo hi g x A cap) (hy : NodeX w lo hi g y A2 c2) (hs : s.length ≤ 140737488355328) :
  NodeX w lo hi g (.node o s n p [x, y]) (some ⟨b, 0, none⟩) 2 := NodeS.two ho hs hb h1 hx hy
end
structure Fold (w w6 : World) (q g b lo hi : Nat) (A : Option Addr) (c : Nat) (l : List Tok) (s4 : PS) (no nn : List UInt8) (nk np : Int) (ns : List Node) (NA : Option Addr) (nc : Nat) (x : Node) (A6 : Option Addr) (c6 : Nat) : Prop where
 ps : Ps w6 q A c l s4
 kq : Kq q w w6
 res : Blk w6 g 24 zN
 box : Blk w6 b 24 (nC no nn nk np NA ns.length nc)
 old : NodeX w6 lo hi b (.node no nn nk np ns) NA nc
 new : NodeX w6 lo w6.heap.size b x A6 c6
 szs : q < g ∧ g < lo ∧ lo ≤ b ∧ b < hi ∧ hi ≤ w6.heap.size ∧ w.heap.size ≤ g
theorem fold_end {w w6 : World} {q g b lo hi : Nat} {A : Option Addr} {c : Nat} {l : List Tok} {s4 : PS} {no nn : List UInt8} {nk np : Int} {ns : List Node} {NA : Option Addr} {nc : Nat} {po pn : List UInt8} {pk pp : Int} {ps : List Node} {A6 : Option Addr} {c6 : Nat}
  (h : Fold w w6 q g b lo hi A c l s4 no nn nk np ns NA nc (.node po pn pk pp ps) A6 c6) (op : List UInt8) (hop : op.length ≤ 140737488355328) (at_ : Int) (W : World)
  (hW : W = ((((((w6.setCell ⟨b, 0, none⟩ (.string ⟨op.toArray⟩)).setCell ⟨b, 1, none⟩ (.string ⟨#[]⟩)).setCell ⟨b, 2, none⟩ (.int .i64 0)).setCell ⟨b, 3, none⟩ (.int .i64 at_)).setCell ⟨b, 4, none⟩ (.slice (some ⟨w6.heap.size, 0, none⟩) 2 2)).alloc
    (.cells #[.string ⟨no.toArray⟩, .string ⟨nn.toArray⟩, .int .i64 nk, .int .i64 np, .slice NA ns.length nc, .string ⟨po.toArray⟩, .string ⟨pn.toArray⟩, .int .i64 pk, .int .i64 pp, .slice A6 ps.length c6] 24))) :
  Hid (Ps W q A c l s4) ∧ Hid (Kq q w W) ∧ Hid (Blk W g 24 zN) ∧ Hid (Blk W b 24 #[.string ⟨op.toArray⟩, .string ⟨(([] : List UInt8)).toArray⟩, .int .i64 0, .int .i64 at_, .slice (some ⟨w6.heap.size, 0, none⟩) ([.node no nn nk np ns, .node po pn pk pp ps] : List Node).length 2]) ∧
   Hid (NodeX W lo W.heap.size b (.node op [] 0 at_ [.node no nn nk np ns, .node po pn pk pp ps]) (some ⟨w6.heap.size, 0, none⟩) 2) := by
 obtain ⟨hps, hkq, hres, hbox, hold, hnew, hz⟩ := h
 subst hW
 refine ⟨Lib.hid ?_, Lib.hid ?_, Lib.hid ?_, Lib.hid ?_, Lib.hid ?_⟩
 · exact (ps5 hps (by omega) _ _ _ _ _).alloc _
 · exact (kq5 hkq (by omega) _ _ _ _ _).alloc _
 · refine blk_alloc ?_ _
   repeat' (first | (with_reducible first | exact hres | apply Blk.other) | omega | (simp <;> omega))
 · exact blk_alloc (nodZ hbox _ _ _ _ _) _
 · refine nodex_two (b := w6.heap.size) (A := NA) (cap := nc) (A2 := A6) (c2 := c6) hop (blk_new_at (by simp)) ⟨by omega, by simp, by omega⟩ ?_ ?_ (by decide)
   · refine nodex_wide (lo := lo) (hi := hi) ?_ (Nat.le_refl _) (by simp; omega)
     refine nodex_alloc ?_ (by simp; omega) _
     repeat' (first | (with_reducible first | exact hold | refine nodex_far ?_ (Or.inl rfl) _ _))
   · refine nodex_wide (lo := lo) (hi := w6.heap.size) ?_ (Nat.le_refl _) (by simp)
     refine nodex_alloc ?_ (by simp) _
     repeat' (first | (with_reducible first | exact hnew | refine nodex_far ?_ (Or.inl rfl) _ _))
theorem fold_res {w w6 : World} {q g b lo hi : Nat} {A : Option Addr} {c : Nat} {l : List Tok} {s4 : PS} {no nn : List UInt8} {nk np : Int} {ns : List Node} {NA : Option Addr} {nc : Nat} {po pn : List UInt8} {pk pp : Int} {ps : List Node} {A6 : Option Addr} {c6 : Nat}
  (h : Fold w w6 q g b lo hi A c l s4 no nn nk np ns NA nc (.node po pn pk pp ps) A6 c6) (op : List UInt8) (hop : op.length ≤ 140737488355328) (at_ : Int) (W : World)
  (hW : W = ((((((w6.setCell ⟨g, 0, none⟩ (.string ⟨op.toArray⟩)).setCell ⟨g, 1, none⟩ (.string ⟨#[]⟩)).setCell ⟨g, 2, none⟩ (.int .i64 0)).setCell ⟨g, 3, none⟩ (.int .i64 at_)).setCell ⟨g, 4, none⟩ (.slice (some ⟨w6.heap.size, 0, none⟩) 2 2)).alloc
    (.cells #[.string ⟨no.toArray⟩, .string ⟨nn.toArray⟩, .int .i64 nk, .int .i64 np, .slice NA ns.length nc, .string ⟨po.toArray⟩, .string ⟨pn.toArray⟩, .int .i64 pk, .int .i64 pp, .slice A6 ps.length c6] 24))) :
  Ps W q A c l s4 ∧ Kq q w W ∧ Blk W g 24 #[.string ⟨op.toArray⟩, .string ⟨#[]⟩, .int .i64 0, .int .i64 at_, .slice (some ⟨w6.heap.size, 0, none⟩) 2 2] ∧
   NodeF W w.heap.size W.heap.size (.node op [] 0 at_ [.node no nn nk np ns, .node po pn pk pp ps]) (some ⟨w6.heap.size, 0, none⟩) 2 := by
 obtain ⟨hps, hkq, hres, hbox, hold, hnew, hz⟩ := h
 subst hW
 refine ⟨?_, ?_, ?_, ?_⟩
 · exact (ps5 hps (by omega) _ _ _ _ _).alloc _
 · exact (kq5 hkq (by omega) _ _ _ _ _).alloc _
 · exact blk_alloc (nodZ hres _ _ _ _ _) _
 · refine nodef_of (g := b) ?_
   refine nodex_two (b := w6.heap.size) (A := NA) (cap := nc) (A2 := A6) (c2 := c6) hop (blk_new_at (by simp)) ⟨by omega, by simp, by omega⟩ ?_ ?_ (by decide)
   · refine nodex_wide (lo := lo) (hi := hi) ?_ (by omega) (by simp; omega)
     refine nodex_alloc ?_ (by simp; omega) _
     repeat' (first | (with_reducible first | exact hold | refine nodex_far ?_ (Or.inr (Or.inl (by omega))) _ _))
   · refine nodex_wide (lo := lo) (hi := w6.heap.size) ?_ (by omega) (by simp)
     refine nodex_alloc ?_ (by simp) _
     repeat' (first | (with_reducible first | exact hnew | refine nodex_far ?_ (Or.inr (Or.inl (by omega))) _ _))
end Go.Proofs.YteikakoheibnjaaDoor
