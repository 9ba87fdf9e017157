/- Parts of the proof: PDecl. -/
import Derived.Test.YteikakoheibnjaaDoorQ19
namespace Go.Proofs.YteikakoheibnjaaDoor
open Go Go.RowKit

def cellsD (l : List DeclP) : List Value := l.flatMap fun d => [.string ⟨d.name.toArray⟩, .int .i64 d.order, .int .i64 d.at_]
theorem cellsD_snoc (l : List DeclP) (d : DeclP) : cellsD (l ++ [d]) = cellsD l ++ [.string ⟨d.name.toArray⟩, .int .i64 d.order, .int .i64 d.at_] := by simp [cellsD]
theorem cellsD_app (l m : List DeclP) : cellsD (l ++ m) = cellsD l ++ cellsD m := by simp [cellsD]
theorem cellsD_len (l : List DeclP) : (cellsD l).length = l.length * 3 := by
 induction l with
 | nil => rfl
 | cons x r ih =>
   show (_ :: _ :: _ :: cellsD r).length = _
   simp only [List.length_cons, ih]
   omega
theorem cellsD_at : ∀ (l : List DeclP) (j : Nat) (hj : j < l.length), (cellsD l)[j * 3]? = some (.string ⟨l[j].name.toArray⟩) ∧ (cellsD l)[j * 3 + 1]? = some (.int .i64 l[j].order) ∧ (cellsD l)[j * 3 + 2]? = some (.int .i64 l[j].at_)
 | _ :: _, 0, _ => ⟨rfl, rfl, rfl⟩
 | x :: r, j + 1, hj => by
   have h := cellsD_at r j (by simpa using hj)
   have e : cellsD (x :: r) = .string ⟨x.name.toArray⟩ :: .int .i64 x.order :: .int .i64 x.at_ :: cellsD r := rfl
   rw [e, show (j + 1) * 3 = j * 3 + 1 + 1 + 1 by omega, show j * 3 + 1 + 1 + 1 + 1 = (j * 3 + 1) + 1 + 1 + 1 by omega, show j * 3 + 1 + 1 + 1 + 2 = (j * 3 + 2) + 1 + 1 + 1 by omega]
   exact h
theorem cellsD_one (l : List DeclP) : ∀ u ∈ cellsD l, u.oneCell' = true := by
 intro u hu
 unfold cellsD at hu
 obtain ⟨d, _, hd⟩ := List.mem_flatMap.1 hu
 simp at hd
 rcases hd with rfl | rfl | rfl <;> rfl
structure RowD (B : Nat) (W : World) (v : Value) (ds : List DeclP) : Prop where
 own : W.ownsRow B 60 3 v ds.length (cellsD ds)
 nm : ∀ d ∈ ds, d.name.length ≤ 2000
section
variable {B q : Nat} {W w2 w7 : World} {v v7 : Value} {ds : List DeclP}
theorem RowD.nil (B : Nat) (W : World) : RowD B W (.slice none 0 0) [] := ⟨⟨rfl, .inl ⟨rfl, rfl⟩⟩, by simp⟩
theorem RowD.kq (h : RowD B W v ds) (hk : Kq q W w2) (hq : q < B) : RowD B w2 v ds :=
 ⟨Fr.own hk h.own (fun k hv hs => by have := (h.own.lt k hv).1; omega), h.nm⟩
theorem RowD.alloc (h : RowD B W v ds) (o : Obj) : RowD B (W.alloc o) v ds := ⟨h.own.alloc o, h.nm⟩
theorem add_off (g k : Nat) : (⟨g, 0, none⟩ : Addr).add k = ⟨g, k, none⟩ := by
 unfold Addr.add
 split
 · next h0 => rw [h0]
 · simp
theorem RowD.at_ {A : Option Addr} {c : Nat} (h : RowD B W (.slice A ds.length c) ds) (hl : ds.length ≤ 100000) : DeclsAt W W.heap.size A c ds ∧ ∀ b off, A = some ⟨b, off, none⟩ → B ≤ b := by
 refine ⟨⟨?_, by omega, fun d hd => by have := h.nm d hd; omega, fun k hk => ?_⟩, ?_⟩
 · rcases h.own.2 with ⟨e, e2⟩ | ⟨g, cap, cur, e, _, _, hcap, _⟩
   · omega
   · injection e with _ _ e3
     omega
 · obtain ⟨g, cap, hv, hbase, hlt⟩ := h.own.form (by omega)
   have hA : A = some ⟨g, 0, none⟩ := by injection hv
   subst hA
   obtain ⟨e0, e1, e2⟩ := cellsD_at ds k hk
   have hc := h.own.cells (g := g) rfl
   have h0 := hc _ _ e0
   have h1 := hc _ _ e1
   have h2 := hc _ _ e2
   rw [add_off] at h0 h1 h2
   refine ⟨g, 0, rfl, hlt, ?_, ?_, ?_⟩
   · rw [Nat.zero_add]
     exact h0
   · rw [Nat.zero_add]
     exact h1
   · rw [Nat.zero_add]
     exact h2
 · intro b off e
   rcases h.own.2 with ⟨e1, _⟩ | ⟨g, cap, cur, e1, hb, _⟩
   · injection e1 with e1
     rw [e1] at e
     cases e
   · injection e1 with e1
     rw [e1] at e
     injection e with e
     injection e with e
     omega
theorem RowD.reads {A : Option Addr} {c : Nat} (h : RowD B W (.slice A ds.length c) ds) : Reads W W.heap.size 3 A ds.length (cellsD ds) := by
 refine ⟨cellsD_len ds, fun h0 => ?_⟩
 obtain ⟨g, cap, hv, _, hlt⟩ := h.own.form h0
 have hA : A = some ⟨g, 0, none⟩ := by injection hv
 subst hA
 exact ⟨_, rfl, hlt, fun j a ha => h.own.cells (g := g) rfl _ _ ha⟩
end
def DPost (w : World) (q : Nat) (A : Option Addr) (c : Nat) (l : List Tok) (r : List DeclP × PS) (e : Ending) (w' : World) : Prop := ∃ A' c', e = .returned (.slice A' r.1.length c') ∧ RowD w.heap.size w' (.slice A' r.1.length c') r.1 ∧ Ps w' q A c l r.2 ∧ Kq q w w'
theorem reads_three {w : World} {h : Nat} {t : TypeId} {u v x : Value} (hb : w.heap[h]? = some (.cells #[u, v, x] t (0, 0))) : Reads w (h + 1) 3 (some ⟨h, 0, none⟩) 1 [u, v, x] := by
 refine ⟨rfl, fun _ => ⟨_, rfl, by simp, fun j a ha => ?_⟩⟩
 have hj : j < 3 := (List.getElem?_eq_some_iff.1 ha).1
 rw [add_off, cell_of_row w h j #[u, v, x] t (0, 0) hb, ← ha]
 simp
theorem decl_one (a : ByteArray) (k n : Int) : ∀ u ∈ ([.string a, .int .i64 k, .int .i64 n] : List Value), u.oneCell' = true := by
 intro u hu
 simp at hu
 rcases hu with rfl | rfl | rfl <;> rfl
theorem und_decls : Tryd.prog.underlying 30 = some (.slice 60) := by kernel_rfl
theorem inf_decl3 : (Tryd.prog.info? 60).map (fun i => (i.zero, i.size, i.bytes)) = some (some (.agg #[.string ⟨#[]⟩, .int .i64 0, .int .i64 0]), 3, 32) := by kernel_rfl
theorem declF_step (l : List Tok) (k : Int) (f : Nat) (acc : List DeclP) (s : PS) : declF l k (f + 1) acc s = if s.e = 0 then
  if (takeP l (nameP l s).2 [44]).1 = true then declF l k f (acc ++ [⟨(nameP l s).1.text, k, (nameP l s).1.at_⟩]) (takeP l (nameP l s).2 [44]).2 else (acc ++ [⟨(nameP l s).1.text, k, (nameP l s).1.at_⟩], mustP l (takeP l (nameP l s).2 [44]).2 [59]) else (acc, s) := rfl
theorem nameP_len {l : List Tok} (hs : ∀ t ∈ l, t.kind ≤ 4 ∧ t.text.length ≤ 2000 ∧ t.n ≤ 99 ∧ t.at_ ≤ 2000) (s : PS) : (nameP l s).1.text.length ≤ 2000 := by
 have hz : ([] : List UInt8).length ≤ 2000 := by decide
 unfold nameP
 split
 · simp only
   unfold nowP
   split
   · rw [List.getD_eq_getElem?_getD]
     cases h : l[s.i]? with
     | none => exact hz
     | some t => exact (hs t (List.mem_of_getElem? h)).2.1
   · exact hz
 · exact hz
theorem take_up {l : List Tok} {s : PS} {x : List UInt8} (h : (takeP l s x).1 = true) : (takeP l s x).2.i = s.i + 1 := by
 unfold takeP at h ⊢
 split
 · next hh => exact isW_next hh
 · next hh =>
   rw [if_neg hh] at h
   cases h

set_option maxRecDepth 100000 in
set_option maxHeartbeats 4000000 in
theorem pdecl_any {w : World} {q : Nat} {A : Option Addr} {c : Nat} {l : List Tok} {s : PS} (h : Ps w q A c l s) :
  Calls Tryd.prog 43 #[.pointer (some ⟨q, 0, none⟩)] w (DPost w q A c l (declP l s)) := by
 have HP0 := Lib.hid h
 have hq := h.qlt
 have hll := h.len
 have HO := Lib.hid (porder_any h [118, 97, 114] (by decide))
 have HX := Lib.hid (fun W (hW : Ps W q A c l s) => pnext_any hW)
 have HV := Lib.hid (show declP l s = declF l (orderP l s [118, 97, 114]) (l.length + 1) [] (nextP l s) from rfl)
 have HNA := Lib.hid (fun W s' (hW : Ps W q A c l s') => pname_any hW)
 have HLNA := Lib.hid (nameP_len h.small)
 have HTK := Lib.hid (fun W s' (hW : Ps W q A c l s') => ptake_any hW [44])
 have HMU := Lib.hid (fun W s' (hW : Ps W q A c l s') => pmust_any hW [59])
 clear h
 generalize declP l s = V at *
 generalize orderP l s [118, 97, 114] = k at *
 generalize nextP l s = s1 at *
 generalize nowP l s = t0 at *
 unfold tokV at HX
 obtain ⟨i9, hi9, hz0, hz1, hz2⟩ := info_parts inf_decl3
 go_enter Tryd.func43, Tryd.ntmps43
 go_wp2_with (first
  | (
      go_at_call 72
      refine (HX.out _ HP1.out).mono ?_
      intro e w2 hpost
      obtain ⟨rfl, hp2, hk2⟩ := hpost
      have HP2 := Lib.hid hp2
      have HK2 := Lib.hid (HK1.out.trans hk2)
      have hs2 := HK2.out.size
      clear hp2 hk2)
  | (
      go_at_call 41
      refine (HO.out).mono ?_
      rintro e w1 ⟨rfl, hb⟩
      have hk1 := Kq.of_below (q := q) hb
      have HP1 := Lib.hid (HP0.out.below hb)
      have HK1 := Lib.hid hk1
      clear hb hk1))
 go_loopg [4] (l.length + 2) (fun g lv wr => ∃ (f : Nat) (acc : List DeclP) (s2 : PS), f ≤ l.length + 1 ∧ g = f + 1 ∧ l.length < f + s2.i ∧ acc.length ≤ s2.i ∧ Hid (V = declF l k f acc s2) ∧ Hid (Ps wr q A c l s2) ∧ Hid (Kq q w wr) ∧ Hid (RowD w.heap.size wr lv acc) ∧ w.heap.size ≤ wr.heap.size)
 case atStart => exact ⟨l.length + 1, [], s1, Nat.le_refl _, rfl, by omega, by simp, HV, HP2, HK2, Lib.hid (RowD.nil _ _), hs2⟩
 case round =>
  obtain ⟨f, acc, s2, hf1, hg, hfs, hal, HR, HPr, HKr, HRW, hwr⟩ := hrel
  have HG := Lib.hid hg
  clear hg HV HP2 HK2 HX HO HP0 HP1 HK1
  have hi2 := HPr.out.lt
  obtain ⟨c0, c1, c2, c3⟩ := HPr.out.cells
  obtain ⟨A1, c5, rfl⟩ := own_slice HRW.out.own
  obtain ⟨f, rfl⟩ : ∃ k, f = k + 1 := ⟨f - 1, by omega⟩
  rw [declF_step] at HR
  by_cases he : s2.e = 0
  · rw [if_pos he] at HR
    rw [he] at c2
    clear he
    have HN2 := Lib.hid (fun W (hW : Ps W q A c l s2) => HNA.out W s2 hW)
    have HLN := Lib.hid (HLNA.out s2)
    have hni := nameP_i (l := l) s2
    generalize nameP l s2 = na at *
    obtain ⟨a, s3⟩ := na
    simp only at HR HN2 HLN hni
    have HTK2 := Lib.hid (fun W (hW : Ps W q A c l s3) => HTK.out W s3 hW)
    have htu := fun hh => take_up (l := l) (s := s3) (x := [44]) hh
    generalize takeP l s3 [44] = tk at *
    obtain ⟨tb, s4⟩ := tk
    have HMU2 := Lib.hid (fun W (hW : Ps W q A c l s4) => HMU.out W s4 hW)
    clear HNA HLNA HTK HMU
    simp only at HR htu
    unfold tokV at HN2
    go_wp2_with (first
     | (
         go_at_call 73
         refine (HN2.out _ HPr.out).mono ?_
         intro e w3 hpost
         obtain ⟨rfl, hp3, hk3⟩ := hpost
         have HP3 := Lib.hid hp3
         have HK3 := Lib.hid hk3
         have HRW3 := Lib.hid (HRW.out.kq hk3 hq)
         have hs3 := hk3.size
         clear hp3 hk3)
     | (at_builtin; refine wpList_append_any _ rfl (.tmp 17) (.tmp 24) 30 rfl w.heap.size 60 i9 _ 3 32 und_decls hi9 hz0 hz1 hz2 rfl (by decide) _ acc.length (cellsD acc) rfl (((HRW3.out.alloc _).alloc _).own) (w3.heap.size + 1 + 1) (some ⟨w3.heap.size + 1, 0, none⟩) 1 1 [.string ⟨a.text.toArray⟩, .int .i64 k, .int .i64 (a.at_ : Nat)] rfl ?_ (decl_one _ _ _) (by simp only [maxLen]; omega) (by omega) (by simp <;> omega) ?_))
    · refine reads_three (t := 60) ?_
      exact heap_new_at (by simp)
    intro v7 w7 hown7 hg7 _
    have hpo := HP3.out.qlt
    have HRW7 := Lib.hid (show RowD w.heap.size w7 v7 (acc ++ [⟨a.text, k, (a.at_ : Nat)⟩]) from ⟨by rw [cellsD_snoc, List.length_append]; exact hown7, fun d hd => by
     rcases List.mem_append.1 hd with hd | hd
     · exact HRW3.out.nm d hd
     · simp only [List.mem_singleton] at hd
       subst hd
       exact HLN.out⟩)
    have HP7 := Lib.hid (((HP3.out.alloc _).alloc _).grown hg7 (fun k hk => by have := (HRW3.out.own.lt k hk).1; omega))
    have HK7 := Lib.hid ((((HKr.out.trans HK3.out).alloc _).alloc _).grown hg7 (fun k hk => .inr (HRW3.out.own.lt k hk).1))
    have hs7 : w.heap.size ≤ w7.heap.size := HK7.out.size
    obtain ⟨A7, c7, rfl⟩ := own_slice hown7
    have hlen : (acc ++ [(⟨a.text, k, (a.at_ : Nat)⟩ : DeclP)]).length = acc.length + 1 := by simp
    have hend : ∀ v, v = Value.slice A7 (acc.length + 1) c7 → Ending.returned v = Ending.returned (Value.slice A7 (acc ++ [(⟨a.text, k, (a.at_ : Nat)⟩ : DeclP)]).length c7) := fun v e => by rw [e, hlen]
    clear hown7 hg7
    cases tb with
    | true =>
      have HE := Lib.hid (HR.out.trans (if_pos rfl))
      have ht4 := htu rfl
      clear htu HMU2 HR
      go_wp2_with (
       go_at_call 75
       refine (HTK2.out _ HP7.out).mono ?_
       intro e w8 hpost
       obtain ⟨rfl, hp8, hk8⟩ := hpost
       have HP8 := Lib.hid hp8
       have HK8 := Lib.hid (HK7.out.trans hk8)
       have HRW8 := Lib.hid (HRW7.out.kq hk8 hq)
       have hs8 := HK8.out.size
       clear hp8 hk8)
      all_goals
       go_roundg (f + 1)
       case measure => have := HG.out; omega
       case rel => exact ⟨f, _, s4, by omega, rfl, by omega, by rw [hlen]; omega, HE, HP8, HK8, HRW8, hs8⟩
    | false =>
      have HE := Lib.hid (HR.out.trans (if_neg (by decide)))
      clear htu HR
      go_wp2_with (first
       | (
           go_at_call 45
           refine (HMU2.out _ HP8.out).mono ?_
           intro e w9 hpost
           obtain ⟨rfl, hp9, hk9⟩ := hpost
           have HP9 := Lib.hid hp9
           have HK9 := Lib.hid (HK8.out.trans hk9)
           have HRW9 := Lib.hid (HRW8.out.kq hk9 hq)
           clear hp9 hk9)
       | (
           go_at_call 75
           refine (HTK2.out _ HP7.out).mono ?_
           intro e w8 hpost
           obtain ⟨rfl, hp8, hk8⟩ := hpost
           have HP8 := Lib.hid hp8
           have HK8 := Lib.hid (HK7.out.trans hk8)
           have HRW8 := Lib.hid (HRW7.out.kq hk8 hq)
           clear hp8 hk8))
      all_goals
       go_ret
       rw [HE.out]
       exact ⟨A7, c7, hend _ rfl, by rw [hlen]; exact HRW9.out, HP9.out, HK9.out⟩
  · rw [if_neg he] at HR
    have g0 : ((s2.e : Int) == 0) = false := by simp; omega
    clear he
    go_wp2_with fail
    go_ret
    rw [HR.out]
    exact ⟨A1, c5, rfl, HRW.out, HPr.out, HKr.out⟩

theorem paramsF_step (l : List Tok) (f : Nat) (acc : List DeclP) (s : PS) : paramsF l (f + 1) acc s = if s.e = 0 then
  (fun s1 : PS => (fun s3 : PS => if (takeP l (nameP l s3).2 [44]).1 = true then paramsF l f (acc ++ [⟨(nameP l s3).1.text, orderP l s [118, 97, 114], (nameP l s3).1.at_⟩]) (takeP l (nameP l s3).2 [44]).2 else (acc ++ [⟨(nameP l s3).1.text, orderP l s [118, 97, 114], (nameP l s3).1.at_⟩], mustP l (takeP l (nameP l s3).2 [44]).2 [41]))
    (if acc.length = 6 then failP (nextP l s1) (nowP l (nextP l s1)).at_ 2 else nextP l s1)) (if orderP l s [118, 97, 114] < 0 then failP s (nowP l s).at_ 2 else s) else (acc, s) := rfl
theorem six_false {l : List Tok} {s : PS} {p : Nat} : (takeP l (nameP l (failP s p 2)).2 [44]).1 = false := by
 have h1 : (failP s p 2).e ≠ 0 := by
  unfold failP
  split
  · exact (show (2 : Nat) ≠ 0 by decide)
  · next h => exact h
 generalize failP s p 2 = s1 at *
 have h2 : (nameP l s1).2.e ≠ 0 := by
  unfold nameP
  rw [now_err h1]
  simp only
  rw [if_neg (by decide)]
  unfold failP
  rw [if_neg h1]
  exact h1
 unfold takeP
 rw [isW_err h2]
 rfl
theorem paramsP_eq (l : List Tok) (s : PS) : paramsP l s = if (takeP l s [41]).1 = true then ([], (takeP l s [41]).2) else paramsF l 8 [] (takeP l s [41]).2 := rfl
set_option maxRecDepth 100000 in
set_option maxHeartbeats 8000000 in
theorem pparams_any {w : World} {q : Nat} {A : Option Addr} {c : Nat} {l : List Tok} {s : PS} (h : Ps w q A c l s) :
  Calls Tryd.prog 74 #[.pointer (some ⟨q, 0, none⟩)] w (DPost w q A c l (paramsP l s)) := by
 have HP0 := Lib.hid h
 have hq := h.qlt
 have hll := h.len
 have HT := Lib.hid (fun W (hW : Ps W q A c l s) => ptake_any hW [41])
 have HO := Lib.hid (fun W s' (hW : Ps W q A c l s') => porder_any hW [118, 97, 114] (by decide))
 have HX := Lib.hid (fun W s' (hW : Ps W q A c l s') => pnext_any hW)
 have HV := Lib.hid (paramsP_eq l s)
 have HNA := Lib.hid (fun W s' (hW : Ps W q A c l s') => pname_any hW)
 have HLNA := Lib.hid (nameP_len h.small)
 have HTK := Lib.hid (fun W s' (hW : Ps W q A c l s') => ptake_any hW [44])
 have HMU := Lib.hid (fun W s' (hW : Ps W q A c l s') => pmust_any hW [41])
 have HNW := Lib.hid (fun W s' (hW : Ps W q A c l s') => pnow_any hW)
 have HFA := Lib.hid (fun W s' (hW : Ps W q A c l s') => pfail_any hW (nowP l s').at_ 2 hW.now_small.2.2.2 (by decide))
 clear h
 generalize paramsP l s = V at *
 generalize takeP l s [41] = ta at *
 obtain ⟨tb, s1⟩ := ta
 obtain ⟨i9, hi9, hz0, hz1, hz2⟩ := info_parts inf_decl3
 have hf3 := fld3
 cases tb with
 | true =>
   go_enter Tryd.func74, Tryd.ntmps74
   go_wp2_with (
    go_at_call 75
    refine (HT.out w HP0.out).mono ?_
    intro e w2 hpost
    obtain ⟨rfl, hp2, hk2⟩ := hpost
    have HP2 := Lib.hid hp2
    have HK2 := Lib.hid hk2
    clear hp2 hk2)
   all_goals
    go_ret
    rw [HV.out]
    exact ⟨none, 0, rfl, RowD.nil _ _, HP2.out, HK2.out⟩
 | false =>
   have HVV := Lib.hid (show V = paramsF l 8 [] s1 by rw [HV.out]; rfl)
   clear HV
   go_enter Tryd.func74, Tryd.ntmps74
   go_wp2_with (
    go_at_call 75
    refine (HT.out w HP0.out).mono ?_
    intro e w1 hpost
    obtain ⟨rfl, hp2, hk2⟩ := hpost
    have HP1 := Lib.hid hp2
    have HK1 := Lib.hid hk2
    have hs1 := hk2.size
    clear hp2 hk2)
   go_loopg [3] 9 (fun g lv wr => ∃ (acc : List DeclP) (s2 : PS), acc.length ≤ 6 ∧ g = 9 - acc.length ∧ Hid (V = paramsF l (8 - acc.length) acc s2) ∧ Hid (Ps wr q A c l s2) ∧ Hid (Kq q w wr) ∧ Hid (RowD w.heap.size wr lv acc) ∧ w.heap.size ≤ wr.heap.size)
   case atStart => exact ⟨[], s1, by simp, rfl, HVV, HP1, HK1, Lib.hid (RowD.nil _ _), hs1⟩
   case round =>
    obtain ⟨acc, s2, hxl, hg, HR, HPr, HKr, HRWr, hwr⟩ := hrel
    have HG := Lib.hid hg
    clear hg HVV HP1 HK1 HT
    obtain ⟨c0, c1, c2, c3⟩ := HPr.out.cells
    obtain ⟨A1, c5, rfl⟩ := own_slice HRWr.out.own
    rw [show 8 - acc.length = (7 - acc.length) + 1 by omega, paramsF_step] at HR
    by_cases he : s2.e = 0
    · rw [if_pos he] at HR
      rw [he] at c2
      clear he
      simp only at HR
      by_cases hk : orderP l s2 [118, 97, 114] < 0
      · by_cases h6 : acc.length = 6
        · have HE := Lib.hid (HR.out)
          rw [if_pos hk] at HE
          rw [if_pos h6] at HE
          have gk : decide (orderP l s2 [118, 97, 114] < (0 : Int)) = true := decide_eq_true hk
          have g6 : ((acc.length : Int) == 6) = true := by rw [h6]; rfl
          clear HR hk h6
          have HO2 := Lib.hid (fun W (hW : Ps W q A c l s2) => HO.out W s2 hW)
          have hsix := six_false (l := l) (s := nextP l (failP s2 (nowP l s2).at_ 2)) (p := (nowP l (nextP l (failP s2 (nowP l s2).at_ 2))).at_)
          have HN2 := Lib.hid (fun W (hW : Ps W q A c l s2) => HNW.out W s2 hW)
          have HF2 := Lib.hid (fun W (hW : Ps W q A c l s2) => HFA.out W s2 hW)
          generalize nowP l s2 = t2 at *
          generalize failP s2 t2.at_ 2 = sA at *
          generalize orderP l s2 [118, 97, 114] = k at *
          have HX2 := Lib.hid (fun W (hW : Ps W q A c l sA) => HX.out W sA hW)
          generalize nowP l sA = tX at *
          generalize nextP l sA = sB at *
          have HN4 := Lib.hid (fun W (hW : Ps W q A c l sB) => HNW.out W sB hW)
          have HF4 := Lib.hid (fun W (hW : Ps W q A c l sB) => HFA.out W sB hW)
          generalize nowP l sB = t4 at *
          generalize failP sB t4.at_ 2 = sC at *
          have HN6 := Lib.hid (fun W (hW : Ps W q A c l sC) => HNA.out W sC hW)
          have HLN := Lib.hid (HLNA.out sC)
          generalize nameP l sC = na at *
          obtain ⟨a, sD⟩ := na
          simp only at HE HN6 HLN hsix
          have HTK2 := Lib.hid (fun W (hW : Ps W q A c l sD) => HTK.out W sD hW)
          generalize takeP l sD [44] = tk at *
          obtain ⟨tb, sE⟩ := tk
          simp only at hsix
          have HMU2 := Lib.hid (fun W (hW : Ps W q A c l sE) => HMU.out W sE hW)
          clear HNA HLNA HTK HMU HO HX HNW HFA
          simp only at HE
          unfold tokV at HN6 HX2 HN2 HN4
          go_upto_region 8 with (first
           | (
               go_at_call 47
               have hgd := HP4
               clear hgd
               refine (HF2.out _ HP4.out).mono ?_
               intro e w5 hpost
               obtain ⟨rfl, hp, hk⟩ := hpost
               have HP5 := Lib.hid hp
               have HK5 := Lib.hid (HK4.out.trans hk)
               have HRW5 := Lib.hid (HRW4.out.kq hk hq)
               have hs5 := HK5.out.size
               clear hk hp)
           | (
               go_at_call 46
               have hgd := HP3
               clear hgd
               refine (HN2.out _ HP3.out).mono ?_
               rintro e w4 ⟨rfl, hb⟩
               have hk := Kq.of_below (q := q) hb
               have HP4 := Lib.hid (HP3.out.below hb)
               have HK4 := Lib.hid (HK3.out.trans hk)
               have HRW4 := Lib.hid (HRW3.out.kq hk hq)
               have hs4 := HK4.out.size
               clear hk hb)
           | (
               go_at_call 41
               have hgd := HPr
               clear hgd
               refine (HO2.out _ HPr.out).mono ?_
               rintro e w3 ⟨rfl, hb⟩
               have hk := Kq.of_below (q := q) hb
               have HP3 := Lib.hid (HPr.out.below hb)
               have HK3 := Lib.hid (HKr.out.trans hk)
               have HRW3 := Lib.hid (HRWr.out.kq hk hq)
               have hs3 := HK3.out.size
               clear hk hb))
          go_upto_region 9 with (first
           | (
               go_at_call 72
               have hgd := HP5
               clear hgd
               refine (HX2.out _ HP5.out).mono ?_
               intro e w6 hpost
               obtain ⟨rfl, hp, hk⟩ := hpost
               have HP6 := Lib.hid hp
               have HK6 := Lib.hid (HK5.out.trans hk)
               have HRW6 := Lib.hid (HRW5.out.kq hk hq)
               have hs6 := HK6.out.size
               clear hk hp))
          go_upto_region 11 with (first
           | (
               go_at_call 47
               have hgd := HP16
               clear hgd
               refine (HF4.out _ HP16.out).mono ?_
               intro e w17 hpost
               obtain ⟨rfl, hp, hk⟩ := hpost
               have HP17 := Lib.hid hp
               have HK17 := Lib.hid (HK16.out.trans hk)
               have HRW17 := Lib.hid (HRW16.out.kq hk hq)
               have hs17 := HK17.out.size
               clear hk hp)
           | (
               go_at_call 46
               have hgd := HP6
               clear hgd
               refine (HN4.out _ HP6.out).mono ?_
               rintro e w16 ⟨rfl, hb⟩
               have hk := Kq.of_below (q := q) hb
               have HP16 := Lib.hid (HP6.out.below hb)
               have HK16 := Lib.hid (HK6.out.trans hk)
               have HRW16 := Lib.hid (HRW6.out.kq hk hq)
               have hs16 := HK16.out.size
               clear hk hb))
          go_wp2_with (first
           | (
               go_at_call 73
               have hgd := HP17
               clear hgd
               refine (HN6.out _ HP17.out).mono ?_
               intro e w20 hpost
               obtain ⟨rfl, hp, hk⟩ := hpost
               have HP20 := Lib.hid hp
               have HK20 := Lib.hid (HK17.out.trans hk)
               have HRW20 := Lib.hid (HRW17.out.kq hk hq)
               have hs20 := HK20.out.size
               clear hk hp)
           | (at_builtin; refine wpList_append_any _ rfl (.tmp 35) (.tmp 42) 30 rfl w.heap.size 60 i9 _ 3 32 und_decls hi9 hz0 hz1 hz2 rfl (by decide) _ acc.length (cellsD acc) rfl (((HRW20.out.alloc _).alloc _).own) (w20.heap.size + 1 + 1) (some ⟨w20.heap.size + 1, 0, none⟩) 1 1 [.string ⟨a.text.toArray⟩, .int .i64 k, .int .i64 (a.at_ : Nat)] rfl ?_ (decl_one _ _ _) (by simp only [maxLen]; omega) (by omega) (by simp <;> omega) ?_))
          · refine reads_three (t := 60) ?_
            exact heap_new_at (by simp)
          intro v7 w7 hown7 hg7 _
          have hpo := HP20.out.qlt
          have HRW7 := Lib.hid (show RowD w.heap.size w7 v7 (acc ++ [⟨a.text, k, (a.at_ : Nat)⟩]) from ⟨by rw [cellsD_snoc, List.length_append]; exact hown7, fun d hd => by
           rcases List.mem_append.1 hd with hd | hd
           · exact HRW20.out.nm d hd
           · simp only [List.mem_singleton] at hd
             subst hd
             exact HLN.out⟩)
          have HP7 := Lib.hid (((HP20.out.alloc _).alloc _).grown hg7 (fun k hk => by have := (HRW20.out.own.lt k hk).1; omega))
          have HK7 := Lib.hid (((HK20.out.alloc _).alloc _).grown hg7 (fun k hk => .inr (HRW20.out.own.lt k hk).1))
          have hs7 : w.heap.size ≤ w7.heap.size := HK7.out.size
          obtain ⟨A7, c7, rfl⟩ := own_slice hown7
          have hlen : (acc ++ [(⟨a.text, k, (a.at_ : Nat)⟩ : DeclP)]).length = acc.length + 1 := by simp
          have hend : ∀ v, v = Value.slice A7 (acc.length + 1) c7 → Ending.returned v = Ending.returned (Value.slice A7 (acc ++ [(⟨a.text, k, (a.at_ : Nat)⟩ : DeclP)]).length c7) := fun v e => by rw [e, hlen]
          clear hown7 hg7
          cases tb with
          | true =>
            cases hsix
          | false =>
            have HE2 := Lib.hid (HE.out.trans (if_neg (by decide)))
            clear HE
            go_wp2_with (first
             | (
                 go_at_call 45
                 have hgd := HP8
                 clear hgd
                 refine (HMU2.out _ HP8.out).mono ?_
                 intro e w9 hpost
                 obtain ⟨rfl, hp, hk⟩ := hpost
                 have HP9 := Lib.hid hp
                 have HK9 := Lib.hid (HK8.out.trans hk)
                 have HRW9 := Lib.hid (HRW8.out.kq hk hq)
                 have hs9 := HK9.out.size
                 clear hk hp)
             | (
                 go_at_call 75
                 have hgd := HP7
                 clear hgd
                 refine (HTK2.out _ HP7.out).mono ?_
                 intro e w8 hpost
                 obtain ⟨rfl, hp, hk⟩ := hpost
                 have HP8 := Lib.hid hp
                 have HK8 := Lib.hid (HK7.out.trans hk)
                 have HRW8 := Lib.hid (HRW7.out.kq hk hq)
                 have hs8 := HK8.out.size
                 clear hk hp))
            all_goals
             go_ret
             rw [HE2.out]
             exact ⟨A7, c7, hend _ rfl, by rw [hlen]; exact HRW9.out, HP9.out, HK9.out⟩
        · have HE := Lib.hid (HR.out)
          rw [if_pos hk] at HE
          rw [if_neg h6] at HE
          have gk : decide (orderP l s2 [118, 97, 114] < (0 : Int)) = true := decide_eq_true hk
          have g6 : ((acc.length : Int) == 6) = false := by simp; omega
          clear HR hk
          have HO2 := Lib.hid (fun W (hW : Ps W q A c l s2) => HO.out W s2 hW)
          have HN2 := Lib.hid (fun W (hW : Ps W q A c l s2) => HNW.out W s2 hW)
          have HF2 := Lib.hid (fun W (hW : Ps W q A c l s2) => HFA.out W s2 hW)
          generalize nowP l s2 = t2 at *
          generalize failP s2 t2.at_ 2 = sA at *
          generalize orderP l s2 [118, 97, 114] = k at *
          have HX2 := Lib.hid (fun W (hW : Ps W q A c l sA) => HX.out W sA hW)
          generalize nowP l sA = tX at *
          generalize nextP l sA = sB at *
          have HN6 := Lib.hid (fun W (hW : Ps W q A c l sB) => HNA.out W sB hW)
          have HLN := Lib.hid (HLNA.out sB)
          generalize nameP l sB = na at *
          obtain ⟨a, sD⟩ := na
          simp only at HE HN6 HLN
          have HTK2 := Lib.hid (fun W (hW : Ps W q A c l sD) => HTK.out W sD hW)
          generalize takeP l sD [44] = tk at *
          obtain ⟨tb, sE⟩ := tk
          have HMU2 := Lib.hid (fun W (hW : Ps W q A c l sE) => HMU.out W sE hW)
          clear HNA HLNA HTK HMU HO HX HNW HFA
          simp only at HE
          unfold tokV at HN6 HX2 HN2
          go_upto_region 8 with (first
           | (
               go_at_call 47
               have hgd := HP4
               clear hgd
               refine (HF2.out _ HP4.out).mono ?_
               intro e w5 hpost
               obtain ⟨rfl, hp, hk⟩ := hpost
               have HP5 := Lib.hid hp
               have HK5 := Lib.hid (HK4.out.trans hk)
               have HRW5 := Lib.hid (HRW4.out.kq hk hq)
               have hs5 := HK5.out.size
               clear hk hp)
           | (
               go_at_call 46
               have hgd := HP3
               clear hgd
               refine (HN2.out _ HP3.out).mono ?_
               rintro e w4 ⟨rfl, hb⟩
               have hk := Kq.of_below (q := q) hb
               have HP4 := Lib.hid (HP3.out.below hb)
               have HK4 := Lib.hid (HK3.out.trans hk)
               have HRW4 := Lib.hid (HRW3.out.kq hk hq)
               have hs4 := HK4.out.size
               clear hk hb)
           | (
               go_at_call 41
               have hgd := HPr
               clear hgd
               refine (HO2.out _ HPr.out).mono ?_
               rintro e w3 ⟨rfl, hb⟩
               have hk := Kq.of_below (q := q) hb
               have HP3 := Lib.hid (HPr.out.below hb)
               have HK3 := Lib.hid (HKr.out.trans hk)
               have HRW3 := Lib.hid (HRWr.out.kq hk hq)
               have hs3 := HK3.out.size
               clear hk hb))
          go_upto_region 9 with (first
           | (
               go_at_call 72
               have hgd := HP5
               clear hgd
               refine (HX2.out _ HP5.out).mono ?_
               intro e w6 hpost
               obtain ⟨rfl, hp, hk⟩ := hpost
               have HP6 := Lib.hid hp
               have HK6 := Lib.hid (HK5.out.trans hk)
               have HRW6 := Lib.hid (HRW5.out.kq hk hq)
               have hs6 := HK6.out.size
               clear hk hp))
          go_upto_region 11 with fail
          go_wp2_with (first
           | (
               go_at_call 73
               have hgd := HP6
               clear hgd
               refine (HN6.out _ HP6.out).mono ?_
               intro e w20 hpost
               obtain ⟨rfl, hp, hk⟩ := hpost
               have HP20 := Lib.hid hp
               have HK20 := Lib.hid (HK6.out.trans hk)
               have HRW20 := Lib.hid (HRW6.out.kq hk hq)
               have hs20 := HK20.out.size
               clear hk hp)
           | (at_builtin; refine wpList_append_any _ rfl (.tmp 35) (.tmp 42) 30 rfl w.heap.size 60 i9 _ 3 32 und_decls hi9 hz0 hz1 hz2 rfl (by decide) _ acc.length (cellsD acc) rfl (((HRW20.out.alloc _).alloc _).own) (w20.heap.size + 1 + 1) (some ⟨w20.heap.size + 1, 0, none⟩) 1 1 [.string ⟨a.text.toArray⟩, .int .i64 k, .int .i64 (a.at_ : Nat)] rfl ?_ (decl_one _ _ _) (by simp only [maxLen]; omega) (by omega) (by simp <;> omega) ?_))
          · refine reads_three (t := 60) ?_
            exact heap_new_at (by simp)
          intro v7 w7 hown7 hg7 _
          have hpo := HP20.out.qlt
          have HRW7 := Lib.hid (show RowD w.heap.size w7 v7 (acc ++ [⟨a.text, k, (a.at_ : Nat)⟩]) from ⟨by rw [cellsD_snoc, List.length_append]; exact hown7, fun d hd => by
           rcases List.mem_append.1 hd with hd | hd
           · exact HRW20.out.nm d hd
           · simp only [List.mem_singleton] at hd
             subst hd
             exact HLN.out⟩)
          have HP7 := Lib.hid (((HP20.out.alloc _).alloc _).grown hg7 (fun k hk => by have := (HRW20.out.own.lt k hk).1; omega))
          have HK7 := Lib.hid (((HK20.out.alloc _).alloc _).grown hg7 (fun k hk => .inr (HRW20.out.own.lt k hk).1))
          have hs7 : w.heap.size ≤ w7.heap.size := HK7.out.size
          obtain ⟨A7, c7, rfl⟩ := own_slice hown7
          have hlen : (acc ++ [(⟨a.text, k, (a.at_ : Nat)⟩ : DeclP)]).length = acc.length + 1 := by simp
          have hend : ∀ v, v = Value.slice A7 (acc.length + 1) c7 → Ending.returned v = Ending.returned (Value.slice A7 (acc ++ [(⟨a.text, k, (a.at_ : Nat)⟩ : DeclP)]).length c7) := fun v e => by rw [e, hlen]
          clear hown7 hg7
          cases tb with
          | true =>
            have HE2 := Lib.hid (HE.out.trans (if_pos rfl))
            clear HMU2 HE
            go_wp2_with (
             go_at_call 75
             have hgd := HP7
             clear hgd
             refine (HTK2.out _ HP7.out).mono ?_
             intro e w8 hpost
             obtain ⟨rfl, hp, hk⟩ := hpost
             have HP8 := Lib.hid hp
             have HK8 := Lib.hid (HK7.out.trans hk)
             have HRW8 := Lib.hid (HRW7.out.kq hk hq)
             have hs8 := HK8.out.size
             clear hk hp)
            all_goals
             go_roundg (9 - (acc.length + 1))
             case measure => have := HG.out; omega
             case rel => exact ⟨acc ++ [⟨a.text, k, (a.at_ : Nat)⟩], sE, by rw [hlen]; omega, by rw [hlen], by rw [hlen, show 8 - (acc.length + 1) = 7 - acc.length by omega]; exact HE2, HP8, HK8, HRW8, hs8⟩
          | false =>
            have HE2 := Lib.hid (HE.out.trans (if_neg (by decide)))
            clear HE
            go_wp2_with (first
             | (
                 go_at_call 45
                 have hgd := HP8
                 clear hgd
                 refine (HMU2.out _ HP8.out).mono ?_
                 intro e w9 hpost
                 obtain ⟨rfl, hp, hk⟩ := hpost
                 have HP9 := Lib.hid hp
                 have HK9 := Lib.hid (HK8.out.trans hk)
                 have HRW9 := Lib.hid (HRW8.out.kq hk hq)
                 have hs9 := HK9.out.size
                 clear hk hp)
             | (
                 go_at_call 75
                 have hgd := HP7
                 clear hgd
                 refine (HTK2.out _ HP7.out).mono ?_
                 intro e w8 hpost
                 obtain ⟨rfl, hp, hk⟩ := hpost
                 have HP8 := Lib.hid hp
                 have HK8 := Lib.hid (HK7.out.trans hk)
                 have HRW8 := Lib.hid (HRW7.out.kq hk hq)
                 have hs8 := HK8.out.size
                 clear hk hp))
            all_goals
             go_ret
             rw [HE2.out]
             exact ⟨A7, c7, hend _ rfl, by rw [hlen]; exact HRW9.out, HP9.out, HK9.out⟩
      · by_cases h6 : acc.length = 6
        · have HE := Lib.hid (HR.out)
          rw [if_neg hk] at HE
          rw [if_pos h6] at HE
          have gk : decide (orderP l s2 [118, 97, 114] < (0 : Int)) = false := decide_eq_false hk
          have g6 : ((acc.length : Int) == 6) = true := by rw [h6]; rfl
          clear HR hk h6
          have HO2 := Lib.hid (fun W (hW : Ps W q A c l s2) => HO.out W s2 hW)
          have hsix := six_false (l := l) (s := nextP l (s2)) (p := (nowP l (nextP l (s2))).at_)
          generalize orderP l s2 [118, 97, 114] = k at *
          have HX2 := Lib.hid (fun W (hW : Ps W q A c l s2) => HX.out W s2 hW)
          generalize nowP l s2 = tX at *
          generalize nextP l s2 = sB at *
          have HN4 := Lib.hid (fun W (hW : Ps W q A c l sB) => HNW.out W sB hW)
          have HF4 := Lib.hid (fun W (hW : Ps W q A c l sB) => HFA.out W sB hW)
          generalize nowP l sB = t4 at *
          generalize failP sB t4.at_ 2 = sC at *
          have HN6 := Lib.hid (fun W (hW : Ps W q A c l sC) => HNA.out W sC hW)
          have HLN := Lib.hid (HLNA.out sC)
          generalize nameP l sC = na at *
          obtain ⟨a, sD⟩ := na
          simp only at HE HN6 HLN hsix
          have HTK2 := Lib.hid (fun W (hW : Ps W q A c l sD) => HTK.out W sD hW)
          generalize takeP l sD [44] = tk at *
          obtain ⟨tb, sE⟩ := tk
          simp only at hsix
          have HMU2 := Lib.hid (fun W (hW : Ps W q A c l sE) => HMU.out W sE hW)
          clear HNA HLNA HTK HMU HO HX HNW HFA
          simp only at HE
          unfold tokV at HN6 HX2 HN4
          go_upto_region 8 with (first
           | (
               go_at_call 41
               have hgd := HPr
               clear hgd
               refine (HO2.out _ HPr.out).mono ?_
               rintro e w3 ⟨rfl, hb⟩
               have hk := Kq.of_below (q := q) hb
               have HP3 := Lib.hid (HPr.out.below hb)
               have HK3 := Lib.hid (HKr.out.trans hk)
               have HRW3 := Lib.hid (HRWr.out.kq hk hq)
               have hs3 := HK3.out.size
               clear hk hb))
          go_upto_region 9 with (first
           | (
               go_at_call 72
               have hgd := HP3
               clear hgd
               refine (HX2.out _ HP3.out).mono ?_
               intro e w6 hpost
               obtain ⟨rfl, hp, hk⟩ := hpost
               have HP6 := Lib.hid hp
               have HK6 := Lib.hid (HK3.out.trans hk)
               have HRW6 := Lib.hid (HRW3.out.kq hk hq)
               have hs6 := HK6.out.size
               clear hk hp))
          go_upto_region 11 with (first
           | (
               go_at_call 47
               have hgd := HP16
               clear hgd
               refine (HF4.out _ HP16.out).mono ?_
               intro e w17 hpost
               obtain ⟨rfl, hp, hk⟩ := hpost
               have HP17 := Lib.hid hp
               have HK17 := Lib.hid (HK16.out.trans hk)
               have HRW17 := Lib.hid (HRW16.out.kq hk hq)
               have hs17 := HK17.out.size
               clear hk hp)
           | (
               go_at_call 46
               have hgd := HP6
               clear hgd
               refine (HN4.out _ HP6.out).mono ?_
               rintro e w16 ⟨rfl, hb⟩
               have hk := Kq.of_below (q := q) hb
               have HP16 := Lib.hid (HP6.out.below hb)
               have HK16 := Lib.hid (HK6.out.trans hk)
               have HRW16 := Lib.hid (HRW6.out.kq hk hq)
               have hs16 := HK16.out.size
               clear hk hb))
          go_wp2_with (first
           | (
               go_at_call 73
               have hgd := HP17
               clear hgd
               refine (HN6.out _ HP17.out).mono ?_
               intro e w20 hpost
               obtain ⟨rfl, hp, hk⟩ := hpost
               have HP20 := Lib.hid hp
               have HK20 := Lib.hid (HK17.out.trans hk)
               have HRW20 := Lib.hid (HRW17.out.kq hk hq)
               have hs20 := HK20.out.size
               clear hk hp)
           | (at_builtin; refine wpList_append_any _ rfl (.tmp 35) (.tmp 42) 30 rfl w.heap.size 60 i9 _ 3 32 und_decls hi9 hz0 hz1 hz2 rfl (by decide) _ acc.length (cellsD acc) rfl (((HRW20.out.alloc _).alloc _).own) (w20.heap.size + 1 + 1) (some ⟨w20.heap.size + 1, 0, none⟩) 1 1 [.string ⟨a.text.toArray⟩, .int .i64 k, .int .i64 (a.at_ : Nat)] rfl ?_ (decl_one _ _ _) (by simp only [maxLen]; omega) (by omega) (by simp <;> omega) ?_))
          · refine reads_three (t := 60) ?_
            exact heap_new_at (by simp)
          intro v7 w7 hown7 hg7 _
          have hpo := HP20.out.qlt
          have HRW7 := Lib.hid (show RowD w.heap.size w7 v7 (acc ++ [⟨a.text, k, (a.at_ : Nat)⟩]) from ⟨by rw [cellsD_snoc, List.length_append]; exact hown7, fun d hd => by
           rcases List.mem_append.1 hd with hd | hd
           · exact HRW20.out.nm d hd
           · simp only [List.mem_singleton] at hd
             subst hd
             exact HLN.out⟩)
          have HP7 := Lib.hid (((HP20.out.alloc _).alloc _).grown hg7 (fun k hk => by have := (HRW20.out.own.lt k hk).1; omega))
          have HK7 := Lib.hid (((HK20.out.alloc _).alloc _).grown hg7 (fun k hk => .inr (HRW20.out.own.lt k hk).1))
          have hs7 : w.heap.size ≤ w7.heap.size := HK7.out.size
          obtain ⟨A7, c7, rfl⟩ := own_slice hown7
          have hlen : (acc ++ [(⟨a.text, k, (a.at_ : Nat)⟩ : DeclP)]).length = acc.length + 1 := by simp
          have hend : ∀ v, v = Value.slice A7 (acc.length + 1) c7 → Ending.returned v = Ending.returned (Value.slice A7 (acc ++ [(⟨a.text, k, (a.at_ : Nat)⟩ : DeclP)]).length c7) := fun v e => by rw [e, hlen]
          clear hown7 hg7
          cases tb with
          | true =>
            cases hsix
          | false =>
            have HE2 := Lib.hid (HE.out.trans (if_neg (by decide)))
            clear HE
            go_wp2_with (first
             | (
                 go_at_call 45
                 have hgd := HP8
                 clear hgd
                 refine (HMU2.out _ HP8.out).mono ?_
                 intro e w9 hpost
                 obtain ⟨rfl, hp, hk⟩ := hpost
                 have HP9 := Lib.hid hp
                 have HK9 := Lib.hid (HK8.out.trans hk)
                 have HRW9 := Lib.hid (HRW8.out.kq hk hq)
                 have hs9 := HK9.out.size
                 clear hk hp)
             | (
                 go_at_call 75
                 have hgd := HP7
                 clear hgd
                 refine (HTK2.out _ HP7.out).mono ?_
                 intro e w8 hpost
                 obtain ⟨rfl, hp, hk⟩ := hpost
                 have HP8 := Lib.hid hp
                 have HK8 := Lib.hid (HK7.out.trans hk)
                 have HRW8 := Lib.hid (HRW7.out.kq hk hq)
                 have hs8 := HK8.out.size
                 clear hk hp))
            all_goals
             go_ret
             rw [HE2.out]
             exact ⟨A7, c7, hend _ rfl, by rw [hlen]; exact HRW9.out, HP9.out, HK9.out⟩
        · have HE := Lib.hid (HR.out)
          rw [if_neg hk] at HE
          rw [if_neg h6] at HE
          have gk : decide (orderP l s2 [118, 97, 114] < (0 : Int)) = false := decide_eq_false hk
          have g6 : ((acc.length : Int) == 6) = false := by simp; omega
          clear HR hk
          have HO2 := Lib.hid (fun W (hW : Ps W q A c l s2) => HO.out W s2 hW)
          generalize orderP l s2 [118, 97, 114] = k at *
          have HX2 := Lib.hid (fun W (hW : Ps W q A c l s2) => HX.out W s2 hW)
          generalize nowP l s2 = tX at *
          generalize nextP l s2 = sB at *
          have HN6 := Lib.hid (fun W (hW : Ps W q A c l sB) => HNA.out W sB hW)
          have HLN := Lib.hid (HLNA.out sB)
          generalize nameP l sB = na at *
          obtain ⟨a, sD⟩ := na
          simp only at HE HN6 HLN
          have HTK2 := Lib.hid (fun W (hW : Ps W q A c l sD) => HTK.out W sD hW)
          generalize takeP l sD [44] = tk at *
          obtain ⟨tb, sE⟩ := tk
          have HMU2 := Lib.hid (fun W (hW : Ps W q A c l sE) => HMU.out W sE hW)
          clear HNA HLNA HTK HMU HO HX HNW HFA
          simp only at HE
          unfold tokV at HN6 HX2
          go_upto_region 8 with (first
           | (
               go_at_call 41
               have hgd := HPr
               clear hgd
               refine (HO2.out _ HPr.out).mono ?_
               rintro e w3 ⟨rfl, hb⟩
               have hk := Kq.of_below (q := q) hb
               have HP3 := Lib.hid (HPr.out.below hb)
               have HK3 := Lib.hid (HKr.out.trans hk)
               have HRW3 := Lib.hid (HRWr.out.kq hk hq)
               have hs3 := HK3.out.size
               clear hk hb))
          go_upto_region 9 with (first
           | (
               go_at_call 72
               have hgd := HP3
               clear hgd
               refine (HX2.out _ HP3.out).mono ?_
               intro e w6 hpost
               obtain ⟨rfl, hp, hk⟩ := hpost
               have HP6 := Lib.hid hp
               have HK6 := Lib.hid (HK3.out.trans hk)
               have HRW6 := Lib.hid (HRW3.out.kq hk hq)
               have hs6 := HK6.out.size
               clear hk hp))
          go_upto_region 11 with fail
          go_wp2_with (first
           | (
               go_at_call 73
               have hgd := HP6
               clear hgd
               refine (HN6.out _ HP6.out).mono ?_
               intro e w20 hpost
               obtain ⟨rfl, hp, hk⟩ := hpost
               have HP20 := Lib.hid hp
               have HK20 := Lib.hid (HK6.out.trans hk)
               have HRW20 := Lib.hid (HRW6.out.kq hk hq)
               have hs20 := HK20.out.size
               clear hk hp)
           | (at_builtin; refine wpList_append_any _ rfl (.tmp 35) (.tmp 42) 30 rfl w.heap.size 60 i9 _ 3 32 und_decls hi9 hz0 hz1 hz2 rfl (by decide) _ acc.length (cellsD acc) rfl (((HRW20.out.alloc _).alloc _).own) (w20.heap.size + 1 + 1) (some ⟨w20.heap.size + 1, 0, none⟩) 1 1 [.string ⟨a.text.toArray⟩, .int .i64 k, .int .i64 (a.at_ : Nat)] rfl ?_ (decl_one _ _ _) (by simp only [maxLen]; omega) (by omega) (by simp <;> omega) ?_))
          · refine reads_three (t := 60) ?_
            exact heap_new_at (by simp)
          intro v7 w7 hown7 hg7 _
          have hpo := HP20.out.qlt
          have HRW7 := Lib.hid (show RowD w.heap.size w7 v7 (acc ++ [⟨a.text, k, (a.at_ : Nat)⟩]) from ⟨by rw [cellsD_snoc, List.length_append]; exact hown7, fun d hd => by
           rcases List.mem_append.1 hd with hd | hd
           · exact HRW20.out.nm d hd
           · simp only [List.mem_singleton] at hd
             subst hd
             exact HLN.out⟩)
          have HP7 := Lib.hid (((HP20.out.alloc _).alloc _).grown hg7 (fun k hk => by have := (HRW20.out.own.lt k hk).1; omega))
          have HK7 := Lib.hid (((HK20.out.alloc _).alloc _).grown hg7 (fun k hk => .inr (HRW20.out.own.lt k hk).1))
          have hs7 : w.heap.size ≤ w7.heap.size := HK7.out.size
          obtain ⟨A7, c7, rfl⟩ := own_slice hown7
          have hlen : (acc ++ [(⟨a.text, k, (a.at_ : Nat)⟩ : DeclP)]).length = acc.length + 1 := by simp
          have hend : ∀ v, v = Value.slice A7 (acc.length + 1) c7 → Ending.returned v = Ending.returned (Value.slice A7 (acc ++ [(⟨a.text, k, (a.at_ : Nat)⟩ : DeclP)]).length c7) := fun v e => by rw [e, hlen]
          clear hown7 hg7
          cases tb with
          | true =>
            have HE2 := Lib.hid (HE.out.trans (if_pos rfl))
            clear HMU2 HE
            go_wp2_with (
             go_at_call 75
             have hgd := HP7
             clear hgd
             refine (HTK2.out _ HP7.out).mono ?_
             intro e w8 hpost
             obtain ⟨rfl, hp, hk⟩ := hpost
             have HP8 := Lib.hid hp
             have HK8 := Lib.hid (HK7.out.trans hk)
             have HRW8 := Lib.hid (HRW7.out.kq hk hq)
             have hs8 := HK8.out.size
             clear hk hp)
            all_goals
             go_roundg (9 - (acc.length + 1))
             case measure => have := HG.out; omega
             case rel => exact ⟨acc ++ [⟨a.text, k, (a.at_ : Nat)⟩], sE, by rw [hlen]; omega, by rw [hlen], by rw [hlen, show 8 - (acc.length + 1) = 7 - acc.length by omega]; exact HE2, HP8, HK8, HRW8, hs8⟩
          | false =>
            have HE2 := Lib.hid (HE.out.trans (if_neg (by decide)))
            clear HE
            go_wp2_with (first
             | (
                 go_at_call 45
                 have hgd := HP8
                 clear hgd
                 refine (HMU2.out _ HP8.out).mono ?_
                 intro e w9 hpost
                 obtain ⟨rfl, hp, hk⟩ := hpost
                 have HP9 := Lib.hid hp
                 have HK9 := Lib.hid (HK8.out.trans hk)
                 have HRW9 := Lib.hid (HRW8.out.kq hk hq)
                 have hs9 := HK9.out.size
                 clear hk hp)
             | (
                 go_at_call 75
                 have hgd := HP7
                 clear hgd
                 refine (HTK2.out _ HP7.out).mono ?_
                 intro e w8 hpost
                 obtain ⟨rfl, hp, hk⟩ := hpost
                 have HP8 := Lib.hid hp
                 have HK8 := Lib.hid (HK7.out.trans hk)
                 have HRW8 := Lib.hid (HRW7.out.kq hk hq)
                 have hs8 := HK8.out.size
                 clear hk hp))
            all_goals
             go_ret
             rw [HE2.out]
             exact ⟨A7, c7, hend _ rfl, by rw [hlen]; exact HRW9.out, HP9.out, HK9.out⟩
    · rw [if_neg he] at HR
      have g0 : ((s2.e : Int) == 0) = false := by simp; omega
      clear he
      go_wp2_with fail
      go_ret
      rw [HR.out]
      exact ⟨A1, c5, rfl, HRWr.out, HPr.out, HKr.out⟩
end Go.Proofs.YteikakoheibnjaaDoor
