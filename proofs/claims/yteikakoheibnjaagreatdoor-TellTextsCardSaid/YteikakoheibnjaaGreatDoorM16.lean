/- Parts of the proof: LName. -/
import Derived.Deep.CutRange
import Derived.Deep.RegionHeld3
import Derived.Test.YteikakoheibnjaaGreatDoorM13
import Derived.Test.YteikakoheibnjaaGreatDoorM15
namespace Go.Proofs.YteikakoheibnjaaGreatDoor
open Go Go.RowKit

theorem lkeepS {W : World} {b o g o2 : Nat} {u : Value} (h : W.cell? ⟨b, o, none⟩ = some u) (hb : b ≠ g) (y : Value) : (W.setCell ⟨g, o2, none⟩ y).cell? ⟨b, o, none⟩ = some u :=
  (World.cell?_setCell_other _ _ _ _ (by rintro h2; injection h2 with h3; exact hb h3.symm)).trans h
theorem lkeepA {W : World} {b o : Nat} {u : Value} (h : W.cell? ⟨b, o, none⟩ = some u) (x : Obj) : (W.alloc x).cell? ⟨b, o, none⟩ = some u :=
  (World.cell?_alloc_lt W x ⟨b, o, none⟩ (World.block_lt_of_cell? _ _ h)).trans h
theorem lkeepD {W : World} {b o : Nat} {u : Value} (h : W.cell? ⟨b, o, none⟩ = some u) : W.drew.cell? ⟨b, o, none⟩ = some u := h
theorem lkeepN {W : World} {b o n : Nat} {u : Value} (h : W.cell? ⟨b, o, none⟩ = some u) : (W.drewN n).cell? ⟨b, o, none⟩ = some u := h
theorem lblkA {w : World} {g : Nat} {t : TypeId} {cs : Array Value} (h : Blk w g t cs) (o : Obj) : Blk (w.alloc o) g t cs := (Below.heap_alloc w o g h.lt).trans h
theorem lblkD {w : World} {g : Nat} {t : TypeId} {cs : Array Value} (h : Blk w g t cs) : Blk w.drew g t cs := h
theorem lblkN {w : World} {g n : Nat} {t : TypeId} {cs : Array Value} (h : Blk w g t cs) : Blk (w.drewN n) g t cs := h
theorem lblkNew (w : World) (t : TypeId) (cs : Array Value) : Blk (w.alloc (.cells cs t)) w.heap.size t cs := heap_alloc_new w _
theorem lblkNewAt {w : World} {g : Nat} {t : TypeId} {cs : Array Value} (h : g = w.heap.size) : Blk (w.alloc (.cells cs t)) g t cs := by
  subst h
  exact heap_alloc_new w _
theorem ltokZ {w : World} {g : Nat} (h : Blk w g 78 #[.int .i64 0, .string ⟨#[]⟩, .int .i64 0, .int .i64 0]) (y0 y1 y2 y3 : Value) :
    Blk ((((w.setCell ⟨g, 0, none⟩ y0).setCell ⟨g, 1, none⟩ y1).setCell ⟨g, 2, none⟩ y2).setCell ⟨g, 3, none⟩ y3) g 78 #[y0, y1, y2, y3] := tok4 h y0 y1 y2 y3
theorem Lxr.drew {w : World} {B q : Nat} {S : ByteArray} {R : List Ru} {A : Option Addr} {c : Nat} {bad : Int} {i : Nat} (h : Lxr w B q S R A c bad i) : Lxr w.drew B q S R A c bad i := h.drewN 1
theorem LLeft.drew {w W : World} {B q : Nat} {S : ByteArray} {R : List Ru} {A : Option Addr} {c : Nat} {bad : Int} {i : Nat} (h : LLeft w B q S R A c bad i W) : LLeft w B q S R A c bad i W.drew := h.drewN 1
theorem lblk4 {W : World} {g : Nat} {t : TypeId} {c0 c1 c2 c3 : Value} (h : Blk W g t #[c0, c1, c2, c3]) : W.cell? ⟨g, 0, none⟩ = some c0 ∧ W.cell? ⟨g, 1, none⟩ = some c1 ∧ W.cell? ⟨g, 2, none⟩ = some c2 ∧ W.cell? ⟨g, 3, none⟩ = some c3 :=
  ⟨h.cell 0, h.cell 1, h.cell 2, h.cell 3⟩
theorem lblk4f {W : World} {g : Nat} {t : TypeId} {c0 c1 c2 c3 : Value} (h : Blk W g t #[c0, c1, c2, c3]) : W.frozen? ⟨g, 0, none⟩ = false ∧ W.frozen? ⟨g, 1, none⟩ = false ∧ W.frozen? ⟨g, 2, none⟩ = false ∧ W.frozen? ⟨g, 3, none⟩ = false :=
  ⟨h.frozen 0, h.frozen 1, h.frozen 2, h.frozen 3⟩
/-- What a token's reading hands back. -/
def LTokPost (w : World) (B q : Nat) (S : ByteArray) (R : List Ru) (A : Option Addr) (c : Nat) (bad : Int) (i : Nat) (e : Ending) (w' : World) : Prop :=
  (∃ t n, tokR (posn R i) (R.drop i) = some (t, n) ∧ e = .returned (.tuple #[tokV t, .bool true]) ∧ LLeft w B q S R A c bad (i + n) w') ∨
  (tokR (posn R i) (R.drop i) = none ∧ ∃ t j, e = .returned (.tuple #[tokV t, .bool false]) ∧ LLeft w B q S R A c bad j w')
theorem lname_post {w w' : World} {B q : Nat} {S : ByteArray} {R : List Ru} {A : Option Addr} {c : Nat} {bad : Int} {i N : Nat} {b : Bool} {k : Nat} {p : Nat} {X : ByteArray} (hi : i < R.length) (hc : cls R[i].1 = 1) (hN : nameLen (R.drop i) = N) (hp : posn R i = p)
    (hX : X = ⟨(flat ((R.drop i).take N)).toArray⟩) (hk : k = if flat ((R.drop i).take N) ∈ wordL then 3 else 1) (hb : b = decide (N ≤ 12)) (hL : LLeft w B q S R A c bad (i + N) w') :
    LTokPost w B q S R A c bad i (.returned (.tuple #[.agg #[.int .i64 k, .string X, .int .i64 0, .int .i64 p], .bool b])) w' := by
  subst hN hp hX hk hb
  have e : R.drop i = R[i] :: R.drop (i + 1) := List.drop_eq_getElem_cons hi
  unfold LTokPost
  have ht : tokR (posn R i) (R.drop i) = if nameLen (R.drop i) ≤ 12 then some (⟨if flat ((R.drop i).take (nameLen (R.drop i))) ∈ wordL then 3 else 1, flat ((R.drop i).take (nameLen (R.drop i))), 0, posn R i⟩, nameLen (R.drop i)) else none := by
    rw [e]
    unfold tokR
    exact if_pos hc
  by_cases h12 : nameLen (R.drop i) ≤ 12
  · rw [if_pos h12] at ht
    exact Or.inl ⟨_, _, ht, by rw [decide_eq_true h12]; rfl, hL⟩
  · rw [if_neg h12] at ht
    exact Or.inr ⟨ht, ⟨if flat ((R.drop i).take (nameLen (R.drop i))) ∈ wordL then 3 else 1, flat ((R.drop i).take (nameLen (R.drop i))), 0, posn R i⟩, _, by rw [decide_eq_false h12]; rfl, hL⟩
set_option maxRecDepth 100000 in
set_option maxHeartbeats 4000000 in
theorem lname_any {w : World} {B q : Nat} {S : ByteArray} {R : List Ru} {A : Option Addr} {c : Nat} {bad : Int} {i : Nat} (h : Lxr w B q S R A c bad i) (hs : Src S R bad) (hsnd : ∀ r ∈ R, Snd r) (hi : i < R.length) (hc : cls R[i].1 = 1) (hBw : B ≤ w.heap.size) :
    Calls Tryz.prog 104 #[.pointer (some ⟨q, 0, none⟩)] w (LTokPost w B q S R A c bad i) := by
  have hl := h.len
  have hz := h.size
  have hql := h.blk.lt
  have hqB := h.qlt
  have HR0 := Lib.hid h
  have HSR := Lib.hid hs
  have HSN := Lib.hid hsnd
  have HC0 := Lib.hid hc
  have hmi : more R[i] = true := by unfold more; rw [hc]; rfl
  have HNN := Lib.hid (show nameLen (R.drop i) = ((R.drop i).takeWhile more).length by rw [nameLen_drop hi, tw_more hi hmi])
  have HAT := Lib.hid (fun j (hj : j ≤ R.length) W (hW : Lxr W B q S R A c bad j) => lat_any hW hj)
  have HMO := Lib.hid (fun j (hj : j ≤ R.length) W (hW : Lxr W B q S R A c bad j) => lmore_any hW hj)
  clear h hs hc hsnd hmi
  generalize hNq : ((R.drop i).takeWhile more).length = N at *
  have HN0 := Lib.hid hNq
  clear hNq
  go_enter Tryz.func104, Tryz.ntmps104
  go_wp2_with (
    go_at_call 83
    refine (HAT.out i (by omega) _ (HR0.out.alloc _)).mono ?_
    rintro e w2 ⟨rfl, n0, rfl⟩)
  go_loopg [] (R.length - i) (fun g wr => ∃ n : Nat, i + n ≤ R.length ∧ g = R.length - (i + n) ∧ Hid (N = n + ((R.drop (i + n)).takeWhile more).length) ∧ Hid (LLeft w B q S R A c bad (i + n) wr) ∧ Hid (Blk wr w.heap.size 78 #[.int .i64 0, .string ⟨#[]⟩, .int .i64 0, .int .i64 0]))
  case atStart => exact ⟨0, by omega, rfl, Lib.hid (by rw [Nat.zero_add]; exact HN0.out.symm), Lib.hid (((LLeft.refl HR0.out).alloc _).drewN _), Lib.hid (lblkN (lblkNew _ _ _))⟩
  case round =>
    obtain ⟨n, hn, hg, HN, HL, HB⟩ := hrel
    have HG := Lib.hid hg
    clear hg
    obtain ⟨c0, c1, c2, c3⟩ := HL.out.2.cells
    have f3 := HL.out.2.blk.frozen 3
    have HM := Lib.hid (fun W hW => HMO.out (i + n) hn W hW)
    by_cases hm : moreAt R (i + n) = true
    · have hlt : i + n < R.length := by
        unfold moreAt at hm
        split at hm
        · assumption
        · cases hm
      have hmr : more R[i + n] = true := by
        unfold moreAt at hm
        rw [dif_pos hlt] at hm
        exact hm
      have HT := Lib.hid (tw_more hlt hmr)
      rw [hm] at HM
      clear hm hmr
      go_wp2_with (
        go_at_call 119
        refine (HM.out _ HL.out.2).mono ?_
        rintro e w2 ⟨rfl, n1, rfl⟩)
      go_roundg (R.length - (i + (n + 1)))
      case measure => have := HG.out; omega
      case rel => exact ⟨n + 1, by omega, rfl, Lib.hid (by rw [HN.out, HT.out, show i + (n + 1) = i + n + 1 by omega]; omega), Lib.hid (LLeft.inc (HL.out.drewN _)), Lib.hid (Blk.other (lblkN HB.out) (by simp <;> omega) _)⟩
    · have hm0 : moreAt R (i + n) = false := by simpa using hm
      obtain rfl : N = n := by
        rw [HN.out, tw_stop (fun hj => by unfold moreAt at hm0; rw [dif_pos hj] at hm0; exact hm0)]
        rfl
      rw [hm0] at HM
      have HATn := Lib.hid (fun W hW => HAT.out (i + N) hn W hW)
      have hp1 := posn_le R i (i + N) (by omega)
      have hp2 : posn R (i + N) ≤ S.size := Nat.le_trans (posn_all R (i + N)) (src_size HSR.out).1
      have HTX := Lib.hid (src_text HSR.out i N)
      have HCO := Lib.hid (fun W b (hb : Blk W b 9 (strVs wordL).toArray) => lcont_any hb (flat ((R.drop i).take N)))
      have HLE := Lib.hid (fun W => llen_any ((R.drop i).take N) (fun r hr => HSN.out r (List.mem_of_mem_drop (List.mem_of_mem_take hr))) (by
        have h1 : (flat ((R.drop i).take N)).length = posn R (i + N) - posn R i := by
          unfold posn
          rw [List.take_add, flat_app, List.length_append]
          omega
        omega) W)
      rw [show ((R.drop i).take N).length = N by rw [List.length_take, List.length_drop]; omega] at HLE
      rw [← HTX.out] at HCO HLE
      have HV := Lib.hid (show decide ((N : Int) ≤ 12) = decide (N ≤ 12) by rw [decide_eq_decide]; omega)
      clear hm hm0 HN HMO
      generalize posn R (i + N) = E at *
      generalize hPP : posn R i = p at *
      have HPP := Lib.hid hPP
      clear hPP
      generalize hTT : flat ((R.drop i).take N) = T at *
      have HTT := Lib.hid hTT
      clear hTT
      have hpi : (p : Int) ≤ (E : Int) := by omega
      have hei : (E : Int) ≤ (S.size : Int) := by omega
      have hwr := HL.out.1.size
      have hbk := HB.out.lt
      go_upto_region 4 with (
        go_at_call 119
        refine (HM.out _ HL.out.2).mono ?_
        rintro e w2 ⟨rfl, n1, rfl⟩)
      refine wp_named (fun W1 => LLeft w B q S R A c bad (i + N) W1 ∧ Blk W1 w.heap.size 78 #[.int .i64 0, .string ⟨#[]⟩, .int .i64 0, .int .i64 0] ∧ W1.cell? ⟨q, 0, none⟩ = some (.string S)) ⟨HL.out.drewN _, lblkN HB.out, c0⟩ ?_
      rintro W1 ⟨hL1, hB1, c01⟩
      have HL1 := Lib.hid hL1
      have HR1 := Lib.hid hL1.2
      have HB1 := Lib.hid hB1
      have hl1 := hB1.lt
      have hs1 := hL1.1.size
      clear hL1 hB1 c0 c1 c2 c3 f3 hwr hbk HL HB HM
      have HCb : Hid (Calls Tryz.prog 83 #[.pointer (some ⟨q, 0, none⟩)] W1.drew fun e w6 => e = .returned (.int .i64 (E : Nat)) ∧ LLeft w B q S R A c bad (i + N) w6 ∧ Blk w6 w.heap.size 78 #[.int .i64 0, .string ⟨#[]⟩, .int .i64 0, .int .i64 0] ∧ w6.cell? ⟨q, 0, none⟩ = some (.string S)) := by
        refine Lib.hid ((HATn.out _ HR1.out.drew).mono ?_)
        rintro e w6 ⟨rfl, n6, rfl⟩
        exact ⟨rfl, HL1.out.drew.drewN n6, lblkN (lblkD HB1.out), c01⟩
      have HCa : Hid (Calls Tryz.prog 83 #[.pointer (some ⟨q, 0, none⟩)] (W1.alloc (.cells #[.int .i64 0, .string ⟨#[]⟩, .int .i64 0, .int .i64 0] 78)).drew fun e w6 => e = .returned (.int .i64 (E : Nat)) ∧ LLeft w B q S R A c bad (i + N) w6 ∧ Blk w6 w.heap.size 78 #[.int .i64 0, .string ⟨#[]⟩, .int .i64 0, .int .i64 0] ∧ w6.cell? ⟨q, 0, none⟩ = some (.string S) ∧ Blk w6 W1.heap.size 78 #[.int .i64 0, .string ⟨#[]⟩, .int .i64 0, .int .i64 0]) := by
        refine Lib.hid ((HATn.out _ (HR1.out.alloc _).drew).mono ?_)
        rintro e w6 ⟨rfl, n6, rfl⟩
        exact ⟨rfl, (HL1.out.alloc _).drew.drewN n6, lblkN (lblkD (lblkA HB1.out _)), lkeepA c01 _, lblkN (lblkD (lblkNew _ _ _))⟩
      clear HATn
      go_cut [5] from 17 to 26 (fun v wx => ∃ p1, v = .pointer (some ⟨p1, 0, none⟩) ∧ w.heap.size < p1 ∧ LLeft w B q S R A c bad (i + N) wx ∧ Blk wx w.heap.size 78 #[.int .i64 0, .string ⟨#[]⟩, .int .i64 0, .int .i64 0] ∧ Blk wx p1 78 #[.int .i64 1, .string (S.extract p E), .int .i64 0, .int .i64 (p : Nat)])
      case first =>
        go_region_held3 (fun W : World => W.cell? ⟨q, 0, none⟩ = some (.string S)) (repeat' (first | (with_reducible exact c01) | (with_reducible exact c06) | (with_reducible refine lkeepS ?_ ?_ _) | (with_reducible refine lkeepA ?_ _) | (with_reducible refine lkeepD ?_) | (with_reducible refine lkeepN ?_) | omega)) ((
          go_at_call 83
          first
            | (with_reducible refine HCa.out.mono ?_
               rintro e w6 ⟨rfl, hL6, hB6, c06, hn6⟩
               obtain ⟨r60, r61, r62, r63⟩ := lblk4 hn6
               obtain ⟨y60, y61, y62, y63⟩ := lblk4f hn6
               have HN6 := Lib.hid hn6
               have hz6 : W1.heap.size < w6.heap.size := hn6.lt
               clear hn6)
            | (with_reducible refine HCb.out.mono ?_
               rintro e w6 ⟨rfl, hL6, hB6, c06⟩)
          have hl6 := hB6.lt
          have hq6 : q < w6.heap.size := by omega
          have HL6 := Lib.hid hL6
          have HB6 := Lib.hid hB6
          clear hL6 hB6))
        all_goals
          go_wp2_with fail
          go_meet
          case rel =>
            refine ⟨_, rfl, ?_, ?_, ?_, ?_⟩
            all_goals repeat' (first | (with_reducible exact HL6.out) | (with_reducible exact HB6.out) | (with_reducible exact HN6.out) | (with_reducible refine LLeft.far ?_ ?_ ?_ _) | (with_reducible refine LLeft.alloc ?_ _) | (with_reducible refine LLeft.drewN ?_ _) | (with_reducible refine LLeft.drew ?_) | (with_reducible refine ltokZ ?_ _ _ _ _) | (with_reducible exact lblkNew _ _ _) | (with_reducible refine lblkA ?_ _) | (with_reducible refine lblkD ?_) | (with_reducible refine lblkN ?_) | (with_reducible refine Blk.other ?_ ?_ _) | omega | (simp; done) | (simp <;> omega))
      case rest =>
        obtain ⟨p1, rfl, hlp, hL2, hB2, hP2⟩ := hcut
        obtain ⟨w2, hw2⟩ : ∃ x, x = wc := ⟨_, rfl⟩
        subst hw2
        have HL2 := Lib.hid hL2
        have HB2 := Lib.hid hB2
        have HP2 := Lib.hid hP2
        have hl2 := hB2.lt
        have hp2l := hP2.lt
        generalize S.extract p E = X at *
        obtain ⟨x0, x1, x2, x3⟩ := lblk4 hP2
        clear hL2 hB2 hP2 HCa HCb hpi hei
        have HWc : Hid (Calls Tryz.prog 121 #[] w2.drew fun e w5 => e = .returned (.slice (some ⟨w2.heap.size, 0, none⟩) 17 17) ∧ LLeft w B q S R A c bad (i + N) w5 ∧ Blk w5 w.heap.size 78 #[.int .i64 0, .string ⟨#[]⟩, .int .i64 0, .int .i64 0] ∧ Blk w5 p1 78 #[.int .i64 1, .string X, .int .i64 0, .int .i64 (p : Nat)] ∧ Blk w5 w2.heap.size 9 (strVs wordL).toArray) := by
          refine Lib.hid ((lwords_any _).mono ?_)
          rintro e w5 ⟨rfl, rfl⟩
          exact ⟨rfl, HL2.out.drew.alloc _, lblkA (lblkD HB2.out) _, lblkA (lblkD HP2.out) _, lblkNew _ _ _⟩
        clear HL2 HB2 HP2
        by_cases hw : T ∈ wordL
        · rw [decide_eq_true hw] at HCO
          go_upto_region 5 with fail
          go_region_held3 (fun W : World => W.cell? ⟨p1, 1, none⟩ = some (.string X)) (repeat' (first | (with_reducible exact x1) | (with_reducible exact z51) | (with_reducible refine lkeepS ?_ ?_ _) | (with_reducible refine lkeepA ?_ _) | (with_reducible refine lkeepD ?_) | omega)) (first
            | (
              have hgd := HW5
              clear hgd
              go_at_call 120
              refine (HCO.out _ _ HW5.out).mono ?_
              rintro e w7 ⟨rfl, rfl⟩)
            | (
              go_at_call 121
              refine HWc.out.mono ?_
              rintro e w5 ⟨rfl, hL5, hB5, hP5, hW5⟩
              obtain ⟨z50, z51, z52, z53⟩ := lblk4 hP5
              obtain ⟨v50, v51, v52, v53⟩ := lblk4f hP5
              have hl5 := hB5.lt
              have hp5 := hP5.lt
              have HL5 := Lib.hid hL5
              have HB5 := Lib.hid hB5
              have HP5 := Lib.hid hP5
              have HW5 := Lib.hid hW5
              clear hL5 hB5 hP5 hW5))
          go_upto_region 7 with fail
          refine wp_named (fun W7 => LLeft w B q S R A c bad (i + N) W7 ∧ Blk W7 w.heap.size 78 #[.int .i64 0, .string ⟨#[]⟩, .int .i64 0, .int .i64 0] ∧ Blk W7 p1 78 #[.int .i64 3, .string X, .int .i64 0, .int .i64 (p : Nat)]) ⟨?_, ?_, ?_⟩ ?_
          · repeat' (first | (with_reducible exact HL5.out) | (with_reducible refine LLeft.far ?_ ?_ ?_ _) | (with_reducible refine LLeft.drewN ?_ _) | (with_reducible refine LLeft.drew ?_) | omega | (simp <;> omega))
          · repeat' (first | (with_reducible exact HB5.out) | (with_reducible refine Blk.other ?_ ?_ _) | (with_reducible refine lblkD ?_) | (with_reducible refine lblkN ?_) | omega | (simp <;> omega))
          · have := HP5.out.set_ 0 (.int .i64 3)
            simpa using this
          rintro W7 ⟨hL7, hB7, hP7⟩
          have HL7 := Lib.hid hL7
          have HB7 := Lib.hid hB7
          have HP7 := Lib.hid hP7
          have hl7 := hB7.lt
          have hp7 := hP7.lt
          obtain ⟨x70, x71, x72, x73⟩ := lblk4 hP7
          obtain ⟨y70, y71, y72, y73⟩ := lblk4f hB7
          obtain ⟨u70, u71, u72, u73⟩ := lblk4 hB7
          clear hL7 hB7 hP7 z50 z51 z52 z53 v50 v51 v52 v53 HL5 HB5 HP5 HW5 x0 x1 x2 x3 HCO HWc
          have HLc : Hid (Calls Tryz.prog 122 #[.string X] W7.drew fun e w8 => e = .returned (.int .i64 (N : Nat)) ∧ LLeft w B q S R A c bad (i + N) w8 ∧ Blk w8 w.heap.size 78 #[.int .i64 0, .string ⟨#[]⟩, .int .i64 0, .int .i64 0] ∧ Blk w8 p1 78 #[.int .i64 3, .string X, .int .i64 0, .int .i64 (p : Nat)]) := by
            refine Lib.hid ((HLE.out _).mono ?_)
            rintro e w8 ⟨rfl, hb8⟩
            exact ⟨rfl, HL7.out.drew.below hb8, (hb8.block _ hl7).trans HB7.out, (hb8.block _ hp7).trans HP7.out⟩
          clear HLE
          go_region_held3 (fun W : World => W.cell? ⟨p1, 0, none⟩ = some (.int .i64 3) ∧ W.cell? ⟨p1, 1, none⟩ = some (.string X) ∧ W.cell? ⟨p1, 2, none⟩ = some (.int .i64 0) ∧ W.cell? ⟨p1, 3, none⟩ = some (.int .i64 (p : Nat))) ((refine ⟨?_, ?_, ?_, ?_⟩) <;> repeat' (first | (with_reducible exact x70) | (with_reducible exact x71) | (with_reducible exact x72) | (with_reducible exact x73) | (with_reducible exact x80) | (with_reducible exact x81) | (with_reducible exact x82) | (with_reducible exact x83) | (with_reducible refine lkeepS ?_ ?_ _) | (with_reducible refine lkeepD ?_) | omega)) ((
            go_at_call 122
            refine HLc.out.mono ?_
            rintro e w8 ⟨rfl, hL8, hB8, hP8⟩
            obtain ⟨x80, x81, x82, x83⟩ := lblk4 hP8
            obtain ⟨u80, u81, u82, u83⟩ := lblk4 hB8
            obtain ⟨y80, y81, y82, y83⟩ := lblk4f hB8
            have hl8 := hB8.lt
            have HL8 := Lib.hid hL8
            have HB8 := Lib.hid hB8
            clear hL8 hB8 hP8))
          all_goals
            go_wp2_with fail
            refine bodyPost_ret (res_tok (by rfl) _ _ w.heap.size #[.int .i64 3, .string X, .int .i64 0, .int .i64 (p : Nat)] rfl (ltokZ HB8.out _ _ _ _) rfl) rfl ?_
            exact lname_post (k := 3) hi HC0.out HNN.out HPP.out (HTX.out.trans (by rw [HTT.out])) (by rw [HTT.out]; rw [if_pos hw]) HV.out (by repeat' (first | (with_reducible exact HL8.out) | (with_reducible refine LLeft.far ?_ ?_ ?_ _) | (with_reducible refine LLeft.drewN ?_ _) | (with_reducible refine LLeft.drew ?_) | omega | (simp; done) | (simp <;> omega)))
        · rw [decide_eq_false hw] at HCO
          go_upto_region 5 with fail
          go_region_held3 (fun W : World => W.cell? ⟨p1, 1, none⟩ = some (.string X)) (repeat' (first | (with_reducible exact x1) | (with_reducible exact z51) | (with_reducible refine lkeepS ?_ ?_ _) | (with_reducible refine lkeepA ?_ _) | (with_reducible refine lkeepD ?_) | omega)) (first
            | (
              have hgd := HW5
              clear hgd
              go_at_call 120
              refine (HCO.out _ _ HW5.out).mono ?_
              rintro e w7 ⟨rfl, rfl⟩)
            | (
              go_at_call 121
              refine HWc.out.mono ?_
              rintro e w5 ⟨rfl, hL5, hB5, hP5, hW5⟩
              obtain ⟨z50, z51, z52, z53⟩ := lblk4 hP5
              obtain ⟨v50, v51, v52, v53⟩ := lblk4f hP5
              have hl5 := hB5.lt
              have hp5 := hP5.lt
              have HL5 := Lib.hid hL5
              have HB5 := Lib.hid hB5
              have HP5 := Lib.hid hP5
              have HW5 := Lib.hid hW5
              clear hL5 hB5 hP5 hW5))
          go_upto_region 7 with fail
          refine wp_named (fun W7 => LLeft w B q S R A c bad (i + N) W7 ∧ Blk W7 w.heap.size 78 #[.int .i64 0, .string ⟨#[]⟩, .int .i64 0, .int .i64 0] ∧ Blk W7 p1 78 #[.int .i64 1, .string X, .int .i64 0, .int .i64 (p : Nat)]) ⟨?_, ?_, ?_⟩ ?_
          · repeat' (first | (with_reducible exact HL5.out) | (with_reducible refine LLeft.far ?_ ?_ ?_ _) | (with_reducible refine LLeft.drewN ?_ _) | (with_reducible refine LLeft.drew ?_) | omega | (simp <;> omega))
          · repeat' (first | (with_reducible exact HB5.out) | (with_reducible refine Blk.other ?_ ?_ _) | (with_reducible refine lblkD ?_) | (with_reducible refine lblkN ?_) | omega | (simp <;> omega))
          · exact HP5.out
          rintro W7 ⟨hL7, hB7, hP7⟩
          have HL7 := Lib.hid hL7
          have HB7 := Lib.hid hB7
          have HP7 := Lib.hid hP7
          have hl7 := hB7.lt
          have hp7 := hP7.lt
          obtain ⟨x70, x71, x72, x73⟩ := lblk4 hP7
          obtain ⟨y70, y71, y72, y73⟩ := lblk4f hB7
          obtain ⟨u70, u71, u72, u73⟩ := lblk4 hB7
          clear hL7 hB7 hP7 z50 z51 z52 z53 v50 v51 v52 v53 HL5 HB5 HP5 HW5 x0 x1 x2 x3 HCO HWc
          have HLc : Hid (Calls Tryz.prog 122 #[.string X] W7.drew fun e w8 => e = .returned (.int .i64 (N : Nat)) ∧ LLeft w B q S R A c bad (i + N) w8 ∧ Blk w8 w.heap.size 78 #[.int .i64 0, .string ⟨#[]⟩, .int .i64 0, .int .i64 0] ∧ Blk w8 p1 78 #[.int .i64 1, .string X, .int .i64 0, .int .i64 (p : Nat)]) := by
            refine Lib.hid ((HLE.out _).mono ?_)
            rintro e w8 ⟨rfl, hb8⟩
            exact ⟨rfl, HL7.out.drew.below hb8, (hb8.block _ hl7).trans HB7.out, (hb8.block _ hp7).trans HP7.out⟩
          clear HLE
          go_region_held3 (fun W : World => W.cell? ⟨p1, 0, none⟩ = some (.int .i64 1) ∧ W.cell? ⟨p1, 1, none⟩ = some (.string X) ∧ W.cell? ⟨p1, 2, none⟩ = some (.int .i64 0) ∧ W.cell? ⟨p1, 3, none⟩ = some (.int .i64 (p : Nat))) ((refine ⟨?_, ?_, ?_, ?_⟩) <;> repeat' (first | (with_reducible exact x70) | (with_reducible exact x71) | (with_reducible exact x72) | (with_reducible exact x73) | (with_reducible exact x80) | (with_reducible exact x81) | (with_reducible exact x82) | (with_reducible exact x83) | (with_reducible refine lkeepS ?_ ?_ _) | (with_reducible refine lkeepD ?_) | omega)) ((
            go_at_call 122
            refine HLc.out.mono ?_
            rintro e w8 ⟨rfl, hL8, hB8, hP8⟩
            obtain ⟨x80, x81, x82, x83⟩ := lblk4 hP8
            obtain ⟨u80, u81, u82, u83⟩ := lblk4 hB8
            obtain ⟨y80, y81, y82, y83⟩ := lblk4f hB8
            have hl8 := hB8.lt
            have HL8 := Lib.hid hL8
            have HB8 := Lib.hid hB8
            clear hL8 hB8 hP8))
          all_goals
            go_wp2_with fail
            refine bodyPost_ret (res_tok (by rfl) _ _ w.heap.size #[.int .i64 1, .string X, .int .i64 0, .int .i64 (p : Nat)] rfl (ltokZ HB8.out _ _ _ _) rfl) rfl ?_
            exact lname_post (k := 1) hi HC0.out HNN.out HPP.out (HTX.out.trans (by rw [HTT.out])) (by rw [HTT.out]; rw [if_neg hw]) HV.out (by repeat' (first | (with_reducible exact HL8.out) | (with_reducible refine LLeft.far ?_ ?_ ?_ _) | (with_reducible refine LLeft.drewN ?_ _) | (with_reducible refine LLeft.drew ?_) | omega | (simp; done) | (simp <;> omega)))
end Go.Proofs.YteikakoheibnjaaGreatDoor
