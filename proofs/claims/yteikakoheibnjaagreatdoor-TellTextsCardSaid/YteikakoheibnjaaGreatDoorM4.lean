/- Parts of the proof: Utf, Each. -/
import Derived.Shelf.Unicode.DecodeAny
import Derived.Shelf.Unicode.DecodeSlow
import Derived.Test.YteikakoheibnjaaGreatDoorM2
import Derived.Test.YteikakoheibnjaaGreatDoorM3
import Derived.Test.YteikakoheibnjaaGreatDoorProg
namespace Go.Proofs
open Go.Shelf
def Tryz.lays197_ren : Go.Shelf.Ren := ⟨fun | 197 => 72 | 260 => 96 | n => n, fun | 9 => 9 | 21 => 21 | 3 => 3 | 4 => 4 | 5 => 5 | 105 => 96 | 119 => 132 | 0 => 0 | 46 => 100 | 139 => 135 | 138 => 134 | n => n, fun | 3 => 2 | 4 => 3 | n => n⟩
theorem Tryz.lays197 : Go.Proofs.Lays.n197 Tryz.prog Tryz.lays197_ren := {
  mixed := by kernel_rfl
  f197 := Tryz.func72.trans (congrArg some (by kernel_rfl))
  f260 := Tryz.func96.trans (congrArg some (by kernel_rfl))
  t0 := Tryz.underlying0
  a0 := Tryz.isAgg0
  z0 := Tryz.sizeOf0
  v0 := Tryz.zeroValue0
  t3 := Tryz.underlying3
  a3 := Tryz.isAgg3
  z3 := Tryz.sizeOf3
  v3 := Tryz.zeroValue3
  t4 := Tryz.underlying4
  a4 := Tryz.isAgg4
  z4 := Tryz.sizeOf4
  v4 := Tryz.zeroValue4
  t5 := Tryz.underlying5
  a5 := Tryz.isAgg5
  z5 := Tryz.sizeOf5
  v5 := Tryz.zeroValue5
  t9 := Tryz.underlying9
  a9 := Tryz.isAgg9
  z9 := Tryz.sizeOf9
  v9 := Tryz.zeroValue9
  t21 := Tryz.underlying21
  a21 := Tryz.isAgg21
  z21 := Tryz.sizeOf21
  v21 := Tryz.zeroValue21
  t46 := Tryz.underlying100
  a46 := Tryz.isAgg100
  z46 := Tryz.sizeOf100
  v46 := Tryz.zeroValue100
  t105 := Tryz.underlying96
  a105 := Tryz.isAgg96
  z105 := Tryz.sizeOf96
  v105 := Tryz.zeroValue96
  t119 := Tryz.underlying132
  a119 := Tryz.isAgg132
  z119 := Tryz.sizeOf132
  t138 := Tryz.underlying134
  a138 := Tryz.isAgg134
  z138 := Tryz.sizeOf134
  v138 := Tryz.zeroValue134
  t139 := Tryz.underlying135
  a139 := Tryz.isAgg135
  z139 := Tryz.sizeOf135
  v139 := Tryz.zeroValue135
  g3 := by kernel_rfl
  g4 := by kernel_rfl }
open Go.RowKit Go.Lib in
/-- **unicode/utf8.DecodeRuneInString AT EVERY STRING.** (LAID: no walk: one application.) -/
theorem Tryz.utf8_DecodeRuneInString (s : ByteArray) (w : World) (hT : Lib.Utf8Tabs 2 3 w) :
    Calls Tryz.prog 72 #[.string s] w fun e w' => e = .returned (.tuple #[.int .i32 (Lib.decodeGo s).1, .int .i64 (Lib.decodeGo s).2]) ∧ Below w.heap.size w w' := Any.utf8_DecodeRuneInString Tryz.lays197 s w hT
end Go.Proofs
namespace Go.Proofs.YteikakoheibnjaaGreatDoor
open Go Go.RowKit

theorem inf_rune : (Tryz.prog.info? 126).map (fun i => (i.zero, i.size, i.bytes)) = some (some (.agg #[.int .i32 0, .int .i64 0]), 2, 16) := by kernel_rfl
theorem und_runes : Tryz.prog.underlying 104 = some (.slice 126) := by kernel_rfl
/-- The tables of unicode/utf8. -/
abbrev Tab8 (w : World) : Prop := Lib.Utf8Tabs 2 3 w

/-- Runes as cells, the first at p. -/
def cellsR : Nat → List Ru → List Value
  | _, [] => []
  | p, r :: R => .int .i32 (r.1 : Nat) :: .int .i64 (p : Nat) :: cellsR (p + r.2.length) R
theorem cellsR_snoc (r : Ru) : ∀ (R : List Ru) (p : Nat), cellsR p (R ++ [r]) = cellsR p R ++ [.int .i32 (r.1 : Nat), .int .i64 ((p + (flat R).length : Nat) : Int)]
  | [], p => by simp [cellsR, flat_nil]
  | x :: R, p => by
    have := cellsR_snoc r R (p + x.2.length)
    simp only [List.cons_append, cellsR, this, flat_cons, List.length_append, Nat.add_assoc]
theorem cellsR_len : ∀ (R : List Ru) (p : Nat), (cellsR p R).length = R.length * 2
  | [], p => by simp [cellsR]
  | x :: R, p => by
    have := cellsR_len R (p + x.2.length)
    simp only [cellsR, List.length_cons, this]
    omega
theorem cellsR_at : ∀ (R : List Ru) (p k : Nat) (hk : k < R.length), (cellsR p R)[2 * k]? = some (.int .i32 (R[k].1 : Nat)) ∧ (cellsR p R)[2 * k + 1]? = some (.int .i64 ((p + (flat (R.take k)).length : Nat) : Int))
  | x :: R, p, 0, _ => by simp [cellsR, flat_nil]
  | x :: R, p, k + 1, hk => by
    have := cellsR_at R (p + x.2.length) k (by simpa using hk)
    rw [show 2 * (k + 1) = 2 * k + 1 + 1 by omega]
    simp only [cellsR, List.getElem?_cons_succ, List.getElem_cons_succ, List.take_succ_cons, flat_cons, List.length_append, ← Nat.add_assoc]
    exact this

theorem ext_drop (l : List UInt8) (i : Nat) : (ByteArray.extract ⟨l.toArray⟩ i (ByteArray.size ⟨l.toArray⟩)) = ⟨(l.drop i).toArray⟩ := by
  refine bytes_of ?_
  rw [Lib.extract_data, List.take_of_length_le]
  show ((l.toArray.toList).drop i).length ≤ l.toArray.size - i
  simp
theorem dgo (l : List UInt8) (h : l ≠ []) : Lib.decodeGo ⟨l.toArray⟩ = dec l := by
  unfold Lib.decodeGo
  rw [if_neg, decode_drop, List.drop_zero]
  intro e
  have : l.toArray.size = 0 := e
  simp at this
  exact h this
/-- utf8.DecodeRuneInString of the rest of a text. -/
theorem dec_call (S : ByteArray) (l : List UInt8) (hS : S = ⟨l.toArray⟩) (i : Nat) (h : l.drop i ≠ []) (w : World) (hT : Tab8 w) :
    Calls Tryz.prog 72 #[.string (S.extract i S.size)] w fun e w' => e = .returned (.tuple #[.int .i32 ((dec (l.drop i)).1 : Nat), .int .i64 ((dec (l.drop i)).2 : Nat)]) ∧ Below w.heap.size w w' := by
  subst hS
  rw [ext_drop]
  have := Tryz.utf8_DecodeRuneInString ⟨(l.drop i).toArray⟩ w hT
  rw [dgo _ h] at this
  exact this
theorem rune_one (r p : Int) : ∀ u ∈ ([.int .i32 r, .int .i64 p] : List Value), u.oneCell' = true := by
  intro u hu
  simp at hu
  rcases hu with rfl | rfl <;> rfl
/-- What the call hands back. -/
def EachPost (w : World) (l : List UInt8) (e : Ending) (w' : World) : Prop :=
  ∃ A c bad, e = .returned (.tuple #[.slice A (each l).1.length c, .int .i64 bad]) ∧ (if (each l).2 = true then bad = ((flat (each l).1).length : Nat) else bad = -1) ∧
    w'.ownsRow w.heap.size 126 2 (.slice A (each l).1.length c) (each l).1.length (cellsR 0 (each l).1) ∧ Below w.heap.size w w'
theorem own_slice {w : World} {base n size : Nat} {e : TypeId} {v : Value} {xs : List Value} (h : w.ownsRow base e size v n xs) : ∃ A c, v = .slice A n c := by
  rcases h.2 with ⟨rfl, hn⟩ | ⟨g, cap, _, rfl, _⟩
  · subst hn
    exact ⟨none, 0, rfl⟩
  · exact ⟨_, _, rfl⟩
theorem heap_new_at {w : World} {o : Obj} {j : Nat} (h : w.heap.size = j) : (w.alloc o).heap[j]? = some o := by subst h; exact heap_alloc_new w o
theorem reads_two {w : World} {h : Nat} {t : TypeId} {u v : Value} (hb : w.heap[h]? = some (.cells #[u, v] t (0, 0))) : Reads w (h + 1) 2 (some ⟨h, 0, none⟩) 1 [u, v] := by
  refine ⟨rfl, fun _ => ⟨_, rfl, by simp, fun j x hx => ?_⟩⟩
  have hj : j < 2 := (List.getElem?_eq_some_iff.1 hx).1
  have e : (⟨h, 0, none⟩ : Addr).add j = ⟨h, j, none⟩ := by
    unfold Addr.add
    split
    · next h0 => rw [h0]
    · simp
  rw [e, cell_of_row w h j #[u, v] t (0, 0) hb, ← hx]
  simp
set_option maxHeartbeats 2000000 in
theorem each_any (l : List UInt8) (hl : l.length ≤ 2000) (w : World) (hT : Tab8 w) : Calls Tryz.prog 85 #[.string ⟨l.toArray⟩] w (EachPost w l) := by
  generalize hS : (⟨l.toArray⟩ : ByteArray) = S
  have HSS := Lib.hid hS.symm
  have HT := Lib.hid (fun W (hW : Below w.heap.size w W) => Go.Proofs.Utf8Tabs_below hT hW)
  obtain ⟨i0, hi, hz0, hz1, hz2⟩ := info_parts inf_rune
  have hsz : S.size = l.length := by rw [← hS]; show l.toArray.size = _; simp
  have HSZ := Lib.hid hsz
  clear hT hsz hS
  go_enter Tryz.func85, Tryz.ntmps85
  go_wp2_with fail
  go_loopg [4, 5] l.length (fun q v i wr => ∃ (acc : List Ru) (rest : List UInt8), Hid (l = flat acc ++ rest) ∧ Hid (each l = (acc ++ (each rest).1, (each rest).2)) ∧ q = rest.length ∧ i = .int .i64 ((flat acc).length : Nat) ∧
    Hid (wr.ownsRow w.heap.size 126 2 v acc.length (cellsR 0 acc)) ∧ Below w.heap.size w wr)
  case atStart => exact ⟨[], l, Lib.hid rfl, Lib.hid rfl, rfl, rfl, Lib.hid ⟨rfl, .inl ⟨rfl, rfl⟩⟩, Below.refl _ _⟩
  case round =>
    obtain ⟨acc, rest, HA, HE, hq, rfl, HO, hb⟩ := hrel
    have HQ := Lib.hid hq
    have HB := Lib.hid hb
    have hws := hb.size
    have hlen : l.length = (flat acc).length + rest.length := by have := congrArg List.length HA.out; rwa [List.length_append] at this
    have hacc : acc.length ≤ l.length := by
      have h1 := each_len l
      rw [HE.out] at h1
      simp at h1
      omega
    have HLN := Lib.hid hlen
    have hp1 : (flat acc).length ≤ 2000 := by omega
    have hacc2 : acc.length ≤ 2000 := by omega
    clear hq hb hlen
    by_cases hr : rest = []
    · have HF := Lib.hid (show each l = (acc, false) by rw [HE.out, hr]; simp [each_nil])
      have g : decide ((((flat acc).length : Nat) : Int) < ((S.size : Nat) : Int)) = false := decide_eq_false (by
        have := HLN.out
        have := HSZ.out
        rw [hr] at *
        simp at *
        omega)
      have g2 : decide ((flat acc).length < S.size) = false := decide_eq_false (by
        have := HLN.out
        have := HSZ.out
        rw [hr] at *
        simp at *
        omega)
      clear hr
      go_wp2_with fail
      go_ret2
      obtain ⟨A, c, rfl⟩ := own_slice HO.out
      unfold EachPost
      rw [HF.out]
      exact ⟨A, c, -1, rfl, rfl, HO.out, HB.out⟩
    · have hdr : l.drop (flat acc).length = rest := by rw [HA.out, List.drop_left]
      have hpos : 1 ≤ rest.length := by cases rest with | nil => exact absurd rfl hr | cons => simp
      have hd1 := dec_pos rest
      have hd2 := dec_le rest hr
      have hd3 := dec_lt rest
      have hlt0 : (flat acc).length < S.size := by
        have := HLN.out
        have := HSZ.out
        omega
      have g : decide ((((flat acc).length : Nat) : Int) < ((S.size : Nat) : Int)) = true := decide_eq_true (by omega)
      have hle0 : (((flat acc).length : Nat) : Int) ≤ ((S.size : Nat) : Int) := by omega
      have HD := Lib.hid (fun W (hW : Below w.heap.size w W) => by
        have := dec_call S l HSS.out (flat acc).length (by rw [hdr]; exact hr) W (HT.out W hW)
        rw [hdr] at this
        exact this)
      have HSTEP := Lib.hid (fun hb => each_step hr hb)
      have HBAD := Lib.hid (fun hb => each_bad hr hb)
      have HDR := Lib.hid (show ((rest.take (dec rest).2).length = (dec rest).2) by simp; omega)
      have HR := Lib.hid hr
      clear hdr hr
      generalize hdd : dec rest = d at *
      clear hdd
      obtain ⟨r, n⟩ := d
      simp only at hd1 hd2 hd3 HDR HSTEP HBAD HD
      have hz : ((r : Nat) : Int) < 2097152 := by omega
      by_cases hb : r = 65533 ∧ n < 2
      · have g3 : ((r : Int) == 65533) = true := by rw [hb.1]; rfl
        have g4 : decide ((n : Int) < 2) = true := decide_eq_true (by omega)
        have HF := Lib.hid (show each l = (acc, true) by rw [HE.out, HBAD.out hb]; simp)
        clear hb
        go_wp2_with (
          go_at_call 72
          refine (HD.out _ HB.out).mono ?_
          rintro e w2 ⟨rfl, hb2⟩
          have HB2 := Lib.hid (HB.out.trans (hb2.mono hws))
          have HO2 := Lib.hid ((Fr.of_below hb2).own HO.out (fun k hk => by have := (HO.out.lt k hk).2; omega))
          clear hb2)
        go_ret2
        obtain ⟨A, c, rfl⟩ := own_slice HO2.out
        unfold EachPost
        rw [HF.out]
        exact ⟨A, c, _, rfl, rfl, HO2.out, HB2.out⟩
      · have HS := Lib.hid (HSTEP.out hb)
        have HNB := Lib.hid hb
        by_cases h5 : r = 65533
        · subst h5
          have g4 : decide ((n : Int) < 2) = false := decide_eq_false (by omega)
          clear hb
          go_wp2_with (first
            | (
              go_at_call 72
              refine (HD.out _ HB.out).mono ?_
              rintro e w2 ⟨rfl, hb2⟩
              have HB2 := Lib.hid (HB.out.trans (hb2.mono hws))
              have HO2 := Lib.hid ((Fr.of_below hb2).own HO.out (fun k hk => by have := (HO.out.lt k hk).2; omega))
              have hs2 := hb2.size
              clear hb2)
            | (at_builtin; refine wpList_append_any _ rfl (.tmp 27) (.tmp 31) 104 rfl w.heap.size 126 i0 _ 2 16 und_runes hi hz0 hz1 hz2 rfl (by decide) _ acc.length (cellsR 0 acc) rfl (HO2.out.alloc _) (w2.heap.size + 1) (some ⟨w2.heap.size, 0, none⟩) 1 1 [.int .i32 65533, .int .i64 ((flat acc).length : Nat)] rfl ?_ (rune_one _ _) (by simp only [maxLen]; omega) (by omega) (by have := hs2; simp <;> omega) ?_))
          · exact reads_two (heap_new_at rfl)
          intro v3 w3 hown3 hg3 _
          have HO3 := Lib.hid (show w3.ownsRow w.heap.size 126 2 v3 (acc ++ [((65533 : Nat), rest.take n)]).length (cellsR 0 (acc ++ [((65533 : Nat), rest.take n)])) by
            rw [cellsR_snoc, List.length_append, Nat.zero_add]
            exact hown3)
          have HB3 := Lib.hid ((HB2.out.alloc HB2.out.size _).grown hg3 (by have := HB2.out.size; simp <;> omega) (fun k hk => (HO2.out.lt k hk).1))
          clear hown3 hg3
          go_wp2_with fail
          go_roundg (rest.drop n).length
          case measure =>
            have := HQ.out
            simp
            omega
          case rel =>
            refine ⟨acc ++ [(65533, rest.take n)], rest.drop n, Lib.hid ?_, Lib.hid ?_, rfl, ?_, HO3, HB3.out⟩
            · rw [flat_app, flat_cons, flat_nil, List.append_nil, List.append_assoc, List.take_append_drop]
              exact HA.out
            · rw [HE.out, HS.out]
              simp
            · rw [flat_app, flat_cons, flat_nil, List.append_nil, List.length_append, HDR.out]
              exact congrArg (Value.int .i64) (by omega)
        · have g3 : ((r : Int) == 65533) = false := by simp; omega
          clear hb
          go_wp2_with (first
            | (
              go_at_call 72
              refine (HD.out _ HB.out).mono ?_
              rintro e w2 ⟨rfl, hb2⟩
              have HB2 := Lib.hid (HB.out.trans (hb2.mono hws))
              have HO2 := Lib.hid ((Fr.of_below hb2).own HO.out (fun k hk => by have := (HO.out.lt k hk).2; omega))
              have hs2 := hb2.size
              clear hb2)
            | (at_builtin; refine wpList_append_any _ rfl (.tmp 27) (.tmp 31) 104 rfl w.heap.size 126 i0 _ 2 16 und_runes hi hz0 hz1 hz2 rfl (by decide) _ acc.length (cellsR 0 acc) rfl (HO2.out.alloc _) (w2.heap.size + 1) (some ⟨w2.heap.size, 0, none⟩) 1 1 [.int .i32 (r : Nat), .int .i64 ((flat acc).length : Nat)] rfl ?_ (rune_one _ _) (by simp only [maxLen]; omega) (by omega) (by have := hs2; simp <;> omega) ?_))
          · exact reads_two (heap_new_at rfl)
          intro v3 w3 hown3 hg3 _
          have HO3 := Lib.hid (show w3.ownsRow w.heap.size 126 2 v3 (acc ++ [((r : Nat), rest.take n)]).length (cellsR 0 (acc ++ [((r : Nat), rest.take n)])) by
            rw [cellsR_snoc, List.length_append, Nat.zero_add]
            exact hown3)
          have HB3 := Lib.hid ((HB2.out.alloc HB2.out.size _).grown hg3 (by have := HB2.out.size; simp <;> omega) (fun k hk => (HO2.out.lt k hk).1))
          clear hown3 hg3
          go_wp2_with fail
          go_roundg (rest.drop n).length
          case measure =>
            have := HQ.out
            simp
            omega
          case rel =>
            refine ⟨acc ++ [(r, rest.take n)], rest.drop n, Lib.hid ?_, Lib.hid ?_, rfl, ?_, HO3, HB3.out⟩
            · rw [flat_app, flat_cons, flat_nil, List.append_nil, List.append_assoc, List.take_append_drop]
              exact HA.out
            · rw [HE.out, HS.out]
              simp
            · rw [flat_app, flat_cons, flat_nil, List.append_nil, List.length_append, HDR.out]
              exact congrArg (Value.int .i64) (by omega)
end Go.Proofs.YteikakoheibnjaaGreatDoor
