/- The walks over package bits: words, Has, Add, New: each returns what the plain functions on words say. -/
import Derived.Test.YtgbkmlnecooeaaaDoorRows
import Derived.Test.YtgbkmlnecooeaaaDoorMem
import Derived.Test.YtgbkmlnecooeaaaDoorPure
import Derived.WalkLawsBesides
import Derived.Laws.Bits64b
import Derived.Laws.BitsAllLaws
import Derived.Deep.LoopGhost
import Derived.Lib.Hide
import Derived.RegionTactic
namespace Go.Proofs.YtgbkmlnecooeaaaDoor
open Go Go.RowKit

def u64s (ws : List Nat) : List Value := ws.map fun (n : Nat) => Value.int .u64 (n : Int)
@[simp] theorem u64s_length (ws : List Nat) : (u64s ws).length = ws.length := by simp [u64s]
theorem u64s_append (a b : List Nat) : u64s (a ++ b) = u64s a ++ u64s b := by simp [u64s]
theorem u64s_at (ws : List Nat) (i : Nat) (h : i < ws.length) : (u64s ws)[i]? = some (.int .u64 (ws.getD i 0 : Nat)) := by
  simp [u64s, List.getD, h]
theorem u64s_set (ws : List Nat) (i y : Nat) : (u64s ws).set i (.int .u64 (y : Int)) = u64s (ws.set i y) := by simp [u64s, List.map_set]

theorem Tryd.info42 : (Tryd.prog.info? 42).map (fun i => (i.zero, i.size, i.bytes)) = some (some (.int .u64 0), 1, 8) := by kernel_rfl
theorem Tryd.info3 : (Tryd.prog.info? 3).map (fun i => (i.zero, i.size, i.bytes)) = some (some (.int .i64 0), 1, 8) := by kernel_rfl

/-- Block g is a Set whose one field is the slice v, and v owns the words ws. -/
structure SetAt (w : World) (base g : Nat) (v : Value) (ws : List Nat) : Prop where
  lo : base ≤ g
  blk : Blk w g 39 #[v]
  own : w.ownsRow base 42 1 v ws.length (u64s ws)
  len : ws.length ≤ 1563
  ok : wOk ws
/-- The blocks that belong to a set. -/
def SB (g : Nat) (v : Value) : Nat → Prop := fun b => b = g ∨ v.ownBlock = some b

theorem own_slice {w : World} {base n : Nat} {e : TypeId} {v : Value} {xs : List Value} (h : w.ownsRow base e 1 v n xs) : ∃ A c, v = .slice A n c := by
  rcases h.2 with ⟨rfl, rfl⟩ | ⟨g, cap, _, rfl, _⟩
  · exact ⟨_, _, rfl⟩
  · exact ⟨_, _, rfl⟩
theorem SetAt.slice {w : World} {base g : Nat} {v : Value} {ws : List Nat} (h : SetAt w base g v ws) : ∃ A c, v = .slice A ws.length c := own_slice h.own
theorem SetAt.frame {w w' : World} {base g : Nat} {v : Value} {ws : List Nat} {S : Nat → Prop} (h : SetAt w base g v ws) (hf : Fr S w w') (h1 : ¬ S g) (h2 : ∀ k, v.ownBlock = some k → ¬ S k) : SetAt w' base g v ws :=
  ⟨h.lo, hf.blk h.blk h1, hf.own h.own h2, h.len, h.ok⟩
theorem SetAt.ne {w : World} {base g : Nat} {v : Value} {ws : List Nat} (h : SetAt w base g v ws) : v.ownBlock ≠ some g := own_blk_ne h.own h.blk (by decide)
theorem SetAt.lt {w : World} {base g : Nat} {v : Value} {ws : List Nat} (h : SetAt w base g v ws) : ∀ k, SB g v k → base ≤ k ∧ k < w.heap.size := by
  rintro k (rfl | hk)
  · exact ⟨h.lo, h.blk.lt⟩
  · exact h.own.lt k hk
theorem SetAt.below {w w' : World} {base g B : Nat} {v : Value} {ws : List Nat} (h : SetAt w base g v ws) (hb : Below B w w') (hB : ∀ k, SB g v k → k < B) : SetAt w' base g v ws :=
  h.frame (Fr.of_below hb) (by have := hB g (.inl rfl); omega) (fun k hk => by have := hB k (.inr hk); omega)

theorem words_nil (w : World) : Calls Tryd.prog 21 #[.pointer none] w fun e w' => e = .returned (.slice none 0 0) ∧ w = w' := by
  go_enter Tryd.func21, Tryd.ntmps21
  go_wp2
  go_ret
  exact ⟨rfl, rfl⟩

theorem words_some (g : Nat) (A : Option Addr) (n c : Nat) (w : World) (hc : w.cell? ⟨g, 0, none⟩ = some (.slice A n c)) :
    Calls Tryd.prog 21 #[.pointer (some ⟨g, 0, none⟩)] w fun e w' => e = .returned (.slice A n c) ∧ w = w' := by
  go_enter Tryd.func21, Tryd.ntmps21
  go_wp2
  go_ret
  exact ⟨rfl, rfl⟩

theorem has_nil (x : Int) (w : World) (hb : x ≤ 9223372036854775807) : Calls Tryd.prog 17 #[.pointer none, .int .i64 x] w fun e w' => e = .returned (.bool false) ∧ w = w' := by
  by_cases hx : x < 0
  · go_enter Tryd.func17, Tryd.ntmps17
    go_wp2_with (go_at_call 21; refine (words_nil _).mono ?_; rintro e w' ⟨rfl, rfl⟩)
    go_ret
    exact ⟨rfl, rfl⟩
  · obtain ⟨n, rfl⟩ := Int.eq_ofNat_of_zero_le (by omega : 0 ≤ x)
    go_enter Tryd.func17, Tryd.ntmps17
    go_wp2_with (go_at_call 21; refine (words_nil _).mono ?_; rintro e w' ⟨rfl, rfl⟩)
    go_ret
    exact ⟨rfl, rfl⟩

theorem has_neg (g : Nat) (A : Option Addr) (n c : Nat) (x : Int) (w : World) (hc : w.cell? ⟨g, 0, none⟩ = some (.slice A n c)) (hx : x < 0) :
    Calls Tryd.prog 17 #[.pointer (some ⟨g, 0, none⟩), .int .i64 x] w fun e w' => e = .returned (.bool false) ∧ w = w' := by
  go_enter Tryd.func17, Tryd.ntmps17
  go_wp2_with (go_at_call 21; refine (words_some _ _ _ _ _ hc).mono ?_; rintro e w' ⟨rfl, rfl⟩)
  go_ret
  exact ⟨rfl, rfl⟩

theorem has_out (g : Nat) (A : Option Addr) (n c x : Nat) (w : World) (hc : w.cell? ⟨g, 0, none⟩ = some (.slice A n c)) (hx : n ≤ x / 64) (hb : x ≤ 9223372036854775807) :
    Calls Tryd.prog 17 #[.pointer (some ⟨g, 0, none⟩), .int .i64 x] w fun e w' => e = .returned (.bool false) ∧ w = w' := by
  go_enter Tryd.func17, Tryd.ntmps17
  go_wp2_with (go_at_call 21; refine (words_some _ _ _ _ _ hc).mono ?_; rintro e w' ⟨rfl, rfl⟩)
  go_ret
  exact ⟨rfl, rfl⟩

theorem bit_eq (u k : Nat) (hu : u < 18446744073709551616) : (bits BinOp.and IntKind.u64 ((u : Int) / 2 ^ k) 1 == 1) = u.testBit k := by
  have e : ((u : Int) / 2 ^ k) = ((u / 2 ^ k : Nat) : Int) := by simp
  have hlt : u / 2 ^ k < 18446744073709551616 := Nat.lt_of_le_of_lt (Nat.div_le_self _ _) hu
  rw [e, show (1 : Int) = ((1 : Nat) : Int) from rfl, bits_and_u64_nat _ _ hlt (by decide), nat_mask1, Nat.testBit_eq_decide_div_mod_eq]
  rw [Bool.eq_iff_iff]
  simp
  omega

theorem has_in (g : Nat) (ad : Addr) (n c x : Nat) (u : Nat) (w : World) (hc : w.cell? ⟨g, 0, none⟩ = some (.slice (some ad) n c)) (hx : x / 64 < n) (hb : x ≤ 9223372036854775807)
   (hu : w.cell? (ad.add (x / 64)) = some (.int .u64 u)) (hu2 : u < 18446744073709551616) :
    Calls Tryd.prog 17 #[.pointer (some ⟨g, 0, none⟩), .int .i64 x] w fun e w' => e = .returned (.bool (u.testBit (x % 64))) ∧ w = w' := by
  rw [← bit_eq u (x % 64) hu2]
  clear hu2
  go_enter Tryd.func17, Tryd.ntmps17
  go_wp2_with (go_at_call 21; refine (words_some _ _ _ _ _ hc).mono ?_; rintro e w' ⟨rfl, rfl⟩)
  go_ret
  exact ⟨rfl, rfl⟩

theorem has_any {w : World} {base g : Nat} {v : Value} {ws : List Nat} (h : SetAt w base g v ws) (x : Int) (hx : x ≤ 9223372036854775807) :
    Calls Tryd.prog 17 #[.pointer (some ⟨g, 0, none⟩), .int .i64 x] w fun e w' => e = .returned (.bool (hasI ws x)) ∧ w = w' := by
  obtain ⟨A, c, rfl⟩ := h.slice
  have hc := h.blk.cell 0
  simp only [List.getElem?_toArray, List.getElem?_cons_zero] at hc
  by_cases h0 : x < 0
  · rw [hasI_neg _ _ h0]
    exact has_neg g A _ c x w hc h0
  · obtain ⟨n, rfl⟩ := Int.eq_ofNat_of_zero_le (by omega : 0 ≤ x)
    rw [hasI_nat]
    by_cases h1 : ws.length ≤ n / 64
    · rw [wHas_out _ _ h1]
      exact has_out g A _ c n w hc h1 (by omega)
    · obtain ⟨ad, u, rfl, _, hu, hcu⟩ := (Reads.of_own h.own).at_ (k := n / 64) (by omega)
      rw [u64s_at _ _ (by omega)] at hu
      obtain rfl := Option.some.inj hu
      exact has_in g ad _ c n _ w hc (by omega) (by omega) hcu (wOk_getD ws h.ok _)

/-- The state in the loop of Add: m words more, all 0. -/
def AddSt (w0 : World) (base g x : Nat) (ws : List Nat) (v : Value) (wr : World) (k : Nat) : Prop :=
  ∃ A c m, Blk wr g 39 #[.slice A (ws.length + m) c] ∧ wr.ownsRow base 42 1 (.slice A (ws.length + m) c) (ws.length + m) (u64s (ws ++ List.replicate m 0)) ∧
    Fr (SB g v) w0 wr ∧ k = x / 64 + 1 - (ws.length + m) ∧ (m = 0 ∨ ws.length + m ≤ x / 64 + 1) ∧
    ((Value.slice A (ws.length + m) c).ownBlock = v.ownBlock ∨ ∀ b, (Value.slice A (ws.length + m) c).ownBlock = some b → w0.heap.size ≤ b)

theorem addSt_step {base g x : Nat} {ws : List Nat} {v : Value} {w wr w1 : World} {m : Nat} {A' A1 : Option Addr} {c' c1 : Nat} (hlt : ws.length + m ≤ x / 64)
    (hB : Blk wr g 39 #[.slice A' (ws.length + m) c']) (hO : wr.ownsRow base 42 1 (.slice A' (ws.length + m) c') (ws.length + m) (u64s (ws ++ List.replicate m 0)))
    (hF : Fr (SB g v) w wr)
    (hN : (Value.slice A' (ws.length + m) c').ownBlock = v.ownBlock ∨ ∀ b, (Value.slice A' (ws.length + m) c').ownBlock = some b → w.heap.size ≤ b)
    {o : Obj} (hg1 : (wr.alloc o).grownBy w1 (Value.slice A' (ws.length + m) c').ownBlock)
    (hO1 : w1.ownsRow base 42 1 (.slice A1 (ws.length + m + 1) c1) (ws.length + m + 1) (u64s (ws ++ List.replicate m 0) ++ [.int .u64 0]))
    (hlies : (Value.slice A1 (ws.length + m + 1) c1).ownBlock = (Value.slice A' (ws.length + m) c').ownBlock ∨ (Value.slice A1 (ws.length + m + 1) c1).ownBlock = some (wr.heap.size + 1))
    (hB1 : Blk w1 g 39 #[.slice A' (ws.length + m) c']) :
    AddSt w base g x ws v (w1.setCell ⟨g, 0, none⟩ (.slice A1 (ws.length + m + 1) c1)) (x / 64 + 1 - (ws.length + m + 1)) := by
  have hgl : w.heap.size ≤ wr.heap.size + 1 := by have := hF.size; omega
  refine ⟨A1, c1, m + 1, ?_, ?_, ?_, rfl, .inr (by omega), ?_⟩
  · exact hB1.set_ 0 (.slice A1 (ws.length + m + 1) c1)
  · have e : u64s (ws ++ List.replicate (m + 1) 0) = u64s (ws ++ List.replicate m 0) ++ [.int .u64 0] := by
      rw [List.replicate_succ', ← List.append_assoc, u64s_append (ws ++ _)]; rfl
    rw [e]
    have hf : Fr (fun b => b = g) w1 (w1.setCell ⟨g, 0, none⟩ (.slice A1 (ws.length + m + 1) c1)) := Fr.setCell (S := fun b => b = g) (Fr.refl _ _) (.inl rfl) _
    exact hf.own hO1 (fun k hk hk2 => own_blk_ne hO1 hB1 (by decide) (by subst hk2; exact hk))
  · refine (((hF.alloc o).grown hg1 ?_)).setCell (.inl (.inl rfl)) _
    intro k hk
    rcases hN with hN | hN
    · exact .inl (.inr (by rw [← hN]; exact hk))
    · exact .inr (hN k hk)
  · rcases hlies with e | e
    · rw [show ws.length + (m + 1) = ws.length + m + 1 from rfl, e]
      exact hN
    · exact .inr fun b hb => by
        rw [show ws.length + (m + 1) = ws.length + m + 1 from rfl, e] at hb
        obtain rfl := Option.some.inj hb
        exact hgl

/-- What a call of Add leaves. -/
def Added (w w' : World) (base g : Nat) (v : Value) (ws : List Nat) : Prop :=
  ∃ v', SetAt w' base g v' ws ∧ Fr (SB g v) w w' ∧ (v'.ownBlock = v.ownBlock ∨ ∀ b, v'.ownBlock = some b → w.heap.size ≤ b)

theorem pow_wrap (x : Nat) : IntKind.u64.wrap ((2 : Int) ^ (x % 64)) = ((2 ^ (x % 64) : Nat) : Int) := by
  have := two_pow_lt x
  have e : ((2 : Int) ^ (x % 64)) = ((2 ^ (x % 64) : Nat) : Int) := by simp
  rw [e, IntKind.wrap_u64]
  generalize 2 ^ (x % 64) = y at this
  omega

theorem added_end {base g x : Nat} {ws : List Nat} {v : Value} {w wr : World} {m r c : Nat} (hlt : ¬ ws.length + m ≤ x / 64) (hm : m = 0 ∨ ws.length + m ≤ x / 64 + 1) (hx : x ≤ 100000)
    (lo : base ≤ g) (len : ws.length ≤ 1563) (ok : wOk ws)
    (hB : Blk wr g 39 #[.slice (some ⟨r, 0, none⟩) (ws.length + m) c]) (hO : wr.ownsRow base 42 1 (.slice (some ⟨r, 0, none⟩) (ws.length + m) c) (ws.length + m) (u64s (ws ++ List.replicate m 0)))
    (hF : Fr (SB g v) w wr)
    (hN : (Value.slice (some ⟨r, 0, none⟩) (ws.length + m) c).ownBlock = v.ownBlock ∨ ∀ b, (Value.slice (some ⟨r, 0, none⟩) (ws.length + m) c).ownBlock = some b → w.heap.size ≤ b) :
    Added w (wr.setCell ⟨r, x / 64, none⟩ (.int .u64 (bits BinOp.or IntKind.u64 ((ws.getD (x / 64) 0 : Nat) : Int) (IntKind.u64.wrap (2 ^ (x % 64)))))).drew base g v (wSet ws x) := by
  have hne : r ≠ g := by have := own_blk_ne hO hB (by decide); simpa [Value.ownBlock] using this
  have e1 : ws ++ List.replicate m 0 = wPad ws (x / 64 + 1) := by
    unfold wPad
    rcases hm with rfl | hm
    · rw [show x / 64 + 1 - ws.length = 0 by omega]
    · rw [show x / 64 + 1 - ws.length = m by omega]
  have e2 : ws.length + m = (wSet ws x).length := by rw [wSet_length]; omega
  rw [pow_wrap, bits_or_u64_nat _ _ (wOk_getD ws ok _) (two_pow_lt x)]
  have hst := hO.stored (x / 64) (.int .u64 ((ws.getD (x / 64) 0 ||| 2 ^ (x % 64) : Nat) : Int))
  rw [u64s_set, e1] at hst
  have e3 : (wPad ws (x / 64 + 1)).set (x / 64) (ws.getD (x / 64) 0 ||| 2 ^ (x % 64)) = wSet ws x := by unfold wSet; rw [wPad_getD]
  rw [e3] at hst
  refine ⟨.slice (some ⟨r, 0, none⟩) (ws.length + m) c, ⟨lo, ?_, ?_, ?_, wOk_wSet ws ok x⟩, ?_, hN⟩
  · exact Fr.blk (S := fun b => b = r) ((Fr.setCell (S := fun b => b = r) (Fr.refl _ _) (p := ⟨r, x / 64, none⟩) (.inl rfl) _).drew) hB (Ne.symm hne)
  · rw [← e2]; exact hst.1
  · rw [wSet_length]; omega
  · refine (hF.setCell (p := ⟨r, x / 64, none⟩) ?_ _).drew
    rcases hN with hN | hN
    · exact .inl (.inr (by rw [← hN]; rfl))
    · exact .inr (hN r rfl)

set_option maxHeartbeats 1000000 in
theorem add_new (base g : Nat) (A : Option Addr) (c x : Nat) (ws : List Nat) (w : World) (h : SetAt w base g (.slice A ws.length c) ws) (hx : x ≤ 100000) (hn : hasI ws x = false) :
    Calls Tryd.prog 14 #[.pointer (some ⟨g, 0, none⟩), .int .i64 x] w fun e w' => e = .returned (.bool true) ∧ Added w w' base g (.slice A ws.length c) (wSet ws x) := by
  obtain ⟨i0, hi, hz0, hz1, hz2⟩ := info_parts Tryd.info42
  have HH := Lib.hid (has_any h (x : Int) (by omega))
  rw [hn] at HH
  have hl := h.len
  have HO := Lib.hid h
  clear h hn
  go_enter Tryd.func14, Tryd.ntmps14
  go_wp2_with (go_at_call 17; refine HH.out.mono ?_; rintro e w' ⟨rfl, rfl⟩)
  go_loopg [] (x / 64 + 1 - ws.length) (fun k wr => AddSt w base g x ws (.slice A ws.length c) wr k)
  case atStart => exact ⟨A, c, 0, by simpa using HO.out.blk, by simpa using HO.out.own, Fr.refl _ _, by simp, .inl rfl, .inl rfl⟩
  case round =>
    obtain ⟨A', c', m, hblk', hown', hfr, hk, hm, hnew⟩ := hrel
    have hcell := hblk'.cell 0
    have hfro := hblk'.frozen 0
    simp at hcell
    have HB' := Lib.hid hblk'
    have HO' := Lib.hid hown'
    have HK := Lib.hid hk
    have HF := Lib.hid hfr
    have HN := Lib.hid hnew
    have HM := Lib.hid hm
    clear hblk' hown' hk hfr hnew hm
    by_cases hlt : ws.length + m ≤ x / 64
    · go_wp2_with (at_builtin; refine wpList_append_own_at _ rfl (.tmp 32) (.tmp 33) 37 rfl base 42 i0 (.int .u64 0) 1 8 Tryd.underlying37 hi hz0 hz1 hz2 rfl (by decide) _ (ws.length + m) _ rfl (HO'.out.alloc _) ⟨wr.heap.size, 0, none⟩ 1 1 [.int .u64 0] rfl rfl ?c1 ?c2 ?c3 ?c4 ?c5 ?_)
      case c1 => exact cell_one_new _ _ _
      case c2 => intro u hu; simp at hu; subst hu; rfl
      case c3 => simp only [maxLen]; omega
      case c4 => omega
      case c5 => have := HB'.out.lt; have := HO.out.lo; simp; omega
      intro v1 w1 hown1 hg1 _ hlies
      obtain ⟨A1, c1, rfl⟩ := own_slice hown1
      have hne : (Value.slice A' (ws.length + m) c').ownBlock ≠ some g := own_blk_ne HO'.out HB'.out (by decide)
      have hblk1 : Blk w1 g 39 #[.slice A' (ws.length + m) c'] := (hg1.block g (by have := HB'.out.lt; simp; omega) (Ne.symm hne)).trans ((Below.heap_alloc _ _ _ HB'.out.lt).trans HB'.out)
      have k0 := hblk1.cell 0
      have k1 := hblk1.frozen 0
      simp at k0
      have HB1 := Lib.hid hblk1
      have HO1 := Lib.hid hown1
      have HG1 := Lib.hid hg1
      have HL1 := Lib.hid hlies
      clear hblk1 hown1 hg1 hne hcell hfro hlies
      go_wp2
      go_roundg (x / 64 + 1 - (ws.length + m + 1))
      case measure => have := HK.out; omega
      case rel => exact addSt_step (by omega) HB'.out HO'.out HF.out HN.out HG1.out HO1.out HL1.out HB1.out
    · go_wp2_with (fail)
      obtain ⟨r, cr, hv, hr, hrl⟩ := HO'.out.form (by omega)
      simp only [Value.slice.injEq, true_and] at hv
      obtain ⟨rfl, rfl⟩ := hv
      have hne : r ≠ g := by have := own_blk_ne HO'.out HB'.out (by decide); simpa [Value.ownBlock] using this
      have h1 := HO'.out.cellAt (x / 64) (by omega)
      have h2 := HO'.out.frozenAt (x / 64)
      rw [u64s_at _ _ (by simp; omega)] at h1
      have e0 : (ws ++ List.replicate m 0).getD (x / 64) 0 = ws.getD (x / 64) 0 := by
        have := wPad_getD ws (ws.length + m) (x / 64)
        unfold wPad at this
        rwa [show ws.length + m - ws.length = m by omega] at this
      rw [e0] at h1
      clear e0
      generalize hy : ws.getD (x / 64) 0 = y at h1
      have HY := Lib.hid hy
      clear hy
      go_region
      go_wp2
      go_ret
      refine ⟨rfl, ?_⟩
      have hy := HY.out
      subst hy
      exact added_end hlt HM.out hx HO.out.lo HO.out.len HO.out.ok HB'.out HO'.out HF.out HN.out
end Go.Proofs.YtgbkmlnecooeaaaDoor
