/- Parts of the proof: TellPure, TVal. -/
import Derived.Lib.IndexMore
import Derived.Lib.SlTrimSet
import Derived.Lib.Split
import Derived.Test.YteikakoheibnjaaGreatDoorM0
import Derived.Test.YteikakoheibnjaaGreatDoorM1
import Derived.Test.YteikakoheibnjaaGreatDoorM2
namespace Go.Proofs.YteikakoheibnjaaGreatDoor
open Go

structure ValP where
  name : List UInt8
  order : Int
  set : List Int
deriving DecidableEq
structure ResP where
  tag : Int
  err : Int
  at_ : Int
  model : List ValP
  counter : List ValP
deriving DecidableEq
def zeroR : ResP := ⟨0, 0, 0, [], []⟩
instance : Inhabited ValP := ⟨⟨[], 0, []⟩⟩

/-- May the k-th number stand there? -/
def setStep (l : List Int) (k : Nat) : Bool := decide (0 ≤ l.getD k 0) && decide (l.getD k 0 ≤ 999) && (k == 0 || decide (l.getD (k - 1) 0 < l.getD k 0))
def setB (l : List Int) : Bool := (List.range l.length).all (setStep l)
def shapeB (o : Int) (l : List Int) : Bool := if o = 0 then l == [] || l == [0] else if o = 1 then l.length == 1 else true
def valB (v : ValP) : Bool := nameB v.name && (decide (0 ≤ v.order) && decide (v.order ≤ 2)) && setB v.set && shapeB v.order v.set
def valsB (l : List ValP) : Bool := decide (l.length ≤ 6) && l.all valB
def tagB (r : ResP) : Bool := decide (1 ≤ r.tag) && decide (r.tag ≤ 5)
def restB (r : ResP) : Bool :=
  (decide (r.tag = 1 ∨ r.tag = 2) || r.model.isEmpty) && (decide (r.tag = 3 ∨ r.tag = 2) || r.counter.isEmpty) &&
  (if r.tag = 4 then decide (1 ≤ r.err ∧ r.err ≤ 8) && decide (0 ≤ r.at_ ∧ r.at_ ≤ 2000) else decide (r.err = 0) && decide (r.at_ = 0))
/-- May a result be? -/
def isB (r : ResP) : Bool := tagB r && (valsB r.model && valsB r.counter) && restB r

def wTrue : List UInt8 := [116, 114, 117, 101]
def wFalse : List UInt8 := [102, 97, 108, 115, 101]
def wModel : List UInt8 := [109, 111, 100, 101, 108]
def wCounter : List UInt8 := [99, 111, 117, 110, 116, 101, 114]
def wValid : List UInt8 := [118, 97, 108, 105, 100]
def wContingent : List UInt8 := [99, 111, 110, 116, 105, 110, 103, 101, 110, 116]
def wUnsat : List UInt8 := [117, 110, 115, 97, 116]
def wRefused : List UInt8 := [114, 101, 102, 117, 115, 101, 100]
def wLimit : List UInt8 := [108, 105, 109, 105, 116]
def tagsL : List (List UInt8) := [[], wValid, wContingent, wUnsat, wRefused, wLimit]

def num (n : Int) : List UInt8 := dig n.toNat
/-- A value as a text. -/
def valueS (v : ValP) : List UInt8 :=
  if v.order = 0 then (if v.set = [] then wFalse else wTrue)
  else if v.order = 1 then num (v.set.getD 0 0)
  else [123] ++ commas (v.set.map num) ++ [125]
def lineS (v : ValP) : List UInt8 := v.name ++ [32, 61, 32] ++ valueS v ++ [10]
def listS (t : List UInt8) (l : List ValP) : List UInt8 := t ++ [10] ++ l.flatMap lineS
/-- A result as a text. -/
def textS (r : ResP) : List UInt8 :=
  tagsL.getD r.tag.toNat [] ++ (if r.tag = 4 then [32] ++ num r.err ++ [32] ++ num r.at_ else []) ++ [10] ++
  (if r.tag = 1 ∨ r.tag = 2 then listS wModel r.model else []) ++ (if r.tag = 3 ∨ r.tag = 2 then listS wCounter r.counter else [])
def textP (r : ResP) : List UInt8 := if isB r then textS r else []

/-- A text as a number; below 0: it is none. -/
def numberF (s : List UInt8) : Nat := s.foldl (fun a c => a * 10 + (c.toNat - 48)) 0
def isDig (c : UInt8) : Bool := decide (48 ≤ c.toNat) && decide (c.toNat ≤ 57)
def number (s : List UInt8) : Int := if s.all isDig && decide (s.length ≤ 4) then (numberF s : Nat) else -1
/-- A text's value: its Order, its numbers. -/
def readSet (s : List UInt8) : List Int := ((Lib.split (Lib.trimS s [123, 125]) [44, 32]).filter (fun x => !x.isEmpty)).map number
def readV (s : List UInt8) : Int × List Int :=
  if s = wTrue then (0, [0]) else if s = wFalse then (0, []) else if Lib.hasPrefix s [123] then (2, readSet s) else (1, [number s])
/-- What is read so far: are we among the counter-model's lines? the two lists. -/
structure RdS where
  late : Bool
  model : List ValP
  counter : List ValP
def valOf (line : List UInt8) : Option ValP :=
  if (Lib.cut line [32, 61, 32]).2.2 then some ⟨(Lib.cut line [32, 61, 32]).1, (readV (Lib.cut line [32, 61, 32]).2.1).1, (readV (Lib.cut line [32, 61, 32]).2.1).2⟩ else none
def lateOf (b : Bool) (line : List UInt8) : Bool := b || line == wCounter
def RdS.step (a : RdS) (line : List UInt8) : RdS :=
  match valOf line with
  | some v => if lateOf a.late line then ⟨lateOf a.late line, a.model, a.counter ++ [v]⟩ else ⟨lateOf a.late line, a.model ++ [v], a.counter⟩
  | none => ⟨lateOf a.late line, a.model, a.counter⟩
def rdLines (l : List (List UInt8)) : RdS := l.foldl RdS.step ⟨false, [], []⟩
def tagOf (s : List UInt8) : Int :=
  if s = wValid then 1 else if s = wContingent then 2 else if s = wUnsat then 3 else if s = wRefused then 4 else if s = wLimit then 5 else 0
def firstOf (s : List UInt8) : List (List UInt8) := Lib.split ((Lib.split s [10]).getD 0 []) [32]
/-- What a text is read as, be it that result's text or not. -/
def readR (s : List UInt8) : ResP :=
  ⟨tagOf ((firstOf s).getD 0 []), if (firstOf s).length = 3 then number ((firstOf s).getD 1 []) else 0, if (firstOf s).length = 3 then number ((firstOf s).getD 2 []) else 0,
    (rdLines ((Lib.split s [10]).drop 1)).model, (rdLines ((Lib.split s [10]).drop 1)).counter⟩
def readOk (s : List UInt8) : Bool := !s.isEmpty && textP (readR s) == s
/-- What a text is read as, and is it read? -/
def readP (s : List UInt8) : ResP × Bool := if readOk s then (readR s, true) else (zeroR, false)
end Go.Proofs.YteikakoheibnjaaGreatDoor
namespace Go.Proofs.YteikakoheibnjaaGreatDoor
open Go Go.RowKit

/-- Numbers lie in w below block B. -/
structure IntsAt (w : World) (B : Nat) (A : Option Addr) (cap : Nat) (ns : List Int) : Prop where
  cap_ : ns.length ≤ cap
  small : ns.length ≤ 140737488355328
  at_ : 0 < ns.length → ∃ b off, A = some ⟨b, off, none⟩ ∧ b < B ∧ ∀ k (_ : k < ns.length), w.cell? ⟨b, off + k, none⟩ = some (.int .i64 ns[k])
/-- Values. -/
structure ValsAt (w : World) (B : Nat) (A : Option Addr) (cap : Nat) (vs : List ValP) : Prop where
  cap_ : vs.length ≤ cap
  small : vs.length ≤ 140737488355328
  name : ∀ v ∈ vs, v.name.length ≤ 140737488355328
  at_ : ∀ k (_ : k < vs.length), ∃ b off A1 c1, A = some ⟨b, off, none⟩ ∧ b < B ∧ w.cell? ⟨b, off + k * 3, none⟩ = some (.string ⟨vs[k].name.toArray⟩) ∧ w.cell? ⟨b, off + k * 3 + 1, none⟩ = some (.int .i64 vs[k].order) ∧
    w.cell? ⟨b, off + k * 3 + 2, none⟩ = some (.slice A1 vs[k].set.length c1) ∧ IntsAt w B A1 c1 vs[k].set
section
variable {w w' W : World} {B B' : Nat} {A : Option Addr} {cap : Nat} {ns : List Int} {vs : List ValP}
theorem IntsAt.nil : IntsAt w B A cap [] := ⟨Nat.zero_le _, Nat.zero_le _, fun h => absurd h (by simp)⟩
theorem IntsAt.keep (h : IntsAt w B A cap ns) (hk : ∀ p : Addr, p.block < B → w'.cell? p = w.cell? p) : IntsAt w' B A cap ns :=
  ⟨h.cap_, h.small, fun h0 => by
    obtain ⟨b, off, e, hb, hc⟩ := h.at_ h0
    exact ⟨b, off, e, hb, fun k hl => (hk _ hb).trans (hc k hl)⟩⟩
theorem IntsAt.more (h : IntsAt w B A cap ns) (hB : B ≤ B') : IntsAt w B' A cap ns :=
  ⟨h.cap_, h.small, fun h0 => by
    obtain ⟨b, off, e, hb, hc⟩ := h.at_ h0
    exact ⟨b, off, e, by omega, hc⟩⟩
theorem IntsAt.later (h : IntsAt w B A cap ns) (hb : Below B w W) (hB : B ≤ W.heap.size) : IntsAt W W.heap.size A cap ns := (h.keep fun _ hp => hb.cell hp).more hB
theorem ValsAt.keep (h : ValsAt w B A cap vs) (hk : ∀ p : Addr, p.block < B → w'.cell? p = w.cell? p) : ValsAt w' B A cap vs :=
  ⟨h.cap_, h.small, h.name, fun k hl => by
    obtain ⟨b, off, A1, c1, e, hb, d0, d1, d2, hs⟩ := h.at_ k hl
    exact ⟨b, off, A1, c1, e, hb, (hk _ hb).trans d0, (hk _ hb).trans d1, (hk _ hb).trans d2, hs.keep hk⟩⟩
theorem ValsAt.more (h : ValsAt w B A cap vs) (hB : B ≤ B') : ValsAt w B' A cap vs :=
  ⟨h.cap_, h.small, h.name, fun k hl => by
    obtain ⟨b, off, A1, c1, e, hb, d0, d1, d2, hs⟩ := h.at_ k hl
    exact ⟨b, off, A1, c1, e, by omega, d0, d1, d2, hs.more hB⟩⟩
theorem ValsAt.later (h : ValsAt w B A cap vs) (hb : Below B w W) (hB : B ≤ W.heap.size) : ValsAt W W.heap.size A cap vs := (h.keep fun _ hp => hb.cell hp).more hB
end
/-- A value's, a result's value. -/
abbrev valW (nm : List UInt8) (o : Int) (A : Option Addr) (l c : Nat) : Value := .agg #[.string ⟨nm.toArray⟩, .int .i64 o, .slice A l c]
abbrev boxV (nm : List UInt8) (o : Int) (A : Option Addr) (l c : Nat) : Obj := .cells #[.string ⟨nm.toArray⟩, .int .i64 o, .slice A l c] 37
structure ResL where
  Am : Option Addr
  cm : Nat
  Ac : Option Addr
  cc : Nat
abbrev resW (t e a : Int) (nm nc : Nat) (L : ResL) : Value := .agg #[.int .i64 t, .int .i64 e, .int .i64 a, .slice L.Am nm L.cm, .slice L.Ac nc L.cc]
abbrev boxR (t e a : Int) (nm nc : Nat) (L : ResL) : Obj := .cells #[.int .i64 t, .int .i64 e, .int .i64 a, .slice L.Am nm L.cm, .slice L.Ac nc L.cc] 25
abbrev resT (r : ResP) (L : ResL) : Value := resW r.tag r.err r.at_ r.model.length r.counter.length L
structure ResAt (w : World) (B : Nat) (r : ResP) (L : ResL) : Prop where
  model : ValsAt w B L.Am L.cm r.model
  counter : ValsAt w B L.Ac L.cc r.counter
theorem ResAt.later {w W : World} {B : Nat} {r : ResP} {L : ResL} (h : ResAt w B r L) (hb : Below B w W) (hB : B ≤ W.heap.size) : ResAt W W.heap.size r L := ⟨h.model.later hb hB, h.counter.later hb hB⟩

/-- A box's cells, in a later world. -/
theorem vbox_at {w W : World} {cs : Array Value} {t : TypeId} (h : Below (w.alloc (.cells cs t)).heap.size (w.alloc (.cells cs t)) W) (j : Nat) (u : Value) (hu : cs[j]? = some u) : W.cell? ⟨w.heap.size, j, none⟩ = some u :=
  (h.cell (p := ⟨w.heap.size, j, none⟩) (by simp)).trans ((cell_of_row _ w.heap.size j _ t (0, 0) (heap_alloc_new w _)).trans hu)
theorem all_range_succ (f : Nat → Bool) (k : Nat) : (List.range (k + 1)).all f = ((List.range k).all f && f k) := by
  rw [List.range_succ, List.all_append]
  simp
theorem all_range_false {f : Nat → Bool} {k n : Nat} (h : k < n) (hf : f k = false) : (List.range n).all f = false := by
  rw [List.all_eq_false]
  exact ⟨k, List.mem_range.2 h, by rw [hf]; decide⟩
theorem getD_at (ns : List Int) {k : Nat} (h : k < ns.length) : ns.getD k 0 = ns[k] := by rw [List.getD_eq_getElem?_getD, List.getElem?_eq_getElem h]; rfl
set_option maxHeartbeats 2000000 in
theorem isSet_any {w : World} {B : Nat} {A : Option Addr} {c : Nat} {ns : List Int} (h : IntsAt w B A c ns) : Calls Tryz.prog 44 #[.slice A ns.length c] w fun e w' => e = .returned (.bool (setB ns)) ∧ w = w' := by
  have HI := Lib.hid h
  have hz := h.small
  have HV := Lib.hid (show setB ns = (List.range ns.length).all (setStep ns) from rfl)
  generalize setB ns = V at *
  clear h
  go_enter Tryz.func44, Tryz.ntmps44
  go_wp2_with fail
  go_loopg [7] ns.length (fun g iv wr => ∃ k : Nat, k ≤ ns.length ∧ g = ns.length - k ∧ iv = .int .i64 (k : Int) ∧ Hid ((List.range k).all (setStep ns) = true) ∧ w = wr)
  case atStart => exact ⟨0, Nat.zero_le _, rfl, rfl, Lib.hid rfl, rfl⟩
  case round =>
    obtain ⟨k, hk, hg, rfl, HA, rfl⟩ := hrel
    have HG := Lib.hid hg
    clear hg
    by_cases hlt : k < ns.length
    · have g1 : decide ((k : Int) < (ns.length : Int)) = true := decide_eq_true (by omega)
      obtain ⟨b, off, rfl, hb, hc⟩ := HI.out.at_ (by omega)
      have c0 := hc k hlt
      have HST := Lib.hid (all_range_succ (setStep ns) k)
      have HFL := Lib.hid (fun hf => all_range_false (f := setStep ns) hlt hf)
      have e1 := getD_at ns hlt
      have hp0 : (0 : Int) ≤ (k : Int) := by omega
      have hp1 : (k : Int) < (ns.length : Int) := by omega
      by_cases hk0 : k = 0
      · skip
        have q2 : decide ((0 : Int) < (k : Int)) = false := decide_eq_false (by omega)
        have q3 : decide (0 < k) = false := decide_eq_false (by omega)
        have HS : Hid (setStep ns k = (decide ((0 : Int) ≤ ns[k]) && decide (ns[k] ≤ 999))) := Lib.hid (by unfold setStep; rw [e1, show (k == 0) = true by rw [beq_iff_eq]; exact hk0, Bool.true_or, Bool.and_true])
        clear hc e1
        generalize ns[k] = n at *
        by_cases h0 : n < 0
        · have t1 : decide (n < 0) = true := decide_eq_true h0
          have HF := Lib.hid (HV.out.trans (HFL.out (by rw [HS.out, decide_eq_false (show ¬ (0 : Int) ≤ n by omega)]; rfl)))
          clear HS HST HFL HV hk0
          go_wp2_with fail
          go_ret
          exact ⟨congrArg (fun x : Bool => Ending.returned (.bool x)) HF.out.symm, rfl⟩
        · have t1 : decide (n < 0) = false := decide_eq_false h0
          by_cases h9 : 999 < n
          · have t2 : decide (999 < n) = true := decide_eq_true h9
            have HF := Lib.hid (HV.out.trans (HFL.out (by rw [HS.out, decide_eq_false (show ¬ n ≤ 999 by omega)]; simp)))
            clear HS HST HFL HV hk0
            go_wp2_with fail
            go_ret
            exact ⟨congrArg (fun x : Bool => Ending.returned (.bool x)) HF.out.symm, rfl⟩
          · have t2 : decide (999 < n) = false := decide_eq_false h9
            have HT := Lib.hid (show (List.range (k + 1)).all (setStep ns) = true by rw [HST.out, HA.out, HS.out, decide_eq_true (by omega : (0 : Int) ≤ n), decide_eq_true (by omega : n ≤ 999)]; rfl)
            clear HS HST HFL hk0
            go_wp2_with fail
            go_roundg (ns.length - (k + 1))
            case measure => have := HG.out; omega
            case rel => exact ⟨k + 1, by omega, rfl, by go_num, HT, rfl⟩
      · skip
        obtain ⟨j, hj⟩ : ∃ j, j = k - 1 := ⟨_, rfl⟩
        have hjl : j < ns.length := by omega
        have c1 := hc j hjl
        have e2 := getD_at ns hjl
        have HS : Hid (setStep ns k = (decide ((0 : Int) ≤ ns[k]) && decide (ns[k] ≤ 999) && decide (ns[j] < ns[k]))) := Lib.hid (by
          unfold setStep
          rw [e1, ← hj, e2, show (k == 0) = false by rw [beq_eq_false_iff_ne]; exact hk0, Bool.false_or])
        have q1 : IntKind.i64.wrap ((k : Int) - 1) = (j : Int) := by
          rw [show (k : Int) - 1 = (j : Int) by omega]
          exact IntWalk.i64_in _ ⟨by omega, by omega⟩
        have q2 : decide ((0 : Int) < (k : Int)) = true := decide_eq_true (by omega)
        have q3 : decide (0 < k) = true := decide_eq_true (by omega)
        have q4 : (0 : Int) ≤ (j : Int) := by omega
        have q5 : (j : Int) < (ns.length : Int) := by omega
        clear hc e1 e2 hj
        generalize ns[j] = p at *
        generalize ns[k] = n at *
        by_cases h0 : n < 0
        · have t1 : decide (n < 0) = true := decide_eq_true h0
          have HF := Lib.hid (HV.out.trans (HFL.out (by rw [HS.out, decide_eq_false (show ¬ (0 : Int) ≤ n by omega)]; rfl)))
          clear HS HST HFL HV hk0
          go_wp2_with fail
          go_ret
          exact ⟨congrArg (fun x : Bool => Ending.returned (.bool x)) HF.out.symm, rfl⟩
        · have t1 : decide (n < 0) = false := decide_eq_false h0
          by_cases h9 : 999 < n
          · have t2 : decide (999 < n) = true := decide_eq_true h9
            have HF := Lib.hid (HV.out.trans (HFL.out (by rw [HS.out, decide_eq_false (show ¬ n ≤ 999 by omega)]; simp)))
            clear HS HST HFL HV hk0
            go_wp2_with fail
            go_ret
            exact ⟨congrArg (fun x : Bool => Ending.returned (.bool x)) HF.out.symm, rfl⟩
          · have t2 : decide (999 < n) = false := decide_eq_false h9
            by_cases hp : n ≤ p
            · have t3 : decide (n ≤ p) = true := decide_eq_true hp
              have HF := Lib.hid (HV.out.trans (HFL.out (by rw [HS.out, decide_eq_false (show ¬ p < n by omega)]; simp)))
              clear HS HST HFL HV hk0
              go_wp2_with fail
              go_ret
              exact ⟨congrArg (fun x : Bool => Ending.returned (.bool x)) HF.out.symm, rfl⟩
            · have t3 : decide (n ≤ p) = false := decide_eq_false hp
              have HT := Lib.hid (show (List.range (k + 1)).all (setStep ns) = true by rw [HST.out, HA.out, HS.out, decide_eq_true (by omega : (0 : Int) ≤ n), decide_eq_true (by omega : n ≤ 999), decide_eq_true (by omega : p < n)]; rfl)
              clear HS HST HFL hk0
              go_wp2_with fail
              go_roundg (ns.length - (k + 1))
              case measure => have := HG.out; omega
              case rel => exact ⟨k + 1, by omega, rfl, by go_num, HT, rfl⟩
    · have g1 : decide ((k : Int) < (ns.length : Int)) = false := decide_eq_false (by omega)
      have HF := Lib.hid (show V = true by rw [HV.out, ← HA.out, show k = ns.length by omega])
      clear HV
      go_wp2_with fail
      go_ret
      exact ⟨congrArg (fun x : Bool => Ending.returned (.bool x)) HF.out.symm, rfl⟩
end Go.Proofs.YteikakoheibnjaaGreatDoor
