/- Memory: a program: rows of variables, of preds, a formula. -/
import Derived.Test.YteikakoheibnjaaDoorForm
import Derived.Test.YteikakoheibnjaaDoorTokShow
namespace Go.Proofs.YteikakoheibnjaaDoor
open Go Go.RowKit

/-- A box's cells, in a later world. -/
theorem box_at {w W : World} {cs : Array Value} {t : TypeId} (h : Below (w.heap.size + 1) (w.alloc (.cells cs t)) W) (j : Nat) (u : Value) (hu : cs[j]? = some u) : W.cell? ⟨w.heap.size, j, none⟩ = some u :=
  (h.cell (p := ⟨w.heap.size, j, none⟩) (Nat.lt_succ_self _)).trans ((cell_of_row _ w.heap.size j _ t (0, 0) (heap_alloc_new w _)).trans hu)
/-- A row of variables lies in w below block B. -/
structure DeclsAt (w : World) (B : Nat) (A : Option Addr) (cap : Nat) (ds : List DeclP) : Prop where
  cap_ : ds.length ≤ cap
  small : cap ≤ 140737488355328
  name : ∀ d ∈ ds, d.name.length ≤ 140737488355328
  at_ : ∀ k (_ : k < ds.length), ∃ b off, A = some ⟨b, off, none⟩ ∧ b < B ∧ w.cell? ⟨b, off + k * 3, none⟩ = some (.string ⟨ds[k].name.toArray⟩) ∧ w.cell? ⟨b, off + k * 3 + 1, none⟩ = some (.int .i64 ds[k].order) ∧ w.cell? ⟨b, off + k * 3 + 2, none⟩ = some (.int .i64 ds[k].at_)
/-- A row of preds. -/
structure PredsAt (w : World) (B : Nat) (A : Option Addr) (cap : Nat) (ps : List PredP) : Prop where
  cap_ : ps.length ≤ cap
  small : cap ≤ 140737488355328
  name : ∀ x ∈ ps, x.name.length ≤ 140737488355328
  at_ : ∀ k (_ : k < ps.length), ∃ b off A1 c1 A2 c2, A = some ⟨b, off, none⟩ ∧ b < B ∧ (w.cell? ⟨b, off + k * 8, none⟩ = some (.string ⟨ps[k].name.toArray⟩) ∧ w.cell? ⟨b, off + k * 8 + 1, none⟩ = some (.slice A1 ps[k].params.length c1) ∧
    w.cell? ⟨b, off + k * 8 + 2, none⟩ = some (.string ⟨ps[k].body.op.toArray⟩) ∧ w.cell? ⟨b, off + k * 8 + 3, none⟩ = some (.string ⟨ps[k].body.name.toArray⟩) ∧ w.cell? ⟨b, off + k * 8 + 4, none⟩ = some (.int .i64 ps[k].body.num) ∧
    w.cell? ⟨b, off + k * 8 + 5, none⟩ = some (.int .i64 ps[k].body.pos) ∧ w.cell? ⟨b, off + k * 8 + 6, none⟩ = some (.slice A2 ps[k].body.kids.length c2) ∧ w.cell? ⟨b, off + k * 8 + 7, none⟩ = some (.int .i64 ps[k].at_)) ∧
    DeclsAt w B A1 c1 ps[k].params ∧ NodeAt w B ps[k].body A2 c2
/-- Where a program's three parts lie. -/
structure ProgL where
  Ad : Option Addr
  cd : Nat
  Ap : Option Addr
  cp : Nat
  Ak : Option Addr
  ck : Nat
structure ProgAt (w : World) (B : Nat) (p : ProgP) (L : ProgL) : Prop where
  decls : DeclsAt w B L.Ad L.cd p.decls
  preds : PredsAt w B L.Ap L.cp p.preds
  main : NodeAt w B p.main L.Ak L.ck
section
variable {w w' W : World} {B B' : Nat} {A : Option Addr} {cap : Nat} {ds : List DeclP} {ps : List PredP} {p : ProgP} {L : ProgL}
theorem DeclsAt.keep (h : DeclsAt w B A cap ds) (hk : ∀ p : Addr, p.block < B → w'.cell? p = w.cell? p) : DeclsAt w' B A cap ds :=
  ⟨h.cap_, h.small, h.name, fun k hl => by
    obtain ⟨b, off, e, hb, c0, c1, c2⟩ := h.at_ k hl
    exact ⟨b, off, e, hb, (hk _ hb).trans c0, (hk _ hb).trans c1, (hk _ hb).trans c2⟩⟩
theorem DeclsAt.more (h : DeclsAt w B A cap ds) (hB : B ≤ B') : DeclsAt w B' A cap ds :=
  ⟨h.cap_, h.small, h.name, fun k hl => by
    obtain ⟨b, off, e, hb, hc⟩ := h.at_ k hl
    exact ⟨b, off, e, by omega, hc⟩⟩
theorem DeclsAt.later (h : DeclsAt w B A cap ds) (hb : Below B w W) (hB : B ≤ W.heap.size) : DeclsAt W W.heap.size A cap ds := (h.keep fun _ hp => hb.cell hp).more hB
theorem PredsAt.keep (h : PredsAt w B A cap ps) (hk : ∀ p : Addr, p.block < B → w'.cell? p = w.cell? p) : PredsAt w' B A cap ps :=
  ⟨h.cap_, h.small, h.name, fun k hl => by
    obtain ⟨b, off, A1, c1, A2, c2, e, hb, ⟨d0, d1, d2, d3, d4, d5, d6, d7⟩, hd, hn⟩ := h.at_ k hl
    exact ⟨b, off, A1, c1, A2, c2, e, hb, ⟨(hk _ hb).trans d0, (hk _ hb).trans d1, (hk _ hb).trans d2, (hk _ hb).trans d3, (hk _ hb).trans d4, (hk _ hb).trans d5, (hk _ hb).trans d6, (hk _ hb).trans d7⟩, hd.keep hk, NodeAt.keep hk _ _ _ hn⟩⟩
theorem PredsAt.more (h : PredsAt w B A cap ps) (hB : B ≤ B') : PredsAt w B' A cap ps :=
  ⟨h.cap_, h.small, h.name, fun k hl => by
    obtain ⟨b, off, A1, c1, A2, c2, e, hb, hc, hd, hn⟩ := h.at_ k hl
    exact ⟨b, off, A1, c1, A2, c2, e, by omega, hc, hd.more hB, NodeAt.more hB _ _ _ hn⟩⟩
theorem PredsAt.later (h : PredsAt w B A cap ps) (hb : Below B w W) (hB : B ≤ W.heap.size) : PredsAt W W.heap.size A cap ps := (h.keep fun _ hp => hb.cell hp).more hB
theorem ProgAt.later (h : ProgAt w B p L) (hb : Below B w W) (hB : B ≤ W.heap.size) : ProgAt W W.heap.size p L :=
  ⟨h.decls.later hb hB, h.preds.later hb hB, h.main.later hb hB⟩
end
/-- A program's value. -/
def progW (nd : Nat) (np : Nat) (o s : List UInt8) (n q : Int) (nk : Nat) (L : ProgL) : Value :=
  .agg #[.slice L.Ad nd L.cd, .slice L.Ap np L.cp, .string ⟨o.toArray⟩, .string ⟨s.toArray⟩, .int .i64 n, .int .i64 q, .slice L.Ak nk L.ck]
abbrev progT (p : ProgP) (L : ProgL) : Value := progW p.decls.length p.preds.length p.main.op p.main.name p.main.num p.main.pos p.main.kids.length L
/-- The boxes that a call lays. -/
abbrev boxP (nd np : Nat) (o s : List UInt8) (n q : Int) (nk : Nat) (L : ProgL) : Obj :=
  .cells #[.slice L.Ad nd L.cd, .slice L.Ap np L.cp, .string ⟨o.toArray⟩, .string ⟨s.toArray⟩, .int .i64 n, .int .i64 q, .slice L.Ak nk L.ck] 33
abbrev boxQ (nm : List UInt8) (A1 : Option Addr) (n1 c1 : Nat) (o s : List UInt8) (n q : Int) (A2 : Option Addr) (n2 c2 : Nat) (a : Int) : Obj :=
  .cells #[.string ⟨nm.toArray⟩, .slice A1 n1 c1, .string ⟨o.toArray⟩, .string ⟨s.toArray⟩, .int .i64 n, .int .i64 q, .slice A2 n2 c2, .int .i64 a] 54
abbrev boxD (nm : List UInt8) (o a : Int) : Obj := .cells #[.string ⟨nm.toArray⟩, .int .i64 o, .int .i64 a] 60
theorem box7 {w W : World} {nd np : Nat} {o s : List UInt8} {n q : Int} {nk : Nat} {L : ProgL} (h : Below (w.heap.size + 1) (w.alloc (boxP nd np o s n q nk L)) W) :
    W.cell? ⟨w.heap.size, 0, none⟩ = some (.slice L.Ad nd L.cd) ∧ W.cell? ⟨w.heap.size, 1, none⟩ = some (.slice L.Ap np L.cp) ∧ W.cell? ⟨w.heap.size, 2, none⟩ = some (.string ⟨o.toArray⟩) ∧ W.cell? ⟨w.heap.size, 3, none⟩ = some (.string ⟨s.toArray⟩) ∧
      W.cell? ⟨w.heap.size, 4, none⟩ = some (.int .i64 n) ∧ W.cell? ⟨w.heap.size, 5, none⟩ = some (.int .i64 q) ∧ W.cell? ⟨w.heap.size, 6, none⟩ = some (.slice L.Ak nk L.ck) :=
  ⟨box_at h 0 _ rfl, box_at h 1 _ rfl, box_at h 2 _ rfl, box_at h 3 _ rfl, box_at h 4 _ rfl, box_at h 5 _ rfl, box_at h 6 _ rfl⟩
theorem box8 {w W : World} {nm : List UInt8} {A1 : Option Addr} {n1 c1 : Nat} {o s : List UInt8} {n q : Int} {A2 : Option Addr} {n2 c2 : Nat} {a : Int} (h : Below (w.heap.size + 1) (w.alloc (boxQ nm A1 n1 c1 o s n q A2 n2 c2 a)) W) :
    W.cell? ⟨w.heap.size, 0, none⟩ = some (.string ⟨nm.toArray⟩) ∧ W.cell? ⟨w.heap.size, 1, none⟩ = some (.slice A1 n1 c1) ∧ W.cell? ⟨w.heap.size, 2, none⟩ = some (.string ⟨o.toArray⟩) ∧ W.cell? ⟨w.heap.size, 3, none⟩ = some (.string ⟨s.toArray⟩) ∧
      W.cell? ⟨w.heap.size, 4, none⟩ = some (.int .i64 n) ∧ W.cell? ⟨w.heap.size, 5, none⟩ = some (.int .i64 q) ∧ W.cell? ⟨w.heap.size, 6, none⟩ = some (.slice A2 n2 c2) ∧ W.cell? ⟨w.heap.size, 7, none⟩ = some (.int .i64 a) :=
  ⟨box_at h 0 _ rfl, box_at h 1 _ rfl, box_at h 2 _ rfl, box_at h 3 _ rfl, box_at h 4 _ rfl, box_at h 5 _ rfl, box_at h 6 _ rfl, box_at h 7 _ rfl⟩
/-- No more than is looked at, and may it be? -/
def fineB (p : ProgP) : Bool := decide (p.decls.length ≤ 20) && decide (p.preds.length ≤ 10) && decide (nodes p.main ≤ 150) && p.preds.all (fun x => decide (nodes x.body ≤ 100)) && progB p
theorem all_take_succ {α : Type} {f : α → Bool} {l : List α} {k : Nat} (hk : k < l.length) (h : (l.take k).all f = true) (h2 : f l[k] = true) : (l.take (k + 1)).all f = true := by
  rw [List.take_succ_eq_append_getElem hk, List.all_append, h]
  simp [h2]
theorem all_false_at {α : Type} {f : α → Bool} {l : List α} {k : Nat} (hk : k < l.length) (h : f l[k] = false) : l.all f = false := by
  rw [List.all_eq_false]
  exact ⟨l[k], List.getElem_mem hk, by rw [h]; decide⟩
end Go.Proofs.YteikakoheibnjaaDoor
