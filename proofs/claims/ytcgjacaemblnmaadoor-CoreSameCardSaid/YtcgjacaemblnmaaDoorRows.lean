/-
  NARROWER THAN 'FOR EVERY INPUT', by the rows' own cells (each row's printed sentence says how): EvalBounds: loops, laid · EvalSets: laid · EvalOne: laid · EvalEx: laid · EvalHolds: loops, laid · CoreShow: loops, laid · CoreEx: laid · CoreSame: loops, laid.
  DERIVED. THE GIVEN ROWS OF THIS SEAT. 8 by the template 'for every input the law returns true; each argument reads behind the call as it read before'; 0 by the template 'total and deterministic' (their statements: YtcgjacaemblnmaaDoorTotals.lean).
  GIVEN WITH THE SEED: the statements are not yours to turn. If you find one false, say at which input.
  Laid BY PROGRAM, IN A SANDBOX (cutbox-rows.mjs): the forced cells as the released guide's own fill.sh prints them over the translation a016582b5ecb3c2e… (all of the seat's roots in one cut). By AI agents, Wed Nov 11 2026. No macro, syntax, notation, axiom, sorry.
-/
import Derived.Test.YtcgjacaemblnmaaDoorChecked
import GoSem.Claim
import GoSem.ClaimJoined
import GoSem.ClaimMapViews
import Derived.JoinedTies
import Derived.KernelRfl
namespace Go.Proofs.YtcgjacaemblnmaaDoor
/- THE CELL 'sum', in the pinned program and in every row, IS THE sha256 OF THE DUMP (.gsa) THAT YtcgjacaemblnmaaDoorProg.lean LOADS. Nothing in Lean hashes anything: it is a label: what it is worth is what the hold of that sum in a sandbox is worth. -/
noncomputable def Tryd.pinned : Pinned := { name := "ytcgjacaemblnmaadoor", sum := "a016582b5ecb3c2e9e3e51e843a903a1d19c27bb263088e81211db44b3b7eb85", checked := Tryd.checked }
namespace Rows
def none {H : Type} : Left H := { results := [], args := [] }

/- WHAT THE LISTED PACKAGE-LEVEL VARIABLES READ AS WHEN THE CALL BEGINS. Each datum BY PROGRAM (the guide's laid-datum.mjs) off the statement by which the dump's own 'gosem.cut.vars' lays the variable. In a bare row this is a premise. The card (YtcgjacaemblnmaaDoorCards.lean) ties it to the program's text. -/
def laid_math_bits_deBruijn32tab {H : Type} : DataW H := .agg [.lit (.int .u8 0), .lit (.int .u8 1), .lit (.int .u8 28), .lit (.int .u8 2), .lit (.int .u8 29), .lit (.int .u8 14), .lit (.int .u8 24), .lit (.int .u8 3), .lit (.int .u8 30), .lit (.int .u8 22), .lit (.int .u8 20), .lit (.int .u8 15), .lit (.int .u8 25), .lit (.int .u8 17), .lit (.int .u8 4), .lit (.int .u8 8), .lit (.int .u8 31), .lit (.int .u8 27), .lit (.int .u8 13), .lit (.int .u8 23), .lit (.int .u8 21), .lit (.int .u8 19), .lit (.int .u8 16), .lit (.int .u8 7), .lit (.int .u8 26), .lit (.int .u8 12), .lit (.int .u8 18), .lit (.int .u8 6), .lit (.int .u8 11), .lit (.int .u8 5), .lit (.int .u8 10), .lit (.int .u8 9)]
def laid_math_bits_deBruijn64tab {H : Type} : DataW H := .agg [.lit (.int .u8 0), .lit (.int .u8 1), .lit (.int .u8 56), .lit (.int .u8 2), .lit (.int .u8 57), .lit (.int .u8 49), .lit (.int .u8 28), .lit (.int .u8 3), .lit (.int .u8 61), .lit (.int .u8 58), .lit (.int .u8 42), .lit (.int .u8 50), .lit (.int .u8 38), .lit (.int .u8 29), .lit (.int .u8 17), .lit (.int .u8 4), .lit (.int .u8 62), .lit (.int .u8 47), .lit (.int .u8 59), .lit (.int .u8 36), .lit (.int .u8 45), .lit (.int .u8 43), .lit (.int .u8 51), .lit (.int .u8 22), .lit (.int .u8 53), .lit (.int .u8 39), .lit (.int .u8 33), .lit (.int .u8 30), .lit (.int .u8 24), .lit (.int .u8 18), .lit (.int .u8 12), .lit (.int .u8 5), .lit (.int .u8 63), .lit (.int .u8 55), .lit (.int .u8 48), .lit (.int .u8 27), .lit (.int .u8 60), .lit (.int .u8 41), .lit (.int .u8 37), .lit (.int .u8 16), .lit (.int .u8 46), .lit (.int .u8 35), .lit (.int .u8 44), .lit (.int .u8 21), .lit (.int .u8 52), .lit (.int .u8 32), .lit (.int .u8 23), .lit (.int .u8 11), .lit (.int .u8 54), .lit (.int .u8 26), .lit (.int .u8 40), .lit (.int .u8 15), .lit (.int .u8 34), .lit (.int .u8 20), .lit (.int .u8 31), .lit (.int .u8 10), .lit (.int .u8 25), .lit (.int .u8 14), .lit (.int .u8 19), .lit (.int .u8 9), .lit (.int .u8 13), .lit (.int .u8 8), .lit (.int .u8 7), .lit (.int .u8 6)]
def laid_internal_strconv_uint64pow10 {H : Type} : DataW H := .agg [.lit (.int .u64 1), .lit (.int .u64 10), .lit (.int .u64 100), .lit (.int .u64 1000), .lit (.int .u64 10000), .lit (.int .u64 100000), .lit (.int .u64 1000000), .lit (.int .u64 10000000), .lit (.int .u64 100000000), .lit (.int .u64 1000000000), .lit (.int .u64 10000000000), .lit (.int .u64 100000000000), .lit (.int .u64 1000000000000), .lit (.int .u64 10000000000000), .lit (.int .u64 100000000000000), .lit (.int .u64 1000000000000000), .lit (.int .u64 10000000000000000), .lit (.int .u64 100000000000000000), .lit (.int .u64 1000000000000000000), .lit (.int .u64 10000000000000000000)]

/-- 'sibyllaw12.EvalBounds': WHATEVER THE INPUT: true; the input reads as it did. -/
def evalBoundsSpec : ChangeSpec := { name := "evalBounds", fn := fun _ => fun
  | [d1, d2, d3, d4] => { results := [.lit (.bool true)], args := [d1, d2, d3, d4] }
  | _ => none }
def evalBoundsRow : OpenClaim := { program := "ytcgjacaemblnmaadoor", sum := "a016582b5ecb3c2e9e3e51e843a903a1d19c27bb263088e81211db44b3b7eb85", func := "sibyl/sibyllaw12.EvalBounds", spec := "evalBounds", unfollowed := true, recurses := true, named := ["math/bits.deBruijn32tab", "math/bits.deBruijn64tab"], loops := true, apart := false, laid := [("math/bits.deBruijn32tab", laid_math_bits_deBruijn32tab), ("math/bits.deBruijn64tab", laid_math_bits_deBruijn64tab)] }
def EvalBoundsSaid : Prop := evalBoundsRow.holds Tryd.pinned (OpenSpec.ofChange evalBoundsSpec)

/-- ITS FALSE NEIGHBOUR: 'it returns false'. Refute it at one input. -/
def evalBoundsWrong : ChangeSpec := { name := "evalBounds", fn := fun _ => fun
  | [d1, d2, d3, d4] => { results := [.lit (.bool false)], args := [d1, d2, d3, d4] }
  | _ => none }
def EvalBoundsWrongFalsely : Prop := evalBoundsRow.holds Tryd.pinned (OpenSpec.ofChange evalBoundsWrong)

/-- 'sibyllaw12.EvalSets': WHATEVER THE INPUT: true; the input reads as it did. -/
def evalSetsSpec : ChangeSpec := { name := "evalSets", fn := fun _ => fun
  | [d1, d2] => { results := [.lit (.bool true)], args := [d1, d2] }
  | _ => none }
def evalSetsRow : OpenClaim := { program := "ytcgjacaemblnmaadoor", sum := "a016582b5ecb3c2e9e3e51e843a903a1d19c27bb263088e81211db44b3b7eb85", func := "sibyl/sibyllaw12.EvalSets", spec := "evalSets", unfollowed := true, recurses := true, named := ["math/bits.deBruijn32tab", "math/bits.deBruijn64tab"], apart := false, laid := [("math/bits.deBruijn32tab", laid_math_bits_deBruijn32tab), ("math/bits.deBruijn64tab", laid_math_bits_deBruijn64tab)] }
def EvalSetsSaid : Prop := evalSetsRow.holds Tryd.pinned (OpenSpec.ofChange evalSetsSpec)

/-- ITS FALSE NEIGHBOUR: 'it returns false'. Refute it at one input. -/
def evalSetsWrong : ChangeSpec := { name := "evalSets", fn := fun _ => fun
  | [d1, d2] => { results := [.lit (.bool false)], args := [d1, d2] }
  | _ => none }
def EvalSetsWrongFalsely : Prop := evalSetsRow.holds Tryd.pinned (OpenSpec.ofChange evalSetsWrong)

/-- 'sibyllaw12.EvalOne': WHATEVER THE INPUT: true; the input reads as it did. -/
def evalOneSpec : ChangeSpec := { name := "evalOne", fn := fun _ => fun
  | [d1, d2, d3] => { results := [.lit (.bool true)], args := [d1, d2, d3] }
  | _ => none }
def evalOneRow : OpenClaim := { program := "ytcgjacaemblnmaadoor", sum := "a016582b5ecb3c2e9e3e51e843a903a1d19c27bb263088e81211db44b3b7eb85", func := "sibyl/sibyllaw12.EvalOne", spec := "evalOne", unfollowed := true, recurses := true, named := ["math/bits.deBruijn32tab", "math/bits.deBruijn64tab"], apart := false, laid := [("math/bits.deBruijn32tab", laid_math_bits_deBruijn32tab), ("math/bits.deBruijn64tab", laid_math_bits_deBruijn64tab)] }
def EvalOneSaid : Prop := evalOneRow.holds Tryd.pinned (OpenSpec.ofChange evalOneSpec)

/-- ITS FALSE NEIGHBOUR: 'it returns false'. Refute it at one input. -/
def evalOneWrong : ChangeSpec := { name := "evalOne", fn := fun _ => fun
  | [d1, d2, d3] => { results := [.lit (.bool false)], args := [d1, d2, d3] }
  | _ => none }
def EvalOneWrongFalsely : Prop := evalOneRow.holds Tryd.pinned (OpenSpec.ofChange evalOneWrong)

/-- 'sibyllaw12.EvalEx': WHATEVER THE INPUT: true; the input reads as it did. -/
def evalExSpec : ChangeSpec := { name := "evalEx", fn := fun _ => fun
  | [d1, d2] => { results := [.lit (.bool true)], args := [d1, d2] }
  | _ => none }
def evalExRow : OpenClaim := { program := "ytcgjacaemblnmaadoor", sum := "a016582b5ecb3c2e9e3e51e843a903a1d19c27bb263088e81211db44b3b7eb85", func := "sibyl/sibyllaw12.EvalEx", spec := "evalEx", unfollowed := true, recurses := true, named := ["math/bits.deBruijn32tab", "math/bits.deBruijn64tab"], apart := false, laid := [("math/bits.deBruijn32tab", laid_math_bits_deBruijn32tab), ("math/bits.deBruijn64tab", laid_math_bits_deBruijn64tab)] }
def EvalExSaid : Prop := evalExRow.holds Tryd.pinned (OpenSpec.ofChange evalExSpec)

/-- ITS FALSE NEIGHBOUR: 'it returns false'. Refute it at one input. -/
def evalExWrong : ChangeSpec := { name := "evalEx", fn := fun _ => fun
  | [d1, d2] => { results := [.lit (.bool false)], args := [d1, d2] }
  | _ => none }
def EvalExWrongFalsely : Prop := evalExRow.holds Tryd.pinned (OpenSpec.ofChange evalExWrong)

/-- 'sibyllaw12.EvalHolds': WHATEVER THE INPUT: true; the input reads as it did. -/
def evalHoldsSpec : ChangeSpec := { name := "evalHolds", fn := fun _ => fun
  | [d1, d2, d3] => { results := [.lit (.bool true)], args := [d1, d2, d3] }
  | _ => none }
def evalHoldsRow : OpenClaim := { program := "ytcgjacaemblnmaadoor", sum := "a016582b5ecb3c2e9e3e51e843a903a1d19c27bb263088e81211db44b3b7eb85", func := "sibyl/sibyllaw12.EvalHolds", spec := "evalHolds", unfollowed := true, recurses := true, named := ["math/bits.deBruijn32tab", "math/bits.deBruijn64tab"], loops := true, apart := false, laid := [("math/bits.deBruijn32tab", laid_math_bits_deBruijn32tab), ("math/bits.deBruijn64tab", laid_math_bits_deBruijn64tab)] }
def EvalHoldsSaid : Prop := evalHoldsRow.holds Tryd.pinned (OpenSpec.ofChange evalHoldsSpec)

/-- ITS FALSE NEIGHBOUR: 'it returns false'. Refute it at one input. -/
def evalHoldsWrong : ChangeSpec := { name := "evalHolds", fn := fun _ => fun
  | [d1, d2, d3] => { results := [.lit (.bool false)], args := [d1, d2, d3] }
  | _ => none }
def EvalHoldsWrongFalsely : Prop := evalHoldsRow.holds Tryd.pinned (OpenSpec.ofChange evalHoldsWrong)

/-- 'sibyllaw9.CoreShow': WHATEVER THE INPUT: true; the input reads as it did. -/
def coreShowSpec : ChangeSpec := { name := "coreShow", fn := fun _ => fun
  | [d1, d2] => { results := [.lit (.bool true)], args := [d1, d2] }
  | _ => none }
def coreShowRow : OpenClaim := { program := "ytcgjacaemblnmaadoor", sum := "a016582b5ecb3c2e9e3e51e843a903a1d19c27bb263088e81211db44b3b7eb85", func := "sibyl/sibyllaw9.CoreShow", spec := "coreShow", unfollowed := true, recurses := true, named := ["internal/strconv.uint64pow10", "math/bits.deBruijn32tab", "math/bits.deBruijn64tab"], loops := true, apart := false, laid := [("math/bits.deBruijn32tab", laid_math_bits_deBruijn32tab), ("math/bits.deBruijn64tab", laid_math_bits_deBruijn64tab), ("internal/strconv.uint64pow10", laid_internal_strconv_uint64pow10)] }
def CoreShowSaid : Prop := coreShowRow.holds Tryd.pinned (OpenSpec.ofChange coreShowSpec)

/-- ITS FALSE NEIGHBOUR: 'it returns false'. Refute it at one input. -/
def coreShowWrong : ChangeSpec := { name := "coreShow", fn := fun _ => fun
  | [d1, d2] => { results := [.lit (.bool false)], args := [d1, d2] }
  | _ => none }
def CoreShowWrongFalsely : Prop := coreShowRow.holds Tryd.pinned (OpenSpec.ofChange coreShowWrong)

/-- 'sibyllaw9.CoreEx': WHATEVER THE INPUT: true; the input reads as it did. -/
def coreExSpec : ChangeSpec := { name := "coreEx", fn := fun _ => fun
  | [d1, d2, d3] => { results := [.lit (.bool true)], args := [d1, d2, d3] }
  | _ => none }
def coreExRow : OpenClaim := { program := "ytcgjacaemblnmaadoor", sum := "a016582b5ecb3c2e9e3e51e843a903a1d19c27bb263088e81211db44b3b7eb85", func := "sibyl/sibyllaw9.CoreEx", spec := "coreEx", unfollowed := true, recurses := true, named := ["internal/strconv.uint64pow10", "math/bits.deBruijn32tab", "math/bits.deBruijn64tab"], apart := false, laid := [("math/bits.deBruijn32tab", laid_math_bits_deBruijn32tab), ("math/bits.deBruijn64tab", laid_math_bits_deBruijn64tab), ("internal/strconv.uint64pow10", laid_internal_strconv_uint64pow10)] }
def CoreExSaid : Prop := coreExRow.holds Tryd.pinned (OpenSpec.ofChange coreExSpec)

/-- ITS FALSE NEIGHBOUR: 'it returns false'. Refute it at one input. -/
def coreExWrong : ChangeSpec := { name := "coreEx", fn := fun _ => fun
  | [d1, d2, d3] => { results := [.lit (.bool false)], args := [d1, d2, d3] }
  | _ => none }
def CoreExWrongFalsely : Prop := coreExRow.holds Tryd.pinned (OpenSpec.ofChange coreExWrong)

/-- 'sibyllaw9.CoreSame': WHATEVER THE INPUT: true; the input reads as it did. -/
def coreSameSpec : ChangeSpec := { name := "coreSame", fn := fun _ => fun
  | [d1, d2, d3] => { results := [.lit (.bool true)], args := [d1, d2, d3] }
  | _ => none }
def coreSameRow : OpenClaim := { program := "ytcgjacaemblnmaadoor", sum := "a016582b5ecb3c2e9e3e51e843a903a1d19c27bb263088e81211db44b3b7eb85", func := "sibyl/sibyllaw9.CoreSame", spec := "coreSame", unfollowed := true, recurses := true, named := ["internal/strconv.uint64pow10", "math/bits.deBruijn32tab", "math/bits.deBruijn64tab"], loops := true, apart := false, laid := [("math/bits.deBruijn32tab", laid_math_bits_deBruijn32tab), ("math/bits.deBruijn64tab", laid_math_bits_deBruijn64tab), ("internal/strconv.uint64pow10", laid_internal_strconv_uint64pow10)] }
def CoreSameSaid : Prop := coreSameRow.holds Tryd.pinned (OpenSpec.ofChange coreSameSpec)

/-- ITS FALSE NEIGHBOUR: 'it returns false'. Refute it at one input. -/
def coreSameWrong : ChangeSpec := { name := "coreSame", fn := fun _ => fun
  | [d1, d2, d3] => { results := [.lit (.bool false)], args := [d1, d2, d3] }
  | _ => none }
def CoreSameWrongFalsely : Prop := coreSameRow.holds Tryd.pinned (OpenSpec.ofChange coreSameWrong)

/- THE SECOND FORM. 'bulk': how many values and letters a reading holds, each counted each time it is reached (what is shared counts as often as it is met; a slice's spare places count too). A statement '..UptoSaid' is the law's where the arguments, and the package variables that the reading takes, are together of bulk at most 1048576: NARROWER than '..Said'. Prove '..Said' where nothing that the law and all that it calls make is longer than what came in: it says more and counts as full. Else prove '..UptoSaid'. A law counts once. -/
mutual
def uptoBulk {H : Type} : DataW H → Nat
  | .lit (.string bytes) => bytes.length + 1
  | .lit _ => 1
  | .nil => 1
  | .ptr d => uptoBulk d + 1
  | .slice elems spare => uptoBulkAll elems + uptoBulkAll spare + 1
  | .agg parts => uptoBulkAll parts + 1
  | .iface _ d => uptoBulk d + 1
  | .map entries => uptoBulkEntries entries + 1
  | .held _ => 1
def uptoBulkAll {H : Type} : List (DataW H) → Nat
  | [] => 0
  | d :: r => uptoBulk d + uptoBulkAll r
def uptoBulkEntries {H : Type} : List (Lit × DataW H) → Nat
  | [] => 0
  | x :: r => uptoBulkEntry x + uptoBulkEntries r
def uptoBulkEntry {H : Type} : Lit × DataW H → Nat
  | (.string bytes, d) => bytes.length + uptoBulk d + 1
  | (_, d) => uptoBulk d + 1
 end
def uptoSmall : (H : Type) → List (DataW H) → Bool := fun _ ds => decide (uptoBulkAll ds ≤ 1048576)
def OpenSpec.upto (s : _root_.Go.ChangeSpec) : _root_.Go.OpenSpec := { _root_.Go.OpenSpec.ofChange s with cond := some uptoSmall }

/-- 'sibyllaw12.EvalBounds', WHERE WHAT IT READS IS OF BULK AT MOST 1048576: true; the input reads as it did. -/
def evalBoundsUptoRow : OpenClaim := { program := "ytcgjacaemblnmaadoor", sum := "a016582b5ecb3c2e9e3e51e843a903a1d19c27bb263088e81211db44b3b7eb85", func := "sibyl/sibyllaw12.EvalBounds", spec := "evalBounds", unfollowed := true, recurses := true, named := ["math/bits.deBruijn32tab", "math/bits.deBruijn64tab"], loops := true, apart := false, laid := [("math/bits.deBruijn32tab", laid_math_bits_deBruijn32tab), ("math/bits.deBruijn64tab", laid_math_bits_deBruijn64tab)], narrowed := true }
def EvalBoundsUptoSaid : Prop := evalBoundsUptoRow.holds Tryd.pinned (OpenSpec.upto evalBoundsSpec)

/-- 'sibyllaw12.EvalSets', WHERE WHAT IT READS IS OF BULK AT MOST 1048576: true; the input reads as it did. -/
def evalSetsUptoRow : OpenClaim := { program := "ytcgjacaemblnmaadoor", sum := "a016582b5ecb3c2e9e3e51e843a903a1d19c27bb263088e81211db44b3b7eb85", func := "sibyl/sibyllaw12.EvalSets", spec := "evalSets", unfollowed := true, recurses := true, named := ["math/bits.deBruijn32tab", "math/bits.deBruijn64tab"], apart := false, laid := [("math/bits.deBruijn32tab", laid_math_bits_deBruijn32tab), ("math/bits.deBruijn64tab", laid_math_bits_deBruijn64tab)], narrowed := true }
def EvalSetsUptoSaid : Prop := evalSetsUptoRow.holds Tryd.pinned (OpenSpec.upto evalSetsSpec)

/-- 'sibyllaw12.EvalOne', WHERE WHAT IT READS IS OF BULK AT MOST 1048576: true; the input reads as it did. -/
def evalOneUptoRow : OpenClaim := { program := "ytcgjacaemblnmaadoor", sum := "a016582b5ecb3c2e9e3e51e843a903a1d19c27bb263088e81211db44b3b7eb85", func := "sibyl/sibyllaw12.EvalOne", spec := "evalOne", unfollowed := true, recurses := true, named := ["math/bits.deBruijn32tab", "math/bits.deBruijn64tab"], apart := false, laid := [("math/bits.deBruijn32tab", laid_math_bits_deBruijn32tab), ("math/bits.deBruijn64tab", laid_math_bits_deBruijn64tab)], narrowed := true }
def EvalOneUptoSaid : Prop := evalOneUptoRow.holds Tryd.pinned (OpenSpec.upto evalOneSpec)

/-- 'sibyllaw12.EvalEx', WHERE WHAT IT READS IS OF BULK AT MOST 1048576: true; the input reads as it did. -/
def evalExUptoRow : OpenClaim := { program := "ytcgjacaemblnmaadoor", sum := "a016582b5ecb3c2e9e3e51e843a903a1d19c27bb263088e81211db44b3b7eb85", func := "sibyl/sibyllaw12.EvalEx", spec := "evalEx", unfollowed := true, recurses := true, named := ["math/bits.deBruijn32tab", "math/bits.deBruijn64tab"], apart := false, laid := [("math/bits.deBruijn32tab", laid_math_bits_deBruijn32tab), ("math/bits.deBruijn64tab", laid_math_bits_deBruijn64tab)], narrowed := true }
def EvalExUptoSaid : Prop := evalExUptoRow.holds Tryd.pinned (OpenSpec.upto evalExSpec)

/-- 'sibyllaw12.EvalHolds', WHERE WHAT IT READS IS OF BULK AT MOST 1048576: true; the input reads as it did. -/
def evalHoldsUptoRow : OpenClaim := { program := "ytcgjacaemblnmaadoor", sum := "a016582b5ecb3c2e9e3e51e843a903a1d19c27bb263088e81211db44b3b7eb85", func := "sibyl/sibyllaw12.EvalHolds", spec := "evalHolds", unfollowed := true, recurses := true, named := ["math/bits.deBruijn32tab", "math/bits.deBruijn64tab"], loops := true, apart := false, laid := [("math/bits.deBruijn32tab", laid_math_bits_deBruijn32tab), ("math/bits.deBruijn64tab", laid_math_bits_deBruijn64tab)], narrowed := true }
def EvalHoldsUptoSaid : Prop := evalHoldsUptoRow.holds Tryd.pinned (OpenSpec.upto evalHoldsSpec)

/-- 'sibyllaw9.CoreShow', WHERE WHAT IT READS IS OF BULK AT MOST 1048576: true; the input reads as it did. -/
def coreShowUptoRow : OpenClaim := { program := "ytcgjacaemblnmaadoor", sum := "a016582b5ecb3c2e9e3e51e843a903a1d19c27bb263088e81211db44b3b7eb85", func := "sibyl/sibyllaw9.CoreShow", spec := "coreShow", unfollowed := true, recurses := true, named := ["internal/strconv.uint64pow10", "math/bits.deBruijn32tab", "math/bits.deBruijn64tab"], loops := true, apart := false, laid := [("math/bits.deBruijn32tab", laid_math_bits_deBruijn32tab), ("math/bits.deBruijn64tab", laid_math_bits_deBruijn64tab), ("internal/strconv.uint64pow10", laid_internal_strconv_uint64pow10)], narrowed := true }
def CoreShowUptoSaid : Prop := coreShowUptoRow.holds Tryd.pinned (OpenSpec.upto coreShowSpec)

/-- 'sibyllaw9.CoreEx', WHERE WHAT IT READS IS OF BULK AT MOST 1048576: true; the input reads as it did. -/
def coreExUptoRow : OpenClaim := { program := "ytcgjacaemblnmaadoor", sum := "a016582b5ecb3c2e9e3e51e843a903a1d19c27bb263088e81211db44b3b7eb85", func := "sibyl/sibyllaw9.CoreEx", spec := "coreEx", unfollowed := true, recurses := true, named := ["internal/strconv.uint64pow10", "math/bits.deBruijn32tab", "math/bits.deBruijn64tab"], apart := false, laid := [("math/bits.deBruijn32tab", laid_math_bits_deBruijn32tab), ("math/bits.deBruijn64tab", laid_math_bits_deBruijn64tab), ("internal/strconv.uint64pow10", laid_internal_strconv_uint64pow10)], narrowed := true }
def CoreExUptoSaid : Prop := coreExUptoRow.holds Tryd.pinned (OpenSpec.upto coreExSpec)

/-- 'sibyllaw9.CoreSame', WHERE WHAT IT READS IS OF BULK AT MOST 1048576: true; the input reads as it did. -/
def coreSameUptoRow : OpenClaim := { program := "ytcgjacaemblnmaadoor", sum := "a016582b5ecb3c2e9e3e51e843a903a1d19c27bb263088e81211db44b3b7eb85", func := "sibyl/sibyllaw9.CoreSame", spec := "coreSame", unfollowed := true, recurses := true, named := ["internal/strconv.uint64pow10", "math/bits.deBruijn32tab", "math/bits.deBruijn64tab"], loops := true, apart := false, laid := [("math/bits.deBruijn32tab", laid_math_bits_deBruijn32tab), ("math/bits.deBruijn64tab", laid_math_bits_deBruijn64tab), ("internal/strconv.uint64pow10", laid_internal_strconv_uint64pow10)], narrowed := true }
def CoreSameUptoSaid : Prop := coreSameUptoRow.holds Tryd.pinned (OpenSpec.upto coreSameSpec)

end Rows
end Go.Proofs.YtcgjacaemblnmaaDoor
