/- The comparison of two arrays of three ints as an operation. -/
import Derived.Test.YtcgjacaemblnmaaDoorEqArr
namespace Go.Proofs.YtcgjacaemblnmaaDoor
open Go Go.RowKit

theorem gd46 : Tryd.prog.eqGuardType Tryd.prog.depth 46 = false := by kernel_rfl
theorem op46 (ev : Operand → Value) (o : Oper) (x y : Operand) (ho : o.op = Op.binOp .eql 46 x y 46) (a b c d e f : Int) (hx : ev x = .agg #[.int .i64 a, .int .i64 b, .int .i64 c]) (hy : ev y = .agg #[.int .i64 d, .int .i64 e, .int .i64 f]) (w : World) :
    (execOp ev o).run Tryd.prog w = .ok (.value (.bool (a == d && b == e && c == f))) w := by
  have h46 := eq46 a b c d e f w
  have hg := run_eqGuard_agg (P := Tryd.prog) w .eql 46 x y #[.int .i64 a, .int .i64 b, .int .i64 c] #[.int .i64 d, .int .i64 e, .int .i64 f] gd46
  have hb := run_eql_struct (P := Tryd.prog) w 46 #[.int .i64 a, .int .i64 b, .int .i64 c] #[.int .i64 d, .int .i64 e, .int .i64 f]
  rw [h46] at hb
  unfold execOp
  simp only [ho, hx, hy, Sem.run_bind, hg, hb, Result.andThen_ok, Sem.run_pure]
end Go.Proofs.YtcgjacaemblnmaaDoor
