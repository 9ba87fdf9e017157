/- Two arrays of three ints: are they one? -/
import Derived.Test.YtcgjacaemblnmaaDoorFields
import Derived.Laws.StructEq
namespace Go.Proofs.YtcgjacaemblnmaaDoor
open Go Go.RowKit

theorem eqInt (d : Nat) (a b : Int) (w : World) : (Op.equalIn (d + 1) 3 (.int .i64 a) (.int .i64 b)).run Tryd.prog w = .ok (a == b) w := run_equalIn_int w d 3 .i64 .i64 a b Tryd.underlying3
theorem eq46 (a b c d e f : Int) (w : World) : (Op.equalIn 10000 46 (.agg #[.int .i64 a, .int .i64 b, .int .i64 c]) (.agg #[.int .i64 d, .int .i64 e, .int .i64 f])).run Tryd.prog w = .ok (a == d && b == e && c == f) w := by
  have hs : (sizeOf 3).run Tryd.prog w = .ok 1 w := by kernel_rfl
  have p0 : ∀ (x y z : Value), (part 3 #[x, y, z] 0).run Tryd.prog w = .ok x w := fun x y z => by kernel_rfl
  have p1 : ∀ (x y z : Value), (part 3 #[x, y, z] 1).run Tryd.prog w = .ok y w := fun x y z => by kernel_rfl
  have p2 : ∀ (x y z : Value), (part 3 #[x, y, z] 2).run Tryd.prog w = .ok z w := fun x y z => by kernel_rfl
  rw [show (10000 : Nat) = 9998 + 1 + 1 from rfl]
  unfold Op.equalIn
  simp only [Sem.run_bind, run_underlying und46, Result.andThen_ok, hs]
  rw [Std.Legacy.Range.forIn_eq_forIn_range']
  simp only [Std.Legacy.Range.size]
  simp [List.range', p0, p1, p2, eqInt]
  by_cases h1 : a = d <;> by_cases h2 : b = e <;> by_cases h3 : c = f <;> simp [h1, h2, h3]
end Go.Proofs.YtcgjacaemblnmaaDoor
