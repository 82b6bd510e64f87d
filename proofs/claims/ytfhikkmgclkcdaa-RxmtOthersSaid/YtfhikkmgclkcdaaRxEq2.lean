/-
  Layer 16: '==' at two numbers.
-/
import Derived.Laws.StructEq
import Derived.RegionTactic
import Derived.Test.YtfhikkmgclkcdaaProg
import Derived.Test.YtfhikkmgclkcdaaMem
namespace Go.Proofs.Ytfhikkmgclkcdaa
open Go.RowKit

theorem eqTwo_n (n : Nat) (a b c d : Int) (w : World) : (Op.equalIn (n + 1 + 1) 90 (.agg #[.int .i64 a, .int .i64 b]) (.agg #[.int .i64 c, .int .i64 d])).run Try.prog w = .ok (a == c && b == d) w := by
  have h1 : ∀ x y w, (Op.equalIn (n + 1) 3 (.int .i64 x) (.int .i64 y)).run Try.prog w = .ok (x == y) w := fun x y w => by simp [Op.equalIn, run_underlying Try.underlying3]
  rw [Op.equalIn]
  simp only [Sem.run_bind, run_underlying Try.underlying90, Result.andThen_ok]
  go_simp
  rw [show List.range' 0 2 = [0, 1] from rfl]
  go_simp
  by_cases h1 : a = c <;> by_cases h2 : b = d <;> simp [h1, h2]
theorem eqTwo (a b c d : Int) (w : World) : (Op.equalIn 10000 90 (.agg #[.int .i64 a, .int .i64 b]) (.agg #[.int .i64 c, .int .i64 d])).run Try.prog w = .ok (a == c && b == d) w := eqTwo_n 9998 a b c d w

end Go.Proofs.Ytfhikkmgclkcdaa
