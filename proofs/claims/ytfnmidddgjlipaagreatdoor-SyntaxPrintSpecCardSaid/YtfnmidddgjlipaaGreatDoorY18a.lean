/-
  Layer 17: five numbers are compared with none.
-/
import Derived.Test.YtfnmidddgjlipaaGreatDoorY17
set_option linter.unusedVariables false
set_option linter.unusedSimpArgs false
namespace Go.Proofs.YtfnmidddgjlipaaGreatDoor
open Go.RowKit

theorem eq5 (a b c d e : Int) (w : World) : (Op.equalIn 10000 51 (.agg #[.int .i64 a, .int .i64 b, .int .i64 c, .int .i64 d, .int .i64 e]) (.agg #[.int .i64 0, .int .i64 0, .int .i64 0, .int .i64 0, .int .i64 0])).run Tryz.prog w = .ok (a == 0 && b == 0 && c == 0 && d == 0 && e == 0) w := by
  have hu := Tryz.underlying51
  have hi := Tryz.underlying3
  show (Op.equalIn (9998 + 1 + 1) _ _ _).run _ _ = _
  rw [Op.equalIn.eq_def]
  simp only [Sem.run_bind, run_underlying hu, Result.andThen_ok]
  simp [go_sem, List.range', hi, run_equalIn_int _ _ _ _ _ _ _ hi]
  by_cases h1 : a = 0 <;> by_cases h2 : b = 0 <;> by_cases h3 : c = 0 <;> by_cases h4 : d = 0 <;> by_cases h5 : e = 0 <;> simp [h1, h2, h3, h4, h5]
end Go.Proofs.YtfnmidddgjlipaaGreatDoor
