/-
  The table of the types that the walks use, checked against the program. No condition.
-/
import Derived.Test.YtkmolkldimfoaaaRows
import Derived.Test.YtkmolkldimfoaaaFerW
namespace Fer
open Go Go.Proofs

def tab : List (Nat × TE) := [(3, .basic (.int .i64)), (4, .basic .bool), (25, .slice 3 (.int .i64) 8), (45, .slice 25 (.list 3 (.int .i64)) 24),
  (22, .basic (.int .i64)), (23, .slice 22 (.int .i64) 8),
  (49, .arr 42 3 (.int .i64)), (53, .arr 41 3 (.int .i64)), (51, .arr 41 4 .bool)]
theorem tab_ok : ttB Try.prog tab = true := by kernel_rfl

end Fer
