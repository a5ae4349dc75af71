/-
  The table of the types that the walks use, checked against the program. No condition.
-/
import Derived.Test.YtkekijblmalkdaaRows
import Derived.Test.YtkekijblmalkdaaFerQ
namespace Fer
open Go Go.Proofs

def tab : List (Nat × TE) := [(3, .basic (.int .i64)), (4, .basic .bool), (27, .slice 3 (.int .i64) 8),
  (23, .slice 27 (.list 3 (.int .i64)) 24),
  (29, .struct [.int .i64, .int .i64]),
  (22, .slice 29 (.prod (.int .i64) (.int .i64)) 16),
  (69, .struct [.int .i64, .int .i64, .int .i64]),
  (67, .slice 69 (.prod (.int .i64) (.prod (.int .i64) (.int .i64))) 24),
  (64, .map 3 3),
  (79, .basic (.int .u64)),
  (24, .basic (.int .i64))]
theorem tab_ok : ttB Try.prog tab = true := by kernel_rfl

end Fer
