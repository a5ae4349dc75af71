/-
  The table of the types that the walks use, checked against the program. No condition.
-/
import Derived.Test.YtbahdhedegpbbaaRows
import Derived.Test.YtbahdhedegpbbaaFerW
namespace Fer
open Go Go.Proofs

def tab : List (Nat × TE) := [(3, .basic (.int .i64)), (4, .basic .bool), (29, .slice 3 (.int .i64) 8),
  (22, .slice 29 (.list 3 (.int .i64)) 24),
  (65, .pair 3 (.int .i64)),
  (63, .slice 65 (.prod (.int .i64) (.int .i64)) 16),
  (73, .basic (.int .u64)),
  (23, .basic (.int .i64))]
theorem tab_ok : ttB Try.prog tab = true := by kernel_rfl

end Fer
