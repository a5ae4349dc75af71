/-
  The table of the types that the walks use, checked against the program. No condition.
-/
import Derived.Test.YtijifdbiamaboaaRows
import Derived.Test.YtijifdbiamaboaaFerQ
namespace Fer
open Go Go.Proofs

def tab : List (Nat × TE) := [(3, .basic (.int .i64)), (4, .basic .bool), (30, .slice 3 (.int .i64) 8),
  (22, .slice 30 (.list 3 (.int .i64)) 24),
  (39, .pair 3 (.int .i64)),
  (9, .basic .str),
  (5, .basic (.int .u8)),
  (23, .basic (.int .i64))]
theorem tab_ok : ttB Try.prog tab = true := by kernel_rfl

end Fer
