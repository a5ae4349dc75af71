/-
  The table of the types that the walks use, checked against the program. No condition.
-/
import Derived.Test.YtmaahmcdejoclaaRows
import Derived.Test.YtmaahmcdejoclaaFerQ
namespace Fer
open Go Go.Proofs

def tab : List (Nat × TE) := [(3, .basic (.int .i64)), (4, .basic .bool), (23, .slice 3 (.int .i64) 8),
  (61, .slice 23 (.list 3 (.int .i64)) 24),
  (34, .struct [.int .i64, .int .i64]),
  (22, .slice 34 (.prod (.int .i64) (.int .i64)) 16),
  (108, .basic (.int .u64)),
  (9, .basic .str),
  (5, .basic (.int .u8)),
  (82, .slice 4 .bool 1),
  (52, .slice 9 .str 16),
  (24, .basic (.int .i64))]
theorem tab_ok : ttB Try.prog tab = true := by kernel_rfl

end Fer
