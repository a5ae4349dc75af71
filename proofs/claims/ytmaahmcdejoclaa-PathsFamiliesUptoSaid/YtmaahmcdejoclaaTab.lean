/-
  The table of the types that the walks use, checked against the program. No condition.
-/
import Derived.Test.YtmaahmcdejoclaaRows
import Derived.Test.YtmaahmcdejoclaaFerS
namespace Fer
open Go Go.Proofs

def tab : List (Nat × TE) := [(3, .basic (.int .i64)), (4, .basic .bool), (23, .slice 3 (.int .i64) 8),
  (61, .slice 23 (.list 3 (.int .i64)) 24),
  (34, .struct [.int .i64, .int .i64]),
  (22, .slice 34 (.prod (.int .i64) (.int .i64)) 16),
  (89, .struct [.int .i64, .int .i64]),
  (48, .slice 89 (.prod (.int .i64) (.int .i64)) 16),
  (130, .slice 48 (.list 89 (.prod (.int .i64) (.int .i64))) 24),
  (50, .struct [.int .i64, .int .i64, .list 89 (.prod (.int .i64) (.int .i64))]),
  (85, .struct [.prod (.int .i64) (.prod (.int .i64) (.ro 89 (.prod (.int .i64) (.int .i64)))), .ro 89 (.prod (.int .i64) (.int .i64)), .ro 89 (.prod (.int .i64) (.int .i64)), .ro 3 (.int .i64), .list 4 .bool, .list 9 .str, .list 9 .str, .int .i64, .int .i64, .int .i64]),
  (90, .basic .func),
  (109, .basic .func),
  (2, .basic (.int .i64)),
  (108, .basic (.int .u64)),
  (9, .basic .str),
  (5, .basic (.int .u8)),
  (82, .slice 4 .bool 1),
  (52, .slice 9 .str 16),
  (24, .basic (.int .i64))]
theorem tab_ok : ttB Try.prog tab = true := by kernel_rfl

end Fer
