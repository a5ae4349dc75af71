import Derived.Test.YtcklbhfkeohndaaDoorRows
import Derived.Test.YtcklbhfkeohndaaDoorFerS
namespace Fer
open Go Go.Proofs

def tab : List (Nat × TE) := [(3, .basic (.int .i64)), (4, .basic .bool), (22, .slice 3 (.int .i64) 8),
  (38, .slice 22 (.list 3 (.int .i64)) 24),
  (55, .pair 3 (.int .i64)),
  (53, .slice 55 (.prod (.int .i64) (.int .i64)) 16),
  (30, .struct [.list 3 (.int .i64), .int .i64]),
  (23, .slice 30 (.prod (.list 3 (.int .i64)) (.int .i64)) 32),
  (61, .basic .func),
  (49, .basic .func),
  (2, .basic (.int .i64)),
  (59, .basic (.int .u64)),
  (9, .basic .str),
  (5, .basic (.int .u8)),
  (24, .basic (.int .i64))]
theorem tab_ok : ttB Tryd.prog tab = true := by kernel_rfl

end Fer
