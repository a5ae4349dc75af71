/-
  The table of the types that the walks use, checked against the program. No condition.
-/
import Derived.Test.YtmaahmcdejoclaaDoorRows
import Derived.Test.YtmaahmcdejoclaaDoorFerQ
namespace Fer
open Go Go.Proofs

def tab : List (Nat × TE) := [(3, .basic (.int .i64)), (4, .basic .bool), (33, .slice 3 (.int .i64) 8),
  (22, .slice 33 (.list 3 (.int .i64)) 24),
  (53, .basic (.int .u64)),
  (9, .basic .str),
  (5, .basic (.int .u8)),
  (23, .slice 9 .str 16),
  (42, .struct [.raw, .list 5 (.int .u8)]),
  (24, .basic (.int .i64))]
theorem tab_ok : ttB Tryd.prog tab = true := by kernel_rfl

end Fer
