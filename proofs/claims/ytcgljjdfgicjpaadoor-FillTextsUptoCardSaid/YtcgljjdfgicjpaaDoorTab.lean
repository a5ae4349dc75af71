/-
  The table of the types that the walks use, checked against the program. No condition.
-/
import Derived.Test.YtcgljjdfgicjpaaDoorRows
import Derived.Test.YtcgljjdfgicjpaaDoorFerQ
namespace Fer
open Go Go.Proofs

def tab : List (Nat × TE) := [(3, .basic (.int .i64)), (4, .basic .bool), (34, .slice 3 (.int .i64) 8),
  (22, .slice 34 (.list 3 (.int .i64)) 24),
  (53, .basic (.int .u64)),
  (9, .basic .str),
  (5, .basic (.int .u8)),
  (27, .struct [.int .i64, .int .i64]),
  (23, .basic (.int .i64))]
theorem tab_ok : ttB Tryd.prog tab = true := by kernel_rfl

end Fer
