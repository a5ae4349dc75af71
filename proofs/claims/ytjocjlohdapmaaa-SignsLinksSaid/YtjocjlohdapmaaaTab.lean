import Derived.Test.YtjocjlohdapmaaaRows
import Derived.Test.YtjocjlohdapmaaaFerS
namespace Fer
open Go Go.Proofs

def tab : List (Nat × TE) := [(3, .basic (.int .i64)), (4, .basic .bool), (22, .slice 3 (.int .i64) 8),
  (33, .slice 22 (.list 3 (.int .i64)) 24),
  (26, .slice 33 (.list 22 (.list 3 (.int .i64))) 24),
  (38, .basic .func),
  (72, .struct [.ro 3 (.int .i64), .ro 3 (.int .i64), .ro 3 (.int .i64), .list 22 (.list 3 (.int .i64)), .list 3 (.int .i64), .list 3 (.int .i64), .func]),
  (64, .pair 3 (.int .i64)),
  (77, .basic .func),
  (2, .basic (.int .i64)),
  (76, .basic (.int .u64)),
  (9, .basic .str),
  (5, .basic (.int .u8)),
  (60, .slice 4 .bool 1),
  (54, .slice 60 (.list 4 .bool) 24),
  (56, .struct [.list 60 (.list 4 .bool), .list 60 (.list 4 .bool)]),
  (65, .pair 3 (.int .i64)),
  (66, .slice 65 (.prod (.int .i64) (.int .i64)) 16),
  (62, .mapP 65 3),
  (23, .basic (.int .i64))]
theorem tab_ok : ttB Try.prog tab = true := by kernel_rfl

end Fer
