import Derived.Test.YtmaahmcdejoclaaDoorFerOf
/- Plain facts: a tableau's shape by its word's families (Greene). No program in sight. -/
set_option maxHeartbeats 1000000
namespace Fer

/-! ### Every word's tableau is one -/

/-! ### Rows in colours -/

/-! ### No more -/

end Fer
