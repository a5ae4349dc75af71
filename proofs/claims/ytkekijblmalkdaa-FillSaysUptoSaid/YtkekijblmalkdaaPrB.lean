/-
  Walks: a letter taken out of a tableau. No condition.
-/
import Derived.Test.YtkekijblmalkdaaRows
import Derived.Test.YtkekijblmalkdaaPrA
set_option linter.unusedSimpArgs false
set_option linter.unusedVariables false
set_option maxHeartbeats 1000000
-- SPECS: tL, tI, tB, LI, NI, LLI, tLL, LPR, tPR, spL, spLI, spIL, spLL, spT, spTT, spTI, searchSp, twinSp, takSp
namespace Fer
open Go Go.Proofs

def takSp : Spec := spTI fun t r K => tabRows t ∧ t.flatten.length ≤ 40 ∧ 0 ≤ r ∧ r < t.length ∧ crn t r.toNat ∧ K [tLL (takL t r.toNat), tI (takX t r.toNat)]

end Fer
