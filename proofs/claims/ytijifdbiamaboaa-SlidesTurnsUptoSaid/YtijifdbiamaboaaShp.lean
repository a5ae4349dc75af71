/-
  Walks: shapes of tableaux; lists held against each other. No condition.
-/
import Derived.Test.YtijifdbiamaboaaRows
import Derived.Test.YtijifdbiamaboaaInsA
set_option linter.unusedSimpArgs false
set_option linter.unusedVariables false
set_option maxHeartbeats 1000000
-- SPECS: tL, tI, tB, LI, NI, LLI, tLL, spL, spLI, spIL, spLL, spT, spTT, spTI, sameSp, ftabSp, tabSp, shapeSp, rrowsSp
namespace Fer
open Go Go.Proofs

def shapeL (t : List (List Int)) : List Int := t.map fun r => (r.length : Int)
noncomputable def shapeZ (t : List (List Int)) : List Int := if tabE t = 0 then shapeL t else []
noncomputable def shapeSp : Spec := spT fun t K => K [tL (shapeZ t), tI (tabE t)]
def rrowsSp : Spec := spT fun t K => t.length ≤ 1000 ∧ K [tL (shapeL t)]

end Fer
