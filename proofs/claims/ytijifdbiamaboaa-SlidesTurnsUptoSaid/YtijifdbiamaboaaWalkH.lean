/-
  Walks: Letters twice, Fold, Folded. No condition.
-/
import Derived.Test.YtijifdbiamaboaaRows
import Derived.Test.YtijifdbiamaboaaWalkA
import Derived.Test.YtijifdbiamaboaaFerMa
set_option linter.unusedSimpArgs false
set_option linter.unusedVariables false
-- SPECS: tL, tI, tB, LI, NI, spL, spLI, spIL, spLL, lettersSp, foldSp, foldedSp
namespace Fer
open Go Go.Proofs

def foldL (w : List Int) : List Int := if letE w = 0 then folded w else []
def lettersSp : Spec := spL fun w K => K [tI (letE w)]
def foldSp : Spec := spL fun w K => K [tL (foldL w), tI (letE w)]
def foldedSp : Spec := spL fun w K => w.length ≤ 40 ∧ K [tL (folded w)]

end Fer
