/-
  Walks: Straight, Slide, Rectify. No condition.
-/
import Derived.Test.YtijifdbiamaboaaRows
import Derived.Test.YtijifdbiamaboaaSlD
import Derived.Test.YtijifdbiamaboaaOfw
import Derived.Test.YtijifdbiamaboaaStn
set_option linter.unusedSimpArgs false
set_option linter.unusedVariables false
set_option maxHeartbeats 8000000
-- SPECS: tL, tI, tB, LI, NI, LLI, tLL, spL, spLI, spIL, spLL, spT, spTT, spTI, spII, spN, twinSp, holSp, skckSp, slidSp, cornerSp, firstSp, ofwSp, strSp, slideSp, rectSp, List.set_cons_zero, List.getD_cons_zero
namespace Fer
open Go Go.Proofs

noncomputable def strSp : Spec := spT fun t K => skewE t = 0 ∧ K [tLL (strtL t)]
noncomputable def slE (t : List (List Int)) (i : Int) : Int := if skewE t ≠ 0 then skewE t else if crnB t i = true then 0 else 5
def slR (t : List (List Int)) (i : Int) : List (List Int) × Nat × Nat := slN 100 t i.toNat ((holN (t.getD i.toNat []) : Int) - 1).toNat
noncomputable def slL (t : List (List Int)) (i : Int) : List (List Int) := if slE t i = 0 then (slR t i).1 else []
noncomputable def slA (t : List (List Int)) (i : Int) : Int := if slE t i = 0 then ((slR t i).2.1 : Int) else 0
noncomputable def slideSp : Spec := spTI fun t i K => K [tLL (slL t i), tI (slA t i), tI (slE t i)]
noncomputable def rectL (t : List (List Int)) : List (List Int) := if skewE t = 0 then strtL t else []
noncomputable def rectSp : Spec := spT fun t K => K [tLL (rectL t), tI (skewE t)]

end Fer
