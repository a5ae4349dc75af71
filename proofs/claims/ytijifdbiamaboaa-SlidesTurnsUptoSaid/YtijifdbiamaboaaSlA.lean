/-
  Walks: holes, slides.Check, Skew. No condition.
-/
import Derived.Test.YtijifdbiamaboaaRows
import Derived.Test.YtijifdbiamaboaaInsA
import Derived.Test.YtijifdbiamaboaaFerMa
set_option linter.unusedSimpArgs false
set_option linter.unusedVariables false
set_option maxHeartbeats 4000000
-- SPECS: tL, tI, tB, LI, NI, LLI, tLL, spL, spLI, spIL, spLL, spT, spTT, spTI, spII, countSp, holSp, skckSp, skewSp, skAtSp, List.set_cons_zero, List.getD_cons_zero
namespace Fer
open Go Go.Proofs

def holSp : Spec := spL fun p K => K [tI (holN p)]
noncomputable def skckSp : Spec := spT fun t K => K [tI (skewE t)]
noncomputable def skewSp : Spec := spT fun t K => t.length ≤ 2000000 ∧ t.flatten.length ≤ 2000000 ∧ K [tI (skewE t)]
def skAtB (t : List (List Int)) (i j : Int) : Bool := decide (0 ≤ i ∧ 0 ≤ j ∧ j < ((t.getD i.toNat []).length : Int))
def skAtV (t : List (List Int)) (i j : Int) : Int := if 0 ≤ i ∧ 0 ≤ j ∧ j < ((t.getD i.toNat []).length : Int) then (t.getD i.toNat []).getD j.toNat 0 else 0
def skAtSp : Spec := ⟨[NI, NI], fun args K => match args with
  | [⟨.int _, i⟩, ⟨.int _, j⟩, ⟨.list _ (.list _ (.int _)), t⟩] => (0 ≤ i → 0 ≤ j → i < (t.length : Int)) ∧ K [tI (skAtV t i j), tB (skAtB t i j)]
  | _ => False⟩

end Fer
