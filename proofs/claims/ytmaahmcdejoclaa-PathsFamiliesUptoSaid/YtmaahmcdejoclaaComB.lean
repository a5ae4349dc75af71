/-
  Walks of small functions on tables: Rows, table, Size, Across. No condition.
-/
import Derived.Test.YtmaahmcdejoclaaRows
import Derived.Test.YtmaahmcdejoclaaComA
import Derived.Test.YtmaahmcdejoclaaFerMa
set_option linter.unusedSimpArgs false
set_option linter.unusedVariables false
-- SPECS: tL, tI, tB, LI, NI, LLI, tLL, spL, spLI, spIL, spLL, spT, spTT, sameSp, rowsSp, tableSp, sizeZSp, acrossSp
namespace Fer
open Go Go.Proofs

def spT (f : List (List Int) → (List TV → Prop) → Prop) : Spec := ⟨[LLI], fun args K => match args with | [⟨.list _ (.list _ (.int _)), l⟩] => f l K | _ => False⟩
def spTT (f : List (List Int) → List (List Int) → (List TV → Prop) → Prop) : Spec := ⟨[LLI, LLI], fun args K => match args with | [⟨.list _ (.list _ (.int _)), l⟩, ⟨.list _ (.list _ (.int _)), m⟩] => f l m K | _ => False⟩

def rowsSp : Spec := spTT fun a b K => K [tB (decide (a = b))]
def tableB (a : List (List Int)) (e : Int) (b : List (List Int)) (f : Int) : Bool := if f ≠ 0 then decide (e = f) && decide (a = []) else decide (e = f) && decide (a = b)
def tableSp : Spec := ⟨[LLI, NI, LLI, NI], fun args K => match args with
  | [⟨.list _ (.list _ (.int _)), a⟩, ⟨.int _, e⟩, ⟨.list _ (.list _ (.int _)), b⟩, ⟨.int _, f⟩] => K [tB (tableB a e b f)]
  | _ => False⟩
/-- Sum of a list of numbers that are not great. -/
def sizeZSp : Spec := spL fun p K => p.length ≤ 1000 ∧ (∀ x ∈ p, -1000000 ≤ x ∧ x ≤ 1000000) ∧ K [tI p.sum]
def acrossSp : Spec := spT fun m K => m.length ≤ 1000000 ∧ (m.getD 0 []).length ≤ 1000000 ∧ K [tLL (across m)]

end Fer
