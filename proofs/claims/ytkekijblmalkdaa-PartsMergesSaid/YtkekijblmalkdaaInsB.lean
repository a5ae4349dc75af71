/-
  Walks: Into, put, Insert. No condition.
-/
import Derived.Test.YtkekijblmalkdaaRows
import Derived.Test.YtkekijblmalkdaaInsA
set_option linter.unusedSimpArgs false
set_option linter.unusedVariables false
-- SPECS: tL, tI, tB, LI, NI, LLI, tLL, spL, spLI, spIL, spLL, spT, spTT, spTI, searchSp, fitsSp, twinSp, intoSp, putSp, insertSp
namespace Fer
open Go Go.Proofs

/-- Rows in order, none long, of small numbers. -/
def rowsAsc (t : List (List Int)) : Prop := t.length ≤ 1000 ∧ ∀ i, i < t.length → (t.getD i []).length ≤ 1000 ∧ Asc (t.getD i []) ∧ ∀ j, j < (t.getD i []).length → -1000000 ≤ (t.getD i []).getD j 0 ∧ (t.getD i []).getD j 0 ≤ 1000000
def intoSp : Spec := spTI fun t x K => rowsAsc t ∧ K [tLL (intoL t x), tI (intoI t x)]
def putSp : Spec := spTI fun t x K => rowsAsc t ∧ -1000000 ≤ x ∧ x ≤ 1000000 ∧ K [tLL (intoL t x), tI (intoI t x)]
noncomputable def insL (t : List (List Int)) (x : Int) : List (List Int) := if fitE t x = 0 then intoL t x else []
noncomputable def insI (t : List (List Int)) (x : Int) : Int := if fitE t x = 0 then intoI t x else 0
noncomputable def insertSp : Spec := spTI fun t x K => K [tLL (insL t x), tI (insI t x), tI (fitE t x)]

theorem tab_asc_all {t : List (List Int)} (h : tabE t = 0) : rowsAsc t := by
  obtain ⟨h1, h2⟩ := tabE_zero h
  have := tab_length h2
  refine ⟨by omega, fun i hi => ⟨by have := row_le_flatten hi; omega, tab_asc (h2 i hi), fun j hj => ?_⟩⟩
  have := ((h2 i hi).2.2 j hj).1
  omega

end Fer
