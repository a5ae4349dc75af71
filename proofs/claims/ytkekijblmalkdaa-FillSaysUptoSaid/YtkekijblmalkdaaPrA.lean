/-
  Walks: lists of pairs held against each other; the two tableaux of a word. No condition.
-/
import Derived.Test.YtkekijblmalkdaaRows
import Derived.Test.YtkekijblmalkdaaInsB
import Derived.Test.YtkekijblmalkdaaFerMa
set_option linter.unusedSimpArgs false
set_option linter.unusedVariables false
-- SPECS: tL, tI, tB, LI, NI, LLI, tLL, LPR, tPR, spL, spLI, spIL, spLL, spT, spTT, spTI, searchSp, twinSp, intoSp, putSp, samePrSp, ofwSp
namespace Fer
open Go Go.Proofs

@[reducible] def LPR : Ty := .list 29 (.prod (.int .i64) (.int .i64))
@[reducible] def tPR (l : List (Int × Int)) : TV := ⟨LPR, l⟩
def samePrSp : Spec := ⟨[LPR, LPR], fun args K => match args with | [⟨.list _ (.prod (.int _) (.int _)), p⟩, ⟨.list _ (.prod (.int _) (.int _)), q⟩] => K [tB (decide (p = q))] | _ => False⟩
def ofwSp : Spec := spLL fun w a K => w.length = a.length ∧ w.length ≤ 40 ∧ (∀ x ∈ w, 1 ≤ x ∧ x ≤ 99) ∧ K [tLL (pqP w w.length), tLL (pqQ w a w.length)]

theorem ra_rows {n : Nat} {t : List (List Int)} (h : RA n t) (hn : n ≤ 1000) : rowsAsc t :=
  ⟨by have := h.1; omega, fun i hi => by
    obtain ⟨h1, h2, h3⟩ := h.2 _ (at_mem (d := []) hi)
    refine ⟨by omega, h2, fun j hj => ?_⟩
    have := h3 _ (at_mem (d := 0) hj)
    omega⟩

end Fer
