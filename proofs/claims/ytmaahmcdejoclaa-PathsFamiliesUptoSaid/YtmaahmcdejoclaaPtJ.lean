/-
  The program's search at every level; Apart, First. No condition.
-/
import Derived.Test.YtmaahmcdejoclaaRows
import Derived.Test.YtmaahmcdejoclaaPtF
import Derived.Test.YtmaahmcdejoclaaPtH
set_option linter.unusedSimpArgs false
set_option linter.unusedVariables false
namespace Fer
open Go Go.Proofs

theorem each_none : FnSt Try.prog 88 (eachSp 0) := by
  refine ⟨⟨_, Try.func88, by decide, rfl⟩, fun bl vals boxes K hK => ?_⟩
  exfalso
  simp only [eachSp] at hK
  split at hK
  · exact Nat.not_lt_zero _ hK.1.2.1.ct
  · exact hK
theorem fam_ok : ∀ m, FnSt Try.prog 88 (eachSp m)
  | 0 => each_none
  | m + 1 => each_step m (next_step m (fam_ok m)) (fam_ok m)
theorem famNext_ok (m : Nat) : FnSt Try.prog 61 (nextSp m) := next_step m (fam_ok m)
theorem apart_ok : FnOK Try.prog 24 apartSp := apart_of (famNext_ok 65)
theorem first_ok : FnOK Try.prog 25 firstSp := first_of (famNext_ok 65)
end Fer
