/-
  Walks: Letters twice, Fold, Folded. No condition.
-/
import Derived.Test.YtkekijblmalkdaaRows
import Derived.Test.YtkekijblmalkdaaWalkA
import Derived.Test.YtkekijblmalkdaaFerMa
set_option linter.unusedSimpArgs false
set_option linter.unusedVariables false
-- SPECS: tL, tI, tB, LI, NI, spL, spLI, spIL, spLL, lettersSp, foldSp, foldedSp
namespace Fer
open Go Go.Proofs

def foldL (w : List Int) : List Int := if letE w = 0 then folded w else []
def lettersSp : Spec := spL fun w K => K [tI (letE w)]
def foldSp : Spec := spL fun w K => K [tL (foldL w), tI (letE w)]
def foldedSp : Spec := spL fun w K => w.length ≤ 40 ∧ K [tL (folded w)]

theorem letE_bad {w : List Int} {i : Nat} (hl : w.length ≤ 40) (hi : i < w.length) (h : ¬ (1 ≤ w.getD i 0 ∧ w.getD i 0 ≤ 99)) : letE w = 1 := by
  unfold letE; rw [if_neg (by omega), if_neg fun hx => h (hx _ (getD_mem 0 hi))]
theorem letE_zero {w : List Int} (h : letE w = 0) : w.length ≤ 40 := by
  unfold letE at h
  split at h
  · cases h
  · omega

theorem rot_in {A B : List Int} {y : Int} {R : List Int} : (cpL (A ++ B ++ y :: R) (A.length + 1) (A.length + B.length + 1) (((A ++ B ++ y :: R).take (A.length + B.length)).drop A.length)).set A.length y = A ++ y :: (B ++ R) := by
  have e0 : ((A ++ B ++ y :: R).take (A.length + B.length)).drop A.length = B := by
    rw [List.append_assoc, List.take_length_add_append, List.take_left, List.drop_left]
  rw [e0]
  have hl : (cpL (A ++ B ++ y :: R) (A.length + 1) (A.length + B.length + 1) B).length = (A ++ B ++ y :: R).length := cpL_length (by omega) (by simp; omega)
  refine ext_getD 0 (by rw [List.length_set, hl]; simp; omega) fun i hi => ?_
  rw [List.length_set, hl] at hi
  rw [getD_set_if 0 (by rw [hl]; simp only [List.length_append, List.length_cons]; omega), cpL_getD (by omega) (by simp; omega), app3_getD, app2_getD]
  have hm : min B.length (A.length + B.length + 1 - (A.length + 1)) = B.length := by omega
  rw [hm]
  by_cases c0 : i = A.length
  · rw [if_pos c0, if_neg (by omega), if_pos c0]
  · rw [if_neg c0]
    by_cases c1 : i < A.length
    · rw [if_neg (by omega), if_pos c1, if_pos c1]
    · by_cases c2 : i < A.length + 1 + B.length
      · rw [if_pos (by omega), if_neg c1, if_neg c0, if_pos c2, show i - (A.length + 1) = i - A.length - 1 by omega]
      · rw [if_neg (by omega), if_neg c1, if_neg (by omega), if_neg (by omega), if_neg c1, if_neg c0, if_neg c2]

end Fer
