import Derived.Test.YtjocjlohdapmaaaFerMa
namespace Fer

abbrev Tb := List (List Int)
def rg (T : Tb) (p : Nat × Nat) : Int := (T.getD p.1 []).getD p.2 0
def fitX (T : Tb) (left used : List Int) (i j x : Nat) : Prop :=
  left.getD x 0 ≠ 0 ∧ (x = 0 ∨ used.getD x 0 ≠ used.getD (x - 1) 0) ∧ (j + 1 < (T.getD i []).length → (x : Int) + 1 ≤ rg T (i, j + 1)) ∧ (0 < i → rg T (i - 1, j) < (x : Int) + 1)
instance (T : Tb) (left used : List Int) (i j x : Nat) : Decidable (fitX T left used i j x) := by unfold fitX; infer_instance

theorem getD_set_ne {α : Type} (l : List α) {i k : Nat} (v d : α) (h : k ≠ i) : (l.set i v).getD k d = l.getD k d := by
  simp only [List.getD_eq_getElem?_getD, List.getElem?_set]
  rw [if_neg (Ne.symm h)]
theorem getD_set_eq {α : Type} (l : List α) {i : Nat} (v d : α) (h : i < l.length) : (l.set i v).getD i d = v := by
  simp only [List.getD_eq_getElem?_getD, List.getElem?_set]
  simp [h]



end Fer
