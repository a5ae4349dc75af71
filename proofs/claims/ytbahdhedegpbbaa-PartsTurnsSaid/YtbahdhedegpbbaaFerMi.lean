import Derived.Test.YtbahdhedegpbbaaFerMh
/- Plain facts: triangles of alternating signs; what corner sums tell. No program in sight. -/
namespace Fer

def trow (m : List (List Int)) (a j : Nat) : List Int := ((List.range j).filter fun q => decide (cp m a q = 1)).map fun (q : Nat) => (q : Int) + 1
def tri (m : List (List Int)) : List (List Int) := (List.range m.length).map fun i => trow m (i + 1) m.length

theorem trow_succ (m : List (List Int)) (a j : Nat) : trow m a (j + 1) = trow m a j ++ if cp m a j = 1 then [(j : Int) + 1] else [] := by
  unfold trow
  rw [List.range_succ, List.filter_append, List.map_append]
  by_cases h : cp m a j = 1 <;> simp [h]
theorem trow_length (m : List (List Int)) (a j : Nat) : (trow m a j).length ≤ j := by
  unfold trow
  rw [List.length_map]
  exact Nat.le_trans (List.length_filter_le ..) (by simp)
@[simp] theorem tri_length (m : List (List Int)) : (tri m).length = m.length := by simp [tri]

theorem cp_le {m : List (List Int)} (h : signOK m) {a j : Nat} (ha : a ≤ m.length) (hj : j < m.length) : 0 ≤ cp m a j ∧ cp m a j ≤ 1 := (alt_col.1 (h.2.2.2 j hj)).1 a ha

/-! What four corners tell, told back. -/

theorem unc_row {c : List (List Int)} {a : Nat} (h : a + 1 < c.length) : (unc c).getD a [] = (List.range (c.length - 1)).map (dd c a) := mat_row _ (by omega)

theorem unc_take {c : List (List Int)} {a : Nat} (h : a + 1 < c.length) : ∀ j, j + 1 ≤ c.length → (((unc c).getD a []).take j).sum = (c.getD (a + 1) []).getD j 0 - (c.getD a []).getD j 0 - (c.getD (a + 1) []).getD 0 0 + (c.getD a []).getD 0 0
  | 0, _ => by simp only [List.take_zero, List.sum_nil]; omega
  | j + 1, hj => by
    have hl : ((unc c).getD a []).length = c.length - 1 := by rw [unc_row h]; simp
    rw [sum_take_succ (by omega), unc_take h j (by omega), unc_row h, range_map_getD _ _ (by omega)]
    unfold dd
    omega

theorem cs_unc {c : List (List Int)} {j : Nat} (hj : j + 1 ≤ c.length) : ∀ i, i + 1 ≤ c.length → cs (unc c) i j = (c.getD i []).getD j 0 - (c.getD 0 []).getD j 0 - (c.getD i []).getD 0 0 + (c.getD 0 []).getD 0 0
  | 0, _ => by unfold cs sumTo; omega
  | i + 1, hi => by
    rw [cs_succ, cs_unc hj i (by omega), unc_take (by omega) j hj]
    omega

def bordC (c : List (List Int)) : Prop := ∀ i, i < c.length → (c.getD i []).getD 0 0 = 0 ∧ (c.getD 0 []).getD i 0 = 0
def fcOK (c : List (List Int)) : Prop := okC c ∧ bordC c ∧ signOK (unc c)

theorem cornr_unc {c : List (List Int)} (h : okC c) (hb : bordC c) : cornr (unc c) = c := by
  have hl : (unc c).length + 1 = c.length := by have := h.1; simp only [unc, mat_length]; omega
  symm
  unfold cornr
  rw [hl]
  refine mat_of rfl (fun i hi => (h.2.2 i hi).1) fun i hi j hj => ?_
  rw [cs_unc (by omega) i (by omega)]
  have h1 := hb i hi
  have h2 := hb j hj
  have h3 := hb 0 (by omega)
  omega

theorem fcOK_iff {c : List (List Int)} : fcOK c ↔ okC c ∧ signOK (unc c) ∧ cornr (unc c) = c := by
  constructor
  · rintro ⟨h1, h2, h3⟩
    exact ⟨h1, h3, cornr_unc h1 h2⟩
  · rintro ⟨h1, h2, h3⟩
    refine ⟨h1, fun i hi => ?_, h2⟩
    have hl : (unc c).length + 1 = c.length := by have := h1.1; simp only [unc, mat_length]; omega
    have e1 := cornr_cell (m := unc c) (i := i) (j := 0) (by omega) (by omega)
    have e2 := cornr_cell (m := unc c) (i := 0) (j := i) (by omega) (by omega)
    rw [h3] at e1 e2
    constructor
    · rw [e1]
      clear e1 e2 h3 hi hl
      induction i with
      | zero => rfl
      | succ i ih => rw [cs_succ, ih]; simp
    · rw [e2]; rfl

end Fer
