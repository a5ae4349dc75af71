import Derived.Test.YtbahdhedegpbbaaFerMf
/- Plain facts: tables, sums, alternating signs. No program in sight. -/
namespace Fer

theorem sumZ_le (p : List Int) (hb : ∀ x ∈ p, -1000000 ≤ x ∧ x ≤ 1000000) : ∀ i : Nat, -(1000000 * (p.length : Int)) ≤ (p.take i).sum ∧ (p.take i).sum ≤ 1000000 * (p.length : Int) := by
  induction p with
  | nil => intro i; simp
  | cons a p ih =>
    intro i
    have ha := hb a (List.mem_cons_self ..)
    cases i with
    | zero => simp only [List.take_zero, List.sum_nil, List.length_cons]; omega
    | succ i =>
      have := ih (fun x hx => hb x (List.mem_cons_of_mem _ hx)) i
      simp only [List.take_succ_cons, List.sum_cons, List.length_cons]
      omega

/-- Rows and columns change places. -/
def across (m : List (List Int)) : List (List Int) := (List.range (m.getD 0 []).length).map fun j => (m.takeWhile fun r => decide (j < r.length)).map fun r => r.getD j 0

def acol (m : List (List Int)) (j : Nat) : List Int := (m.takeWhile fun r => decide (j < r.length)).map fun r => r.getD j 0

theorem across_getD {m : List (List Int)} {j : Nat} (h : j < (m.getD 0 []).length) : (across m).getD j [] = acol m j := by
  unfold across acol
  rw [getD_lt [] (by simpa using h)]
  simp

theorem while_cutG {α : Type} {p : α → Bool} (d : α) : ∀ {l : List α} {m : Nat}, m ≤ l.length → (∀ j, j < m → p (l.getD j d) = true) → (m = l.length ∨ p (l.getD m d) = false) → l.takeWhile p = l.take m
  | [], m, hm, _, _ => by simp
  | a :: l, 0, _, _, h => by
    rcases h with h | h
    · simp at h
    · have : p a = false := h
      simp [this]
  | a :: l, m + 1, hm, h1, h2 => by
    have h0 : p a = true := h1 0 (by omega)
    rw [List.takeWhile_cons, if_pos h0, List.take_succ_cons]
    congr 1
    refine while_cutG d (by simpa using hm) (fun j hj => h1 (j + 1) (by omega)) ?_
    rcases h2 with h2 | h2
    · exact .inl (by simpa using h2)
    · exact .inr h2

end Fer
