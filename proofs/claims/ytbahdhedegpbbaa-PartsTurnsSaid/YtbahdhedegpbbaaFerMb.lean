/- Words by which a list is put in order, neighbour by neighbour. No program in sight. -/
import Derived.Test.YtbahdhedegpbbaaFerMa
namespace Fer

def sws : Nat → List Int → List Int
  | 0, x :: y :: l => y :: x :: l
  | i + 1, x :: l => x :: sws i l
  | _, l => l

def ff : List Int → Option Nat
  | x :: y :: l => if y < x then some 0 else (ff (y :: l)).map (· + 1)
  | _ => none

def inv : List Int → Nat
  | [] => 0
  | x :: l => l.countP (fun y => decide (y < x)) + inv l

theorem sws_perm : ∀ (i : Nat) (l : List Int), (sws i l).Perm l
  | 0, x :: y :: l => List.Perm.swap ..
  | 0, [] => .refl _
  | 0, [_] => .refl _
  | i + 1, [] => .refl _
  | i + 1, x :: l => (sws_perm i l).cons x

@[simp] theorem sws_length (i : Nat) (l : List Int) : (sws i l).length = l.length := (sws_perm i l).length_eq

theorem sws_getD : ∀ (i : Nat) (l : List Int) (j : Nat), i + 1 < l.length → (sws i l).getD j 0 = if j = i then l.getD (i + 1) 0 else if j = i + 1 then l.getD i 0 else l.getD j 0
  | 0, x :: y :: l, j, _ => by
    rcases j with _ | _ | j <;> simp [sws]
  | 0, [], _, h => by simp at h
  | 0, [_], _, h => by simp at h
  | i + 1, [], _, h => by simp at h
  | i + 1, x :: l, j, h => by
    simp only [List.length_cons] at h
    cases j with
    | zero => simp [sws]
    | succ j =>
      simp only [sws, List.getD_cons_succ, sws_getD i l j (by omega), Nat.add_right_cancel_iff]

theorem set2_sws {i : Nat} {l : List Int} (h : i + 1 < l.length) : (l.set i (l.getD (i + 1) 0)).set (i + 1) (l.getD i 0) = sws i l := by
  apply ext_getD 0
  · simp
  · intro j hj
    rw [sws_getD i l j h, getD_set_if 0 (by simpa using h), getD_set_if 0 (by omega)]
    by_cases h1 : j = i
    · subst h1; rw [if_neg (by omega), if_pos rfl, if_pos rfl]
    · by_cases h2 : j = i + 1
      · rw [if_pos h2, if_neg h1, if_pos h2]
      · rw [if_neg h2, if_neg h1, if_neg h1, if_neg h2]

theorem set2_sws' {i : Nat} {l : List Int} (h : i + 1 < l.length) : (l.set (i + 1) (l.getD i 0)).set i (l.getD (i + 1) 0) = sws i l := by
  rw [← set2_sws h, List.set_comm _ _ (by omega)]

theorem sws_inv : ∀ (i : Nat) (l : List Int), i + 1 < l.length → l.getD (i + 1) 0 < l.getD i 0 → inv (sws i l) + 1 = inv l
  | 0, x :: y :: l, _, h => by
    simp at h
    simp only [sws, inv, List.countP_cons]
    simp [h, show ¬ x < y by omega]; omega
  | 0, [], h, _ => by simp at h
  | 0, [_], h, _ => by simp at h
  | i + 1, [], h, _ => by simp at h
  | i + 1, x :: l, h, h' => by
    simp only [List.length_cons] at h
    simp only [List.getD_cons_succ] at h'
    have := sws_inv i l (by omega) h'
    simp only [sws, inv, (sws_perm i l).countP_eq]
    omega

theorem ff_some : ∀ {l : List Int} {i : Nat}, ff l = some i → i + 1 < l.length ∧ l.getD (i + 1) 0 < l.getD i 0
  | [], _, h => by simp [ff] at h
  | [_], _, h => by simp [ff] at h
  | x :: y :: l, i, h => by
    simp only [ff] at h
    split at h
    · cases h; simpa using ‹y < x›
    · cases hf : ff (y :: l) with
      | none => rw [hf] at h; cases h
      | some k =>
        rw [hf] at h
        cases h
        have := ff_some hf
        simpa using this

theorem ff_of : ∀ {l : List Int} {i : Nat}, i + 1 < l.length → (∀ j, j < i → l.getD j 0 ≤ l.getD (j + 1) 0) → l.getD (i + 1) 0 < l.getD i 0 → ff l = some i
  | [], _, h, _, _ => by simp at h
  | [_], _, h, _, _ => by simp at h
  | x :: y :: l, 0, _, _, h => by simp at h; simp [ff, h]
  | x :: y :: l, i + 1, h, h1, h2 => by
    have h0 := h1 0 (by omega)
    simp at h0
    simp only [ff]
    rw [if_neg (by omega), ff_of (l := y :: l) (i := i) (by simpa using h) (fun j hj => by simpa using h1 (j + 1) (by omega)) (by simpa using h2)]
    rfl

theorem ff_none : ∀ {l : List Int}, (∀ j, j + 1 < l.length → l.getD j 0 ≤ l.getD (j + 1) 0) → ff l = none
  | [], _ => rfl
  | [_], _ => rfl
  | x :: y :: l, h => by
    have h0 := h 0 (by simp)
    simp at h0
    simp only [ff]
    rw [if_neg (by omega), ff_none (l := y :: l) (fun j hj => by simpa using h (j + 1) (by simpa using hj))]
    rfl

def nb : Nat → List Int → List Int
  | 0, _ => []
  | f + 1, q => match ff q with
    | none => []
    | some i => ((i : Int) + 1) :: nb f (sws i q)

/-- P7: the word. -/
def word (p : List Int) : List Int := nb (inv p) p

theorem word_none {q : List Int} (h : ff q = none) : word q = [] := by
  unfold word; cases inv q <;> simp [nb, h]

theorem word_some {q : List Int} {i : Nat} (h : ff q = some i) : word q = ((i : Int) + 1) :: word (sws i q) := by
  obtain ⟨h1, h2⟩ := ff_some h
  unfold word
  rw [← sws_inv i q h1 h2]
  simp [nb, h]

theorem inv_le : ∀ l : List Int, inv l ≤ l.length * l.length
  | [] => Nat.le_refl _
  | x :: l => by
    have := inv_le l
    have h2 : l.countP (fun y => decide (y < x)) ≤ l.length := List.countP_le_length
    simp only [inv, List.length_cons, Nat.mul_add, Nat.add_mul]
    omega

theorem word_length : ∀ (n : Nat) (q : List Int), inv q = n → (word q).length ≤ n
  | n, q, h => by
    cases hf : ff q with
    | none => rw [word_none hf]; simp
    | some i =>
      obtain ⟨h1, h2⟩ := ff_some hf
      have h3 := sws_inv i q h1 h2
      have := word_length (n - 1) (sws i q) (by omega)
      rw [word_some hf, List.length_cons]
      omega
termination_by n => n
decreasing_by all_goals omega

/-! ### Descents -/

def falls (w : List Int) (n : Nat) : List Int := ((List.range n).filter fun i => decide (1 ≤ i ∧ w.getD i 0 < w.getD (i - 1) 0)).map fun (i : Nat) => (i : Int)

theorem falls_zero (w : List Int) : falls w 0 = [] := rfl
theorem falls_one (w : List Int) : falls w 1 = [] := rfl
theorem falls_succ (w : List Int) (n : Nat) (h : 1 ≤ n) : falls w (n + 1) = falls w n ++ (if w.getD n 0 < w.getD (n - 1) 0 then [(n : Int)] else []) := by
  unfold falls
  rw [List.range_succ, List.filter_append, List.map_append]
  congr 1
  by_cases hh : w.getD n 0 < w.getD (n - 1) 0
  · rw [List.filter_cons_of_pos (by simp only [h, hh, and_self, decide_true]), if_pos hh]; rfl
  · rw [List.filter_cons_of_neg (by simp only [hh, and_false, decide_false, Bool.false_eq_true, not_false_eq_true]), if_neg hh]; rfl

theorem falls_length (w : List Int) (n : Nat) : (falls w n).length ≤ n := by
  unfold falls
  rw [List.length_map]
  exact Nat.le_trans (List.length_filter_le _ _) (by simp)

theorem falls_mem {w : List Int} {n : Nat} {x : Int} (h : x ∈ falls w n) : 1 ≤ x ∧ x < n := by
  unfold falls at h
  simp only [List.mem_map, List.mem_filter, List.mem_range, decide_eq_true_eq] at h
  obtain ⟨i, h, rfl⟩ := h
  omega

theorem falls_nil {w : List Int} (h : falls w w.length = []) : ff w = none := by
  apply ff_none
  intro j hj
  by_cases hx : w.getD j 0 ≤ w.getD (j + 1) 0
  · exact hx
  · exfalso
    have : ((j + 1 : Nat) : Int) ∈ falls w w.length := by
      unfold falls
      rw [List.mem_map]
      refine ⟨j + 1, ?_, rfl⟩
      rw [List.mem_filter]
      refine ⟨List.mem_range.2 hj, ?_⟩
      simp only [decide_eq_true_eq, Nat.add_sub_cancel]
      omega
    rw [h] at this
    cases this

theorem falls_cons {w : List Int} (h : falls w w.length ≠ []) : ff w = some ((falls w w.length).getD 0 0 - 1).toNat ∧ 1 ≤ (falls w w.length).getD 0 0 := by
  unfold falls at h ⊢
  cases hf : (List.range w.length).filter (fun i => decide (1 ≤ i ∧ w.getD i 0 < w.getD (i - 1) 0)) with
  | nil => rw [hf] at h; exact absurd rfl h
  | cons i l =>
    have h1 : ((List.range w.length).filter (fun i => decide (1 ≤ i ∧ w.getD i 0 < w.getD (i - 1) 0))).head? = some i := by rw [hf]; rfl
    rw [List.head?_filter] at h1
    have h2 := List.find?_range_eq_some.1 h1
    simp only [decide_eq_true_eq, List.mem_range, Bool.not_eq_true', decide_eq_false_iff_not, not_and] at h2
    obtain ⟨⟨h3, h4⟩, h5, h6⟩ := h2
    simp only [List.map_cons, List.getD_cons_zero]
    refine ⟨?_, by omega⟩
    rw [show ((i : Int) - 1).toNat = i - 1 by omega]
    apply ff_of
    · omega
    · intro j hj
      have := h6 (j + 1) (by omega) (by omega)
      simp only [Nat.add_sub_cancel] at this
      omega
    · rw [show i - 1 + 1 = i by omega]; exact h4

/-! ### Products -/

def came (out : List Int) (l : List Int) : List Int := l.foldr (fun i out => sws (i - 1).toNat out) out

@[simp] theorem came_length (out l : List Int) : (came out l).length = out.length := by
  induction l with
  | nil => rfl
  | cons i l ih => simpa [came] using ih

theorem drop_pred_getD {α : Type} {l : List α} {k : Nat} (d : α) (h : k < l.length) : l.drop k = l.getD k d :: l.drop (k + 1) := by
  rw [getD_lt d h, List.drop_eq_getElem_cons h]

theorem came_drop (out l : List Int) {k : Nat} (h : k < l.length) : came out (l.drop k) = sws (l.getD k 0 - 1).toNat (came out (l.drop (k + 1))) := by
  rw [drop_pred_getD 0 h]; rfl

def prodE (n : Int) (w : List Int) : Int := if n < 0 ∨ 40 < n then 1 else if ∀ x ∈ w, 1 ≤ x ∧ x < n then 0 else 1

end Fer
