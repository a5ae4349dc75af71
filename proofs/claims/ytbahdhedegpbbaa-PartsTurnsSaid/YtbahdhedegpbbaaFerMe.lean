/- Foata's map, block by block, and back. No program in sight. -/
import Derived.Test.YtbahdhedegpbbaaFerMd
namespace Fer

def letE (w : List Int) : Int := if 40 < w.length then 2 else if ∀ x ∈ w, 1 ≤ x ∧ x ≤ 99 then 0 else 1

/-- Blocks that end at a letter of the same kind: what is written down so far; the block that is open. -/
def blk (x : Int) (low : Bool) (st : List Int × List Int) (y : Int) : List Int × List Int :=
  if (decide (y ≤ x)) = low then (st.1 ++ y :: st.2, []) else (st.1, st.2 ++ [y])

def lowOf (v : List Int) (x : Int) : Bool := decide (v.getD (v.length - 1) 0 ≤ x)

def foldOne (v : List Int) (x : Int) : List Int := (v.foldl (blk x (lowOf v x)) ([], [])).1 ++ [x]

/-- P8. -/
def folded (w : List Int) : List Int := w.foldl foldOne []

theorem blk_len (x : Int) (low : Bool) : ∀ (v : List Int) (st : List Int × List Int), (v.foldl (blk x low) st).1.length + (v.foldl (blk x low) st).2.length = st.1.length + st.2.length + v.length
  | [], st => by simp
  | y :: v, st => by
    rw [List.foldl_cons, blk_len x low v]
    unfold blk
    split <;> simp <;> omega

/-- The last letter ends its block. -/
theorem blk_last {x : Int} {v : List Int} (h : v ≠ []) : (v.foldl (blk x (lowOf v x)) ([], [])).2 = [] := by
  obtain ⟨u, y, rfl⟩ : ∃ u y, v = u ++ [y] := ⟨v.dropLast, v.getLast h, (List.dropLast_concat_getLast h).symm⟩
  have e : lowOf (u ++ [y]) x = decide (y ≤ x) := by
    unfold lowOf
    congr 1
    rw [List.length_append, List.getD_eq_getElem?_getD]
    simp
  rw [List.foldl_append, e]
  simp [blk]

theorem foldOne_length (v : List Int) (x : Int) : (foldOne v x).length = v.length + 1 := by
  unfold foldOne
  rw [List.length_append]
  by_cases h : v = []
  · subst h; rfl
  · have h1 := blk_len x (lowOf v x) v ([], [])
    rw [blk_last h] at h1
    simp at h1 ⊢
    omega

theorem foldl_take_le {v : List Int} {k : Nat} (x : Int) (low : Bool) (h : k ≤ v.length) : (((v.take k).foldl (blk x low) ([], [])).1.length + ((v.take k).foldl (blk x low) ([], [])).2.length) = k := by
  rw [blk_len]; simp; omega

theorem folded_take_succ {w : List Int} {i : Nat} (h : i < w.length) : folded (w.take (i + 1)) = foldOne (folded (w.take i)) (w.getD i 0) := by
  unfold folded
  rw [foldl_take_succ _ _ 0 h]

theorem folded_length (w : List Int) : (folded w).length = w.length := by
  have : ∀ (w v : List Int), (w.foldl foldOne v).length = v.length + w.length := by
    intro w
    induction w with
    | nil => simp
    | cons x w ih => intro v; rw [List.foldl_cons, ih, foldOne_length, List.length_cons]; omega
  unfold folded
  rw [this]; simp

theorem blk_succ {v : List Int} {k : Nat} (x : Int) (low : Bool) (h : k < v.length) : (v.take (k + 1)).foldl (blk x low) ([], []) = blk x low ((v.take k).foldl (blk x low) ([], [])) (v.getD k 0) := foldl_take_succ _ _ 0 h

theorem foldOne_of {v : List Int} (x : Int) : foldOne v x = ((v.take v.length).foldl (blk x (lowOf v x)) ([], [])).1 ++ [x] := by rw [List.take_length]; rfl

theorem app3_getD {A B : List Int} {y : Int} {R : List Int} {i : Nat} : (A ++ y :: (B ++ R)).getD i 0 = if i < A.length then A.getD i 0 else if i = A.length then y else if i < A.length + 1 + B.length then B.getD (i - A.length - 1) 0 else R.getD (i - A.length - 1 - B.length) 0 := by
  simp only [List.getD_eq_getElem?_getD]
  by_cases c1 : i < A.length
  · rw [List.getElem?_append_left c1, if_pos c1]
  · rw [List.getElem?_append_right (by omega), if_neg c1]
    by_cases c2 : i = A.length
    · rw [if_pos c2, c2]; simp
    · obtain ⟨j, hj⟩ : ∃ j, j = i - A.length - 1 := ⟨_, rfl⟩
      rw [if_neg c2, ← hj, show i - A.length = j + 1 by omega, List.getElem?_cons_succ]
      by_cases c3 : i < A.length + 1 + B.length
      · rw [if_pos c3, List.getElem?_append_left (by omega)]
      · rw [if_neg c3, List.getElem?_append_right (by omega)]

theorem app2_getD {A B : List Int} {y : Int} {R : List Int} {i : Nat} : (A ++ B ++ y :: R).getD i 0 = if i < A.length then A.getD i 0 else if i < A.length + B.length then B.getD (i - A.length) 0 else if i = A.length + B.length then y else R.getD (i - A.length - 1 - B.length) 0 := by
  simp only [List.getD_eq_getElem?_getD]
  by_cases c1 : i < A.length
  · rw [List.append_assoc, List.getElem?_append_left c1, if_pos c1]
  · rw [if_neg c1]
    by_cases c2 : i < A.length + B.length
    · rw [List.append_assoc, List.getElem?_append_right (by omega), List.getElem?_append_left (by omega), if_pos c2]
    · rw [if_neg c2, List.getElem?_append_right (by rw [List.length_append]; omega), List.length_append]
      by_cases c3 : i = A.length + B.length
      · rw [if_pos c3, c3]; simp
      · rw [if_neg c3, show i - (A.length + B.length) = (i - A.length - 1 - B.length) + 1 by omega, List.getElem?_cons_succ]

/-! ### And back -/

/-- The first letter of each block goes to its end. -/
def rotb (x : Int) (low : Bool) : Nat → List Int → List Int
  | 0, _ => []
  | _, [] => []
  | f + 1, a :: l => l.takeWhile (fun y => decide (y ≤ x) != low) ++ a :: rotb x low f (l.dropWhile fun y => decide (y ≤ x) != low)

theorem rotb_length (x : Int) (low : Bool) : ∀ (f : Nat) (l : List Int), l.length ≤ f → (rotb x low f l).length = l.length
  | 0, [], _ => rfl
  | 0, _ :: _, h => by simp at h
  | _ + 1, [], _ => rfl
  | f + 1, a :: l, h => by
    have h1 : (l.takeWhile (fun y => decide (y ≤ x) != low)).length + (l.dropWhile (fun y => decide (y ≤ x) != low)).length = l.length := by
      rw [← List.length_append, List.takeWhile_append_dropWhile]
    simp only [List.length_cons] at h
    rw [rotb, List.length_append, List.length_cons, rotb_length x low f _ (by omega), List.length_cons]
    omega

theorem drop_len (p : Int → Bool) (l : List Int) : (l.dropWhile p).length ≤ l.length := by
  have h1 : (l.takeWhile p).length + (l.dropWhile p).length = l.length := by rw [← List.length_append, List.takeWhile_append_dropWhile]
  omega

theorem rotb_fuel (x : Int) (low : Bool) : ∀ (f g : Nat) (l : List Int), l.length ≤ f → l.length ≤ g → rotb x low f l = rotb x low g l
  | 0, 0, _, _, _ => rfl
  | 0, g + 1, [], _, _ => rfl
  | f + 1, 0, [], _, _ => rfl
  | f + 1, g + 1, [], _, _ => rfl
  | 0, _ + 1, _ :: _, h, _ => by simp at h
  | _ + 1, 0, _ :: _, _, h => by simp at h
  | f + 1, g + 1, a :: l, h, h' => by
    simp only [List.length_cons] at h h'
    have := drop_len (fun y => decide (y ≤ x) != low) l
    rw [rotb, rotb, rotb_fuel x low f g _ (by omega) (by omega)]

def rot (x : Int) (low : Bool) (l : List Int) : List Int := rotb x low l.length l

theorem rot_cons (x : Int) (low : Bool) (a : Int) (l : List Int) : rot x low (a :: l) = l.takeWhile (fun y => decide (y ≤ x) != low) ++ a :: rot x low (l.dropWhile fun y => decide (y ≤ x) != low) := by
  unfold rot
  have := drop_len (fun y => decide (y ≤ x) != low) l
  rw [List.length_cons, rotb, rotb_fuel x low l.length _ _ this (Nat.le_refl _)]

@[simp] theorem rot_length (x : Int) (low : Bool) (l : List Int) : (rot x low l).length = l.length := rotb_length x low _ l (Nat.le_refl _)
@[simp] theorem rot_nil (x : Int) (low : Bool) : rot x low [] = [] := rfl

theorem while_cut {p : Int → Bool} : ∀ {l : List Int} {m : Nat}, m ≤ l.length → (∀ j, j < m → p (l.getD j 0) = true) → (m = l.length ∨ p (l.getD m 0) = false) → l.takeWhile p = l.take m ∧ l.dropWhile p = l.drop m
  | [], m, hm, _, _ => by simp
  | a :: l, 0, _, _, h => by
    have h : p a = false := by simpa using h
    simp [h]
  | a :: l, m + 1, hm, h1, h2 => by
    have h0 := h1 0 (by omega)
    simp at h0
    have := while_cut (p := p) (l := l) (m := m) (by simpa using hm) (fun j hj => by simpa using h1 (j + 1) (by omega)) (by simpa using h2)
    simp [h0, this.1, this.2]

def headLow (u : List Int) (x : Int) : Bool := decide (u.getD 0 0 ≤ x)

def unf : Nat → List Int → List Int
  | 0, _ => []
  | f + 1, v => if v = [] then [] else unf f (rot (v.getD (v.length - 1) 0) (headLow v.dropLast (v.getD (v.length - 1) 0)) v.dropLast) ++ [v.getD (v.length - 1) 0]

/-- P8, back. -/
def unfO (v : List Int) : List Int := unf v.length v

theorem unfO_nil : unfO [] = [] := rfl
theorem unfO_concat (u : List Int) (x : Int) : unfO (u ++ [x]) = unfO (rot x (headLow u x) u) ++ [x] := by
  unfold unfO
  rw [List.length_append, List.length_cons, List.length_nil, unf, if_neg (by simp)]
  have e1 : (u ++ [x]).getD ((u ++ [x]).length - 1) 0 = x := by
    rw [List.getD_eq_getElem?_getD]; simp
  rw [e1, List.dropLast_concat, rot_length]

theorem unfO_length : ∀ (n : Nat) (v : List Int), v.length = n → (unfO v).length = n
  | 0, v, h => by rw [List.length_eq_zero_iff.1 h]; rfl
  | n + 1, v, h => by
    have hne : v ≠ [] := by intro e; rw [e] at h; simp at h
    obtain ⟨u, x, rfl⟩ : ∃ u x, v = u ++ [x] := ⟨v.dropLast, v.getLast hne, (List.dropLast_concat_getLast hne).symm⟩
    rw [unfO_concat, List.length_append, unfO_length n _ (by simpa using h)]; rfl

theorem unfO_short {v : List Int} (h : v.length ≤ 1) : unfO v = v := by
  match v, h with
  | [], _ => rfl
  | [a], _ => exact unfO_concat [] a
  | _ :: _ :: _, h => simp at h

theorem split3 {l : List Int} {i j : Nat} (h : i < j) (hj : j ≤ l.length) : l = l.take i ++ l.getD i 0 :: ((l.take j).drop (i + 1) ++ l.drop j) := by
  have h1 : l.drop i = l.getD i 0 :: l.drop (i + 1) := drop_pred_getD 0 (by omega)
  have h2 : (l.take j).drop (i + 1) ++ l.drop j = l.drop (i + 1) := by
    have : l.drop (i + 1) = (l.take j ++ l.drop j).drop (i + 1) := by rw [List.take_append_drop]
    rw [this, List.drop_append_of_le_length (by rw [List.length_take]; omega)]
  rw [h2, ← h1, List.take_append_drop]

/-- One block more. -/
theorem rot_block {x : Int} {low : Bool} {l : List Int} {i j n : Nat} (hij : i < j) (hjn : j ≤ n) (hn : n ≤ l.length) (h1 : ∀ m, i + 1 ≤ m → m < j → (decide (l.getD m 0 ≤ x) != low) = true) (h2 : j = n ∨ (decide (l.getD j 0 ≤ x) != low) = false) :
    rot x low ((l.take n).drop i) = (l.take j).drop (i + 1) ++ l.getD i 0 :: rot x low ((l.take n).drop j) := by
  have hl : (l.take n).length = n := by rw [List.length_take]; omega
  have hg : ∀ m, m < n → (l.take n).getD m 0 = l.getD m 0 := fun m hm => by simp only [List.getD_eq_getElem?_getD, List.getElem?_take, if_pos hm]
  rw [drop_pred_getD (l := l.take n) 0 (by omega), rot_cons, hg i (by omega)]
  have hw := while_cut (p := fun y => decide (y ≤ x) != low) (l := (l.take n).drop (i + 1)) (m := j - (i + 1)) (by rw [List.length_drop, hl]; omega)
    (fun m hm => by rw [drop_getD, hg _ (by omega)]; exact h1 _ (by omega) (by omega))
    (by
      rcases h2 with h2 | h2
      · left; rw [List.length_drop, hl]; omega
      · by_cases e : j = n
        · left; rw [List.length_drop, hl]; omega
        · right; rw [drop_getD, show i + 1 + (j - (i + 1)) = j by omega, hg _ (by omega)]; exact h2)
  rw [hw.1, hw.2, List.drop_drop, show i + 1 + (j - (i + 1)) = j by omega]
  congr 1
  rw [List.drop_take, List.take_take, List.drop_take, show min (j - (i + 1)) (n - (i + 1)) = j - (i + 1) by omega]

end Fer
