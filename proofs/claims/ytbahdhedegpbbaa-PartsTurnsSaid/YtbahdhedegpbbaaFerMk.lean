import Derived.Test.YtbahdhedegpbbaaFerMj
/- Plain facts: tableaux; a letter put into one. No program in sight. -/
namespace Fer

def tabRow (t : List (List Int)) (i : Nat) : Prop := 0 < (t.getD i []).length ∧ (0 < i → (t.getD i []).length ≤ (t.getD (i - 1) []).length) ∧
  ∀ j, j < (t.getD i []).length → (1 ≤ (t.getD i []).getD j 0 ∧ (t.getD i []).getD j 0 ≤ 99) ∧ (0 < j → (t.getD i []).getD (j - 1) 0 ≤ (t.getD i []).getD j 0) ∧ (0 < i → (t.getD (i - 1) []).getD j 0 < (t.getD i []).getD j 0)
def tabRows (t : List (List Int)) : Prop := ∀ i, i < t.length → tabRow t i
noncomputable def tabE (t : List (List Int)) : Int := if 40 < t.flatten.length then 2 else @ite _ (tabRows t) (Classical.propDecidable _) 0 1

theorem tabE_big {t : List (List Int)} (h : 40 < t.flatten.length) : tabE t = 2 := if_pos h
theorem tabE_bad {t : List (List Int)} (h : ¬ 40 < t.flatten.length) (h2 : ¬ tabRows t) : tabE t = 1 := (if_neg h).trans (if_neg h2)
theorem tabE_ok {t : List (List Int)} (h : ¬ 40 < t.flatten.length) (h2 : tabRows t) : tabE t = 0 := (if_neg h).trans (if_pos h2)
theorem tabE_zero {t : List (List Int)} (h : tabE t = 0) : t.flatten.length ≤ 40 ∧ tabRows t := by
  by_cases h1 : 40 < t.flatten.length
  · rw [tabE_big h1] at h; cases h
  · by_cases h2 : tabRows t
    · exact ⟨by omega, h2⟩
    · rw [tabE_bad h1 h2] at h; cases h

theorem flatten_take_le (t : List (List Int)) (i : Nat) : (t.take i).flatten.length ≤ t.flatten.length := by
  have e : t.flatten.length = ((t.take i).flatten ++ (t.drop i).flatten).length := by rw [← List.flatten_append, List.take_append_drop]
  rw [List.length_append] at e
  omega
theorem flatten_take_succ {t : List (List Int)} {i : Nat} (h : i < t.length) : (t.take (i + 1)).flatten.length = (t.take i).flatten.length + (t.getD i []).length := by
  rw [take_succ_getD [] h, List.flatten_append, List.flatten_singleton, List.length_append]
theorem row_le_flatten {t : List (List Int)} {i : Nat} (h : i < t.length) : (t.getD i []).length ≤ t.flatten.length := by
  have := flatten_take_succ h
  have := flatten_take_le t (i + 1)
  omega
theorem tab_length {t : List (List Int)} (h : tabRows t) : t.length ≤ t.flatten.length := by
  have key : ∀ i, i ≤ t.length → i ≤ (t.take i).flatten.length := fun i => by
    induction i with
    | zero => intro _; omega
    | succ i ih =>
      intro hi
      have := ih (by omega)
      have := (h i (by omega)).1
      rw [flatten_take_succ (by omega)]
      omega
  have := key t.length (Nat.le_refl _)
  rwa [List.take_length] at this

/-- How many at the front are less. -/
def lb (p : List Int) (n : Int) : Nat := (p.takeWhile fun x => decide (x < n)).length
/-- In order, the least first. -/
def Asc (p : List Int) : Prop := ∀ i j, i ≤ j → j < p.length → p.getD i 0 ≤ p.getD j 0

theorem lb_of {p : List Int} {n : Int} {k : Nat} (hk : k ≤ p.length) (h1 : ∀ a, a < k → p.getD a 0 < n) (h2 : k = p.length ∨ n ≤ p.getD k 0) : lb p n = k := by
  unfold lb
  rw [while_cutG 0 hk (fun j hj => decide_eq_true (h1 j hj)) (h2.imp id fun h => decide_eq_false (by omega)), List.length_take]
  omega
theorem lb_le (p : List Int) (n : Int) : lb p n ≤ p.length := by
  unfold lb
  generalize hq : (fun x : Int => decide (x < n)) = q
  clear hq
  induction p with
  | nil => simp
  | cons a p ih =>
    rw [List.takeWhile_cons]
    split
    · simp only [List.length_cons]; omega
    · simp
theorem asc_of {p : List Int} (h : ∀ j, j + 1 < p.length → p.getD j 0 ≤ p.getD (j + 1) 0) : Asc p := by
  have key : ∀ d i, i + d < p.length → p.getD i 0 ≤ p.getD (i + d) 0 := by
    intro d
    induction d with
    | zero => intro i _; exact Int.le_refl _
    | succ d ih => intro i hi; exact Int.le_trans (ih i (by omega)) (h (i + d) (by omega))
  intro i j hij hj
  have := key (j - i) i (by omega)
  rwa [show i + (j - i) = j by omega] at this
theorem tab_asc {t : List (List Int)} {i : Nat} (h : tabRow t i) : Asc (t.getD i []) :=
  asc_of fun j hj => ((h.2.2 (j + 1) hj).2.1 (by omega))

/-! ### Row by row -/

def intoL : List (List Int) → Int → List (List Int)
  | [], x => [[x]]
  | r :: t, x => if lb r (x + 1) = r.length then (r ++ [x]) :: t else (r.set (lb r (x + 1)) x) :: intoL t (r.getD (lb r (x + 1)) 0)
def intoI : List (List Int) → Int → Nat
  | [], _ => 0
  | r :: t, x => if lb r (x + 1) = r.length then 0 else intoI t (r.getD (lb r (x + 1)) 0) + 1

theorem into_nil (x : Int) : intoL [] x = [[x]] := rfl
theorem into_drop {t : List (List Int)} {i : Nat} (h : i < t.length) (x : Int) :
    intoL (t.drop i) x = (if lb (t.getD i []) (x + 1) = (t.getD i []).length then ((t.getD i []) ++ [x]) :: t.drop (i + 1) else ((t.getD i []).set (lb (t.getD i []) (x + 1)) x) :: intoL (t.drop (i + 1)) ((t.getD i []).getD (lb (t.getD i []) (x + 1)) 0)) ∧
    intoI (t.drop i) x = if lb (t.getD i []) (x + 1) = (t.getD i []).length then 0 else intoI (t.drop (i + 1)) ((t.getD i []).getD (lb (t.getD i []) (x + 1)) 0) + 1 := by
  rw [drop_pred_getD [] h]
  exact ⟨rfl, rfl⟩

theorem set_split {α : Type} {l : List α} {i : Nat} (h : i < l.length) (v : α) : l.set i v = l.take i ++ v :: l.drop (i + 1) := by
  rw [List.set_eq_take_append_cons_drop, if_pos h]
theorem set_take {α : Type} {l : List α} {i : Nat} (h : i < l.length) (v : α) : (l.set i v).take (i + 1) = l.take i ++ [v] := by
  rw [set_split h, List.take_append, List.length_take, List.take_take]
  rw [show min (i + 1) i = i by omega, show i + 1 - min i l.length = 1 by omega]
  rfl
theorem set_drop {α : Type} {l : List α} {i : Nat} (v : α) : (l.set i v).drop (i + 1) = l.drop (i + 1) := by
  rw [List.drop_set_of_lt (by omega)]
theorem drop_more {α : Type} {l m : List α} {i : Nat} (h : l.drop i = m.drop i) : l.drop (i + 1) = m.drop (i + 1) := by
  rw [← List.drop_drop, ← List.drop_drop, h]

/-- One row of the way down. -/
theorem into_step {t out : List (List Int)} {i : Nat} {x : Int} {k : Nat} {L : List (List Int)} {I : Nat} (hi : i < t.length) (hol : out.length = t.length) (hod : out.drop i = t.drop i) (hL : L = out.take i ++ intoL (t.drop i) x) (hI : I = i + intoI (t.drop i) x)
    (hk : lb (out.getD i []) (x + 1) = k) : out.getD i [] = t.getD i [] ∧
    (k = (out.getD i []).length → L = out.set i (out.getD i [] ++ [x]) ∧ I = i) ∧
    (k ≠ (out.getD i []).length → L = (out.set i ((out.getD i []).set k x)).take (i + 1) ++ intoL (t.drop (i + 1)) ((out.getD i []).getD k 0) ∧ (out.set i ((out.getD i []).set k x)).drop (i + 1) = t.drop (i + 1) ∧ I = i + 1 + intoI (t.drop (i + 1)) ((out.getD i []).getD k 0)) := by
  have hr : out.getD i [] = t.getD i [] := by
    have := congrArg (fun l => l.getD 0 []) hod
    simpa [List.getD_eq_getElem?_getD, List.getElem?_drop] using this
  obtain ⟨d1, d2⟩ := into_drop hi x
  rw [← hr, hk] at d1 d2
  refine ⟨hr, fun h => ?_, fun h => ?_⟩
  · rw [if_pos h] at d1 d2
    rw [hL, hI, d1, d2, set_split (by omega), drop_more hod]
    exact ⟨rfl, rfl⟩
  · rw [if_neg h] at d1 d2
    rw [hL, hI, d1, d2, set_take (by omega), set_drop, drop_more hod]
    refine ⟨by simp, rfl, by omega⟩

end Fer
