import Derived.Test.YtbahdhedegpbbaaFerMg
/- Plain facts: alternating signs, their corner sums. No program in sight. -/
namespace Fer

def altOK (l : List Int) : Prop := (∀ j, j ≤ l.length → 0 ≤ (l.take j).sum ∧ (l.take j).sum ≤ 1) ∧ l.sum = 1
def colL (m : List (List Int)) (j : Nat) : List Int := m.map fun r => r.getD j 0
def signOK (m : List (List Int)) : Prop := 1 ≤ m.length ∧ m.length ≤ 7 ∧ (∀ i, i < m.length → (m.getD i []).length = m.length ∧ altOK (m.getD i [])) ∧ ∀ j, j < m.length → altOK (colL m j)
noncomputable def altB (l : List Int) : Bool := @decide (altOK l) (Classical.propDecidable _)
noncomputable def signB (m : List (List Int)) : Bool := @decide (signOK m) (Classical.propDecidable _)
noncomputable def signE (m : List (List Int)) : Int := @ite _ (signOK m) (Classical.propDecidable _) 0 1

theorem altB_true {l : List Int} (h : altOK l) : altB l = true := @decide_eq_true _ (Classical.propDecidable _) h
theorem altB_false {l : List Int} (h : ¬ altOK l) : altB l = false := @decide_eq_false _ (Classical.propDecidable _) h
theorem of_altB {l : List Int} (h : altB l = true) : altOK l := @of_decide_eq_true _ (Classical.propDecidable _) h
theorem not_altB {l : List Int} (h : altB l = false) : ¬ altOK l := @of_decide_eq_false _ (Classical.propDecidable _) h
theorem signB_true {m : List (List Int)} (h : signOK m) : signB m = true := @decide_eq_true _ (Classical.propDecidable _) h
theorem signB_false {m : List (List Int)} (h : ¬ signOK m) : signB m = false := @decide_eq_false _ (Classical.propDecidable _) h
theorem of_signB {m : List (List Int)} (h : signB m = true) : signOK m := @of_decide_eq_true _ (Classical.propDecidable _) h
theorem not_signB {m : List (List Int)} (h : signB m = false) : ¬ signOK m := @of_decide_eq_false _ (Classical.propDecidable _) h
theorem signE_zero {m : List (List Int)} (h : signOK m) : signE m = 0 := if_pos h
theorem signE_one {m : List (List Int)} (h : ¬ signOK m) : signE m = 1 := if_neg h
theorem signE_iff {m : List (List Int)} : signE m = 0 ↔ signOK m := by
  by_cases h : signOK m
  · simp [signE_zero h, h]
  · simp [signE_one h, h]
theorem signE_cases (m : List (List Int)) : signE m = 0 ∨ signE m = 1 := by
  by_cases h : signOK m
  · exact .inl (signE_zero h)
  · exact .inr (signE_one h)

/-- Sum of the first numbers of a column. -/
def cp (m : List (List Int)) (a j : Nat) : Int := ((m.take a).map fun r => r.getD j 0).sum

theorem cp_zero (m : List (List Int)) (j : Nat) : cp m 0 j = 0 := rfl
theorem cp_succ {m : List (List Int)} {a : Nat} (j : Nat) (h : a < m.length) : cp m (a + 1) j = cp m a j + (m.getD a []).getD j 0 := by
  unfold cp
  rw [take_succ_getD [] h, List.map_append, List.sum_append]
  simp
theorem colL_take (m : List (List Int)) (a j : Nat) : ((colL m j).take a).sum = cp m a j := by
  unfold colL cp
  rw [← List.map_take]
theorem colL_sum (m : List (List Int)) (j : Nat) : (colL m j).sum = cp m m.length j := by
  rw [← colL_take, List.take_of_length_le (by simp [colL])]
theorem alt_col {m : List (List Int)} {j : Nat} : altOK (colL m j) ↔ (∀ a, a ≤ m.length → 0 ≤ cp m a j ∧ cp m a j ≤ 1) ∧ cp m m.length j = 1 := by
  unfold altOK
  rw [colL_sum]
  simp only [colL_take]
  rw [show (colL m j).length = m.length by simp [colL]]

theorem acol_eq {m : List (List Int)} {j : Nat} (h : ∀ i, i < m.length → j < (m.getD i []).length) : acol m j = colL m j := by
  unfold acol colL
  rw [while_cutG [] (l := m) (m := m.length) (Nat.le_refl _) (fun a ha => decide_eq_true (h a ha)) (.inl rfl), List.take_length]

/-! ### Tables by numbers -/

def mat (k : Nat) (f : Nat → Nat → Int) : List (List Int) := (List.range k).map fun i => (List.range k).map (f i)

theorem range_map_getD {α : Type} {k i : Nat} (f : Nat → α) (d : α) (h : i < k) : ((List.range k).map f).getD i d = f i := by
  rw [getD_lt d (by simpa using h)]
  simp
@[simp] theorem mat_length (k : Nat) (f : Nat → Nat → Int) : (mat k f).length = k := by simp [mat]
theorem mat_row {k i : Nat} (f : Nat → Nat → Int) (h : i < k) : (mat k f).getD i [] = (List.range k).map (f i) := range_map_getD _ _ h
theorem mat_cell {k i j : Nat} (f : Nat → Nat → Int) (h : i < k) (h' : j < k) : ((mat k f).getD i []).getD j 0 = f i j := by
  rw [mat_row f h, range_map_getD _ _ h']
theorem mat_of {k : Nat} {f : Nat → Nat → Int} {c : List (List Int)} (h0 : c.length = k) (h1 : ∀ i, i < k → (c.getD i []).length = k) (h2 : ∀ i, i < k → ∀ j, j < k → (c.getD i []).getD j 0 = f i j) : c = mat k f := by
  refine ext_getD [] (by simp [h0]) fun i hi => ?_
  rw [mat_row f (by omega)]
  refine ext_getD 0 (by rw [h1 i (by omega)]; simp) fun j hj => ?_
  have := h1 i (by omega)
  rw [range_map_getD _ _ (by omega), h2 i (by omega) j (by omega)]
theorem mat_congr {k : Nat} {f g : Nat → Nat → Int} (h : ∀ i, i < k → ∀ j, j < k → f i j = g i j) : mat k f = mat k g :=
  mat_of (mat_length ..) (fun i hi => by rw [mat_row f hi]; simp) fun i hi j hj => by rw [mat_cell f hi hj, h i hi j hj]
theorem range_map_succ {α : Type} (f : Nat → α) (k : Nat) : (List.range (k + 1)).map f = (List.range k).map f ++ [f k] := by
  rw [List.range_succ, List.map_append]; rfl

/-- What stands above and left of a corner. -/
def cs (m : List (List Int)) (i j : Nat) : Int := sumTo (fun a => ((m.getD a []).take j).sum) i
def cornr (m : List (List Int)) : List (List Int) := mat (m.length + 1) (cs m)

theorem cs_succ (m : List (List Int)) (i j : Nat) : cs m (i + 1) j = cs m i j + ((m.getD i []).take j).sum := rfl

theorem cs_le {m : List (List Int)} (h : signOK m) {i j : Nat} (hi : i ≤ m.length) (hj : j ≤ m.length) : 0 ≤ cs m i j ∧ cs m i j ≤ i := by
  induction i with
  | zero => exact ⟨Int.le_refl _, Int.le_refl _⟩
  | succ i ih =>
    have := ih (by omega)
    obtain ⟨h1, h2⟩ := h.2.2.1 i (by omega)
    have := h2.1 j (by omega)
    rw [cs_succ]
    omega

/-- What is in a place, of its four corners. -/
def dd (c : List (List Int)) (a b : Nat) : Int := (c.getD (a + 1) []).getD (b + 1) 0 - (c.getD a []).getD (b + 1) 0 - (c.getD (a + 1) []).getD b 0 + (c.getD a []).getD b 0
def unc (c : List (List Int)) : List (List Int) := mat (c.length - 1) (dd c)
def okC (c : List (List Int)) : Prop := 2 ≤ c.length ∧ c.length ≤ 8 ∧ ∀ i, i < c.length → (c.getD i []).length = c.length ∧ ∀ j, j < c.length → 0 ≤ (c.getD i []).getD j 0 ∧ (c.getD i []).getD j 0 ≤ 7
noncomputable def ofC (c : List (List Int)) : List (List Int) := @ite _ (okC c) (Classical.propDecidable _) (unc c) []

theorem ofC_ok {c : List (List Int)} (h : okC c) : ofC c = unc c := if_pos h
theorem ofC_bad {c : List (List Int)} (h : ¬ okC c) : ofC c = [] := if_neg h

/-- Corner by corner. -/
def pw (op : Int → Int → Int) (c d : List (List Int)) : List (List Int) := mat c.length fun i j => op ((c.getD i []).getD j 0) ((d.getD i []).getD j 0)

theorem cornr_row {m : List (List Int)} {i : Nat} (h : i ≤ m.length) : (cornr m).getD i [] = (List.range (m.length + 1)).map (cs m i) := mat_row _ (by omega)
theorem cornr_cell {m : List (List Int)} {i j : Nat} (h : i ≤ m.length) (h' : j ≤ m.length) : ((cornr m).getD i []).getD j 0 = cs m i j := mat_cell _ (by omega) (by omega)
@[simp] theorem cornr_length (m : List (List Int)) : (cornr m).length = m.length + 1 := by simp [cornr]

theorem cornr_ok {m : List (List Int)} (h : signOK m) : okC (cornr m) := by
  obtain ⟨h1, h2, _⟩ := id h
  refine ⟨by simp; omega, by simp; omega, fun i hi => ?_⟩
  rw [cornr_length] at hi
  rw [cornr_row (by omega)]
  refine ⟨by simp, fun j hj => ?_⟩
  rw [cornr_length] at hj
  rw [range_map_getD _ _ hj]
  have := cs_le h (i := i) (j := j) (by omega) (by omega)
  omega

theorem pw_ok {op : Int → Int → Int} (hop : ∀ x y, op x y = x ∨ op x y = y) {a b : List (List Int)} (ha : signOK a) (hb : signOK b) (hab : a.length = b.length) : okC (pw op (cornr a) (cornr b)) := by
  obtain ⟨h1, h2, _⟩ := id ha
  unfold pw
  refine ⟨by simp; omega, by simp; omega, fun i hi => ?_⟩
  simp only [mat_length, cornr_length] at hi ⊢
  rw [mat_row _ hi]
  refine ⟨by simp, fun j hj => ?_⟩
  rw [range_map_getD _ _ hj, cornr_cell (by omega) (by omega), cornr_cell (by omega) (by omega)]
  have := cs_le ha (i := i) (j := j) (by omega) (by omega)
  have := cs_le hb (i := i) (j := j) (by omega) (by omega)
  rcases hop (cs a i j) (cs b i j) with e | e <;> rw [e] <;> omega

def bnd2 (most : Bool) (x y : Int) : Int := if decide (x < y) = most then y else x

theorem bnd_max (x y : Int) : bnd2 true x y = max x y := by
  unfold bnd2
  by_cases h : x < y
  · rw [if_pos (by simp [h])]; omega
  · rw [if_neg (by simp [h])]; omega
theorem bnd_min (x y : Int) : bnd2 false x y = min x y := by
  unfold bnd2
  by_cases h : x < y
  · rw [if_neg (by simp [h])]; omega
  · rw [if_pos (by simp [h])]; omega

/-- A square whose places hold what f tells. -/
def Upd (n : Nat) (c : List (List Int)) (f : Nat → Nat → Int) : Prop := c.length = n ∧ (∀ i, i < n → (c.getD i []).length = n) ∧ ∀ i, i < n → ∀ j, j < n → (c.getD i []).getD j 0 = f i j

theorem Upd.eq {n : Nat} {c : List (List Int)} {f : Nat → Nat → Int} (h : Upd n c f) : c = mat n f := mat_of h.1 h.2.1 h.2.2
theorem Upd.congr {n : Nat} {c : List (List Int)} {f g : Nat → Nat → Int} (h : Upd n c f) (e : ∀ i, i < n → ∀ j, j < n → f i j = g i j) : Upd n c g := ⟨h.1, h.2.1, fun i hi j hj => (h.2.2 i hi j hj).trans (e i hi j hj)⟩
theorem Upd.cornr (m : List (List Int)) : Upd (m.length + 1) (cornr m) (cs m) := ⟨cornr_length m, fun i hi => by rw [cornr_row (by omega)]; simp, fun i hi j hj => cornr_cell (by omega) (by omega)⟩
theorem Upd.set {n : Nat} {c : List (List Int)} {f : Nat → Nat → Int} (h : Upd n c f) {i j : Nat} (hi : i < n) (hj : j < n) (v : Int) : Upd n (c.set i ((c.getD i []).set j v)) (fun a b => if a = i ∧ b = j then v else f a b) := by
  obtain ⟨h0, h1, h2⟩ := h
  refine ⟨by rw [List.length_set]; exact h0, fun a ha => ?_, fun a ha b hb => ?_⟩
  · rw [getD_set_if [] (by omega)]
    split
    · rw [List.length_set]; exact h1 i hi
    · exact h1 a ha
  · dsimp only
    rw [getD_set_if [] (by omega)]
    by_cases e : a = i
    · subst e
      rw [if_pos rfl, getD_set_if 0 (by rw [h1 a hi]; exact hj)]
      by_cases e2 : b = j
      · rw [if_pos e2, if_pos ⟨rfl, e2⟩]
      · rw [if_neg e2, if_neg (fun h => e2 h.2)]; exact h2 a ha b hb
    · rw [if_neg e, if_neg (fun h => e h.1)]; exact h2 a ha b hb

theorem pw_eq (op : Int → Int → Int) {a b : List (List Int)} (h : a.length = b.length) : pw op (cornr a) (cornr b) = mat (a.length + 1) fun i j => op (cs a i j) (cs b i j) := by
  unfold pw
  rw [cornr_length]
  exact mat_congr fun i hi j hj => by rw [cornr_cell (by omega) (by omega), cornr_cell (by omega) (by omega)]

/-- Nowhere less. -/
def geq (c d : List (List Int)) : Prop := ∀ i, i < c.length → ∀ j, j < c.length → (d.getD i []).getD j 0 ≤ (c.getD i []).getD j 0
noncomputable def geqB (c d : List (List Int)) : Bool := @decide (geq c d) (Classical.propDecidable _)

theorem geqB_true {c d : List (List Int)} (h : geq c d) : geqB c d = true := @decide_eq_true _ (Classical.propDecidable _) h
theorem geqB_false {c d : List (List Int)} (h : ¬ geq c d) : geqB c d = false := @decide_eq_false _ (Classical.propDecidable _) h

theorem flatten_len {k : Nat} : ∀ l : List (List Int), (∀ i, i < l.length → (l.getD i []).length = k) → l.flatten.length = l.length * k
  | [], _ => by simp
  | r :: l, h => by
    have h0 : r.length = k := h 0 (by simp)
    have ih := flatten_len l fun i hi => h (i + 1) (by simp; omega)
    rw [List.flatten_cons, List.length_append, ih, h0, List.length_cons, Nat.add_mul]; omega
theorem cornr_flat (m : List (List Int)) : (cornr m).flatten.length = (m.length + 1) * (m.length + 1) := by
  rw [flatten_len (k := m.length + 1) _ fun i hi => (Upd.cornr m).2.1 i (by simpa using hi), cornr_length]

theorem append_getD {l m : List Int} {k : Nat} : (l ++ m).getD k 0 = if k < l.length then l.getD k 0 else m.getD (k - l.length) 0 := by
  simp only [List.getD_eq_getElem?_getD, List.getElem?_append]
  split <;> rfl

theorem flat_geq : ∀ (l m : List (List Int)), l.length = m.length → (∀ i, i < l.length → (l.getD i []).length = (m.getD i []).length) →
    ((∀ k, k < l.flatten.length → m.flatten.getD k 0 ≤ l.flatten.getD k 0) ↔ ∀ i, i < l.length → ∀ j, j < (l.getD i []).length → (m.getD i []).getD j 0 ≤ (l.getD i []).getD j 0)
  | [], [], _, _ => by simp
  | [], _ :: _, h, _ => by simp at h
  | _ :: _, [], h, _ => by simp at h
  | r :: l, q :: m, h, hr => by
    have h0 : r.length = q.length := hr 0 (by simp)
    have ih := flat_geq l m (by simpa using h) fun i hi => hr (i + 1) (by simp; omega)
    rw [List.flatten_cons, List.flatten_cons]
    constructor
    · intro hk i hi j hj
      cases i with
      | zero =>
        have hj : j < r.length := hj
        have := hk j (by rw [List.length_append]; omega)
        rw [append_getD, append_getD, if_pos (by omega), if_pos hj] at this
        exact this
      | succ i =>
        refine (ih.1 fun k hk2 => ?_) i (by simpa using hi) j hj
        have := hk (r.length + k) (by rw [List.length_append]; omega)
        rw [append_getD, append_getD, if_neg (by omega), if_neg (by omega), show r.length + k - q.length = k by omega, show r.length + k - r.length = k by omega] at this
        exact this
    · intro hij k hk
      rw [List.length_append] at hk
      rw [append_getD, append_getD]
      by_cases c : k < r.length
      · rw [if_pos (by omega), if_pos c]
        exact hij 0 (by simp) k c
      · rw [if_neg (by omega), if_neg c, h0]
        exact ih.2 (fun i hi j hj => hij (i + 1) (by simp; omega) j hj) (k - q.length) (by omega)

theorem geq_flat {a b : List (List Int)} (hab : a.length = b.length) : geq (cornr a) (cornr b) ↔ ∀ k, k < (cornr a).flatten.length → (cornr b).flatten.getD k 0 ≤ (cornr a).flatten.getD k 0 := by
  rw [flat_geq _ _ (by simp [hab]) fun i hi => by rw [cornr_length] at hi; rw [(Upd.cornr a).2.1 i (by omega), (Upd.cornr b).2.1 i (by omega), hab]]
  unfold geq
  constructor
  · intro h i hi j hj
    rw [cornr_length] at hi
    rw [(Upd.cornr a).2.1 i (by omega)] at hj
    exact h i (by simpa using hi) j (by simpa using hj)
  · intro h i hi j hj
    exact h i hi j (by rw [(Upd.cornr a).2.1 i (by simpa using hi)]; simpa using hj)

end Fer
