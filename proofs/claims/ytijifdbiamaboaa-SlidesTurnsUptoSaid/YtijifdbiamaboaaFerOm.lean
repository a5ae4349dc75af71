import Derived.Test.YtijifdbiamaboaaFerOl
/- Plain facts: a hole that goes back to the first box. No program in sight. -/
set_option maxHeartbeats 1000000
namespace Fer

theorem cell_inj : ∀ {t : List (List Int)}, t.flatten.Nodup → ∀ k l k' l', l < ln t k → l' < ln t k' → vl t k l = vl t k' l' → k = k' ∧ l = l'
  | [], _, k, l, _, _, h, _, _ => by rw [ln_out (Nat.zero_le _)] at h; omega
  | r :: t, h, k, l, k', l', h1, h2, e => by
    obtain ⟨n1, n2, n3⟩ := List.nodup_append.1 (show (r ++ t.flatten).Nodup from h)
    have hrow : ∀ l l', l < r.length → l' < r.length → r.getD l 0 = r.getD l' 0 → l = l' := fun l l' g1 g2 g3 => by
      rcases Nat.lt_trichotomy l l' with g | g | g
      · exact absurd g3 (nodup_at n1 g g2)
      · exact g
      · exact absurd g3.symm (nodup_at n1 g g1)
    cases k with
    | zero =>
      cases k' with
      | zero => exact ⟨rfl, hrow l l' h1 h2 e⟩
      | succ k' => exact absurd e (n3 _ (at_mem (d := 0) (show l < r.length from h1)) _ (getD_row_mem (o := t) (k := k') (l := l') h2))
    | succ k =>
      cases k' with
      | zero => exact absurd e.symm (n3 _ (at_mem (d := 0) (show l' < r.length from h2)) _ (getD_row_mem (o := t) (k := k) (l := l) h1))
      | succ k' =>
        obtain ⟨q1, q2⟩ := cell_inj n2 k l k' l' h1 h2 e
        exact ⟨by omega, q2⟩

variable {s : List (List Int)} {i j : Nat}
/-- The hole goes up. -/
theorem sk_up (h : Sk s z0 (i + 1) j) (hi : i + 1 < s.length) (hj : j < ln s (i + 1)) (h0 : 0 < j → vl s (i + 1) (j - 1) < vl s i j) : Sk (s.set (i + 1) ((s.getD (i + 1) []).set j (vl s i j))) z0 i j := by
  have hd : ln s (i + 1) ≤ ln s i := h.dec i
  refine ⟨fun k hk => ?_, fun k => ?_, h.hm, fun k => Nat.zero_le _, fun k l hl => absurd hl (Nat.not_lt_zero l), fun k l h1 h2 h3 => ?_, fun k l k' l' h1 h2 h3 h4 h5 h6 => ?_⟩
  · rw [ln_set2 hi]; exact h.pos k (by simpa using hk)
  · rw [ln_set2 hi, ln_set2 hi]; exact h.dec k
  · rw [ln_set2 hi] at h2
    rw [vl_set hi hj]
    split
    · exact h.lt i j (Nat.zero_le _) (by omega) (by omega)
    · rename_i e
      exact h.lt k l (Nat.zero_le _) h2 e
  · rw [ln_set2 hi] at h4
    rw [vl_set hi hj, vl_set hi hj]
    have hlk : l < ln s k := Nat.lt_of_le_of_lt h2 (Nat.lt_of_lt_of_le h4 (anti_le h.dec h1))
    split
    · rename_i e
      obtain ⟨rfl, rfl⟩ := e
      split
      · rename_i e'
        exact ⟨Int.le_refl _, fun g => by omega⟩
      · rename_i e'
        have g := h.ord i l k' l' (by omega) h2 (Nat.zero_le _) h4 (by omega) e'
        have := g.2 (by omega)
        exact ⟨g.1, fun _ => this⟩
    · rename_i e
      split
      · rename_i e'
        obtain ⟨rfl, rfl⟩ := e'
        by_cases hk : k ≤ i
        · by_cases hki : k = i
          · subst hki
            have hl : l < l' := by omega
            have g1 := (h.ord k l (k + 1) l (by omega) (Nat.le_refl _) (Nat.zero_le _) (by omega) (by omega) (by omega)).2 (by omega)
            have g2 := (h.ord (k + 1) l (k + 1) (l' - 1) (Nat.le_refl _) (by omega) (Nat.zero_le _) (by omega) (by omega) (by omega)).1
            have g3 := h0 (by omega)
            exact ⟨by omega, fun _ => by omega⟩
          · have g := h.ord k l i l' hk h2 (Nat.zero_le _) (by omega) e (by omega)
            exact ⟨g.1, fun _ => g.2 (by omega)⟩
        · have hk1 : k = i + 1 := by omega
          subst hk1
          have hl : l < l' := by omega
          have g2 := (h.ord (i + 1) l (i + 1) (l' - 1) (Nat.le_refl _) (by omega) (Nat.zero_le _) (by omega) (by omega) (by omega)).1
          have g3 := h0 (by omega)
          exact ⟨by omega, fun g => by omega⟩
      · rename_i e'
        exact h.ord k l k' l' h1 h2 h3 h4 e e'
/-- The hole goes to the left. -/
theorem sk_left (h : Sk s z0 i (j + 1)) (hi : i < s.length) (hj : j + 1 < ln s i) (h0 : 0 < i → vl s (i - 1) (j + 1) < vl s i j) : Sk (s.set i ((s.getD i []).set (j + 1) (vl s i j))) z0 i j := by
  refine ⟨fun k hk => ?_, fun k => ?_, h.hm, fun k => Nat.zero_le _, fun k l hl => absurd hl (Nat.not_lt_zero l), fun k l h1 h2 h3 => ?_, fun k l k' l' h1 h2 h3 h4 h5 h6 => ?_⟩
  · rw [ln_set2 hi]; exact h.pos k (by simpa using hk)
  · rw [ln_set2 hi, ln_set2 hi]; exact h.dec k
  · rw [ln_set2 hi] at h2
    rw [vl_set hi hj]
    split
    · exact h.lt i j (Nat.zero_le _) (by omega) (by omega)
    · rename_i e
      exact h.lt k l (Nat.zero_le _) h2 e
  · rw [ln_set2 hi] at h4
    rw [vl_set hi hj, vl_set hi hj]
    have hlk : l < ln s k := Nat.lt_of_le_of_lt h2 (Nat.lt_of_lt_of_le h4 (anti_le h.dec h1))
    split
    · rename_i e
      obtain ⟨rfl, rfl⟩ := e
      split
      · exact ⟨Int.le_refl _, fun g => by omega⟩
      · rename_i e'
        exact h.ord k j k' l' h1 (by omega) (Nat.zero_le _) h4 (by omega) e'
    · rename_i e
      split
      · rename_i e'
        obtain ⟨rfl, rfl⟩ := e'
        by_cases hl : l ≤ j
        · exact h.ord k l k' j h1 hl (Nat.zero_le _) (by omega) e (by omega)
        · have hl1 : l = j + 1 := by omega
          subst hl1
          have hk : k < k' := by omega
          have hd : ln s k' ≤ ln s (k' - 1) := by have := h.dec (k' - 1); rwa [show k' - 1 + 1 = k' by omega] at this
          have g1 := (h.ord k (j + 1) (k' - 1) (j + 1) (by omega) (Nat.le_refl _) (Nat.zero_le _) (by omega) (by omega) (by omega)).1
          have g2 := h0 (by omega)
          exact ⟨by omega, fun _ => by omega⟩
      · rename_i e'
        exact h.ord k l k' l' h1 h2 h3 h4 e e'

/-- A slide does not read its hole. -/
theorem slN_hole (f : Nat) (hi : i < s.length) (hj : j < ln s i) (v : Int) : slN (f + 1) (s.set i ((s.getD i []).set j v)) i j = slN (f + 1) s i j := by
  have e1 : vl (s.set i ((s.getD i []).set j v)) (i + 1) j = vl s (i + 1) j := by rw [vl_set hi hj, if_neg (by omega)]
  have e2 : vl (s.set i ((s.getD i []).set j v)) i (j + 1) = vl s i (j + 1) := by rw [vl_set hi hj, if_neg (by omega)]
  have e3 : ∀ w, (s.set i ((s.getD i []).set j v)).set i (((s.set i ((s.getD i []).set j v)).getD i []).set j w) = s.set i ((s.getD i []).set j w) := fun w => by
    rw [getD_set_if [] hi, if_pos rfl, List.set_set, List.set_set]
  have e4 : slC (s.set i ((s.getD i []).set j v)) i j = slC s i j := by
    unfold slC
    split
    · rw [List.take_set_of_le (Nat.le_refl _)]
    · rw [getD_set_if [] hi, if_pos rfl, List.set_set, List.take_set_of_le (Nat.le_refl _)]
  unfold slN
  rw [e1, e2, e3, e3, e4]
theorem set_same {k l : Nat} (hk : k < s.length) (hl : l < ln s k) : s.set k ((s.getD k []).set l (vl s k l)) = s := by
  refine rows_ext (List.length_set) (fun q => ln_set2 hk _ q) fun q r hr => ?_
  rw [vl_set hk hl]
  split
  · rename_i e; rw [e.1, e.2]
  · rfl
theorem slN_up1 (f : Nat) (h : Sk s z0 (i + 1) j) (hi : i + 1 < s.length) (hj : j < ln s (i + 1)) :
    slN (f + 2) (s.set (i + 1) ((s.getD (i + 1) []).set j (vl s i j))) i j = slN (f + 1) s (i + 1) j := by
  have hd : ln s (i + 1) ≤ ln s i := h.dec i
  have ho := (h.lt i j (Nat.zero_le _) (by omega) (by omega)).1
  have e1 : vl (s.set (i + 1) ((s.getD (i + 1) []).set j (vl s i j))) (i + 1) j = vl s i j := by rw [vl_set hi hj, if_pos ⟨rfl, rfl⟩]
  have e2 : vl (s.set (i + 1) ((s.getD (i + 1) []).set j (vl s i j))) i (j + 1) = vl s i (j + 1) := by rw [vl_set hi hj, if_neg (by omega)]
  have e3 : vl (s.set (i + 1) ((s.getD (i + 1) []).set j (vl s i j))) i j = vl s i j := by rw [vl_set hi hj, if_neg (by omega)]
  have hr : vl s i (j + 1) = 0 ∨ vl s i j ≤ vl s i (j + 1) := by
    by_cases e : j + 1 < ln s i
    · exact .inr (h.ord i j i (j + 1) (Nat.le_refl _) (by omega) (Nat.zero_le _) e (by omega) (by omega)).1
    · exact .inl (vl_out (by omega))
  conv => lhs; unfold slN
  rw [e1, e2, if_pos ⟨by omega, hr⟩]
  have := set_same (s := s.set (i + 1) ((s.getD (i + 1) []).set j (vl s i j))) (k := i) (l := j) (by rw [List.length_set]; omega) (by rw [ln_set2 hi]; omega)
  rw [e3] at this
  rw [this]
  exact slN_hole f hi hj _
theorem slN_left1 (f : Nat) (h : Sk s z0 i (j + 1)) (hi : i < s.length) (hj : j + 1 < ln s i) :
    slN (f + 2) (s.set i ((s.getD i []).set (j + 1) (vl s i j))) i j = slN (f + 1) s i (j + 1) := by
  have ho := (h.lt i j (Nat.zero_le _) (by omega) (by omega)).1
  have e1 : vl (s.set i ((s.getD i []).set (j + 1) (vl s i j))) (i + 1) j = vl s (i + 1) j := by rw [vl_set hi hj, if_neg (by omega)]
  have e2 : vl (s.set i ((s.getD i []).set (j + 1) (vl s i j))) i (j + 1) = vl s i j := by rw [vl_set hi hj, if_pos ⟨rfl, rfl⟩]
  have e3 : vl (s.set i ((s.getD i []).set (j + 1) (vl s i j))) i j = vl s i j := by rw [vl_set hi hj, if_neg (by omega)]
  have hr : ¬ (0 < vl s (i + 1) j ∧ (vl s i j = 0 ∨ vl s (i + 1) j ≤ vl s i j)) := by
    rintro ⟨g1, g2⟩
    by_cases e : j < ln s (i + 1)
    · have := (h.ord i j (i + 1) j (by omega) (Nat.le_refl _) (Nat.zero_le _) e (by omega) (by omega)).2 (by omega)
      omega
    · rw [vl_out (by omega)] at g1; omega
  conv => lhs; unfold slN
  rw [e1, e2, if_neg hr, if_pos (by omega)]
  have := set_same (s := s.set i ((s.getD i []).set (j + 1) (vl s i j))) (k := i) (l := j) (by rw [List.length_set]; omega) (by rw [ln_set2 hi]; omega)
  rw [e3] at this
  rw [this]
  exact slN_hole f hi hj _

/-- What holds while the hole goes back. -/
structure Rv (t : List (List Int)) (i0 j0 : Nat) (s : List (List Int)) (i j : Nat) : Prop where
  sk : Sk s z0 i j
  len : s.length = t.length
  lns : ∀ k, ln s k = ln t k
  hi : i < t.length
  hj : j < ln t i
  dis : ∀ k l k' l', l < ln t k → l' < ln t k' → ¬ (k = i ∧ l = j) → ¬ (k' = i ∧ l' = j) → vl s k l = vl s k' l' → k = k' ∧ l = l'
  low : ∀ k l, l < ln t k → ¬ (k = i ∧ l = j) → vl s k l ≤ 40
  le : i + j ≤ 80
  fwd : slN (100 - (i + j)) s i j = (slC t i0 j0, i0, j0)
theorem rv_up {t : List (List Int)} {i0 j0 : Nat} (h : Rv t i0 j0 s (i + 1) j) (h0 : 0 < j → vl s (i + 1) (j - 1) < vl s i j) : Rv t i0 j0 (s.set (i + 1) ((s.getD (i + 1) []).set j (vl s i j))) i j := by
  have hi : i + 1 < s.length := by rw [h.len]; exact h.hi
  have hj : j < ln s (i + 1) := by rw [h.lns]; exact h.hj
  have hd : ln s (i + 1) ≤ ln s i := h.sk.dec i
  have hle := h.le
  refine ⟨sk_up h.sk hi hj h0, by rw [List.length_set]; exact h.len, fun k => by rw [ln_set2 hi]; exact h.lns k, by have := h.hi; omega, by rw [← h.lns]; omega, fun k l k' l' a1 a2 a3 a4 e => ?_, fun k l a1 a2 => ?_, by omega, ?_⟩
  · rw [vl_set hi hj, vl_set hi hj] at e
    by_cases c1 : k = i + 1 ∧ l = j
    · rw [if_pos c1] at e
      by_cases c2 : k' = i + 1 ∧ l' = j
      · exact ⟨by omega, by omega⟩
      · rw [if_neg c2] at e
        have := h.dis i j k' l' (by rw [← h.lns]; omega) a2 (by omega) c2 e
        exact absurd ⟨this.1.symm, this.2.symm⟩ a4
    · rw [if_neg c1] at e
      by_cases c2 : k' = i + 1 ∧ l' = j
      · rw [if_pos c2] at e
        have := h.dis k l i j a1 (by rw [← h.lns]; omega) c1 (by omega) e
        exact absurd this a3
      · rw [if_neg c2] at e
        exact h.dis k l k' l' a1 a2 c1 c2 e
  · rw [vl_set hi hj]
    split
    · exact h.low i j (by rw [← h.lns]; omega) (by omega)
    · rename_i c
      exact h.low k l a1 c
  · have h1 := slN_up1 (100 - (i + 1 + j) - 1) h.sk hi hj
    rw [show 100 - (i + 1 + j) - 1 + 2 = 100 - (i + j) by omega, show 100 - (i + 1 + j) - 1 + 1 = 100 - (i + 1 + j) by omega] at h1
    rw [h1]
    exact h.fwd
theorem rv_left {t : List (List Int)} {i0 j0 : Nat} (h : Rv t i0 j0 s i (j + 1)) (h0 : 0 < i → vl s (i - 1) (j + 1) < vl s i j) : Rv t i0 j0 (s.set i ((s.getD i []).set (j + 1) (vl s i j))) i j := by
  have hi : i < s.length := by rw [h.len]; exact h.hi
  have hj : j + 1 < ln s i := by rw [h.lns]; exact h.hj
  have hle := h.le
  refine ⟨sk_left h.sk hi hj h0, by rw [List.length_set]; exact h.len, fun k => by rw [ln_set2 hi]; exact h.lns k, h.hi, by rw [← h.lns]; omega, fun k l k' l' a1 a2 a3 a4 e => ?_, fun k l a1 a2 => ?_, by omega, ?_⟩
  · rw [vl_set hi hj, vl_set hi hj] at e
    by_cases c1 : k = i ∧ l = j + 1
    · rw [if_pos c1] at e
      by_cases c2 : k' = i ∧ l' = j + 1
      · exact ⟨by omega, by omega⟩
      · rw [if_neg c2] at e
        have := h.dis i j k' l' (by rw [← h.lns]; omega) a2 (by omega) c2 e
        exact absurd ⟨this.1.symm, this.2.symm⟩ a4
    · rw [if_neg c1] at e
      by_cases c2 : k' = i ∧ l' = j + 1
      · rw [if_pos c2] at e
        have := h.dis k l i j a1 (by rw [← h.lns]; omega) c1 (by omega) e
        exact absurd this a3
      · rw [if_neg c2] at e
        exact h.dis k l k' l' a1 a2 c1 c2 e
  · rw [vl_set hi hj]
    split
    · exact h.low i j (by rw [← h.lns]; omega) (by omega)
    · rename_i c
      exact h.low k l a1 c
  · have h1 := slN_left1 (100 - (i + (j + 1)) - 1) h.sk hi hj
    rw [show 100 - (i + (j + 1)) - 1 + 2 = 100 - (i + j) by omega, show 100 - (i + (j + 1)) - 1 + 1 = 100 - (i + (j + 1)) by omega] at h1
    rw [h1]
    exact h.fwd

end Fer
