import Derived.Test.YtijifdbiamaboaaFerOj
import Derived.Test.YtijifdbiamaboaaFerMa
/- Plain facts: promotion, and evacuation of what is promoted. No program in sight. -/
set_option maxHeartbeats 1000000
namespace Fer

theorem ln_qStep {V : List (List Int)} {i : Nat} {n : Int} (hi : i ≤ V.length) (k : Nat) : ln (qStep V i n) k = if k = i then ln V i + 1 else ln V k := by
  unfold qStep
  by_cases e : i = V.length
  · rw [if_pos e, ln_set (by rw [List.length_append]; simp; omega)]
    have hk : ∀ k, (V ++ [[]]).getD k [] = V.getD k [] := fun k => by
      rw [appD]
      split
      · rfl
      · rw [List.getD_eq_getElem?_getD (l := V), List.getElem?_eq_none (by omega)]
        cases k - V.length <;> simp
    split
    · rw [List.length_append, hk]
      rfl
    · unfold ln
      rw [hk]
  · rw [if_neg e, ln_set (by omega)]
    split
    · rw [List.length_append]
      rfl
    · rfl
theorem row_qStep {V : List (List Int)} {i : Nat} {n : Int} (hi : i ≤ V.length) (k : Nat) : (qStep V i n).getD k [] = if k = i then V.getD i [] ++ [n] else V.getD k [] := by
  unfold qStep
  by_cases e : i = V.length
  · have hk : ∀ k, (V ++ [[]]).getD k [] = V.getD k [] := fun k => by
      rw [appD]
      split
      · rfl
      · rw [List.getD_eq_getElem?_getD (l := V), List.getElem?_eq_none (by omega)]
        cases k - V.length <;> simp
    rw [if_pos e, getD_set_if [] (by rw [List.length_append]; simp; omega), hk, hk]
  · rw [if_neg e, getD_set_if [] (by omega)]
theorem qStep_len' (V : List (List Int)) (i : Nat) (n : Int) : (qStep V i n).length = if i = V.length then V.length + 1 else V.length := by
  unfold qStep
  rw [List.length_set]
  split
  · rw [List.length_append]; rfl
  · rfl
theorem pos_qStep {V : List (List Int)} {i : Nat} {n : Int} (hi : i ≤ V.length) (hV : ∀ k, k < V.length → 0 < ln V k) : ∀ k, k < (qStep V i n).length → 0 < ln (qStep V i n) k := fun k hk => by
  rw [ln_qStep hi]
  split
  · omega
  · rename_i e
    refine hV k ?_
    rw [qStep_len'] at hk
    split at hk <;> omega
theorem vl_tlo {m : Int} {t : List (List Int)} (h : TabS t) {k l : Nat} (hl : l < ln (tlo m t) k) : vl (tlo m t) k l = vl t k l := by
  have key : ∀ {r : List Int}, Srt r → ∀ l, l < (r.filter fun x => decide (x ≤ m)).length → (r.filter fun x => decide (x ≤ m)).getD l 0 = r.getD l 0 := fun {r} => by
    induction r with
    | nil => intro _ l hl; simp at hl
    | cons a r ih =>
      intro hs l hl
      obtain ⟨h1, h2⟩ := srt_cons.1 hs
      by_cases ha : a ≤ m
      · rw [List.filter_cons, if_pos (by simpa using ha)] at hl ⊢
        cases l with
        | zero => rfl
        | succ l => exact ih h2 l (by simpa using hl)
      · have e : (a :: r).filter (fun x => decide (x ≤ m)) = [] := by
          rw [List.filter_eq_nil_iff]
          intro x hx
          rcases List.mem_cons.1 hx with rfl | hx
          · simpa using ha
          · have := h1 x hx
            simp; omega
        rw [e] at hl
        simp at hl
  unfold vl ln at *
  rw [tlo_getD h] at hl ⊢
  exact key (tabS_srt h k) l hl
/-- A tableau is what is left below its greatest letter, and that letter. -/
theorem top_off {U : List (List Int)} {n : Int} {i : Nat} (h : TabS U) (hn : ∀ x ∈ wordR U, x ≤ n) (hi : i ≤ (tlo (n - 1) U).length) (hl : ∀ k, ln U k = if k = i then ln (tlo (n - 1) U) i + 1 else ln (tlo (n - 1) U) k) :
    U = qStep (tlo (n - 1) U) i n := by
  have hT := tabS_tlo (n - 1) h
  have hlen : ∀ k, ln U k = ln (qStep (tlo (n - 1) U) i n) k := fun k => by rw [ln_qStep hi, hl k]
  refine rows_ext (len_of_ln (tabS_pos h) (pos_qStep hi (tabS_pos hT)) hlen) hlen fun k l hkl => ?_
  unfold vl
  rw [row_qStep hi]
  by_cases e : l < ln (tlo (n - 1) U) k
  · have h1 := vl_tlo h e
    unfold vl at h1
    rw [← h1]
    split
    · rename_i ek
      subst ek
      rw [appD, if_pos (show l < ((tlo (n - 1) U).getD k []).length from e)]
    · rfl
  · have ek : k = i := by
      by_cases ek : k = i
      · exact ek
      · rw [hl k, if_neg ek] at hkl; omega
    subst ek
    rw [hl k, if_pos rfl] at hkl
    have el : l = ln (tlo (n - 1) U) k := by omega
    rw [if_pos rfl, appD, if_neg (show ¬ l < ((tlo (n - 1) U).getD k []).length from e), show l - ((tlo (n - 1) U).getD k []).length = 0 from Nat.sub_eq_zero_of_le (Nat.le_of_eq el)]
    show (U.getD k []).getD l 0 = n
    have hlU : l < ln U k := by rw [hl k, if_pos rfl]; omega
    have h1 : (U.getD k []).getD l 0 ≤ n := by
      have hk : k < U.length := by
        by_cases e : k < U.length
        · exact e
        · rw [ln_out (by omega)] at hlU; omega
      exact hn _ ((wordR_perm U).mem_iff.2 (getD_row_mem hlU))
    have h2 : n ≤ (U.getD k []).getD l 0 := by
      have h3 := ln_tlo (m := n - 1) h k
      unfold cl at h3
      have h4 := lb_ge (r := U.getD k []) (x := n - 1 + 1) (by rw [← h3, ← el]; exact hlU)
      rw [← h3, ← el] at h4
      omega
    omega

/-! ### Words -/

theorem wordR_up (d : Int) : ∀ t : List (List Int), wordR (upT d t) = (wordR t).map (· + d)
  | [] => rfl
  | r :: t => by
    show wordR (upT d t) ++ r.map (· + d) = (wordR t ++ r).map (· + d)
    rw [List.map_append, wordR_up d t]
theorem ln_up (d : Int) (t : List (List Int)) (k : Nat) : ln (upT d t) k = ln t k := by
  unfold ln upT
  rw [List.getD_eq_getElem?_getD, List.getElem?_map, List.getD_eq_getElem?_getD]
  cases t[k]? <;> simp
theorem up_up (d e : Int) (t : List (List Int)) : upT d (upT e t) = upT (e + d) t := by
  unfold upT
  rw [List.map_map]
  refine List.map_congr_left fun r _ => ?_
  simp only [Function.comp, List.map_map]
  refine List.map_congr_left fun x _ => ?_
  simp only [Function.comp]
  omega
theorem up_zero (t : List (List Int)) : upT 0 t = t := by
  unfold upT
  have : (fun r : List Int => r.map (· + 0)) = id := by
    funext r
    simp
  rw [this, List.map_id]
theorem rc_down (n : Int) (w : List Int) : rc n (w.map (· + -1)) = (rc n w).map (· + 1) := by
  unfold rc
  rw [← List.map_reverse, List.map_map, List.map_map]
  refine List.map_congr_left fun x _ => ?_
  simp only [Function.comp]
  omega
theorem wordR_qStep {V : List (List Int)} {n : Int} : ∀ {i : Nat}, i ≤ V.length → (∀ x ∈ wordR V, x < n) → (wordR (qStep V i n)).filter (fun x => decide (x ≤ n - 1)) = wordR V ∧ (wordR (qStep V i n)).Perm (n :: wordR V) := by
  induction V with
  | nil =>
    intro i hi _
    obtain rfl : i = 0 := by simpa using hi
    refine ⟨?_, .refl _⟩
    show [n].filter _ = []
    rw [List.filter_cons, if_neg (by simp; omega)]
    rfl
  | cons r V ih =>
    intro i hi hn
    have hr : ∀ x ∈ r, x < n := fun x hx => hn x (List.mem_append_right _ hx)
    have hV : ∀ x ∈ wordR V, x < n := fun x hx => hn x (List.mem_append_left _ hx)
    have fr : r.filter (fun x => decide (x ≤ n - 1)) = r := List.filter_eq_self.2 fun x hx => decide_eq_true (by have := hr x hx; omega)
    have fV : (wordR V).filter (fun x => decide (x ≤ n - 1)) = wordR V := List.filter_eq_self.2 fun x hx => decide_eq_true (by have := hV x hx; omega)
    cases i with
    | zero =>
      have e : qStep (r :: V) 0 n = (r ++ [n]) :: V := by
        unfold qStep
        rw [if_neg (by simp)]
        rfl
      rw [e]
      refine ⟨?_, ?_⟩
      · show (wordR V ++ (r ++ [n])).filter _ = wordR V ++ r
        rw [List.filter_append, List.filter_append, fr, fV, List.filter_cons, if_neg (by simp; omega)]
        simp
      · show (wordR V ++ (r ++ [n])).Perm (n :: (wordR V ++ r))
        rw [← List.append_assoc]
        exact List.perm_append_comm
    | succ i =>
      have e : qStep (r :: V) (i + 1) n = r :: qStep V i n := by
        unfold qStep
        by_cases h : i = V.length
        · rw [if_pos h, if_pos (by simp [h])]
          rfl
        · rw [if_neg h, if_neg (by simp [h])]
          rfl
      obtain ⟨i1, i2⟩ := ih (i := i) (by simpa using hi) hV
      rw [e]
      refine ⟨?_, ?_⟩
      · show (wordR (qStep V i n) ++ r).filter _ = wordR V ++ r
        rw [List.filter_append, i1, fr]
      · show (wordR (qStep V i n) ++ r).Perm (n :: (wordR V ++ r))
        exact i2.append_right r

end Fer
