import Derived.Test.YtijifdbiamaboaaFerOh
/- Plain facts: slides into the first box; evacuation. No program in sight. -/
set_option maxHeartbeats 1000000
namespace Fer

abbrev z0 : Nat → Nat := fun _ => 0
theorem tab_sk {t : List (List Int)} (h : tabRows t) : Sk t z0 t.length 0 := by
  have hz : ∀ k, holN (t.getD k []) = 0 := fun k => by
    by_cases e : k < t.length
    · have h1 := (h k e).1
      have h2 := (h k e).2.2 0 h1
      refine holN_of (Nat.zero_le _) (fun l hl => absurd hl (Nat.not_lt_zero l)) (.inr ?_)
      have := h2.1.1
      omega
    · rw [List.getD_eq_getElem?_getD, List.getElem?_eq_none (by omega)]
      rfl
  have hs : skewRows t := fun i hi => by
    refine ⟨(h i hi).1, fun h0 => ⟨(h i hi).2.1 h0, ?_⟩, fun j _ hj => (h i hi).2.2 j hj⟩
    rw [hz i, hz (i - 1)]
    exact Nat.le_refl _
  have e : hsF t = z0 := funext fun k => hz k
  have := sk_of hs
  rwa [e] at this
theorem Sk.hole {s : List (List Int)} {hs : Nat → Nat} (h : Sk s hs s.length 0) (i j : Nat) : Sk s hs i j := by
  have hin : ∀ k l, l < ln s k → k < s.length := fun k l g => by
    by_cases e : k < s.length
    · exact e
    · rw [ln_out (by omega)] at g; omega
  refine ⟨h.pos, h.dec, h.hm, h.hl, h.zer, fun k l g1 g2 _ => h.lt k l g1 g2 (by have := hin k l g2; omega), fun k l k' l' g1 g2 g3 g4 _ _ => ?_⟩
  have := hin k' l' g4
  exact h.ord k l k' l' g1 g2 g3 g4 (by omega) (by omega)
theorem sk_tabS {t : List (List Int)} (h : Sk t z0 t.length 0) : TabS t := by
  have hin : ∀ k l, l < ln t k → k < t.length := fun k l g => by
    by_cases e : k < t.length
    · exact e
    · rw [ln_out (by omega)] at g; omega
  refine tabS_of h.pos (fun k => ?_) fun k => ?_
  · have := srt_drop (l := t.getD k []) (h := 0) fun a b _ h2 h3 => by
      have hk := hin k b h3
      exact (h.ord k a k b (Nat.le_refl _) h2 (Nat.zero_le _) h3 (by omega) (by omega)).1
    simpa using this
  · refine abv_of (h.dec k) fun l hl => ?_
    have hk := hin (k + 1) l hl
    exact (h.ord k l (k + 1) l (by omega) (Nat.le_refl _) (Nat.zero_le _) hl (by omega) (by omega)).2 (by omega)

/-- The box that goes. -/
theorem sl_cell {hs : Nat → Nat} : ∀ (f : Nat) {s : List (List Int)} {i j : Nat}, Sk s hs i j → i < s.length → j < ln s i → hs i ≤ j → s.length + ln s 0 < f + i + j →
    (∀ k, ln (slN f s i j).1 k = if k = (slN f s i j).2.1 then (slN f s i j).2.2 else ln s k) ∧ ln s (slN f s i j).2.1 = (slN f s i j).2.2 + 1
  | 0, s, i, j, h, hi, hj, hb, hf => by
    have := anti_le h.dec (Nat.zero_le i)
    omega
  | f + 1, s, i, j, h, hi, hj, hb, hf => by
    unfold slN
    by_cases c1 : 0 < vl s (i + 1) j ∧ (vl s i (j + 1) = 0 ∨ vl s (i + 1) j ≤ vl s i (j + 1))
    · rw [if_pos c1]
      obtain ⟨d1, d2⟩ := sk_down h hi hj hb c1.1 c1.2
      have hi1 : i + 1 < s.length := by
        by_cases g : i + 1 < s.length
        · exact g
        · rw [ln_out (by omega)] at d1; omega
      have hm1 := h.hm i
      obtain ⟨a1, a2⟩ := sl_cell f d2 (by rw [List.length_set]; exact hi1) (by rw [ln_set2 hi]; exact d1) (by omega) (by rw [List.length_set, ln_set2 hi]; omega)
      exact ⟨fun k => by rw [a1 k, ln_set2 hi], by rw [← a2, ln_set2 hi]⟩
    · rw [if_neg c1]
      by_cases c2 : 0 < vl s i (j + 1)
      · rw [if_pos c2]
        obtain ⟨d1, d2⟩ := sk_right h hi hj hb c2 c1
        obtain ⟨a1, a2⟩ := sl_cell f d2 (by rw [List.length_set]; exact hi) (by rw [ln_set2 hi]; exact d1) (by omega) (by rw [List.length_set, ln_set2 hi]; omega)
        exact ⟨fun k => by rw [a1 k, ln_set2 hi], by rw [← a2, ln_set2 hi]⟩
      · rw [if_neg c2]
        obtain ⟨e0, e1⟩ := sl_stop h hi hj hb c1 c2
        exact ⟨(slC_facts hi e0 e1 h.dec h.pos).1, e0⟩

theorem letsF_zero : ∀ {s : List (List Int)}, wordF (letsF s z0 0 0) s.length = wordF (fun k => if k = 0 then (s.getD 0 []).drop 1 else s.getD k []) s.length := fun {s} =>
  wordF_ext fun k _ => by
    unfold letsF
    by_cases e : k = 0
    · subst e
      rw [if_pos rfl, if_pos rfl, List.take_zero, List.drop_nil, List.nil_append]
    · rw [if_neg e, if_neg e, List.drop_zero]
theorem word_less {r : List Int} {t : List (List Int)} : wordF (letsF (r :: t) z0 0 0) (r :: t).length = wordR t ++ r.drop 1 := by
  rw [letsF_zero, show (r :: t).length = t.length + 1 from rfl, wordF_front, wordR_F]
  rfl
/-- A slide into the first box takes its letter out of the word. -/
theorem sl_first {a : Int} {r : List Int} {t : List (List Int)} (h : Sk ((a :: r) :: t) z0 ((a :: r) :: t).length 0) (hf : ((a :: r) :: t).flatten.length ≤ 40) (ha : ∀ x ∈ wordR t ++ r, a < x) :
    (slN 100 ((a :: r) :: t) 0 0).1 = intoW [] ((wordR ((a :: r) :: t)).filter fun x => decide (a < x)) ∧ Sk (slN 100 ((a :: r) :: t) 0 0).1 z0 (slN 100 ((a :: r) :: t) 0 0).1.length 0 ∧
    (∀ k, ln (slN 100 ((a :: r) :: t) 0 0).1 k = if k = (slN 100 ((a :: r) :: t) 0 0).2.1 then (slN 100 ((a :: r) :: t) 0 0).2.2 else ln ((a :: r) :: t) k) ∧ ln ((a :: r) :: t) (slN 100 ((a :: r) :: t) 0 0).2.1 = (slN 100 ((a :: r) :: t) 0 0).2.2 + 1 := by
  have h3 := sk_len h hf
  have hi : 0 < ((a :: r) :: t).length := Nat.zero_lt_succ _
  have hj : 0 < ln ((a :: r) :: t) 0 := Nat.zero_lt_succ _
  obtain ⟨o1, _⟩ := sl_out 100 (h.hole 0 0) hi hj (Nat.le_refl _) (by omega)
  obtain ⟨c1, c2⟩ := sl_cell 100 (h.hole 0 0) hi hj (Nat.le_refl _) (by omega)
  refine ⟨straight_ok o1.sk (fun _ => rfl) ?_, o1.sk, c1, c2⟩
  have e : (wordR ((a :: r) :: t)).filter (fun x => decide (a < x)) = wordR t ++ r := by
    show (wordR t ++ a :: r).filter _ = _
    rw [List.filter_append, List.filter_cons, if_neg (by simp), List.filter_eq_self.2 fun x hx => decide_eq_true (ha x (List.mem_append_left _ hx)), List.filter_eq_self.2 fun x hx => decide_eq_true (ha x (List.mem_append_right _ hx))]
  rw [e]
  have := o1.word
  rw [word_less] at this
  exact this

/-! ### Shapes of what is cut -/

theorem filter_lb {m : Int} : ∀ {r : List Int}, Srt r → (r.filter fun x => decide (x ≤ m)).length = lb r (m + 1)
  | [], _ => rfl
  | a :: r, h => by
    obtain ⟨h1, h2⟩ := srt_cons.1 h
    by_cases ha : a ≤ m
    · rw [List.filter_cons, if_pos (by simpa using ha)]
      unfold lb
      rw [List.takeWhile_cons, if_pos (by simp; omega)]
      exact congrArg (· + 1) (filter_lb h2)
    · have e : (a :: r).filter (fun x => decide (x ≤ m)) = [] := by
        rw [List.filter_eq_nil_iff]
        intro x hx
        rcases List.mem_cons.1 hx with rfl | hx
        · simpa using ha
        · have := h1 x hx
          simp; omega
      rw [e]
      unfold lb
      rw [List.takeWhile_cons, if_neg (by simp; omega)]
theorem low_none {m : Int} : ∀ {t : List (List Int)}, TabS t → (t.getD 0 []).filter (fun x => decide (x ≤ m)) = [] → ∀ k, (t.getD k []).filter (fun x => decide (x ≤ m)) = []
  | [], _, _, k => by simp
  | r :: t, ⟨_, h2, h3, h4⟩, h, 0 => h
  | r :: t, ⟨_, h2, h3, h4⟩, h, k + 1 => low_none h4 (abv_big h3 h2 h) k
theorem tlo_getD {m : Int} : ∀ {t : List (List Int)}, TabS t → ∀ k, (tlo m t).getD k [] = (t.getD k []).filter fun x => decide (x ≤ m)
  | [], _, k => by simp [tlo]
  | r :: t, h, k => by
    unfold tlo
    split
    · rename_i hr
      rw [low_none h hr k]
      simp
    · cases k with
      | zero => rfl
      | succ k => exact tlo_getD h.2.2.2 k
theorem tabS_srt {t : List (List Int)} (h : TabS t) (k : Nat) : Srt (t.getD k []) := by
  by_cases e : k < t.length
  · exact tabS_rows h _ (at_mem e)
  · rw [List.getD_eq_getElem?_getD, List.getElem?_eq_none (by omega)]
    exact List.Pairwise.nil
theorem ln_tlo {m : Int} {t : List (List Int)} (h : TabS t) (k : Nat) : ln (tlo m t) k = cl t m k := by
  unfold ln cl
  rw [tlo_getD h, filter_lb (tabS_srt h k)]
theorem rc_high (n : Int) (j : Int) (w : List Int) : rc n (w.filter fun x => decide (j < x)) = (rc n w).filter fun x => decide (x ≤ n - j) := by
  unfold rc
  rw [List.filter_map, List.filter_reverse]
  congr 2
  refine List.filter_congr fun x _ => ?_
  simp only [Function.comp]
  rw [decide_eq_decide]
  omega
theorem rc_low (n : Int) (j : Int) (w : List Int) : rc n (w.filter fun x => decide (x ≤ j)) = (rc n w).filter fun x => decide (n - j < x) := by
  unfold rc
  rw [List.filter_map, List.filter_reverse]
  congr 2
  refine List.filter_congr fun x _ => ?_
  simp only [Function.comp]
  rw [decide_eq_decide]
  omega
/-- How long the rows are when the letters up to j have gone. -/
theorem ev_len (n j : Int) (w : List Int) (k : Nat) : ln (intoW [] (w.filter fun x => decide (j < x))) k = cl (intoW [] (rc n w)) (n - j) k := by
  rw [← shape_rc n, rc_high, P_low, ln_tlo (tabS_P _)]
/-- The number that belongs at the box that goes. -/
theorem ev_cell {U : List (List Int)} {m : Int} {i j : Nat} (h1 : cl U m i = j + 1) (h2 : cl U (m - 1) i = j) : (U.getD i []).getD j 0 = m ∧ j < (U.getD i []).length := by
  unfold cl at h1 h2
  have g1 := lb_lt (r := U.getD i []) (x := m + 1) (j := j) (by omega)
  have g2 := lb_le (U.getD i []) (m + 1)
  have g3 := lb_ge (r := U.getD i []) (x := m - 1 + 1) (by omega)
  rw [h2] at g3
  omega

end Fer
