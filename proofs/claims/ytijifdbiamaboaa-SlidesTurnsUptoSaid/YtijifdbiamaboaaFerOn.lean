import Derived.Test.YtijifdbiamaboaaFerOm
/- Plain facts: promotion undone. No program in sight. -/
set_option maxHeartbeats 1000000
namespace Fer

theorem row_upT (d : Int) (s : List (List Int)) (k : Nat) : (upT d s).getD k [] = (s.getD k []).map (· + d) := by
  unfold upT
  rw [List.getD_eq_getElem?_getD, List.getElem?_map, List.getD_eq_getElem?_getD]
  cases s[k]? <;> simp
theorem vl_upT {d : Int} {s : List (List Int)} {k l : Nat} (h : l < ln s k) : vl (upT d s) k l = vl s k l + d := by
  unfold vl
  rw [row_upT]
  have h' : l < (s.getD k []).length := h
  rw [List.getD_eq_getElem?_getD (l := (s.getD k []).map (· + d)), List.getElem?_map, List.getElem?_eq_getElem h', List.getD_eq_getElem?_getD (l := s.getD k []), List.getElem?_eq_getElem h']
  rfl
theorem upT_len (d : Int) (s : List (List Int)) : (upT d s).length = s.length := List.length_map _
theorem upT_set (d : Int) (s : List (List Int)) (i j : Nat) (b : Int) : upT d (s.set i ((s.getD i []).set j b)) = (upT d s).set i (((upT d s).getD i []).set j (b + d)) := by
  rw [row_upT]
  unfold upT
  rw [List.map_set, List.map_set]
theorem upT_slC (d : Int) (s : List (List Int)) (i j : Nat) : slC (upT d s) i j = upT d (slC s i j) := by
  unfold slC
  split
  · unfold upT; rw [List.map_take]
  · rw [row_upT]
    unfold upT
    rw [List.map_set, List.map_take]
/-- A slide among letters that are one more. -/
theorem slN_upT : ∀ (f : Nat) {s : List (List Int)} {i j : Nat}, Sk s z0 i j → i < s.length → j < ln s i → slN f (upT 1 s) i j = (upT 1 (slN f s i j).1, (slN f s i j).2)
  | 0, _, _, _, _, _, _ => rfl
  | f + 1, s, i, j, h, hi, hj => by
    have hd := h.dec i
    have hb : vl (upT 1 s) (i + 1) j = if j < ln s (i + 1) then vl s (i + 1) j + 1 else 0 := by
      split
      · rename_i e; exact vl_upT e
      · exact vl_out (by rw [ln_up]; omega)
    have hr : vl (upT 1 s) i (j + 1) = if j + 1 < ln s i then vl s i (j + 1) + 1 else 0 := by
      split
      · rename_i e; exact vl_upT e
      · exact vl_out (by rw [ln_up]; omega)
    have hb1 : j < ln s (i + 1) → 1 ≤ vl s (i + 1) j := fun e => (h.lt (i + 1) j (Nat.zero_le _) e (by omega)).1
    have hr1 : j + 1 < ln s i → 1 ≤ vl s i (j + 1) := fun e => (h.lt i (j + 1) (Nat.zero_le _) e (by omega)).1
    have hb0 : ¬ j < ln s (i + 1) → vl s (i + 1) j = 0 := fun e => vl_out (by omega)
    have hr0 : ¬ j + 1 < ln s i → vl s i (j + 1) = 0 := fun e => vl_out (by omega)
    unfold slN
    by_cases c1 : 0 < vl s (i + 1) j ∧ (vl s i (j + 1) = 0 ∨ vl s (i + 1) j ≤ vl s i (j + 1))
    · have eb : j < ln s (i + 1) := by
        by_cases e : j < ln s (i + 1)
        · exact e
        · have := hb0 e; omega
      have c1' : 0 < vl (upT 1 s) (i + 1) j ∧ (vl (upT 1 s) i (j + 1) = 0 ∨ vl (upT 1 s) (i + 1) j ≤ vl (upT 1 s) i (j + 1)) := by
        rw [hb, hr, if_pos eb]
        by_cases e : j + 1 < ln s i
        · rw [if_pos e]; have := hr1 e; omega
        · rw [if_neg e]; omega
      rw [if_pos c1, if_pos c1', hb, if_pos eb, ← upT_set]
      obtain ⟨d1, d2⟩ := sk_down h hi hj (Nat.zero_le _) c1.1 c1.2
      have hi1 : i + 1 < s.length := by
        by_cases g : i + 1 < s.length
        · exact g
        · rw [ln_out (by omega)] at d1; omega
      exact slN_upT f d2 (by rw [List.length_set]; exact hi1) (by rw [ln_set2 hi]; exact d1)
    · have c1' : ¬ (0 < vl (upT 1 s) (i + 1) j ∧ (vl (upT 1 s) i (j + 1) = 0 ∨ vl (upT 1 s) (i + 1) j ≤ vl (upT 1 s) i (j + 1))) := by
        rw [hb, hr]
        by_cases e : j < ln s (i + 1)
        · have g1 := hb1 e
          rw [if_pos e]
          by_cases e' : j + 1 < ln s i
          · rw [if_pos e']; have := hr1 e'; omega
          · rw [if_neg e']; have := hr0 e'; omega
        · rw [if_neg e]; omega
      rw [if_neg c1, if_neg c1']
      by_cases c2 : 0 < vl s i (j + 1)
      · have er : j + 1 < ln s i := by
          by_cases e : j + 1 < ln s i
          · exact e
          · have := hr0 e; omega
        rw [if_pos c2, if_pos (by rw [hr, if_pos er]; omega), hr, if_pos er, ← upT_set]
        obtain ⟨d1, d2⟩ := sk_right h hi hj (Nat.zero_le _) c2 c1
        exact slN_upT f d2 (by rw [List.length_set]; exact hi) (by rw [ln_set2 hi]; exact d1)
      · have er : ¬ j + 1 < ln s i := fun e => by have := hr1 e; omega
        rw [if_neg c2, if_neg (by rw [hr, if_neg er]; omega), upT_slC]

noncomputable def demL (t : List (List Int)) : List (List Int) := evL (prL (evL t))
theorem rv_start {t : List (List Int)} (h : Stq t) {i0 j0 : Nat} (hi : i0 < t.length) (hj : ln t i0 = j0 + 1) (hn : vl t i0 j0 = (t.flatten.length : Int)) : Rv t i0 j0 t i0 j0 := by
  have hmax : ∀ k l, l < ln t k → vl t k l ≤ (t.flatten.length : Int) := fun k l hl => (h.std.rng _ ((wordR_perm t).mem_iff.2 (getD_row_mem hl))).2
  have hsl := sk_len h.sk h.fl
  have hl0 : ln t i0 ≤ ln t 0 := anti_le h.sk.dec (Nat.zero_le _)
  refine ⟨h.sk.hole _ _, rfl, fun _ => rfl, hi, by omega, fun k l k' l' a1 a2 _ _ e => cell_inj ((wordR_perm t).nodup_iff.1 h.std.nodup) k l k' l' a1 a2 e, fun k l a1 _ => by have := hmax k l a1; have := h.fl; omega, by omega, ?_⟩
  have hb : vl t (i0 + 1) j0 = 0 := by
    by_cases e : j0 < ln t (i0 + 1)
    · have hk : i0 + 1 < t.length := by
        by_cases g : i0 + 1 < t.length
        · exact g
        · rw [ln_out (by omega)] at e; omega
      have := (h.sk.ord i0 j0 (i0 + 1) j0 (by omega) (Nat.le_refl _) (Nat.zero_le _) e (by omega) (by omega)).2 (by omega)
      have := hmax (i0 + 1) j0 e
      omega
    · exact vl_out (by omega)
  have hr : vl t i0 (j0 + 1) = 0 := vl_out (by omega)
  rw [show 100 - (i0 + j0) = (100 - (i0 + j0) - 1) + 1 by omega]
  unfold slN
  rw [hb, hr, if_neg (by omega), if_neg (by omega)]
/-- What comes of it is the document's. -/
theorem rv_end {t s : List (List Int)} (h : Stq t) {i0 j0 : Nat} (hi : i0 < t.length) (hj : ln t i0 = j0 + 1) (hn : vl t i0 j0 = (t.flatten.length : Int)) (hR : Rv t i0 j0 s 0 0) : upT 1 (s.set 0 ((s.getD 0 []).set 0 0)) = demL t := by
  have hs0 : 0 < s.length := by rw [hR.len]; exact hR.hi
  have hj0 : 0 < ln s 0 := by rw [hR.lns]; exact hR.hj
  obtain ⟨D, hD⟩ : ∃ D, D = upT 1 (s.set 0 ((s.getD 0 []).set 0 0)) := ⟨_, rfl⟩
  rw [← hD]
  have hDln : ∀ k, ln D k = ln t k := fun k => by rw [hD, ln_up, ln_set2 hs0, hR.lns]
  have hDlen : D.length = t.length := by rw [hD, upT_len, List.length_set, hR.len]
  have hDv : ∀ k l, l < ln D k → vl D k l = if k = 0 ∧ l = 0 then 1 else vl s k l + 1 := fun k l hl => by
    rw [hDln] at hl
    rw [hD, vl_upT (by rw [ln_set2 hs0, hR.lns]; exact hl), vl_set hs0 hj0]
    split <;> rfl
  have hDD : Sk D z0 D.length 0 := by
    have hin : ∀ k l, l < ln D k → k < D.length := fun k l g => by
      by_cases e : k < D.length
      · exact e
      · rw [ln_out (by omega)] at g; omega
    refine ⟨fun k hk => by rw [hDln]; exact h.sk.pos k (by omega), fun k => by rw [hDln, hDln]; exact h.sk.dec k, fun _ => Nat.le_refl _, fun _ => Nat.zero_le _, fun k l hl => absurd hl (Nat.not_lt_zero l), fun k l _ hl _ => ?_, fun k l k' l' a1 a2 _ a4 _ _ => ?_⟩
    · rw [hDv k l hl]
      split
      · exact ⟨by omega, by omega⟩
      · rename_i c
        rw [hDln, ← hR.lns] at hl
        have h1 := (hR.sk.lt k l (Nat.zero_le _) hl c).1
        have h2 := hR.low k l (by rw [← hR.lns]; exact hl) c
        omega
    · have hl : l < ln D k := by
        rw [hDln] at a4 ⊢
        exact Nat.lt_of_le_of_lt a2 (Nat.lt_of_lt_of_le a4 (anti_le h.sk.dec a1))
      rw [hDv k l hl, hDv k' l' a4]
      rw [hDln, ← hR.lns] at a4 hl
      split
      · rename_i c
        split
        · exact ⟨Int.le_refl _, fun g => by omega⟩
        · rename_i c'
          have := (hR.sk.lt k' l' (Nat.zero_le _) a4 c').1
          exact ⟨by omega, fun _ => by omega⟩
      · rename_i c
        rw [if_neg (by omega)]
        have := hR.sk.ord k l k' l' a1 a2 (Nat.zero_le _) a4 c (by omega)
        exact ⟨by omega, fun g => by have := this.2 g; omega⟩
  have hDne : D ≠ [] := fun e => by rw [e] at hDlen; simp at hDlen; omega
  have hDfl : D.flatten.length = t.flatten.length :=
    Nat.le_antisymm (flat_rows (Nat.le_of_eq hDlen) fun k => Nat.le_of_eq (hDln k)) (flat_rows (Nat.le_of_eq hDlen.symm) fun k => Nat.le_of_eq (hDln k).symm)
  have hsl : slN 100 D 0 0 = (upT 1 (slC t i0 j0), i0, j0) := by
    have h1 := slN_upT 100 (s := s.set 0 ((s.getD 0 []).set 0 0)) (i := 0) (j := 0) (by
      refine ⟨fun k hk => by rw [ln_set2 hs0]; exact hR.sk.pos k (by simpa using hk), fun k => by rw [ln_set2 hs0, ln_set2 hs0]; exact hR.sk.dec k, fun _ => Nat.le_refl _, fun _ => Nat.zero_le _, fun k l hl => absurd hl (Nat.not_lt_zero l), fun k l _ hl c => ?_, fun k l k' l' a1 a2 a3 a4 c c' => ?_⟩
      · rw [ln_set2 hs0] at hl
        rw [vl_set hs0 hj0, if_neg c]
        exact hR.sk.lt k l (Nat.zero_le _) hl c
      · rw [ln_set2 hs0] at a4
        rw [vl_set hs0 hj0, vl_set hs0 hj0, if_neg c, if_neg c']
        exact hR.sk.ord k l k' l' a1 a2 a3 a4 c c') (by rw [List.length_set]; exact hs0) (by rw [ln_set2 hs0]; exact hj0)
    rw [hD, h1, slN_hole 99 hs0 hj0]
    have := hR.fwd
    rw [show 100 - (0 + 0) = 99 + 1 from rfl] at this
    rw [this]
  -- what is left of t below its greatest letter
  have hnd := (wordR_perm t).nodup_iff.1 h.std.nodup
  have hmax : ∀ k l, l < ln t k → vl t k l ≤ (t.flatten.length : Int) := fun k l hl => (h.std.rng _ ((wordR_perm t).mem_iff.2 (getD_row_mem hl))).2
  have hTt := sk_tabS h.sk
  have hi1 : ln t (i0 + 1) ≤ j0 := by
    refine Nat.le_of_not_lt fun e => ?_
    have hk : i0 + 1 < t.length := by
      by_cases g : i0 + 1 < t.length
      · exact g
      · rw [ln_out (by omega)] at e; omega
    have := (h.sk.ord i0 j0 (i0 + 1) j0 (by omega) (Nat.le_refl _) (Nat.zero_le _) e (by omega) (by omega)).2 (by omega)
    have := hmax (i0 + 1) j0 e
    omega
  obtain ⟨f1, f2, f3, f4, f5⟩ := slC_facts hi hj hi1 h.sk.dec h.sk.pos
  have hcl : ∀ k, cl t ((t.flatten.length : Int) - 1) k = if k = i0 then j0 else ln t k := fun k => by
    unfold cl
    split
    · rename_i e
      subst e
      refine lb_of (by have : (t.getD k []).length = j0 + 1 := hj; omega) (fun a ha => ?_) (.inr ?_)
      · have g1 := hmax k a (by omega)
        have : vl t k a ≠ (t.flatten.length : Int) := fun e => by
          have := cell_inj hnd k a k j0 (by omega) (by omega) (e.trans hn.symm)
          omega
        unfold vl at *
        omega
      · have : (t.getD k []).getD j0 0 = (t.flatten.length : Int) := hn
        omega
    · rename_i e
      refine lb_of (Nat.le_refl _) (fun a ha => ?_) (.inl rfl)
      have g1 := hmax k a ha
      have : vl t k a ≠ (t.flatten.length : Int) := fun e' => by
        have := cell_inj hnd k a i0 j0 ha (by omega) (e'.trans hn.symm)
        omega
      unfold vl at *
      omega
  have hlt : ∀ k, ln (tlo ((t.flatten.length : Int) - 1) t) k = ln (slC t i0 j0) k := fun k => by rw [ln_tlo hTt, hcl, f1]
  have hV : tlo ((t.flatten.length : Int) - 1) t = slC t i0 j0 := by
    refine rows_ext (len_of_ln (tabS_pos (tabS_tlo _ hTt)) f3 hlt) hlt fun k l hl => ?_
    rw [vl_tlo hTt hl, f2 k l (by rw [← hlt]; exact hl)]
  have hVi : i0 ≤ (slC t i0 j0).length := by
    unfold slC
    split
    · rw [List.length_take]; omega
    · rw [List.length_set]; omega
  have htop := top_off (n := (t.flatten.length : Int)) (i := i0) hTt (fun x hx => (h.std.rng x hx).2) (by rw [hV]; exact hVi) (fun k => by
    rw [hV, f1, f1, if_pos rfl]
    split
    · rename_i e; rw [e, hj]
    · rfl)
  rw [hV] at htop
  have hpr : prL D = t := by
    unfold prL
    rw [if_neg hDne, hsl, up_up, show (1 : Int) + -1 = 0 by omega, up_zero, hDfl]
    exact htop.symm
  -- D's letters
  have hlow : ∀ x ∈ wordR (slC t i0 j0), x < (t.flatten.length : Int) := fun x hx => by
    rw [← hV, word_tlo _ hTt] at hx
    have := of_decide_eq_true (List.mem_filter.1 hx).2
    omega
  have hw1 := (wordR_qStep hVi hlow).2
  rw [← htop] at hw1
  have hDT := sk_tabS hDD
  have hDstd : StdW t.flatten.length (wordR D) := by
    match D, hDne, hDT, hDD, hsl, hDv, hDln with
    | [] :: _, _, hT, _, _, _, _ => exact absurd rfl hT.1
    | (a :: r) :: u, _, hT, hDD, hsl, hDv, hDln =>
      have ha : a = 1 := by
        have := hDv 0 0 (Nat.zero_lt_succ _)
        rw [if_pos ⟨rfl, rfl⟩] at this
        exact this
      obtain ⟨o1, _⟩ := sl_out 100 (hDD.hole 0 0) (Nat.zero_lt_succ _) (show 0 < ln ((a :: r) :: u) 0 from Nat.zero_lt_succ _) (Nat.le_refl _) (by
        have h1 := sk_len h.sk h.fl
        have h2 := hDln 0
        omega)
      have hk := kn_perm o1.word
      rw [word_less, hsl] at hk
      have e : wordF (fun k => ((upT 1 (slC t i0 j0)).getD k []).drop (z0 k)) (upT 1 (slC t i0 j0)).length = wordR (upT 1 (slC t i0 j0)) := by
        rw [wordR_F]
        exact wordF_ext fun k _ => List.drop_zero
      have hk2 : (wordR u ++ r).Perm ((wordR (slC t i0 j0)).map (· + 1)) := by
        rw [← wordR_up, ← e]
        exact hk
      have hk3 : (wordR ((a :: r) :: u)).Perm (a :: (wordR (slC t i0 j0)).map (· + 1)) := by
        show (wordR u ++ a :: r).Perm _
        exact List.perm_middle.trans (hk2.cons a)
      rw [ha] at hk3
      have hn1 := hw1.nodup_iff.1 h.std.nodup
      obtain ⟨m1, m2⟩ := List.nodup_cons.1 hn1
      have hpos : ∀ x ∈ wordR (slC t i0 j0), 1 ≤ x := fun x hx => (h.std.rng x (hw1.mem_iff.2 (List.mem_cons_of_mem _ hx))).1
      have hNpos : 0 < t.flatten.length := by
        have := len_flat t h.sk.pos
        omega
      rw [ha]
      refine std_perm hk3.symm ⟨?_, fun x hx => ?_, fun x x1 x2 => ?_⟩
      · refine List.nodup_cons.2 ⟨fun hm => ?_, ?_⟩
        · obtain ⟨y, hy, e⟩ := List.mem_map.1 hm
          have := hpos y hy
          omega
        · refine List.pairwise_map.2 (List.Pairwise.imp (fun h => ?_) m2)
          omega
      · rcases List.mem_cons.1 hx with rfl | hx
        · omega
        · obtain ⟨y, hy, rfl⟩ := List.mem_map.1 hx
          have := hpos y hy
          have := hlow y hy
          omega
      · by_cases ex : x = 1
        · rw [ex]; exact List.mem_cons_self ..
        · refine List.mem_cons_of_mem _ (List.mem_map.2 ⟨x - 1, ?_, by omega⟩)
          have := hw1.mem_iff.1 (h.std.all (x - 1) (by omega) (by omega))
          rcases List.mem_cons.1 this with e | e
          · omega
          · exact e
    | [], hne, _, _, _, _, _ => exact absurd rfl hne
  have hDq : Stq D := ⟨hDD, by rw [hDfl]; exact h.fl, by rw [hDfl]; exact hDstd⟩
  unfold demL
  rw [← hpr, ev_pr hDq hDne, ev_ev hDq]

end Fer
