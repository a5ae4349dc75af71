import Derived.Test.YtijifdbiamaboaaFerOf
/- Plain facts: a tableau's shape by its word's families (Greene). No program in sight. -/
set_option maxHeartbeats 1000000
namespace Fer

/-! ### Every word's tableau is one -/

theorem abv_nil (r : List Int) : Abv r [] := by cases r <;> trivial
theorem abv_less {x : Int} : ∀ {r s : List Int}, Abv r s → Abv (rinR r x) s
  | r, [], _ => abv_nil _
  | [], _ :: _, h => h.elim
  | a :: r, c :: s, ⟨h1, h2⟩ => by
    by_cases hx : x < a
    · rw [rinR_lt r hx]
      exact ⟨by omega, h2⟩
    · rw [rinR_ge r (by omega)]
      exact ⟨h1, abv_less h2⟩
theorem rin_head {x : Int} : ∀ {r : List Int}, Srt r → ∃ q r', rinR r x = q :: r' ∧ q ≤ x
  | [], _ => ⟨x, [], rfl, Int.le_refl _⟩
  | a :: r, h => by
    by_cases hx : x < a
    · exact ⟨x, r, rinR_lt r hx, Int.le_refl _⟩
    · exact ⟨a, _, rinR_ge r (by omega), by omega⟩
theorem abv_rin {x b : Int} : ∀ {r s : List Int}, Srt r → Abv r s → rinO r x = [b] → Abv (rinR r x) (rinR s b)
  | [], _, _, _, h => by simp [rinO] at h
  | a :: r, [], hs, _, h => by
    obtain ⟨q, r', e, hq⟩ := rin_head (x := x) hs
    have hb : x < b := by
      rcases rin_len (r := a :: r) (x := x) with e | ⟨b', e, _, hb⟩
      · rw [h] at e; cases e
      · rw [h] at e
        obtain rfl : b = b' := by simpa using e
        exact hb
    rw [e]
    exact ⟨by omega, abv_nil _⟩
  | a :: r, c :: s, hs, ⟨h1, h2⟩, h => by
    obtain ⟨g1, g2⟩ := srt_cons.1 hs
    by_cases hx : x < a
    · rw [rinO_lt r hx] at h
      obtain rfl : a = b := by simpa using h
      rw [rinR_lt r hx, rinR_lt s h1]
      exact ⟨hx, h2⟩
    · rw [rinO_ge r (by omega)] at h
      rw [rinR_ge r (by omega)]
      have hb : a < b := by
        rcases rin_len (r := r) (x := x) with e | ⟨b', e, _, hb⟩
        · rw [h] at e; cases e
        · rw [h] at e
          obtain rfl : b = b' := by simpa using e
          omega
      by_cases hc : b < c
      · rw [rinR_lt s hc]
        exact ⟨hb, abv_less h2⟩
      · rw [rinR_ge s (by omega)]
        exact ⟨h1, abv_rin g2 h2 h⟩
theorem rin_ne (r : List Int) (x : Int) : rinR r x ≠ [] := by
  cases r with
  | nil => exact List.cons_ne_nil _ _
  | cons a r =>
    by_cases hx : x < a
    · rw [rinR_lt r hx]; exact List.cons_ne_nil _ _
    · rw [rinR_ge r (by omega)]; exact List.cons_ne_nil _ _
theorem into_first {t : List (List Int)} (x : Int) : (intoL t x).getD 0 [] = rinR (t.getD 0 []) x := by
  cases t with
  | nil => rfl
  | cons r t => rw [into_rin]; rfl
theorem tabS_into {x : Int} : ∀ {t : List (List Int)}, TabS t → TabS (intoL t x)
  | [], _ => ⟨List.cons_ne_nil _ _, List.pairwise_singleton _ _, abv_nil _, trivial⟩
  | r :: t, ⟨h1, h2, h3, h4⟩ => by
    rw [into_rin]
    rcases rin_len (r := r) (x := x) with e | ⟨b, e, _⟩
    · rw [e]
      exact ⟨rin_ne r x, srt_rin h2, abv_less h3, h4⟩
    · rw [e]
      refine ⟨rin_ne r x, srt_rin h2, ?_, tabS_into h4⟩
      show Abv (rinR r x) ((intoL t b).getD 0 [])
      rw [into_first]
      exact abv_rin h2 h3 e
theorem tabS_intoW : ∀ (w : List Int) {t : List (List Int)}, TabS t → TabS (intoW t w)
  | [], _, h => h
  | _ :: w, _, h => tabS_intoW w (tabS_into h)
theorem tabS_P (w : List Int) : TabS (intoW [] w) := tabS_intoW w trivial
theorem kn_P (w : List Int) : KN (wordR (intoW [] w)) w := kn_word w (t := []) (by simp)

/-! ### Rows in colours -/

def colT (k : Nat) : Nat → List (List Int) → CW
  | _, [] => []
  | i, r :: t => colT k (i + 1) t ++ r.map fun x => (x, if i < k then i + 1 else 0)
theorem colT_fst (k : Nat) : ∀ (t : List (List Int)) (i : Nat), (colT k i t).map (·.1) = wordR t
  | [], _ => rfl
  | r :: t, i => by
    show (colT k (i + 1) t ++ _).map (·.1) = wordR t ++ r
    rw [List.map_append, colT_fst k t (i + 1), List.map_map]
    congr 1
    exact List.map_id _
theorem colT_le (k : Nat) : ∀ (t : List (List Int)) (i : Nat), ∀ x ∈ colT k i t, x.2 ≤ k
  | [], _, x, h => by cases h
  | r :: t, i, x, h => by
    rcases List.mem_append.1 h with h | h
    · exact colT_le k t (i + 1) x h
    · obtain ⟨y, _, rfl⟩ := List.mem_map.1 h
      simp only
      split <;> omega
theorem cls_const {c e : Nat} : ∀ r : List Int, cls c (r.map fun x => (x, e)) = if e = c then r else []
  | [] => by simp [cls]
  | a :: r => by
    rw [List.map_cons]
    by_cases h : e = c
    · rw [cls_cons_eq _ _ h, cls_const r, if_pos h, if_pos h]
    · rw [cls_cons_ne _ _ h, cls_const r, if_neg h, if_neg h]
theorem colT_low (k : Nat) {c : Nat} (hc : 0 < c) : ∀ (t : List (List Int)) (i : Nat), c ≤ i → cls c (colT k i t) = []
  | [], _, _ => rfl
  | r :: t, i, h => by
    show cls c (colT k (i + 1) t ++ _) = []
    rw [cls_app, colT_low k hc t (i + 1) (by omega), cls_const, if_neg (by split <;> omega)]
    rfl
theorem colT_srt (k : Nat) {c : Nat} (hc : 0 < c) : ∀ {t : List (List Int)} (i : Nat), (∀ r ∈ t, Srt r) → Srt (cls c (colT k i t))
  | [], _, _ => List.Pairwise.nil
  | r :: t, i, h => by
    have hr := h r (List.mem_cons_self ..)
    have ht : ∀ r ∈ t, Srt r := fun q hq => h q (List.mem_cons_of_mem _ hq)
    show Srt (cls c (colT k (i + 1) t ++ _))
    rw [cls_app, cls_const]
    by_cases e : c = i + 1
    · rw [colT_low k hc t (i + 1) (by omega), List.nil_append]
      by_cases hq : (if i < k then i + 1 else 0) = c
      · rw [if_pos hq]; exact hr
      · rw [if_neg hq]; exact List.Pairwise.nil
    · rw [if_neg (by split <;> omega), List.append_nil]
      exact colT_srt k hc (i + 1) ht
theorem cnum_const (e : Nat) : ∀ r : List Int, cnum (r.map fun x => (x, e)) = if 0 < e then r.length else 0
  | [] => by simp [cnum]
  | a :: r => by
    rw [List.map_cons, cnum_cons, cnum_const e r]
    split <;> simp
theorem colT_num (k : Nat) : ∀ (t : List (List Int)) (i : Nat), cnum (colT k i t) = (t.take (k - i)).flatten.length
  | [], i => by simp [colT, cnum]
  | r :: t, i => by
    show cnum (colT k (i + 1) t ++ _) = _
    rw [cnum_app, colT_num k t (i + 1), cnum_const]
    by_cases h : i < k
    · rw [if_pos h, if_pos (by omega), show k - i = (k - (i + 1)) + 1 by omega, List.take_succ_cons, List.flatten_cons, List.length_append]
      omega
    · rw [if_neg h, if_neg (by omega), show k - i = 0 by omega, show k - (i + 1) = 0 by omega, List.take_zero, List.take_zero]
      rfl
theorem tabS_rows : ∀ {t : List (List Int)}, TabS t → ∀ r ∈ t, Srt r
  | _ :: _, ⟨_, h2, _, h4⟩, q, hq => by
    rcases List.mem_cons.1 hq with rfl | hq
    · exact h2
    · exact tabS_rows h4 q hq
theorem fam_rows {t : List (List Int)} (h : TabS t) (k : Nat) : Fam k (wordR t) (t.take k).flatten.length :=
  ⟨colT k 0 t, colT_fst k t 0, colT_le k t 0, fun _ hc => colT_srt k hc 0 (tabS_rows h), colT_num k t 0⟩

/-! ### No more -/

def wc : List CW → CW
  | [] => []
  | r :: V => wc V ++ r
def hdC (V : List CW) : CW := V.flatMap fun r => r.take 1
def tlC (V : List CW) : List CW := V.map fun r => r.drop 1
theorem wc_split : ∀ {t : List (List Int)} {v : CW}, v.map (·.1) = wordR t → ∃ V : List CW, wc V = v ∧ V.map (fun r => r.map (·.1)) = t
  | [], v, h => ⟨[], by have : v = [] := by simpa [wordR] using h
                        rw [this]; rfl, rfl⟩
  | r :: t, v, h => by
    obtain ⟨a, b, rfl, h1, h2⟩ := List.map_eq_append_iff.1 (show v.map (·.1) = wordR t ++ r from h)
    obtain ⟨V, h3, h4⟩ := wc_split h1
    exact ⟨b :: V, by show wc V ++ b = _; rw [h3], by rw [List.map_cons, h2, h4]⟩
theorem wc_num : ∀ V : List CW, cnum (wc V) = cnum (hdC V) + cnum (wc (tlC V))
  | [] => rfl
  | r :: V => by
    show cnum (wc V ++ r) = cnum (r.take 1 ++ hdC V) + cnum (wc (tlC V) ++ r.drop 1)
    rw [cnum_app, cnum_app, cnum_app, wc_num V]
    have : cnum r = cnum (r.take 1) + cnum (r.drop 1) := by rw [← cnum_app, List.take_append_drop]
    omega
theorem wc_tl_sub : ∀ V : List CW, (wc (tlC V)).Sublist (wc V)
  | [] => List.Sublist.slnil
  | r :: V => List.Sublist.append (wc_tl_sub V) (List.drop_sublist 1 r)
theorem hd_mem {x : Int × Nat} : ∀ {V : List CW}, x ∈ hdC V → x ∈ wc V
  | r :: V, h => by
    rcases List.mem_append.1 (show x ∈ r.take 1 ++ hdC V from h) with h | h
    · exact List.mem_append_right _ (List.mem_of_mem_take h)
    · exact List.mem_append_left _ (hd_mem h)
theorem cls_mem {c : Nat} {x : Int × Nat} {v : CW} (h : x ∈ v) (hc : x.2 = c) : x.1 ∈ cls c v :=
  List.mem_map.2 ⟨x, List.mem_filter.2 ⟨h, by simpa using hc⟩, rfl⟩
theorem abv_head {r s : CW} {x y : Int × Nat} (h : Abv (r.map (·.1)) (s.map (·.1))) (hx : x ∈ r.take 1) (hy : y ∈ s.take 1) : x.1 < y.1 := by
  match r, s, h, hx, hy with
  | a :: r, b :: s, h, hx, hy =>
    simp only [List.take_succ_cons, List.take_zero, List.mem_singleton] at hx hy
    subst hx hy
    exact h.1
  | [], _, _, hx, _ => simp at hx
  | _ :: _, [], _, _, hy => simp at hy
theorem hd_abv {r : CW} {x y : Int × Nat} : ∀ {V : List CW}, (∀ s ∈ V, Abv (r.map (·.1)) (s.map (·.1))) → x ∈ r.take 1 → y ∈ hdC V → x.1 < y.1
  | s :: V, h, hx, hy => by
    rcases List.mem_append.1 (show y ∈ s.take 1 ++ hdC V from hy) with hy | hy
    · exact abv_head (h s (List.mem_cons_self ..)) hx hy
    · exact hd_abv (fun q hq => h q (List.mem_cons_of_mem _ hq)) hx hy
theorem hd_colours : ∀ {V : List CW}, V.Pairwise (fun r s => Abv (r.map (·.1)) (s.map (·.1))) → (∀ c, 0 < c → Srt (cls c (wc V))) → (hdC V).Pairwise fun x y => 0 < x.2 → x.2 ≠ y.2
  | [], _, _ => List.Pairwise.nil
  | r :: V, h, hc => by
    obtain ⟨h1, h2⟩ := List.pairwise_cons.1 h
    have hc' : ∀ c, 0 < c → Srt (cls c (wc V)) := fun c h0 => by
      have := hc c h0
      rw [show wc (r :: V) = wc V ++ r from rfl, cls_app] at this
      exact (srt_app.1 this).1
    refine List.pairwise_append.2 ⟨?_, hd_colours h2 hc', fun x hx y hy h0 e => ?_⟩
    · match r with
      | [] => exact List.Pairwise.nil
      | a :: r => exact List.pairwise_singleton _ _
    · have g1 := hd_abv h1 hx hy
      have := hc x.2 h0
      rw [show wc (r :: V) = wc V ++ r from rfl, cls_app] at this
      have g2 := (srt_app.1 this).2.2 y.1 (cls_mem (hd_mem hy) e.symm) x.1 (cls_mem (List.mem_of_mem_take hx) rfl)
      omega
theorem few_colours : ∀ (k : Nat) (h : CW), (∀ x ∈ h, x.2 ≤ k) → h.Pairwise (fun x y => 0 < x.2 → x.2 ≠ y.2) → cnum h ≤ k
  | 0, h, h1, _ => by
    have : cnum h = 0 := by
      unfold cnum
      rw [List.countP_eq_zero]
      intro x hx
      have := h1 x hx
      simp; omega
    omega
  | k + 1, h, h1, h2 => by
    have key : ∀ h : CW, (∀ x ∈ h, x.2 ≤ k + 1) → h.Pairwise (fun x y => 0 < x.2 → x.2 ≠ y.2) → cnum h ≤ cnum (h.filter fun x => decide (x.2 ≤ k)) + 1 ∧ ((∀ x ∈ h, x.2 ≠ k + 1) → cnum h = cnum (h.filter fun x => decide (x.2 ≤ k))) := by
      intro h
      induction h with
      | nil => intro _ _; exact ⟨Nat.zero_le _, fun _ => rfl⟩
      | cons a h ih =>
        intro h1 h2
        obtain ⟨g1, g2⟩ := List.pairwise_cons.1 h2
        obtain ⟨i1, i2⟩ := ih (fun x hx => h1 x (List.mem_cons_of_mem _ hx)) g2
        have ha := h1 a (List.mem_cons_self ..)
        obtain ⟨x, e⟩ := a
        simp only at ha
        by_cases he : e ≤ k
        · rw [List.filter_cons, if_pos (by simpa using he), cnum_cons, cnum_cons]
          refine ⟨by omega, fun hx => ?_⟩
          rw [i2 fun y hy => hx y (List.mem_cons_of_mem _ hy)]
        · have e1 : e = k + 1 := by omega
          rw [List.filter_cons, if_neg (by simpa using he), cnum_cons, if_pos (by omega)]
          refine ⟨?_, fun hx => absurd e1 (hx (x, e) (List.mem_cons_self ..))⟩
          rw [i2 fun y hy => by have := g1 y hy (by simp only; omega); simp only at this; omega]
          omega
    obtain ⟨i1, _⟩ := key h h1 h2
    have := few_colours k (h.filter fun x => decide (x.2 ≤ k)) (fun x hx => by simpa using (List.mem_filter.1 hx).2) (List.Pairwise.sublist List.filter_sublist h2)
    omega
theorem abv_len : ∀ {r s : List Int}, Abv r s → s.length ≤ r.length
  | _, [], _ => Nat.zero_le _
  | [], _ :: _, h => h.elim
  | _ :: _, _ :: _, h => Nat.succ_le_succ (abv_len h.2)
theorem abv_tail {r s : List Int} (h : Abv r s) : Abv (r.drop 1) (s.drop 1) := by
  match r, s, h with
  | _, [], _ => exact abv_nil _
  | [], _ :: _, h => exact h.elim
  | _ :: _, _ :: _, h => exact h.2
theorem hd_len (k : Nat) : ∀ {V : List CW}, V.Pairwise (fun r s => Abv (r.map (·.1)) (s.map (·.1))) → (hdC (V.take k)).length = min k (hdC V).length := by
  intro V
  induction V generalizing k with
  | nil => intro _; simp [hdC]
  | cons r V ih =>
    intro h
    obtain ⟨h1, h2⟩ := List.pairwise_cons.1 h
    cases k with
    | zero => simp [hdC]
    | succ k =>
      have e1 : hdC ((r :: V).take (k + 1)) = r.take 1 ++ hdC (V.take k) := rfl
      have e2 : hdC (r :: V) = r.take 1 ++ hdC V := rfl
      rw [e1, e2, List.length_append, List.length_append, ih k h2]
      cases r with
      | nil =>
        have : hdC V = [] := by
          unfold hdC
          rw [List.flatMap_eq_nil_iff]
          intro s hs
          have := abv_len (h1 s hs)
          have : s = [] := List.eq_nil_of_length_eq_zero (by simpa using this)
          rw [this]; rfl
        rw [this]
        simp
      | cons a r =>
        simp only [List.take_succ_cons, List.take_zero, List.length_singleton]
        omega
theorem flat_hd : ∀ V : List CW, V.flatten.length = (hdC V).length + (tlC V).flatten.length
  | [] => rfl
  | r :: V => by
    have := flat_hd V
    show (r ++ V.flatten).length = (r.take 1 ++ hdC V).length + (r.drop 1 ++ (tlC V).flatten).length
    simp only [List.length_append, List.length_take, List.length_drop]
    omega
theorem wc_empty : ∀ {V : List CW}, (∀ r ∈ V, r.length ≤ 0) → wc V = []
  | [], _ => rfl
  | r :: V, h => by
    show wc V ++ r = []
    rw [wc_empty fun q hq => h q (List.mem_cons_of_mem _ hq), List.eq_nil_of_length_eq_zero (Nat.le_zero.1 (h r (List.mem_cons_self ..)))]
    rfl
theorem len_sum : ∀ {V : List CW} {r : CW}, r ∈ V → r.length ≤ (V.map List.length).sum
  | q :: V, r, h => by
    rw [List.map_cons, List.sum_cons]
    rcases List.mem_cons.1 h with rfl | h
    · omega
    · have := len_sum h; omega
theorem flat_fst : ∀ U : List CW, U.flatten.length = (U.map fun r => r.map (·.1)).flatten.length
  | [] => rfl
  | r :: U => by simp only [List.flatten_cons, List.map_cons, List.length_append, List.length_map, flat_fst U]
theorem greene_up (k : Nat) : ∀ (L : Nat) (V : List CW), (∀ r ∈ V, r.length ≤ L) → V.Pairwise (fun r s => Abv (r.map (·.1)) (s.map (·.1))) → (∀ x ∈ wc V, x.2 ≤ k) → (∀ c, 0 < c → Srt (cls c (wc V))) → cnum (wc V) ≤ (V.take k).flatten.length
  | 0, V, h1, _, _, _ => by
    have := wc_empty h1
    rw [this]
    exact Nat.zero_le _
  | L + 1, V, h1, h2, h3, h4 => by
    have i1 := greene_up k L (tlC V) (fun r hr => by
      obtain ⟨q, hq, rfl⟩ := List.mem_map.1 hr
      have := h1 q hq
      rw [List.length_drop]
      omega) (List.pairwise_map.2 (h2.imp fun h => by rw [List.map_drop, List.map_drop]; exact abv_tail h)) (fun x hx => h3 x ((wc_tl_sub V).subset hx)) fun c hc => List.Pairwise.sublist (List.Sublist.map _ (List.Sublist.filter _ (wc_tl_sub V))) (h4 c hc)
    have i2 := few_colours k (hdC V) (fun x hx => h3 x (hd_mem hx)) (hd_colours h2 h4)
    have i3 : cnum (hdC V) ≤ (hdC V).length := List.countP_le_length
    have i4 := hd_len k h2
    have i5 := flat_hd (V.take k)
    have i6 : tlC (V.take k) = (tlC V).take k := List.map_take ..
    rw [i6] at i5
    rw [wc_num]
    omega
theorem abv_trans : ∀ {r s q : List Int}, Abv r s → Abv s q → Abv r q
  | _, _, [], _, _ => abv_nil _
  | _, [], _ :: _, _, h => h.elim
  | [], _ :: _, _ :: _, h, _ => h.elim
  | _ :: _, _ :: _, _ :: _, h, h' => ⟨Int.lt_trans h.1 h'.1, abv_trans h.2 h'.2⟩
theorem tabS_cols : ∀ {t : List (List Int)}, TabS t → t.Pairwise Abv
  | [], _ => List.Pairwise.nil
  | [r], _ => List.pairwise_singleton _ _
  | r :: s :: t, ⟨_, _, h3, h4⟩ => by
    have ih := tabS_cols h4
    refine List.pairwise_cons.2 ⟨fun q hq => ?_, ih⟩
    rcases List.mem_cons.1 hq with rfl | hq
    · exact h3
    · exact abv_trans h3 ((List.pairwise_cons.1 ih).1 q hq)
theorem fam_le {t : List (List Int)} (h : TabS t) {k m : Nat} (hf : Fam k (wordR t) m) : m ≤ (t.take k).flatten.length := by
  obtain ⟨v, h1, h2, h3, rfl⟩ := hf
  obtain ⟨V, rfl, hV⟩ := wc_split h1
  have hp : V.Pairwise (fun r s => Abv (r.map (·.1)) (s.map (·.1))) := by
    have := tabS_cols h
    rw [← hV] at this
    exact List.pairwise_map.1 this
  have := greene_up k (V.map List.length).sum V (fun r hr => len_sum hr) hp h2 h3
  have e : (V.take k).flatten.length = (t.take k).flatten.length := by
    rw [← hV, ← List.map_take]
    exact flat_fst _
  omega
/-- Words with the same families have tableaux of one shape. -/
theorem shape_of {t u : List (List Int)} (ht : TabS t) (hu : TabS u) (h : ∀ k m, Fam k (wordR t) m ↔ Fam k (wordR u) m) (i : Nat) : ln t i = ln u i := by
  have key : ∀ k, (t.take k).flatten.length = (u.take k).flatten.length := fun k =>
    Nat.le_antisymm (fam_le hu ((h k _).1 (fam_rows ht k))) (fam_le ht ((h k _).2 (fam_rows hu k)))
  have hs : ∀ (t : List (List Int)) k, (t.take (k + 1)).flatten.length = (t.take k).flatten.length + ln t k := fun t k => by
    by_cases e : k < t.length
    · exact flatten_take_succ e
    · rw [ln_out (by omega), List.take_of_length_le (by omega), List.take_of_length_le (by omega)]
      rfl
  have h1 := hs t i
  have h2 := hs u i
  have h3 := key i
  have h4 := key (i + 1)
  omega

end Fer
