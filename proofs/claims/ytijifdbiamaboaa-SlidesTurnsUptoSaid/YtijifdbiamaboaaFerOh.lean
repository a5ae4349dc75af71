import Derived.Test.YtijifdbiamaboaaFerOg
/- Plain facts: a word from behind with its letters turned over; letters left out; letters moved up. No program in sight. -/
set_option maxHeartbeats 1000000
namespace Fer

/-! ### From behind, turned over -/

def rc (n : Int) (w : List Int) : List Int := w.reverse.map fun x => n + 1 - x
theorem rc_app (n : Int) (u v : List Int) : rc n (u ++ v) = rc n v ++ rc n u := by
  unfold rc
  rw [List.reverse_append, List.map_append]
theorem rc_rc (n : Int) (w : List Int) : rc n (rc n w) = w := by
  unfold rc
  rw [← List.map_reverse, List.reverse_reverse, List.map_map]
  have : ((fun x : Int => n + 1 - x) ∘ fun x => n + 1 - x) = id := by
    funext x
    simp only [Function.comp, id]
    omega
  rw [this, List.map_id]
theorem ke_rc (n : Int) {u v : List Int} (h : KE u v) : KE (rc n v) (rc n u) := by
  cases h with
  | @a x y z h1 h2 =>
    show KE [n + 1 - z, n + 1 - x, n + 1 - y] [n + 1 - x, n + 1 - z, n + 1 - y]
    exact .b (by omega) (by omega)
  | @b x y z h1 h2 =>
    show KE [n + 1 - y, n + 1 - x, n + 1 - z] [n + 1 - y, n + 1 - z, n + 1 - x]
    exact .a (by omega) (by omega)
theorem kn_rc (n : Int) {u v : List Int} (h : KN u v) : KN (rc n u) (rc n v) := by
  induction h with
  | refl w => exact .refl _
  | step p s h =>
    rw [rc_app, rc_app, rc_app, rc_app, ← List.append_assoc, ← List.append_assoc]
    exact (KN.step _ _ (ke_rc n h)).symm
  | symm _ ih => exact ih.symm
  | trans _ _ i1 i2 => exact i1.trans i2
theorem fam_rc1 (n : Int) {k m : Nat} {w : List Int} (h : Fam k w m) : Fam k (rc n w) m := by
  obtain ⟨v, rfl, h2, h3, h4⟩ := h
  refine ⟨v.reverse.map fun x => (n + 1 - x.1, x.2), ?_, fun x hx => ?_, fun c hc => ?_, ?_⟩
  · unfold rc
    rw [List.map_map, ← List.map_reverse, List.map_map]
    rfl
  · obtain ⟨y, hy, rfl⟩ := List.mem_map.1 hx
    exact h2 y (List.mem_reverse.1 hy)
  · have e : cls c (v.reverse.map fun x => (n + 1 - x.1, x.2)) = (cls c v).reverse.map fun x => n + 1 - x := by
      unfold cls
      rw [List.filter_map, List.map_map, ← List.map_reverse, ← List.filter_reverse, List.map_map]
      rfl
    rw [e]
    refine List.pairwise_map.2 (List.pairwise_reverse.2 ((h3 c hc).imp fun h => ?_))
    omega
  · rw [← h4]
    unfold cnum
    rw [List.countP_map, List.countP_reverse]
    rfl
theorem fam_rc (n : Int) (k m : Nat) (w : List Int) : Fam k w m ↔ Fam k (rc n w) m :=
  ⟨fam_rc1 n, fun h => by have := fam_rc1 n h; rwa [rc_rc] at this⟩
/-- The tableau of a word from behind, turned over, has the same shape. -/
theorem shape_rc (n : Int) (w : List Int) (i : Nat) : ln (intoW [] (rc n w)) i = ln (intoW [] w) i :=
  shape_of (tabS_P _) (tabS_P _) (fun k m => (fam_kn (kn_P _) k m).trans ((fam_rc n k m w).symm.trans (fam_kn (kn_P w) k m).symm)) i

/-! ### Letters left out -/

theorem kn_low (m : Int) {u v : List Int} (h : KN u v) : KN (u.filter fun x => decide (x ≤ m)) (v.filter fun x => decide (x ≤ m)) := by
  induction h with
  | refl w => exact .refl _
  | @step p s u v h =>
    simp only [List.filter_append]
    have key : KN (u.filter fun x => decide (x ≤ m)) (v.filter fun x => decide (x ≤ m)) := by
      cases h with
      | @a x y z h1 h2 =>
        by_cases g1 : z ≤ m
        · simp only [List.filter_cons, List.filter_nil, g1, show y ≤ m by omega, show x ≤ m by omega, decide_true, if_true]
          exact KN.of (.a h1 h2) []
        · simp only [List.filter_cons, List.filter_nil, g1, decide_false, Bool.false_eq_true, if_false]
          exact .refl _
      | @b x y z h1 h2 =>
        by_cases g1 : z ≤ m
        · simp only [List.filter_cons, List.filter_nil, g1, show y ≤ m by omega, show x ≤ m by omega, decide_true, if_true]
          exact KN.of (.b h1 h2) []
        · simp only [List.filter_cons, List.filter_nil, g1, decide_false, Bool.false_eq_true, if_false]
          exact .refl _
    exact key.app _ _
  | symm _ ih => exact ih.symm
  | trans _ _ i1 i2 => exact i1.trans i2
theorem kn_high (m : Int) {u v : List Int} (h : KN u v) : KN (u.filter fun x => decide (m < x)) (v.filter fun x => decide (m < x)) := by
  induction h with
  | refl w => exact .refl _
  | @step p s u v h =>
    simp only [List.filter_append]
    have key : KN (u.filter fun x => decide (m < x)) (v.filter fun x => decide (m < x)) := by
      cases h with
      | @a x y z h1 h2 =>
        by_cases g1 : m < x
        · simp only [List.filter_cons, List.filter_nil, g1, show m < y by omega, show m < z by omega, decide_true, if_true]
          exact KN.of (.a h1 h2) []
        · simp only [List.filter_cons, List.filter_nil, g1, decide_false, Bool.false_eq_true, if_false]
          exact .refl _
      | @b x y z h1 h2 =>
        by_cases g1 : m < x
        · simp only [List.filter_cons, List.filter_nil, g1, show m < y by omega, show m < z by omega, decide_true, if_true]
          exact KN.of (.b h1 h2) []
        · simp only [List.filter_cons, List.filter_nil, g1, decide_false, Bool.false_eq_true, if_false]
          exact .refl _
    exact key.app _ _
  | symm _ ih => exact ih.symm
  | trans _ _ i1 i2 => exact i1.trans i2
theorem kn_perm {u v : List Int} (h : KN u v) : u.Perm v := by
  induction h with
  | refl w => exact .refl _
  | step p s h =>
    refine List.Perm.append_right _ (List.Perm.append_left _ ?_)
    cases h with
    | a _ _ => exact (List.Perm.swap _ _ _).cons _
    | b _ _ => exact List.Perm.swap _ _ _
  | symm _ ih => exact ih.symm
  | trans _ _ i1 i2 => exact i1.trans i2

/-- A tableau's letters up to m. -/
def tlo (m : Int) : List (List Int) → List (List Int)
  | [] => []
  | r :: t => if r.filter (fun x => decide (x ≤ m)) = [] then [] else r.filter (fun x => decide (x ≤ m)) :: tlo m t
theorem abv_filter {m : Int} : ∀ {r s : List Int}, Srt r → Srt s → Abv r s → Abv (r.filter fun x => decide (x ≤ m)) (s.filter fun x => decide (x ≤ m))
  | r, [], _, _, _ => abv_nil _
  | [], _ :: _, _, _, h => h.elim
  | a :: r, b :: s, hr, hs, ⟨h1, h2⟩ => by
    obtain ⟨r1, r2⟩ := srt_cons.1 hr
    obtain ⟨s1, s2⟩ := srt_cons.1 hs
    by_cases hb : b ≤ m
    · rw [List.filter_cons, List.filter_cons, if_pos (by simpa using (show a ≤ m by omega)), if_pos (by simpa using hb)]
      exact ⟨h1, abv_filter r2 s2 h2⟩
    · have : (b :: s).filter (fun x => decide (x ≤ m)) = [] := by
        rw [List.filter_eq_nil_iff]
        intro x hx
        rcases List.mem_cons.1 hx with rfl | hx
        · simpa using hb
        · have := s1 x hx
          simp; omega
      rw [this]
      exact abv_nil _
theorem tlo_first (m : Int) : ∀ t : List (List Int), (tlo m t).getD 0 [] = (t.getD 0 []).filter fun x => decide (x ≤ m)
  | [] => rfl
  | r :: t => by
    unfold tlo
    split
    · rename_i h; rw [show (r :: t).getD 0 [] = r from rfl, h]; rfl
    · rfl
theorem tabS_tlo (m : Int) : ∀ {t : List (List Int)}, TabS t → TabS (tlo m t)
  | [], _ => trivial
  | r :: t, ⟨h1, h2, h3, h4⟩ => by
    unfold tlo
    split
    · trivial
    · rename_i h
      refine ⟨h, List.Pairwise.sublist List.filter_sublist h2, ?_, tabS_tlo m h4⟩
      rw [tlo_first]
      refine abv_filter h2 ?_ h3
      cases t with
      | nil => exact List.Pairwise.nil
      | cons s t => exact h4.2.1
theorem abv_big {m : Int} : ∀ {r s : List Int}, Abv r s → Srt r → r.filter (fun x => decide (x ≤ m)) = [] → s.filter (fun x => decide (x ≤ m)) = []
  | _, [], _, _, _ => rfl
  | [], _ :: _, h, _, _ => h.elim
  | a :: r, b :: s, ⟨h1, h2⟩, hr, h => by
    obtain ⟨r1, r2⟩ := srt_cons.1 hr
    rw [List.filter_cons] at h ⊢
    split at h
    · cases h
    · rename_i ha
      have ha : ¬ a ≤ m := by simpa using ha
      rw [if_neg (by simp; omega)]
      exact abv_big h2 r2 h
theorem wlow_none {m : Int} : ∀ {t : List (List Int)}, TabS t → (t.getD 0 []).filter (fun x => decide (x ≤ m)) = [] → (wordR t).filter (fun x => decide (x ≤ m)) = []
  | [], _, _ => rfl
  | r :: t, ⟨_, h2, h3, h4⟩, h => by
    show (wordR t ++ r).filter _ = []
    rw [List.filter_append, wlow_none h4 (abv_big h3 h2 h), show r.filter (fun x => decide (x ≤ m)) = [] from h]
    rfl
theorem word_tlo (m : Int) : ∀ {t : List (List Int)}, TabS t → wordR (tlo m t) = (wordR t).filter fun x => decide (x ≤ m)
  | [], _ => rfl
  | r :: t, h => by
    have h4 := h.2.2.2
    unfold tlo
    split
    · rename_i hr
      exact (wlow_none h hr).symm
    · show wordR (tlo m t) ++ _ = (wordR t ++ r).filter _
      rw [List.filter_append, word_tlo m h4]
/-- The tableau of the letters up to m is cut out of the tableau. -/
theorem P_low (m : Int) (w : List Int) : intoW [] (w.filter fun x => decide (x ≤ m)) = tlo m (intoW [] w) := by
  have h1 := kn_low m (kn_P w)
  rw [← word_tlo m (tabS_P w)] at h1
  rw [← P_kn _ (Nat.le_refl _) h1, P_word (tabS_tlo m (tabS_P w))]

/-! ### Letters moved up -/

theorem rin_up (d x : Int) : ∀ r : List Int, rinR (r.map (· + d)) (x + d) = (rinR r x).map (· + d) ∧ rinO (r.map (· + d)) (x + d) = (rinO r x).map (· + d)
  | [] => ⟨rfl, rfl⟩
  | a :: r => by
    obtain ⟨i1, i2⟩ := rin_up d x r
    rw [List.map_cons]
    by_cases h : x < a
    · rw [rinR_lt _ h, rinO_lt _ h, rinR_lt _ (by omega), rinO_lt _ (by omega)]
      exact ⟨rfl, rfl⟩
    · rw [rinR_ge _ (by omega), rinO_ge _ (by omega), rinR_ge _ (by omega), rinO_ge _ (by omega), i1, i2]
      exact ⟨rfl, rfl⟩
def upT (d : Int) (t : List (List Int)) : List (List Int) := t.map fun r => r.map (· + d)
theorem into_up (d : Int) : ∀ (t : List (List Int)) (x : Int), intoL (upT d t) (x + d) = upT d (intoL t x)
  | [], _ => rfl
  | r :: t, x => by
    obtain ⟨i1, i2⟩ := rin_up d x r
    show intoL (r.map (· + d) :: upT d t) (x + d) = _
    rw [into_rin, into_rin, i1, i2]
    rcases rin_len (r := r) (x := x) with e | ⟨b, e, _⟩
    · rw [e]; rfl
    · rw [e]
      show _ :: intoL (upT d t) (b + d) = _
      rw [into_up d t b]
      rfl
theorem intoW_up (d : Int) : ∀ (w : List Int) (t : List (List Int)), intoW (upT d t) (w.map (· + d)) = upT d (intoW t w)
  | [], _ => rfl
  | x :: w, t => by
    show intoW (intoL (upT d t) (x + d)) (w.map (· + d)) = _
    rw [into_up, intoW_up d w]
    rfl
theorem P_up (d : Int) (w : List Int) : intoW [] (w.map (· + d)) = upT d (intoW [] w) := intoW_up d w []

end Fer
