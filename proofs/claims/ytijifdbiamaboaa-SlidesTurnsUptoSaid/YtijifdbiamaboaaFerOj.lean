import Derived.Test.YtijifdbiamaboaaFerOi
/- Plain facts: evacuation, step by step. No program in sight. -/
set_option maxHeartbeats 1000000
namespace Fer

theorem rows_ext {t u : List (List Int)} (h1 : t.length = u.length) (h2 : ∀ k, ln t k = ln u k) (h3 : ∀ k l, l < ln t k → vl t k l = vl u k l) : t = u := by
  refine List.ext_getElem h1 fun k hk hk' => ?_
  have e1 : t.getD k [] = t[k] := by rw [List.getD_eq_getElem?_getD, List.getElem?_eq_getElem hk]; rfl
  have e2 : u.getD k [] = u[k] := by rw [List.getD_eq_getElem?_getD, List.getElem?_eq_getElem hk']; rfl
  have g2 := h2 k
  have g3 := h3 k
  unfold ln at g2
  unfold vl ln at g3
  rw [e1, e2] at g2 g3
  refine List.ext_getElem g2 fun l hl hl' => ?_
  have := g3 l hl
  rwa [List.getD_eq_getElem?_getD, List.getD_eq_getElem?_getD, List.getElem?_eq_getElem hl, List.getElem?_eq_getElem hl'] at this
theorem len_of_ln {t u : List (List Int)} (ht : ∀ k, k < t.length → 0 < ln t k) (hu : ∀ k, k < u.length → 0 < ln u k) (h : ∀ k, ln t k = ln u k) : t.length = u.length := by
  have key : ∀ {t u : List (List Int)}, (∀ k, k < t.length → 0 < ln t k) → (∀ k, ln t k = ln u k) → t.length ≤ u.length := fun {t u} ht h => by
    refine Nat.le_of_not_lt fun hlt => ?_
    have := ht u.length hlt
    rw [h, ln_out (Nat.le_refl _)] at this
    omega
  exact Nat.le_antisymm (key ht h) (key hu fun k => (h k).symm)
theorem tabS_pos : ∀ {t : List (List Int)}, TabS t → ∀ k, k < t.length → 0 < ln t k
  | _ :: _, ⟨h, _, _, _⟩, 0, _ => List.length_pos_iff.2 h
  | _ :: _, ⟨_, _, _, h⟩, k + 1, hk => tabS_pos h k (by simpa using hk)
theorem wordR_perm : ∀ t : List (List Int), (wordR t).Perm t.flatten
  | [] => .refl _
  | r :: t => by
    show (wordR t ++ r).Perm (r ++ t.flatten)
    exact List.perm_append_comm.trans ((wordR_perm t).append_left r)
theorem mem_wordR {t : List (List Int)} {x : Int} (h : x ∈ wordR t) : ∃ k l, l < ln t k ∧ vl t k l = x := by
  rw [wordR_F] at h
  obtain ⟨k, _, hx⟩ : ∃ k, k < t.length ∧ x ∈ t.getD k [] := by
    have key : ∀ {f : Nat → List Int} {n : Nat}, x ∈ wordF f n → ∃ k, k < n ∧ x ∈ f k := fun {f n} => by
      induction n with
      | zero => intro h; cases h
      | succ n ih =>
        intro h
        rcases List.mem_append.1 (show x ∈ f n ++ wordF f n from h) with h | h
        · exact ⟨n, by omega, h⟩
        · obtain ⟨k, h1, h2⟩ := ih h
          exact ⟨k, by omega, h2⟩
    exact key h
  obtain ⟨l, hl, e⟩ := mem_at hx
  exact ⟨k, l, hl, e⟩

/-- A standard tableau: its word. -/
structure StdW (N : Nat) (w : List Int) : Prop where
  nodup : w.Nodup
  rng : ∀ x ∈ w, 1 ≤ x ∧ x ≤ (N : Int)
  all : ∀ x : Int, 1 ≤ x → x ≤ (N : Int) → x ∈ w
theorem std_of {t : List (List Int)} (h : permE t.flatten = 0) : StdW t.flatten.length (wordR t) := by
  obtain ⟨h1, h2, h3, h4⟩ := permE_zero h
  have hp := wordR_perm t
  refine ⟨hp.nodup_iff.2 h3, fun x hx => h4 x (hp.mem_iff.1 hx), fun x hx hx' => hp.mem_iff.2 ?_⟩
  have := h2 (x - 1).toNat (by omega)
  rwa [show (((x - 1).toNat : Nat) : Int) + 1 = x by omega] at this

/-- One slide more. -/
theorem ev_slide {N j : Nat} {w : List Int} {s : List (List Int)} (hw : StdW N w) (hs : s = intoW [] (w.filter fun x => decide ((j : Int) < x))) (h : Sk s z0 s.length 0) (hf : s.flatten.length ≤ 40) (hj : j < N) :
    0 < s.length ∧ (slN 100 s 0 0).1 = intoW [] (w.filter fun x => decide ((j : Int) + 1 < x)) ∧ Sk (slN 100 s 0 0).1 z0 (slN 100 s 0 0).1.length 0 ∧ (slN 100 s 0 0).1.flatten.length ≤ 40 ∧
    (∀ k, ln (slN 100 s 0 0).1 k = if k = (slN 100 s 0 0).2.1 then (slN 100 s 0 0).2.2 else ln s k) ∧ ln s (slN 100 s 0 0).2.1 = (slN 100 s 0 0).2.2 + 1 ∧ vl s 0 0 = (j : Int) + 1 := by
  have hkn : KN (wordR s) (w.filter fun x => decide ((j : Int) < x)) := by rw [hs]; exact kn_P _
  have hpm := kn_perm hkn
  have hnd : (wordR s).Nodup := hpm.nodup_iff.2 (hw.nodup.filter _)
  have hin : (j : Int) + 1 ∈ wordR s := hpm.mem_iff.2 (List.mem_filter.2 ⟨hw.all _ (by omega) (by omega), by simp; omega⟩)
  have hmem : ∀ x ∈ wordR s, (j : Int) + 1 ≤ x := fun x hx => by
    have := (List.mem_filter.1 (hpm.mem_iff.1 hx)).2
    simp at this
    omega
  have hT := sk_tabS h
  match s, h, hf, hkn, hnd, hin, hmem, hT with
  | [], _, _, _, _, hin, _, _ => cases hin
  | [] :: t, _, _, _, _, _, _, hT => exact absurd rfl hT.1
  | (a :: r) :: t, h, hf, hkn, hnd, hin, hmem, hT =>
    have hmin : ∀ x ∈ wordR ((a :: r) :: t), a ≤ x := fun x hx => by
      obtain ⟨k, l, hl, rfl⟩ := mem_wordR hx
      have hk : k < ((a :: r) :: t).length := by
        by_cases e : k < ((a :: r) :: t).length
        · exact e
        · rw [ln_out (by omega)] at hl; omega
      exact (h.ord 0 0 k l (Nat.zero_le _) (Nat.zero_le _) (Nat.le_refl _) hl (by simp) (by omega)).1
    have ha : a = (j : Int) + 1 := by
      have h1 := hmin _ hin
      have h2 := hmem a (List.mem_append_right (wordR t) (List.mem_cons_self ..))
      omega
    have hlt : ∀ x ∈ wordR t ++ r, a < x := fun x hx => by
      have h1 : a ≤ x := hmin x (by
        rcases List.mem_append.1 hx with hx | hx
        · exact List.mem_append_left _ hx
        · exact List.mem_append_right _ (List.mem_cons_of_mem _ hx))
      have h2 : a ≠ x := fun e => by
        subst e
        have hnd' : (wordR t ++ a :: r).Nodup := hnd
        obtain ⟨n1, n2, n3⟩ := List.nodup_append.1 hnd'
        rcases List.mem_append.1 hx with hx | hx
        · exact n3 a hx a (List.mem_cons_self ..) rfl
        · exact (List.nodup_cons.1 n2).1 hx
      omega
    obtain ⟨g1, g2, g3, g4⟩ := sl_first h hf hlt
    refine ⟨Nat.zero_lt_succ _, ?_, g2, ?_, g3, g4, ha⟩
    · rw [g1]
      have := kn_high a hkn
      rw [List.filter_filter] at this
      refine (P_kn _ (Nat.le_refl _) this).trans ?_
      congr 1
      refine List.filter_congr fun x _ => ?_
      by_cases e : (j : Int) + 1 < x
      · simp only [e, decide_true, show a < x by omega, show (j : Int) < x by omega, Bool.and_self]
      · simp only [e, decide_false, show ¬ a < x by omega, Bool.false_and]
    · refine Nat.le_trans (flat_rows ?_ fun k => ?_) hf
      · refine Nat.le_of_not_lt fun hlt => ?_
        have := g2.pos _ hlt
        rw [g3] at this
        split at this
        · rename_i e
          have : ln ((a :: r) :: t) (slN 100 ((a :: r) :: t) 0 0).2.1 = 0 := by rw [← e]; exact ln_out (Nat.le_refl _)
          omega
        · rw [ln_out (Nat.le_refl _)] at this
          omega
      · rw [g3]
        split
        · rename_i e; rw [e]; omega
        · exact Nat.le_refl _

noncomputable def evL (t : List (List Int)) : List (List Int) := intoW [] (rc t.flatten.length (wordR t))
/-- What holds after j slides. -/
structure EvI (t s out : List (List Int)) (j : Nat) : Prop where
  eq : s = intoW [] ((wordR t).filter fun x => decide ((j : Int) < x))
  sk : Sk s z0 s.length 0
  fl : s.flatten.length ≤ 40
  len : out.length = t.length
  lns : ∀ k, ln out k = ln t k
  cell : ∀ k l, ln s k ≤ l → l < ln t k → vl out k l = vl (evL t) k l
  le : ∀ k, ln s k ≤ ln t k
theorem ev_start {t : List (List Int)} (hs : Sk t z0 t.length 0) (hf : t.flatten.length ≤ 40) (hw : StdW t.flatten.length (wordR t)) : EvI t t t 0 := by
  refine ⟨?_, hs, hf, rfl, fun _ => rfl, fun k l h1 h2 => by omega, fun _ => Nat.le_refl _⟩
  rw [List.filter_eq_self.2 fun x hx => decide_eq_true (by have := (hw.rng x hx).1; omega), P_word (sk_tabS hs)]
theorem ev_next {t s out : List (List Int)} {j : Nat} (hw : StdW t.flatten.length (wordR t)) (h : EvI t s out j) (hj : j < t.flatten.length) :
    0 < s.length ∧ (slN 100 s 0 0).2.1 < t.length ∧ (slN 100 s 0 0).2.2 < ln t (slN 100 s 0 0).2.1 ∧
    EvI t (slN 100 s 0 0).1 (out.set (slN 100 s 0 0).2.1 ((out.getD (slN 100 s 0 0).2.1 []).set (slN 100 s 0 0).2.2 ((t.flatten.length : Int) - j))) (j + 1) := by
  obtain ⟨g0, g1, g2, g3, g4, g5, _⟩ := ev_slide hw h.eq h.sk h.fl hj
  have hle := h.le (slN 100 s 0 0).2.1
  have hit : (slN 100 s 0 0).2.1 < t.length := by
    by_cases e : (slN 100 s 0 0).2.1 < t.length
    · exact e
    · rw [ln_out (s := t) (by omega)] at hle; omega
  have hjt : (slN 100 s 0 0).2.2 < ln t (slN 100 s 0 0).2.1 := by omega
  have hio : (slN 100 s 0 0).2.1 < out.length := by rw [h.len]; exact hit
  have hjo : (slN 100 s 0 0).2.2 < ln out (slN 100 s 0 0).2.1 := by rw [h.lns]; exact hjt
  refine ⟨g0, hit, hjt, ⟨by rw [g1]; push_cast; rfl, g2, g3, by rw [List.length_set]; exact h.len, fun k => by rw [ln_set2 hio]; exact h.lns k, fun k l e1 e2 => ?_, fun k => ?_⟩⟩
  · rw [vl_set hio hjo]
    split
    · rename_i e
      obtain ⟨rfl, rfl⟩ := e
      have c1 := ev_len t.flatten.length j (wordR t) (slN 100 s 0 0).2.1
      have c2 := ev_len t.flatten.length ((j : Int) + 1) (wordR t) (slN 100 s 0 0).2.1
      rw [← h.eq, g5] at c1
      rw [← g1, g4, if_pos rfl] at c2
      have := (ev_cell (U := evL t) (m := (t.flatten.length : Int) - j) (i := (slN 100 s 0 0).2.1) (j := (slN 100 s 0 0).2.2) c1.symm (by rw [show (t.flatten.length : Int) - j - 1 = (t.flatten.length : Int) - ((j : Int) + 1) by omega]; exact c2.symm)).1
      exact this.symm
    · rename_i e
      refine h.cell k l ?_ e2
      rw [g4] at e1
      split at e1
      · rename_i e'
        subst e'
        have : l ≠ (slN 100 s 0 0).2.2 := fun e'' => e ⟨rfl, e''⟩
        omega
      · exact e1
  · rw [g4]
    split
    · rename_i e; rw [e]; omega
    · exact h.le k
theorem ev_shape {t : List (List Int)} (hs : Sk t z0 t.length 0) (k : Nat) : ln (evL t) k = ln t k := by
  have := shape_rc t.flatten.length (wordR t) k
  rw [P_word (sk_tabS hs)] at this
  exact this
theorem ev_end {t s out : List (List Int)} (hst : Sk t z0 t.length 0) (hw : StdW t.flatten.length (wordR t)) (h : EvI t s out t.flatten.length) : out = evL t := by
  have hs : s = [] := by
    rw [h.eq, List.filter_eq_nil_iff.2 fun x hx hd => by have h1 := (hw.rng x hx).2; have h2 := of_decide_eq_true hd; omega]
    rfl
  have hl : ∀ k, ln out k = ln (evL t) k := fun k => (h.lns k).trans (ev_shape hst k).symm
  refine rows_ext (h.len.trans (len_of_ln hst.pos (tabS_pos (tabS_P _)) fun k => (ev_shape hst k).symm)) hl fun k l hl' => ?_
  refine h.cell k l ?_ (by rw [← h.lns]; exact hl')
  rw [hs, ln_out (Nat.zero_le _)]
  exact Nat.zero_le _

end Fer
