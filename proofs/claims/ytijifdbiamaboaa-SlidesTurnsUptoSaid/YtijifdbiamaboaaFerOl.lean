import Derived.Test.YtijifdbiamaboaaFerOk
/- Plain facts: promotion and evacuation. No program in sight. -/
set_option maxHeartbeats 1000000
namespace Fer

theorem tabS_abv : ∀ {t : List (List Int)}, TabS t → ∀ k, Abv (t.getD k []) (t.getD (k + 1) [])
  | [], _, k => by simp [abv_nil]
  | _ :: _, ⟨_, _, h, _⟩, 0 => h
  | _ :: _, ⟨_, _, _, h⟩, k + 1 => tabS_abv h k
theorem abv_get : ∀ {r s : List Int}, Abv r s → ∀ l, l < s.length → r.getD l 0 < s.getD l 0
  | _, [], _, l, hl => by simp at hl
  | [], _ :: _, h, _, _ => h.elim
  | _ :: _, _ :: _, h, 0, _ => h.1
  | _ :: _, _ :: _, h, l + 1, hl => abv_get h.2 l (by simpa using hl)
theorem tabS_dec {t : List (List Int)} (h : TabS t) (k : Nat) : ln t (k + 1) ≤ ln t k := abv_len (tabS_abv h k)
theorem tabS_sk {t : List (List Int)} (h : TabS t) (hw : ∀ x ∈ wordR t, 1 ≤ x ∧ x ≤ 99) : Sk t z0 t.length 0 := by
  have hin : ∀ k l, l < ln t k → k < t.length := fun k l g => by
    by_cases e : k < t.length
    · exact e
    · rw [ln_out (by omega)] at g; omega
  have hv : ∀ k l, l < ln t k → 1 ≤ vl t k l ∧ vl t k l ≤ 99 := fun k l hl => hw _ ((wordR_perm t).mem_iff.2 (getD_row_mem hl))
  refine tab_sk fun i hi => ⟨tabS_pos h i hi, fun h0 => ?_, fun j hj => ⟨hv i j hj, fun j0 => ?_, fun i0 => ?_⟩⟩
  · have := tabS_dec h (i - 1)
    rwa [show i - 1 + 1 = i by omega] at this
  · have := List.pairwise_iff_getElem.1 (tabS_srt h i) (j - 1) j (by omega) hj (by omega)
    have e : ∀ l (hl : l < (t.getD i []).length), (t.getD i []).getD l 0 = (t.getD i [])[l] := fun l hl => by
      rw [List.getD_eq_getElem?_getD (l := t.getD i []), List.getElem?_eq_getElem hl]
      rfl
    rw [e _ hj, e (j - 1) (by omega)]
    exact this
  · have := abv_get (tabS_abv h (i - 1)) j (by rw [show i - 1 + 1 = i by omega]; exact hj)
    rwa [show i - 1 + 1 = i by omega] at this
theorem tabS_qStep {V : List (List Int)} {i : Nat} {n : Int} (h : TabS V) (hi : i ≤ V.length) (hn : ∀ x ∈ wordR V, x < n) (hd : ∀ k, ln (qStep V i n) (k + 1) ≤ ln (qStep V i n) k) : TabS (qStep V i n) := by
  have hv : ∀ k l, l < ln V k → vl V k l < n := fun k l hl => hn _ ((wordR_perm V).mem_iff.2 (getD_row_mem hl))
  refine tabS_of (pos_qStep hi (tabS_pos h)) (fun k => ?_) fun k => abv_of (hd k) fun l hl => ?_
  · rw [row_qStep hi]
    split
    · refine srt_app.2 ⟨tabS_srt h i, List.pairwise_singleton _ _, fun a ha b hb => ?_⟩
      obtain rfl : b = n := by simpa using hb
      obtain ⟨l, hl, rfl⟩ := mem_at ha
      have := hv i l hl
      unfold vl at this
      omega
    · exact tabS_srt h k
  · have hl' : l < ln (qStep V i n) (k + 1) := hl
    have hdk : l < ln (qStep V i n) k := Nat.lt_of_lt_of_le hl' (hd k)
    rw [ln_qStep hi] at hl' hdk
    rw [row_qStep hi, row_qStep hi]
    have hA := abv_get (tabS_abv h k)
    have hD := tabS_dec h k
    by_cases e1 : k + 1 = i
    · rw [if_neg (by omega)] at hdk
      rw [if_neg (show ¬ k = i by omega), if_pos e1]
      subst e1
      rw [if_pos rfl] at hl'
      rw [appD]
      split
      · rename_i e2
        exact hA l e2
      · have : l - (V.getD (k + 1) []).length = 0 := by
          have : ln V (k + 1) = (V.getD (k + 1) []).length := rfl
          omega
        rw [this]
        exact hv k l hdk
    · rw [if_neg e1] at hl'
      rw [if_neg e1]
      split
      · rename_i e2
        subst e2
        rw [appD, if_pos (show l < (V.getD k []).length from Nat.lt_of_lt_of_le hl' hD)]
        exact hA l hl'
      · exact hA l hl'

/-- A standard tableau. -/
structure Stq (t : List (List Int)) : Prop where
  sk : Sk t z0 t.length 0
  fl : t.flatten.length ≤ 40
  std : StdW t.flatten.length (wordR t)
theorem stq_of {t : List (List Int)} (hT : tabE t = 0) (hp : permE t.flatten = 0) : Stq t := ⟨tab_sk (tabE_zero hT).2, (tabE_zero hT).1, std_of hp⟩
theorem stq_mk {t : List (List Int)} {n : Nat} (hT : TabS t) (hn : n ≤ 40) (hl : (wordR t).length = n) (hw : StdW n (wordR t)) : Stq t := by
  have e : t.flatten.length = n := by rw [← (wordR_perm t).length_eq, hl]
  refine ⟨tabS_sk hT fun x hx => ?_, by omega, by rw [e]; exact hw⟩
  have := hw.rng x hx
  omega
theorem std_perm {n : Nat} {u v : List Int} (h : u.Perm v) (hu : StdW n u) : StdW n v :=
  ⟨h.nodup_iff.1 hu.nodup, fun x hx => hu.rng x (h.mem_iff.2 hx), fun x h1 h2 => h.mem_iff.1 (hu.all x h1 h2)⟩
theorem std_rc {n : Nat} {w : List Int} (h : StdW n w) : StdW n (rc n w) := by
  refine ⟨?_, fun x hx => ?_, fun x h1 h2 => ?_⟩
  · unfold rc
    refine List.pairwise_map.2 (List.pairwise_reverse.2 (List.Pairwise.imp (fun h => ?_) h.nodup))
    omega
  · obtain ⟨y, hy, rfl⟩ := List.mem_map.1 hx
    have := h.rng y (List.mem_reverse.1 hy)
    omega
  · exact List.mem_map.2 ⟨n + 1 - x, List.mem_reverse.2 (h.all _ (by omega) (by omega)), by omega⟩
theorem rc_len (n : Int) (w : List Int) : (rc n w).length = w.length := by
  unfold rc
  rw [List.length_map, List.length_reverse]
theorem word_flat (t : List (List Int)) : (wordR t).length = t.flatten.length := (wordR_perm t).length_eq
theorem stq_ev {t : List (List Int)} (h : Stq t) : Stq (evL t) ∧ (evL t).flatten.length = t.flatten.length := by
  have hk := kn_P (rc t.flatten.length (wordR t))
  have hl : (wordR (evL t)).length = t.flatten.length := by
    rw [show (wordR (evL t)).length = _ from hk.len, rc_len, word_flat]
  exact ⟨stq_mk (tabS_P _) h.fl hl (std_perm (kn_perm hk).symm (std_rc h.std)), by rw [← word_flat, hl]⟩
theorem ev_ev {t : List (List Int)} (h : Stq t) : evL (evL t) = t := by
  have e := (stq_ev h).2
  unfold evL at e ⊢
  rw [e]
  have hk := kn_rc t.flatten.length (kn_P (rc t.flatten.length (wordR t)))
  rw [rc_rc] at hk
  rw [P_kn _ (Nat.le_refl _) hk, P_word (sk_tabS h.sk)]

def prL (t : List (List Int)) : List (List Int) := if t = [] then [] else qStep (upT (-1) (slN 100 t 0 0).1) (slN 100 t 0 0).2.1 t.flatten.length
structure PrF (D : List (List Int)) (n : Nat) : Prop where
  eq : (slN 100 D 0 0).1 = intoW [] ((wordR D).filter fun x => decide (1 < x))
  kn : KN (wordR (slN 100 D 0 0).1) ((wordR D).filter fun x => decide (1 < x))
  tab : TabS (slN 100 D 0 0).1
  lns : ∀ k, ln (slN 100 D 0 0).1 k = if k = (slN 100 D 0 0).2.1 then (slN 100 D 0 0).2.2 else ln D k
  at' : ln D (slN 100 D 0 0).2.1 = (slN 100 D 0 0).2.2 + 1
  row : (slN 100 D 0 0).2.1 ≤ (slN 100 D 0 0).1.length
  rng : ∀ x ∈ wordR (slN 100 D 0 0).1, 2 ≤ x ∧ x ≤ (n : Int)
  nod : (wordR (slN 100 D 0 0).1).Nodup
  all : ∀ x : Int, 2 ≤ x → x ≤ (n : Int) → x ∈ wordR (slN 100 D 0 0).1
theorem pr_facts {D : List (List Int)} (h : Stq D) (h0 : D ≠ []) : 0 < D.flatten.length ∧ PrF D D.flatten.length := by
  have hT := sk_tabS h.sk
  have hn : 0 < D.flatten.length := by
    have h1 := len_flat D h.sk.pos
    have : 0 < D.length := List.length_pos_iff.2 h0
    omega
  have hD : D = intoW [] ((wordR D).filter fun x => decide (((0 : Nat) : Int) < x)) := by
    rw [List.filter_eq_self.2 fun x hx => decide_eq_true (by have := (h.std.rng x hx).1; omega), P_word hT]
  obtain ⟨_, g1, g2, _, g4, g5, _⟩ := ev_slide h.std hD h.sk h.fl hn
  have g1' : (slN 100 D 0 0).1 = intoW [] ((wordR D).filter fun x => decide (1 < x)) := g1
  have hk : KN (wordR (slN 100 D 0 0).1) ((wordR D).filter fun x => decide (1 < x)) := by rw [g1']; exact kn_P _
  have hp := kn_perm hk
  refine ⟨hn, g1', hk, sk_tabS g2, g4, g5, ?_, fun x hx => ?_, hp.nodup_iff.2 (h.std.nodup.filter _), fun x h1 h2 => hp.mem_iff.2 (List.mem_filter.2 ⟨h.std.all x (by omega) h2, by simp; omega⟩)⟩
  · refine Nat.le_of_not_lt fun hlt => ?_
    have h1 := g4 ((slN 100 D 0 0).2.1 - 1)
    rw [if_neg (by omega), ln_out (by omega)] at h1
    have h2 := h.sk.dec ((slN 100 D 0 0).2.1 - 1)
    rw [show (slN 100 D 0 0).2.1 - 1 + 1 = (slN 100 D 0 0).2.1 by omega] at h2
    omega
  · obtain ⟨m1, m2⟩ := List.mem_filter.1 (hp.mem_iff.1 hx)
    have := (h.std.rng x m1).2
    simp at m2
    omega
/-- What is promoted. -/
theorem pr_std {D : List (List Int)} (h : Stq D) (h0 : D ≠ []) : Stq (prL D) ∧ (prL D).flatten.length = D.flatten.length ∧ (∀ k, ln (prL D) k = ln D k) ∧
    (wordR (prL D)).filter (fun x => decide (x ≤ (D.flatten.length : Int) - 1)) = (wordR (slN 100 D 0 0).1).map (· + -1) := by
  obtain ⟨hn, F⟩ := pr_facts h h0
  have e : prL D = qStep (upT (-1) (slN 100 D 0 0).1) (slN 100 D 0 0).2.1 D.flatten.length := if_neg h0
  have hlt : ∀ x ∈ wordR (upT (-1) (slN 100 D 0 0).1), x < (D.flatten.length : Int) := fun x hx => by
    rw [wordR_up] at hx
    obtain ⟨y, hy, rfl⟩ := List.mem_map.1 hx
    have := F.rng y hy
    omega
  have hi : (slN 100 D 0 0).2.1 ≤ (upT (-1) (slN 100 D 0 0).1).length := by
    show _ ≤ (List.map _ _).length
    rw [List.length_map]
    exact F.row
  have hl : ∀ k, ln (prL D) k = ln D k := fun k => by
    rw [e, ln_qStep hi, ln_up, ln_up, F.lns, F.lns, if_pos rfl]
    split
    · rename_i e; rw [e, F.at']
    · rfl
  obtain ⟨w1, w2⟩ := wordR_qStep hi hlt
  have hT1 : TabS (upT (-1) (slN 100 D 0 0).1) := by
    have := P_up (-1) (wordR (slN 100 D 0 0).1)
    rw [P_word F.tab] at this
    rw [← this]
    exact tabS_P _
  have hT : TabS (prL D) := by
    rw [e]
    refine tabS_qStep hT1 hi hlt fun k => ?_
    rw [← e, hl, hl]
    exact h.sk.dec k
  have hlen : (wordR (prL D)).length = D.flatten.length := by
    rw [word_flat]
    have hs1 : ∀ (t u : List (List Int)), t.length = u.length → (∀ k, ln t k = ln u k) → t.flatten.length = u.flatten.length := fun t u h1 h2 =>
      Nat.le_antisymm (flat_rows (Nat.le_of_eq h1) fun k => Nat.le_of_eq (h2 k)) (flat_rows (Nat.le_of_eq h1.symm) fun k => Nat.le_of_eq (h2 k).symm)
    exact hs1 _ _ (len_of_ln (tabS_pos hT) h.sk.pos hl) hl
  have hstd : StdW D.flatten.length (wordR (prL D)) := by
    rw [e]
    refine std_perm w2.symm ⟨?_, fun x hx => ?_, fun x h1 h2 => ?_⟩
    · refine List.nodup_cons.2 ⟨fun hm => ?_, ?_⟩
      · have := hlt _ hm; omega
      · rw [wordR_up]
        refine List.pairwise_map.2 (List.Pairwise.imp (fun h => ?_) F.nod)
        omega
    · rcases List.mem_cons.1 hx with rfl | hx
      · omega
      · rw [wordR_up] at hx
        obtain ⟨y, hy, rfl⟩ := List.mem_map.1 hx
        have := F.rng y hy
        omega
    · by_cases ex : x = (D.flatten.length : Int)
      · rw [ex]; exact List.mem_cons_self ..
      · refine List.mem_cons_of_mem _ ?_
        rw [wordR_up]
        exact List.mem_map.2 ⟨x + 1, F.all _ (by omega) (by omega), by omega⟩
  refine ⟨stq_mk hT h.fl hlen hstd, by rw [← word_flat]; exact hlen, hl, ?_⟩
  rw [e, w1, wordR_up]
/-- Evacuation turns promotion back. -/
theorem ev_pr {D : List (List Int)} (h : Stq D) (h0 : D ≠ []) : prL (evL (prL D)) = evL D := by
  obtain ⟨hn, F⟩ := pr_facts h h0
  obtain ⟨hT1, hN1, hl1, hw1⟩ := pr_std h h0
  obtain ⟨hE, hNE⟩ := stq_ev hT1
  have hE0 : evL (prL D) ≠ [] := fun e => by
    have h1 : (prL D).flatten.length = 0 := by rw [← hNE, e]; rfl
    omega
  obtain ⟨_, G⟩ := pr_facts hE hE0
  -- the rows below the greatest letter
  have hW1 : KN (wordR (slN 100 (evL (prL D)) 0 0).1) ((rc D.flatten.length (wordR (slN 100 D 0 0).1)).map (· + 1)) := by
    refine G.kn.trans ?_
    have := kn_high 1 (kn_P (rc (prL D).flatten.length (wordR (prL D))))
    refine (show KN ((wordR (evL (prL D))).filter _) _ from this).trans ?_
    rw [hN1, show (rc (D.flatten.length : Int) (wordR (prL D))).filter (fun x => decide (1 < x)) = rc D.flatten.length ((wordR (prL D)).filter fun x => decide (x ≤ (D.flatten.length : Int) - 1)) by rw [rc_low]; congr 1; funext x; rw [show (D.flatten.length : Int) - ((D.flatten.length : Int) - 1) = 1 by omega], hw1, rc_down]
    exact .refl _
  have hR2 : (slN 100 (evL (prL D)) 0 0).1 = upT 1 (intoW [] (rc D.flatten.length (wordR (slN 100 D 0 0).1))) := by
    rw [← P_up, ← P_kn _ (Nat.le_refl _) hW1, P_word G.tab]
  have hV : upT (-1) (slN 100 (evL (prL D)) 0 0).1 = intoW [] (rc D.flatten.length (wordR (slN 100 D 0 0).1)) := by
    rw [hR2, up_up, show (1 : Int) + -1 = 0 by omega, up_zero]
  have hlW : ∀ k, ln (intoW [] (rc D.flatten.length (wordR (slN 100 D 0 0).1))) k = ln (slN 100 D 0 0).1 k := fun k => by rw [shape_rc, P_word F.tab]
  have hlE : ∀ k, ln (evL (prL D)) k = ln D k := fun k => by rw [ev_shape hT1.sk, hl1]
  have hrow : (slN 100 (evL (prL D)) 0 0).2.1 = (slN 100 D 0 0).2.1 := by
    have h1 := G.lns (slN 100 (evL (prL D)) 0 0).2.1
    have h2 := G.at'
    have h3 := F.lns (slN 100 (evL (prL D)) 0 0).2.1
    rw [if_pos rfl, ← ln_up (-1), hV, hlW] at h1
    rw [hlE] at h2
    by_cases e : (slN 100 (evL (prL D)) 0 0).2.1 = (slN 100 D 0 0).2.1
    · exact e
    · rw [if_neg e] at h3; omega
  have e1 : prL (evL (prL D)) = qStep (intoW [] (rc D.flatten.length (wordR (slN 100 D 0 0).1))) (slN 100 D 0 0).2.1 D.flatten.length := by
    have e : prL (evL (prL D)) = qStep (upT (-1) (slN 100 (evL (prL D)) 0 0).1) (slN 100 (evL (prL D)) 0 0).2.1 (evL (prL D)).flatten.length := if_neg hE0
    rw [e, hV, hrow, hNE, hN1]
  -- the other side
  have hU : tlo ((D.flatten.length : Int) - 1) (evL D) = intoW [] (rc D.flatten.length (wordR (slN 100 D 0 0).1)) := by
    unfold evL
    rw [← P_low, ← rc_high]
    exact P_kn _ (Nat.le_refl _) (kn_rc D.flatten.length F.kn.symm)
  have hEv := stq_ev h
  have := top_off (U := evL D) (n := D.flatten.length) (i := (slN 100 D 0 0).2.1) (tabS_P _) (fun x hx => by have := (hEv.1.std.rng x hx).2; rw [hEv.2] at this; exact this) (by
    rw [hU]
    have hle := F.row
    refine Nat.le_trans hle (Nat.le_of_eq ?_)
    exact len_of_ln (tabS_pos F.tab) (tabS_pos (tabS_P _)) fun k => (hlW k).symm) (fun k => by
    rw [hU, hlW, hlW, ev_shape h.sk, F.lns, F.lns, if_pos rfl]
    split
    · rename_i e; rw [e, F.at']
    · rfl)
  rw [e1, this, hU]

end Fer
