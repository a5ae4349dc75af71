import Derived.Test.YtbahdhedegpbbaaFerMk
/- Plain facts: rows and columns of a tableau; a letter put in column by column. No program in sight. -/
namespace Fer

def Shp (l : List (List Int)) : Prop := (∀ j, j < l.length → 0 < (l.getD j []).length) ∧ ∀ i j, i ≤ j → j < l.length → (l.getD j []).length ≤ (l.getD i []).length

theorem shp_of {l : List (List Int)} (h1 : ∀ j, j < l.length → 0 < (l.getD j []).length) (h2 : ∀ j, j + 1 < l.length → (l.getD (j + 1) []).length ≤ (l.getD j []).length) : Shp l := by
  refine ⟨h1, fun i j hij hj => ?_⟩
  have key : ∀ d i, i + d < l.length → (l.getD (i + d) []).length ≤ (l.getD i []).length := by
    intro d
    induction d with
    | zero => intro i _; exact Nat.le_refl _
    | succ d ih => intro i hi; exact Nat.le_trans (h2 (i + d) hi) (ih i (by omega))
  have := key (j - i) i (by omega)
  rwa [show i + (j - i) = j by omega] at this

theorem tab_shp {t : List (List Int)} (h : tabRows t) : Shp t :=
  shp_of (fun j hj => (h j hj).1) fun j hj => (h (j + 1) hj).2.1 (by omega)

/-- The one turned is the other. -/
def Tr (out cl : List (List Int)) : Prop := Shp cl ∧ out.length = (cl.getD 0 []).length ∧ ∀ i, i < out.length →
  (∀ j, j < (out.getD i []).length ↔ j < cl.length ∧ i < (cl.getD j []).length) ∧ ∀ j, j < (out.getD i []).length → (out.getD i []).getD j 0 = (cl.getD j []).getD i 0

theorem wid_iff {cl : List (List Int)} (h : Shp cl) (i j : Nat) : j < (acol cl i).length ↔ j < cl.length ∧ i < (cl.getD j []).length := by
  obtain ⟨m, hm, h1, h2⟩ := leastNat (P := fun m => m = cl.length ∨ ¬ i < (cl.getD m []).length) cl.length (.inl rfl)
  have e : acol cl i = (cl.take m).map fun r => r.getD i 0 := by
    unfold acol
    rw [while_cutG [] hm (fun a ha => decide_eq_true (by have := h2 a ha; omega)) (h1.imp id fun h => decide_eq_false h)]
  rw [e, List.length_map, List.length_take]
  constructor
  · intro hj
    have := h2 j (by omega)
    omega
  · rintro ⟨hj, hij⟩
    refine Classical.byContradiction fun hn => ?_
    rcases h1 with h1 | h1
    · omega
    · have := h.2 m j (by omega) hj
      omega
theorem acol_cell {cl : List (List Int)} {i j : Nat} (hj : j < (acol cl i).length) : (acol cl i).getD j 0 = (cl.getD j []).getD i 0 := by
  unfold acol at hj ⊢
  rw [List.length_map] at hj
  have e : ∀ (l : List (List Int)) (p : List Int → Bool) (j : Nat), j < (l.takeWhile p).length → (l.takeWhile p).getD j [] = l.getD j [] := by
    intro l p
    induction l with
    | nil => intro j hj; simp at hj
    | cons a l ih =>
      intro j hj
      rw [List.takeWhile_cons] at hj ⊢
      split at hj
      · rename_i ha
        rw [if_pos ha]
        cases j with
        | zero => rfl
        | succ j => exact ih j (by simpa using hj)
      · simp at hj
  rw [← e cl _ j hj, getD_lt 0 (by simpa using hj), getD_lt [] hj]
  simp
theorem across_length (m : List (List Int)) : (across m).length = (m.getD 0 []).length := by simp only [across, List.length_map, List.length_range]

theorem tr_across {out cl : List (List Int)} (h : Tr out cl) : across cl = out := by
  obtain ⟨hs, h1, h2⟩ := h
  refine ext_getD [] (by rw [across_length, h1]) fun i hi => ?_
  rw [across_length] at hi
  rw [across_getD hi]
  have hl : (acol cl i).length = (out.getD i []).length := by
    have key : ∀ j, j < (acol cl i).length ↔ j < (out.getD i []).length := fun j => (wid_iff hs i j).trans ((h2 i (by omega)).1 j).symm
    have k1 := key (acol cl i).length
    have k2 := key (out.getD i []).length
    omega
  refine ext_getD 0 hl fun j hj => ?_
  rw [acol_cell hj, (h2 i (by omega)).2 j (by omega)]

theorem tr_tab {t : List (List Int)} (h : tabRows t) : Tr t (across t) := by
  have hs := tab_shp h
  have hl := across_length t
  have hc : ∀ j, j < (t.getD 0 []).length → (across t).getD j [] = acol t j := fun j hj => across_getD hj
  have hlen : ∀ j, j < (t.getD 0 []).length → ∀ i, i < ((across t).getD j []).length ↔ i < t.length ∧ j < (t.getD i []).length := fun j hj i => by
    rw [hc j hj]; exact wid_iff hs j i
  refine ⟨shp_of (fun j hj => ?_) fun j hj => ?_, ?_, fun i hi => ⟨fun j => ?_, fun j hj => ?_⟩⟩
  · rw [hl] at hj
    refine (hlen j hj 0).2 ⟨?_, hj⟩
    by_cases e : t.length = 0
    · rw [List.length_eq_zero_iff.1 e] at hj; exact absurd hj (Nat.not_lt_zero _)
    · omega
  · rw [hl] at hj
    refine Classical.byContradiction fun hn => ?_
    have h1 := (hlen (j + 1) hj ((across t).getD j []).length).1 (by omega)
    have h2 := (hlen j (by omega) ((across t).getD j []).length).2 ⟨h1.1, by omega⟩
    omega
  · by_cases e : t.length = 0
    · rw [List.length_eq_zero_iff.1 e]; rfl
    · have h0 := hs.1 0 (by omega)
      have k1 := hlen 0 h0 t.length
      have k2 := hlen 0 h0 (t.length - 1)
      have := hs.1 (t.length - 1) (by omega)
      omega
  · rw [hl]
    have := hs.2 0 i (by omega) hi
    constructor
    · intro hj
      exact ⟨by omega, (hlen j (by omega) i).2 ⟨hi, hj⟩⟩
    · rintro ⟨hj, hij⟩
      exact ((hlen j hj i).1 hij).2
  · have := hs.2 0 i (by omega) hi
    have h3 := (hlen j (by omega) i).2 ⟨hi, hj⟩
    rw [hc j (by omega)] at h3 ⊢
    exact (acol_cell h3).symm

theorem tr_row {out cl : List (List Int)} (h : Tr out cl) {i : Nat} (hi : i < out.length) (j : Nat) : j < (out.getD i []).length ↔ j < cl.length ∧ i < (cl.getD j []).length := (h.2.2 i hi).1 j
theorem tr_cell {out cl : List (List Int)} (h : Tr out cl) {i j : Nat} (hi : i < out.length) (hj : j < (out.getD i []).length) : (out.getD i []).getD j 0 = (cl.getD j []).getD i 0 := (h.2.2 i hi).2 j hj
theorem tr_in {out cl : List (List Int)} (h : Tr out cl) {i j : Nat} (hj : j < cl.length) (hi : i < (cl.getD j []).length) : i < out.length ∧ j < (out.getD i []).length := by
  have h1 := h.1.2 0 j (by omega) hj
  have h2 : i < out.length := by have := h.2.1; omega
  exact ⟨h2, (tr_row h h2 j).2 ⟨hj, hi⟩⟩

theorem getD_set_row {l : List (List Int)} {i k : Nat} (hi : i < l.length) (r : List Int) : (l.set i r).getD k [] = if k = i then r else l.getD k [] := getD_set_if [] hi

/-- A letter changes places. -/
theorem tr_swap {out cl : List (List Int)} (h : Tr out cl) {i j : Nat} (hj : j < cl.length) (hi : i < (cl.getD j []).length) (v : Int) : Tr (out.set i ((out.getD i []).set j v)) (cl.set j ((cl.getD j []).set i v)) := by
  obtain ⟨hio, hjo⟩ := tr_in h hj hi
  have hc : ∀ k, ((cl.set j ((cl.getD j []).set i v)).getD k []).length = (cl.getD k []).length := fun k => by
    rw [getD_set_row hj]
    split
    · rename_i e; rw [e, List.length_set]
    · rfl
  refine ⟨⟨fun k hk => ?_, fun a b hab hb => ?_⟩, ?_, fun a ha => ⟨fun b => ?_, fun b hb => ?_⟩⟩
  · rw [hc]; rw [List.length_set] at hk; exact h.1.1 k hk
  · rw [hc, hc]; rw [List.length_set] at hb; exact h.1.2 a b hab hb
  · rw [List.length_set, hc]; exact h.2.1
  · rw [List.length_set] at ha
    rw [List.length_set, hc, getD_set_row hio]
    split
    · rename_i e; subst e; rw [List.length_set]; exact tr_row h ha b
    · exact tr_row h ha b
  · rw [List.length_set] at ha
    rw [getD_set_row hio] at hb ⊢
    rw [getD_set_row hj]
    by_cases e : a = i
    · subst e
      rw [if_pos rfl] at hb ⊢
      rw [List.length_set] at hb
      rw [getD_set_if 0 hjo]
      by_cases e2 : b = j
      · subst e2
        rw [if_pos rfl, if_pos rfl, getD_set_if 0 hi, if_pos rfl]
      · rw [if_neg e2, if_neg e2]; exact tr_cell h ha hb
    · rw [if_neg e] at hb ⊢
      by_cases e2 : b = j
      · subst e2
        rw [if_pos rfl, getD_set_if 0 hi, if_neg e]; exact tr_cell h ha hb
      · rw [if_neg e2]; exact tr_cell h ha hb

theorem tr_uniq {out out' cl : List (List Int)} (h : Tr out cl) (h' : Tr out' cl) : out = out' := (tr_across h).symm.trans (tr_across h')

/-- The letter ends a column that ends higher than the one to its left. -/
theorem tr_end {out cl : List (List Int)} (h : Tr out cl) {j : Nat} (j0 : 0 < j) (hj : j < cl.length) (hlt : (cl.getD j []).length < (cl.getD (j - 1) []).length) (x : Int) :
    (cl.getD j []).length < out.length ∧ (out.getD (cl.getD j []).length []).length = j ∧ Tr (out.set (cl.getD j []).length (out.getD (cl.getD j []).length [] ++ [x])) (cl.set j (cl.getD j [] ++ [x])) := by
  generalize hi : (cl.getD j []).length = i at *
  obtain ⟨hio, hjo⟩ := tr_in h (show j - 1 < cl.length by omega) hlt
  have hlen : (out.getD i []).length = j := by
    have k := tr_row h hio j
    omega
  have hc : ∀ k, ((cl.set j (cl.getD j [] ++ [x])).getD k []).length = if k = j then i + 1 else (cl.getD k []).length := fun k => by
    rw [getD_set_row hj]
    split
    · rw [List.length_append, hi]; rfl
    · rfl
  refine ⟨hio, hlen, ⟨fun k hk => ?_, fun a b hab hb => ?_⟩, ?_, fun a ha => ⟨fun b => ?_, fun b hb => ?_⟩⟩
  · rw [hc]; rw [List.length_set] at hk
    have := h.1.1 k hk
    split <;> omega
  · rw [hc, hc]; rw [List.length_set] at hb
    have h1 := h.1.2 a b hab hb
    by_cases e1 : b = j
    · rw [if_pos e1]
      by_cases e2 : a = j
      · rw [if_pos e2]; omega
      · rw [if_neg e2]
        have := h.1.2 a (j - 1) (by omega) (by omega)
        omega
    · rw [if_neg e1]
      by_cases e2 : a = j
      · rw [if_pos e2]; rw [e2, hi] at h1; omega
      · rw [if_neg e2]; exact h1
  · rw [List.length_set, hc, if_neg (by omega)]; exact h.2.1
  · rw [List.length_set] at ha
    rw [List.length_set, hc, getD_set_row hio]
    have k := tr_row h ha b
    by_cases e : a = i
    · subst e
      rw [if_pos rfl, List.length_append, List.length_singleton, hlen]
      rw [hlen] at k
      by_cases e2 : b = j
      · rw [if_pos e2]; omega
      · rw [if_neg e2]; omega
    · rw [if_neg e]
      by_cases e2 : b = j
      · subst e2
        rw [if_pos rfl, k, hi]; omega
      · rw [if_neg e2]; exact k
  · rw [List.length_set] at ha
    rw [getD_set_row hio] at hb ⊢
    rw [getD_set_row hj]
    by_cases e : a = i
    · subst e
      rw [if_pos rfl] at hb ⊢
      rw [List.length_append, List.length_singleton, hlen] at hb
      by_cases e2 : b = j
      · subst e2
        rw [if_pos rfl, append_getD, if_neg (by omega), append_getD, if_neg (by omega), hlen, hi]; simp
      · rw [if_neg e2, append_getD, if_pos (by omega)]; exact tr_cell h ha (by omega)
    · rw [if_neg e] at hb ⊢
      by_cases e2 : b = j
      · subst e2
        have k := (tr_row h ha b).1 hb
        rw [if_pos rfl, append_getD, if_pos k.2]; exact tr_cell h ha hb
      · rw [if_neg e2]; exact tr_cell h ha hb

/-- The letter ends the first column. -/
theorem tr_foot {out cl : List (List Int)} (h : Tr out cl) (hj : 0 < cl.length) (x : Int) : Tr (out ++ [[x]]) (cl.set 0 (cl.getD 0 [] ++ [x])) := by
  have hol := h.2.1
  have hc : ∀ k, ((cl.set 0 (cl.getD 0 [] ++ [x])).getD k []).length = if k = 0 then out.length + 1 else (cl.getD k []).length := fun k => by
    rw [getD_set_row hj]
    split
    · rw [List.length_append, ← hol]; rfl
    · rfl
  have hap : ∀ k, (out ++ [[x]]).getD k [] = if k < out.length then out.getD k [] else if k = out.length then [x] else [] := fun k => by
    simp only [List.getD_eq_getElem?_getD, List.getElem?_append]
    split
    · rfl
    · split
      · rename_i e; subst e; simp
      · rename_i e1 e2; rw [List.getElem?_eq_none (by simp; omega)]; rfl
  refine ⟨⟨fun k hk => ?_, fun a b hab hb => ?_⟩, ?_, fun a ha => ⟨fun b => ?_, fun b hb => ?_⟩⟩
  · rw [hc]; rw [List.length_set] at hk
    have := h.1.1 k hk
    split <;> omega
  · rw [hc, hc]; rw [List.length_set] at hb
    have h1 := h.1.2 a b hab hb
    by_cases e2 : a = 0
    · subst e2
      rw [if_pos rfl]
      split <;> omega
    · rw [if_neg e2, if_neg (by omega)]; exact h1
  · rw [hc, if_pos rfl, List.length_append]; rfl
  · rw [List.length_append, List.length_singleton] at ha
    rw [List.length_set, hc, hap]
    by_cases e : a < out.length
    · rw [if_pos e, tr_row h e b]
      by_cases e2 : b = 0
      · subst e2; rw [if_pos rfl]; omega
      · rw [if_neg e2]
    · rw [if_neg e, if_pos (by omega), List.length_singleton]
      by_cases e2 : b = 0
      · subst e2; rw [if_pos rfl]; omega
      · rw [if_neg e2]
        constructor
        · intro h1; omega
        · rintro ⟨h1, h2⟩
          have := h.1.2 0 b (by omega) h1
          omega
  · rw [List.length_append, List.length_singleton] at ha
    rw [hap] at hb ⊢
    rw [getD_set_row hj]
    by_cases e : a < out.length
    · rw [if_pos e] at hb ⊢
      by_cases e2 : b = 0
      · subst e2
        rw [if_pos rfl, append_getD, if_pos (by omega)]; exact tr_cell h e hb
      · rw [if_neg e2]; exact tr_cell h e hb
    · rw [if_neg e, if_pos (by omega)] at hb ⊢
      have hb0 : b = 0 := by simp at hb; exact hb
      subst hb0
      rw [if_pos rfl, append_getD, if_neg (by omega), ← hol, show a - out.length = 0 by omega]

/-- A new column. -/
theorem tr_new {out cl : List (List Int)} (h : Tr out cl) (ho : 0 < out.length) (x : Int) : (out.getD 0 []).length = cl.length ∧ Tr (out.set 0 (out.getD 0 [] ++ [x])) (cl ++ [[x]]) := by
  have hol := h.2.1
  have hlen : (out.getD 0 []).length = cl.length := by
    have k1 := tr_row h ho cl.length
    have k2 := tr_row h ho (cl.length - 1)
    have k3 := h.1.1 (cl.length - 1)
    have k4 : 0 < cl.length := by
      refine Classical.byContradiction fun hn => ?_
      rw [List.length_eq_zero_iff.1 (show cl.length = 0 by omega)] at hol
      have hz : out.length = 0 := hol
      omega
    have k5 := k2.2 ⟨by omega, k3 (by omega)⟩
    omega
  have hcl : 0 < cl.length := by
    refine Classical.byContradiction fun hn => ?_
    rw [List.length_eq_zero_iff.1 (show cl.length = 0 by omega)] at hol
    have hz : out.length = 0 := hol
    omega
  have hap : ∀ k, (cl ++ [[x]]).getD k [] = if k < cl.length then cl.getD k [] else if k = cl.length then [x] else [] := fun k => by
    simp only [List.getD_eq_getElem?_getD, List.getElem?_append]
    split
    · rfl
    · split
      · rename_i e; subst e; simp
      · rename_i e1 e2; rw [List.getElem?_eq_none (by simp; omega)]; rfl
  refine ⟨hlen, ⟨fun k hk => ?_, fun a b hab hb => ?_⟩, ?_, fun a ha => ⟨fun b => ?_, fun b hb => ?_⟩⟩
  · rw [hap]; rw [List.length_append, List.length_singleton] at hk
    by_cases e : k < cl.length
    · rw [if_pos e]; exact h.1.1 k e
    · rw [if_neg e, if_pos (by omega)]; exact Nat.one_pos
  · rw [hap, hap]; rw [List.length_append, List.length_singleton] at hb
    by_cases e : b < cl.length
    · rw [if_pos e, if_pos (by omega)]; exact h.1.2 a b hab e
    · rw [if_neg e, if_pos (by omega)]
      by_cases e2 : a < cl.length
      · rw [if_pos e2]; have := h.1.1 a e2; simp only [List.length_singleton]; omega
      · rw [if_neg e2, if_pos (by omega)]; exact Nat.le_refl _
  · rw [List.length_set, hap, if_pos hcl]; exact hol
  · rw [List.length_set] at ha
    rw [getD_set_row ho, hap, List.length_append (bs := [[x]]), List.length_singleton]
    by_cases e : a = 0
    · subst e
      rw [if_pos rfl, List.length_append, hlen, List.length_singleton]
      by_cases e2 : b < cl.length
      · rw [if_pos e2]; have := h.1.1 b e2; omega
      · rw [if_neg e2]
        by_cases e3 : b = cl.length
        · rw [if_pos e3, List.length_singleton]; omega
        · rw [if_neg e3, List.length_nil]; omega
    · rw [if_neg e, tr_row h ha b]
      by_cases e2 : b < cl.length
      · rw [if_pos e2]; omega
      · rw [if_neg e2]
        by_cases e3 : b = cl.length
        · rw [if_pos e3, List.length_singleton]; omega
        · rw [if_neg e3, List.length_nil]; omega
  · rw [List.length_set] at ha
    rw [getD_set_row ho] at hb ⊢
    rw [hap]
    by_cases e : a = 0
    · subst e
      rw [if_pos rfl] at hb ⊢
      rw [List.length_append, hlen, List.length_singleton] at hb
      by_cases e2 : b < cl.length
      · rw [append_getD, if_pos (by omega), if_pos e2]; exact tr_cell h ha (by omega)
      · rw [append_getD, if_neg (by omega), if_neg e2, if_pos (by omega), hlen, show b - cl.length = 0 by omega]
    · rw [if_neg e] at hb ⊢
      have := (tr_row h ha b).1 hb
      rw [if_pos this.1]; exact tr_cell h ha hb

theorem tr_one (x : Int) : Tr [[x]] [[x]] := by
  refine ⟨⟨fun k hk => ?_, fun a b hab hb => ?_⟩, rfl, fun a ha => ⟨fun b => ?_, fun b hb => ?_⟩⟩
  · have : k = 0 := by simpa using hk
    subst this; exact Nat.one_pos
  · have : b = 0 := by simpa using hb
    subst this
    have : a = 0 := by omega
    subst this; exact Nat.le_refl _
  · have : a = 0 := by simpa using ha
    subst this
    constructor
    · intro h
      have : b = 0 := by simpa using h
      subst this; exact ⟨Nat.one_pos, Nat.one_pos⟩
    · rintro ⟨h, _⟩; exact h
  · have : a = 0 := by simpa using ha
    subst this
    have : b = 0 := by simpa using hb
    subst this; rfl

/-! ### Column by column -/

def besL : List (List Int) → Int → List (List Int)
  | [], x => [[x]]
  | r :: t, x => if lb r x = r.length then (r ++ [x]) :: t else (r.set (lb r x) x) :: besL t (r.getD (lb r x) 0)
def besI : List (List Int) → Int → Nat
  | [], _ => 0
  | r :: t, x => if lb r x = r.length then 0 else besI t (r.getD (lb r x) 0) + 1

theorem bes_drop {t : List (List Int)} {i : Nat} (h : i < t.length) (x : Int) :
    besL (t.drop i) x = (if lb (t.getD i []) x = (t.getD i []).length then ((t.getD i []) ++ [x]) :: t.drop (i + 1) else ((t.getD i []).set (lb (t.getD i []) x) x) :: besL (t.drop (i + 1)) ((t.getD i []).getD (lb (t.getD i []) x) 0)) ∧
    besI (t.drop i) x = if lb (t.getD i []) x = (t.getD i []).length then 0 else besI (t.drop (i + 1)) ((t.getD i []).getD (lb (t.getD i []) x) 0) + 1 := by
  rw [drop_pred_getD [] h]
  exact ⟨rfl, rfl⟩

theorem bes_step {t out : List (List Int)} {i : Nat} {x : Int} {k : Nat} {L : List (List Int)} {I : Nat} (hi : i < t.length) (hol : out.length = t.length) (hod : out.drop i = t.drop i) (hL : L = out.take i ++ besL (t.drop i) x) (hI : I = i + besI (t.drop i) x)
    (hk : lb (out.getD i []) x = k) : out.getD i [] = t.getD i [] ∧
    (k = (out.getD i []).length → L = out.set i (out.getD i [] ++ [x]) ∧ I = i) ∧
    (k ≠ (out.getD i []).length → L = (out.set i ((out.getD i []).set k x)).take (i + 1) ++ besL (t.drop (i + 1)) ((out.getD i []).getD k 0) ∧ (out.set i ((out.getD i []).set k x)).drop (i + 1) = t.drop (i + 1) ∧ I = i + 1 + besI (t.drop (i + 1)) ((out.getD i []).getD k 0)) := by
  have hr : out.getD i [] = t.getD i [] := by
    have := congrArg (fun l => l.getD 0 []) hod
    simpa [List.getD_eq_getElem?_getD, List.getElem?_drop] using this
  obtain ⟨d1, d2⟩ := bes_drop hi x
  rw [← hr, hk] at d1 d2
  refine ⟨hr, fun h => ?_, fun h => ?_⟩
  · rw [if_pos h] at d1 d2
    rw [hL, hI, d1, d2, set_split (by omega), drop_more hod]
    exact ⟨rfl, rfl⟩
  · rw [if_neg h] at d1 d2
    rw [hL, hI, d1, d2, set_take (by omega), set_drop, drop_more hod]
    refine ⟨by simp, rfl, by omega⟩

theorem left_scan {out cl : List (List Int)} (h : Tr out cl) {j i : Nat} {x : Int} (hi : i ≤ out.length) (h1 : ∀ a, a < i → j < (out.getD a []).length ∧ (out.getD a []).getD j 0 < x)
    (h2 : i = out.length ∨ (out.getD i []).length ≤ j ∨ x ≤ (out.getD i []).getD j 0) : (j < cl.length → lb (cl.getD j []) x = i ∧ i ≤ (cl.getD j []).length) ∧ (cl.length ≤ j → i = 0) := by
  constructor
  · intro hj
    have hle : i ≤ (cl.getD j []).length := by
      by_cases e : i = 0
      · omega
      · have h3 := (h1 (i - 1) (by omega)).1
        have := (tr_row h (show i - 1 < out.length by omega) j).1 h3
        omega
    refine ⟨lb_of hle (fun a ha => ?_) ?_, hle⟩
    · obtain ⟨h3, h4⟩ := h1 a ha
      rwa [tr_cell h (by omega) h3] at h4
    · by_cases e : i = (cl.getD j []).length
      · exact .inl e
      · refine .inr ?_
        obtain ⟨k1, k2⟩ := tr_in h hj (show i < (cl.getD j []).length by omega)
        rw [← tr_cell h k1 k2]
        rcases h2 with h2 | h2 | h2
        · omega
        · omega
        · exact h2
  · intro hj
    refine Classical.byContradiction fun hn => ?_
    have h3 := (h1 0 (by omega)).1
    have := (tr_row h (show 0 < out.length by omega) j).1 h3
    omega

structure LInv (C : List (List Int)) (x0 : Int) (j : Nat) (x : Int) (out cl : List (List Int)) : Prop where
  tr : Tr out cl
  len : cl.length = C.length
  drop : cl.drop j = C.drop j
  L : besL C x0 = cl.take j ++ besL (C.drop j) x
  I : besI C x0 = j + besI (C.drop j) x
  lens : ∀ k, (cl.getD k []).length = (C.getD k []).length
  jle : j ≤ C.length
  bump : 0 < j → ∃ i0, i0 < (C.getD (j - 1) []).length ∧ x = (C.getD (j - 1) []).getD i0 0

theorem left_step {C out cl : List (List Int)} {x0 x : Int} {j i : Nat} (hC : ∀ j i, 0 < j → j < C.length → i < (C.getD j []).length → (C.getD (j - 1) []).getD i 0 ≤ (C.getD j []).getD i 0) (V : LInv C x0 j x out cl)
    (hi : i ≤ out.length) (h1 : ∀ a, a < i → j < (out.getD a []).length ∧ (out.getD a []).getD j 0 < x) (h2 : i = out.length ∨ (out.getD i []).length ≤ j ∨ x ≤ (out.getD i []).getD j 0) :
    (i = out.length → j = 0 ∧ across (besL C x0) = out ++ [[x]] ∧ besI C x0 = 0) ∧
    (i < out.length → (out.getD i []).length = j → across (besL C x0) = out.set i (out.getD i [] ++ [x]) ∧ besI C x0 = j) ∧
    (i < out.length → (out.getD i []).length ≠ j → j < C.length ∧ j < (out.getD i []).length ∧ LInv C x0 (j + 1) ((out.getD i []).getD j 0) (out.set i ((out.getD i []).set j x)) (cl.set j ((cl.getD j []).set i x))) := by
  obtain ⟨tr, len, drop, L, I, lens, jle, bump⟩ := V
  obtain ⟨s1, s2⟩ := left_scan tr hi h1 h2
  by_cases hj : j < C.length
  · obtain ⟨s3, s4⟩ := s1 (by omega)
    obtain ⟨b1, b2, b3⟩ := bes_step hj len drop L I s3
    by_cases he : i = (cl.getD j []).length
    · obtain ⟨e1, e2⟩ := b2 he
      by_cases j0 : j = 0
      · subst j0
        have hio : i = out.length := by rw [he]; exact tr.2.1.symm
        have hf := tr_foot tr (by omega) x
        refine ⟨fun _ => ⟨rfl, by rw [e1]; exact tr_across hf, e2⟩, fun h => by omega, fun h => by omega⟩
      · have hlt : (cl.getD j []).length < (cl.getD (j - 1) []).length := by
          obtain ⟨i0, g1, g2⟩ := bump (by omega)
          rw [lens (j - 1)]
          refine Classical.byContradiction fun hn => ?_
          have g3 : i0 < (C.getD j []).length := by rw [← lens j]; omega
          have g4 := hC j i0 (by omega) hj g3
          rw [← g2, ← b1] at g4
          have g5 : i0 < i := by rw [he, lens j]; exact g3
          obtain ⟨g6, g7⟩ := h1 i0 g5
          rw [tr_cell tr (by omega) g6] at g7
          omega
        obtain ⟨f1, f2, f3⟩ := tr_end tr (by omega) (by omega) hlt x
        rw [← he] at f1 f2 f3
        exact ⟨fun h => by omega, fun _ _ => ⟨by rw [e1]; exact tr_across f3, e2⟩, fun _ h => absurd f2 h⟩
    · have hlt : i < (cl.getD j []).length := by omega
      obtain ⟨f1, f2⟩ := tr_in tr (by omega) hlt
      obtain ⟨e1, e2, e3⟩ := b3 he
      refine ⟨fun h => by omega, fun _ h => by omega, fun _ _ => ⟨hj, f2, ?_⟩⟩
      have hcell := tr_cell tr f1 f2
      have hset : ∀ k, ((cl.set j ((cl.getD j []).set i x)).getD k []).length = (cl.getD k []).length := fun k => by
        rw [getD_set_row (by omega)]
        split
        · rename_i e; rw [e, List.length_set]
        · rfl
      refine ⟨tr_swap tr (by omega) hlt x, by rw [List.length_set]; exact len, e2, by rw [hcell]; exact e1, by rw [hcell]; exact e3, fun k => by rw [hset, lens], by omega, fun _ => ⟨i, ?_, ?_⟩⟩
      · rw [Nat.add_sub_cancel, ← lens j]; exact hlt
      · rw [Nat.add_sub_cancel, hcell, b1]
  · have hjC : j = C.length := by omega
    have hi0 := s2 (by omega)
    have e0 : C.drop j = [] := List.drop_eq_nil_of_le (by omega)
    rw [e0, show besL [] x = [[x]] from rfl, List.take_of_length_le (by omega)] at L
    rw [e0, show besI [] x = 0 from rfl] at I
    subst hi0
    by_cases ho : out.length = 0
    · have hc0 : cl.length = 0 := by
        refine Classical.byContradiction fun hn => ?_
        have := tr.1.1 0 (by omega)
        have := tr.2.1
        omega
      have : out = [] := List.length_eq_zero_iff.1 ho
      subst this
      have : cl = [] := List.length_eq_zero_iff.1 hc0
      subst this
      refine ⟨fun _ => ⟨by omega, by rw [L]; exact tr_across (tr_one x), by omega⟩, fun h => by omega, fun h => by omega⟩
    · obtain ⟨f1, f2⟩ := tr_new tr (by omega) x
      exact ⟨fun h => by omega, fun _ _ => ⟨by rw [L]; exact tr_across f2, by omega⟩, fun _ h => by omega⟩

theorem left_start {t : List (List Int)} (h : tabRows t) (x : Int) : LInv (across t) x 0 x t (across t) :=
  ⟨tr_tab h, rfl, rfl, rfl, by rw [List.drop_zero]; omega, fun _ => rfl, Nat.zero_le _, fun h => by omega⟩

theorem across_asc {t : List (List Int)} (h : tabRows t) : ∀ j i, 0 < j → j < (across t).length → i < ((across t).getD j []).length → ((across t).getD (j - 1) []).getD i 0 ≤ ((across t).getD j []).getD i 0 := fun j i j0 hj hi => by
  have T := tr_tab h
  obtain ⟨k1, k2⟩ := tr_in T hj hi
  rw [← tr_cell T k1 k2, ← tr_cell T k1 (by omega)]
  exact ((h i k1).2.2 j k2).2.1 j0

end Fer
