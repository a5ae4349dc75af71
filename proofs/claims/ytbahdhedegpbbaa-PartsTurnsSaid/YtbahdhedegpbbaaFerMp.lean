import Derived.Test.YtbahdhedegpbbaaFerMo
/- Mathematics: partitions of arms and legs. No program. -/
namespace Fer

def dgRow (a l : List Int) (i : Nat) : List (Int × Int) :=
  ((i : Int), (i : Int)) :: (((List.range (a.getD i 0).toNat).map fun (k : Nat) => ((i : Int), (i : Int) + ((k : Int) + 1))) ++ (List.range (l.getD i 0).toNat).map fun (k : Nat) => ((i : Int) + ((k : Int) + 1), (i : Int)))
def dgB (a l : List Int) (i : Nat) : List (Int × Int) := (List.range i).flatMap (dgRow a l)
theorem dgB_succ (a l : List Int) (i : Nat) : dgB a l (i + 1) = dgB a l i ++ dgRow a l i := by
  unfold dgB; rw [List.range_succ, List.flatMap_append, List.flatMap_cons, List.flatMap_nil, List.append_nil]
/-- Arms, legs and corners of the first i. -/
def frT (a l : List Int) (i : Nat) : Int := (a.take i).sum + (l.take i).sum + i
noncomputable def frE (a l : List Int) : Int :=
  if a.length ≠ l.length then 1 else if fallsB a = false then 1 else if fallsB l = false then 1 else if 40 < frT a l a.length then 2 else 0
noncomputable def frPL (a l : List Int) : List Int := if frE a l = 0 then fromB (dgB a l a.length) else []

theorem frE_zero {a l : List Int} (h : frE a l = 0) : a.length = l.length ∧ fallsP a ∧ fallsP l ∧ frT a l a.length ≤ 40 := by
  unfold frE at h
  split at h
  · cases h
  · rename_i h1
    split at h
    · cases h
    · rename_i h2
      split at h
      · cases h
      · rename_i h3
        split at h
        · cases h
        · rename_i h4
          refine ⟨Classical.byContradiction h1, of_fallsB (by simpa using h2), of_fallsB (by simpa using h3), by omega⟩
theorem frE_len {a l : List Int} (h : a.length ≠ l.length) : frE a l = 1 := by unfold frE; rw [if_pos h]
theorem frE_f1 {a l : List Int} (h : ¬ fallsP a) : frE a l = 1 := by unfold frE; rw [fallsB_false h]; simp
theorem frE_f2 {a l : List Int} (h : ¬ fallsP l) : frE a l = 1 := by unfold frE; rw [fallsB_false h]; simp
theorem frE_big {a l : List Int} (h : a.length = l.length) (ha : fallsP a) (hl : fallsP l) (h2 : 40 < frT a l a.length) : frE a l = 2 := by
  unfold frE; rw [if_neg (fun h' => h' h), fallsB_true ha, fallsB_true hl, if_neg (by simp), if_neg (by simp), if_pos h2]
theorem frE_ok {a l : List Int} (h : a.length = l.length) (ha : fallsP a) (hl : fallsP l) (h2 : frT a l a.length ≤ 40) : frE a l = 0 := by
  unfold frE; rw [if_neg (fun h' => h' h), fallsB_true ha, fallsB_true hl, if_neg (by simp), if_neg (by simp), if_neg (by omega)]

theorem frT_succ {a l : List Int} {i : Nat} (h : a.length = l.length) (hi : i < a.length) : frT a l (i + 1) = frT a l i + (a.getD i 0 + l.getD i 0 + 1) := by
  unfold frT
  rw [sum_take_ext, sum_take_ext, if_pos hi, if_pos (by omega)]; omega
theorem frT_mono {a l : List Int} (h : a.length = l.length) (ha : fallsP a) (hl : fallsP l) {i : Nat} : ∀ n, i + n ≤ a.length → frT a l i + n ≤ frT a l (i + n)
  | 0, _ => by simp
  | n + 1, hn => by
    have := frT_mono h ha hl (i := i) n (by omega)
    rw [show i + (n + 1) = i + n + 1 by omega, frT_succ h (by omega)]
    have := (ha (i + n) (by omega)).1
    have := (hl (i + n) (by omega)).1
    omega
theorem frT_le {a l : List Int} (h : a.length = l.length) (ha : fallsP a) (hl : fallsP l) {i : Nat} (hi : i ≤ a.length) : (i : Int) ≤ frT a l i ∧ frT a l i + (a.length - i) ≤ frT a l a.length := by
  have h1 := frT_mono h ha hl (i := 0) i (by omega)
  have h2 := frT_mono h ha hl (i := i) (a.length - i) (by omega)
  rw [show i + (a.length - i) = a.length by omega] at h2
  rw [show 0 + i = i by omega] at h1
  have h0 : frT a l 0 = 0 := by simp [frT]
  omega

theorem falls_ge {l : List Int} (h : fallsP l) {i : Nat} : ∀ n, i + n < l.length → l.getD (i + n) 0 + n ≤ l.getD i 0
  | 0, _ => by simp
  | n + 1, hn => by
    have h1 := falls_ge h (i := i) n (by omega)
    have h2 := (h (i + n + 1) (by omega)).2 (by omega)
    rw [show i + n + 1 - 1 = i + n by omega] at h2
    rw [show i + (n + 1) = i + n + 1 by omega]
    omega

theorem dgB_length {a l : List Int} (h : a.length = l.length) (ha : fallsP a) (hl : fallsP l) : ∀ i, i ≤ a.length → ((dgB a l i).length : Int) = frT a l i
  | 0, _ => by simp [dgB, frT]
  | i + 1, hi => by
    rw [dgB_succ, frT_succ h (by omega), List.length_append]
    have := dgB_length h ha hl i (by omega)
    have := (ha i (by omega)).1
    have := (hl i (by omega)).1
    simp only [dgRow, List.length_cons, List.length_append, List.length_map, List.length_range]
    omega

/-! ### Rows -/

theorem range_const_count (P : Nat → Bool) (n : Nat) (h : ∀ k, k < n → P k = true) : (List.range n).countP P = n := by
  rw [range_count_ext h]; simp
theorem range_none_count (P : Nat → Bool) (n : Nat) (h : ∀ k, k < n → P k = false) : (List.range n).countP P = 0 := by
  rw [range_count_ext h]; simp
theorem range_one_count (c n : Nat) : (List.range n).countP (fun k => decide (k = c)) = if c < n then 1 else 0 := by
  induction n with
  | zero => rfl
  | succ n ih =>
    rw [range_count_succ, ih]
    by_cases e : n = c
    · subst e; simp
    · rw [if_neg (c := decide _ = true) (by simpa using e)]
      by_cases h : c < n
      · rw [if_pos h, if_pos (by omega)]
      · rw [if_neg h, if_neg (by omega)]

theorem dgRow_count (a l : List Int) (i r : Nat) : (dgRow a l i).countP (fun b => decide (b.1.toNat = r)) = (if i = r then 1 + (a.getD i 0).toNat else 0) + if i < r ∧ r ≤ i + (l.getD i 0).toNat then 1 else 0 := by
  unfold dgRow
  rw [List.countP_cons, List.countP_append, List.countP_map, List.countP_map]
  have e3 : (List.range (l.getD i 0).toNat).countP ((fun b : Int × Int => decide (b.1.toNat = r)) ∘ fun (k : Nat) => ((i : Int) + ((k : Int) + 1), (i : Int))) = if i < r ∧ r ≤ i + (l.getD i 0).toNat then 1 else 0 := by
    by_cases h : i < r
    · rw [range_count_ext (g := fun k => decide (k = r - i - 1)) fun k _ => by
        simp only [Function.comp]
        by_cases e : k = r - i - 1
        · rw [decide_eq_true e, decide_eq_true (by omega)]
        · rw [decide_eq_false e, decide_eq_false (by omega)]]
      rw [range_one_count]
      by_cases h2 : r - i - 1 < (l.getD i 0).toNat
      · rw [if_pos h2, if_pos (by omega)]
      · rw [if_neg h2, if_neg (by omega)]
    · rw [if_neg (by omega)]
      exact range_none_count _ _ fun k _ => decide_eq_false (by dsimp only; omega)
  have e2 : (List.range (a.getD i 0).toNat).countP ((fun b : Int × Int => decide (b.1.toNat = r)) ∘ fun (k : Nat) => ((i : Int), (i : Int) + ((k : Int) + 1))) = if i = r then (a.getD i 0).toNat else 0 := by
    by_cases e : i = r
    · rw [if_pos e]
      exact range_const_count _ _ fun k _ => decide_eq_true (by dsimp only; omega)
    · rw [if_neg e]
      exact range_none_count _ _ fun k _ => decide_eq_false (by dsimp only; omega)
  have e1 : (if decide (((i : Int), (i : Int)).1.toNat = r) = true then 1 else 0) = if i = r then 1 else 0 := by
    by_cases e : i = r
    · rw [if_pos e, if_pos (decide_eq_true (by dsimp only; omega))]
    · rw [if_neg e, if_neg (by rw [decide_eq_true_eq]; dsimp only; omega)]
  rw [e3, e2, e1]
  by_cases e : i = r
  · rw [if_pos e, if_pos e, if_pos e]; omega
  · rw [if_neg e, if_neg e, if_neg e]; omega
theorem dgB_count (a l : List Int) (r : Nat) : ∀ i, (dgB a l i).countP (fun b => decide (b.1.toNat = r)) = (if r < i then 1 + (a.getD r 0).toNat else 0) + (List.range i).countP fun k => decide (k < r ∧ r ≤ k + (l.getD k 0).toNat)
  | 0 => by simp [dgB]
  | i + 1 => by
    rw [dgB_succ, List.countP_append, dgB_count a l r i, dgRow_count, range_count_succ]
    have e : (if decide (i < r ∧ r ≤ i + (l.getD i 0).toNat) = true then 1 else 0) = if i < r ∧ r ≤ i + (l.getD i 0).toNat then 1 else 0 := by
      by_cases h : i < r ∧ r ≤ i + (l.getD i 0).toNat
      · rw [if_pos h, if_pos (decide_eq_true h)]
      · rw [if_neg h, if_neg (by rw [decide_eq_true_eq]; exact h)]
    rw [e]
    by_cases e : i = r
    · subst e; rw [if_neg (c := i < i) (Nat.lt_irrefl i), if_pos rfl, if_pos (c := i < i + 1) (by omega)]; omega
    · rw [if_neg e]
      by_cases h : r < i
      · rw [if_pos h, if_pos (c := r < i + 1) (by omega)]; omega
      · rw [if_neg h, if_neg (c := r < i + 1) (by omega)]; omega
theorem mem_dgB {a l : List Int} {b : Int × Int} {n : Nat} : b ∈ dgB a l n ↔ ∃ i : Nat, i < n ∧ (b = ((i : Int), (i : Int)) ∨ (∃ k : Nat, k < (a.getD i 0).toNat ∧ b = ((i : Int), (i : Int) + ((k : Int) + 1))) ∨ ∃ k : Nat, k < (l.getD i 0).toNat ∧ b = ((i : Int) + ((k : Int) + 1), (i : Int))) := by
  unfold dgB dgRow
  simp only [List.mem_flatMap, List.mem_cons, List.mem_append, List.mem_map, List.mem_range]
  constructor
  · rintro ⟨i, hi, h | ⟨k, hk, h⟩ | ⟨k, hk, h⟩⟩
    · exact ⟨i, hi, .inl h⟩
    · exact ⟨i, hi, .inr (.inl ⟨k, hk, h.symm⟩)⟩
    · exact ⟨i, hi, .inr (.inr ⟨k, hk, h.symm⟩)⟩
  · rintro ⟨i, hi, h | ⟨k, hk, h⟩ | ⟨k, hk, h⟩⟩
    · exact ⟨i, hi, .inl h⟩
    · exact ⟨i, hi, .inr (.inl ⟨k, hk, h.symm⟩)⟩
    · exact ⟨i, hi, .inr (.inr ⟨k, hk, h.symm⟩)⟩

/-- How many of the first n legs reach row r. -/
def lgN (l : List Int) (n r : Nat) : Int := ((List.range n).countP fun (k : Nat) => decide ((r : Int) ≤ l.getD k 0 + k) : Nat)
theorem lgN_succ (l : List Int) (n r : Nat) : lgN l (n + 1) r = lgN l n r + if (r : Int) ≤ l.getD n 0 + n then 1 else 0 := by
  unfold lgN
  rw [range_count_succ]
  by_cases h : (r : Int) ≤ l.getD n 0 + n
  · rw [if_pos h, if_pos (decide_eq_true h)]; omega
  · rw [if_neg h, if_neg (by rw [decide_eq_true_eq]; exact h)]; omega
theorem lgN_le (l : List Int) (n r : Nat) : 0 ≤ lgN l n r ∧ lgN l n r ≤ n := by
  unfold lgN
  have := List.countP_le_length (p := fun (k : Nat) => decide ((r : Int) ≤ l.getD k 0 + k)) (l := List.range n)
  rw [List.length_range] at this
  omega
/-- What stands in row r when n legs have been laid. -/
def frV (a l : List Int) (n r : Nat) : Int := if r < a.length then a.getD r 0 + r + 1 else lgN l n r

/-- The list that the program makes is the list of the boxes. -/
theorem frob_boxes {a l : List Int} {m : Nat} (h : a.length = l.length) (ha : fallsP a) (hl : fallsP l) (hm : a.length ≤ m)
    (h1 : ∀ k, k < a.length → l.getD k 0 + k + 1 ≤ m) (h2 : m = a.length ∨ ∃ k, k < a.length ∧ (m : Int) ≤ l.getD k 0 + k + 1) :
    (List.range m).map (frV a l a.length) = fromB (dgB a l a.length) := by
  have hlen : (fromB (dgB a l a.length)).length = m := by
    have up : (fromB (dgB a l a.length)).length ≤ m := (fromB_len _ _).2 fun b hb => by
      obtain ⟨i, hi, h' | ⟨k, hk, h'⟩ | ⟨k, hk, h'⟩⟩ := mem_dgB.1 hb <;> subst h' <;> dsimp only
      · omega
      · omega
      · have := h1 i hi; omega
    refine Nat.le_antisymm up (Nat.le_of_not_lt fun hlt => ?_)
    have down := (fromB_len (dgB a l a.length) (m - 1)).1 (by omega)
    rcases h2 with h2 | ⟨k, hk, h2⟩
    · have := down (((m - 1 : Nat) : Int), ((m - 1 : Nat) : Int)) (mem_dgB.2 ⟨m - 1, by omega, .inl rfl⟩)
      dsimp only at this
      omega
    · have h0 := (hl k (by omega)).1
      by_cases e : l.getD k 0 = 0
      · have := down ((k : Int), (k : Int)) (mem_dgB.2 ⟨k, hk, .inl rfl⟩)
        dsimp only at this
        omega
      · have := down ((k : Int) + ((((l.getD k 0).toNat - 1 : Nat) : Int) + 1), (k : Int)) (mem_dgB.2 ⟨k, hk, .inr (.inr ⟨(l.getD k 0).toNat - 1, by omega, rfl⟩)⟩)
        dsimp only at this
        omega
  refine ext_getD 0 (by rw [hlen]; simp) fun r hr => ?_
  rw [List.length_map, List.length_range] at hr
  rw [range_map_getD _ _ hr, fromB_getD, dgB_count]
  unfold frV lgN
  by_cases e : r < a.length
  · rw [if_pos e, if_pos e]
    have h0 := (ha r e).1
    have : (List.range a.length).countP (fun k => decide (k < r ∧ r ≤ k + (l.getD k 0).toNat)) = r := by
      rw [range_count_ext (g := fun k => decide (k < r)) fun k hk => by
        by_cases e2 : k < r
        · have := falls_ge hl (i := k) (r - k) (by omega)
          rw [show k + (r - k) = r by omega] at this
          have h0 := (hl r (by omega)).1
          rw [decide_eq_true e2, decide_eq_true ⟨e2, by omega⟩]
        · rw [decide_eq_false e2, decide_eq_false (fun h => e2 h.1)]]
      rw [range_countP_lt]; omega
    rw [this]; omega
  · rw [if_neg e, if_neg e, Nat.zero_add]
    congr 1
    refine range_count_ext fun k hk => ?_
    have h0 := (hl k (by omega)).1
    by_cases e2 : (r : Int) ≤ l.getD k 0 + k
    · rw [decide_eq_true e2, decide_eq_true ⟨by omega, by omega⟩]
    · rw [decide_eq_false e2, decide_eq_false (by omega)]

theorem frT_val {a l : List Int} (h : a.length = l.length) (ha : fallsP a) (hl : fallsP l) {k : Nat} (hk : k < a.length) : a.getD k 0 + l.getD k 0 + 1 + k ≤ frT a l a.length := by
  have h1 := frT_le h ha hl (i := k) (by omega)
  have h2 := frT_le h ha hl (i := k + 1) (by omega)
  have h3 := frT_succ h hk
  omega
theorem frV_zero {a l : List Int} {r : Nat} (h : a.length ≤ r) : frV a l 0 r = 0 := by
  unfold frV; rw [if_neg (by omega)]; simp [lgN]
theorem frV_arm {a l : List Int} {n r : Nat} (h : r < a.length) : frV a l n r = a.getD r 0 + r + 1 := if_pos h
theorem frV_le {a l : List Int} {c : Int} {n : Nat} (h : ∀ k, k < a.length → 0 ≤ a.getD k 0 ∧ a.getD k 0 + k + 1 ≤ c) (hc : (n : Int) ≤ c) (r : Nat) : 0 ≤ frV a l n r ∧ frV a l n r ≤ c := by
  unfold frV
  split
  · rename_i h1; have := h r h1; omega
  · have := lgN_le l n r; omega
/-- Leg n laid as far as row r. -/
def frW (a l : List Int) (n : Nat) (r : Int) (q : Nat) : Int := frV a l n q + if a.length ≤ q ∧ (q : Int) < r then 1 else 0
theorem frW_start (a l : List Int) (n : Nat) : frW a l n a.length = frV a l n := by
  funext q; unfold frW; rw [if_neg (by omega)]; omega
theorem frW_end {a l : List Int} {n : Nat} {r : Int} (h1 : l.getD n 0 + n < r) (h2 : r ≤ l.getD n 0 + n + 1 ∨ r = a.length) : frW a l n r = frV a l (n + 1) := by
  funext q; unfold frW frV
  by_cases e : q < a.length
  · rw [if_pos e, if_pos e, if_neg (by omega)]; omega
  · rw [if_neg e, if_neg e, lgN_succ]
    by_cases e2 : (q : Int) ≤ l.getD n 0 + n
    · rw [if_pos e2, if_pos (by omega)]
    · rw [if_neg e2, if_neg (by omega)]
theorem frW_set {a l : List Int} {n m : Nat} {r : Int} (h0 : (a.length : Int) ≤ r) (hm : r < m) : ((List.range m).map (frW a l n r)).set r.toNat (((List.range m).map (frW a l n r)).getD r.toNat 0 + 1) = (List.range m).map (frW a l n (r + 1)) := by
  refine ext_getD 0 (by simp) fun q hq => ?_
  have hq : q < m := by simpa using hq
  rw [getD_set_if 0 (by simp; omega), range_map_getD (frW a l n r) _ hq, range_map_getD (frW a l n r) _ (show r.toNat < m by omega), range_map_getD (frW a l n (r + 1)) _ hq]
  unfold frW
  by_cases e : q = r.toNat
  · rw [if_pos e, if_neg (by omega), e, if_pos (by omega)]; omega
  · rw [if_neg e]
    by_cases e2 : a.length ≤ q ∧ (q : Int) < r
    · rw [if_pos e2, if_pos (by omega)]
    · rw [if_neg e2, if_neg (by omega)]

def dgR1 (i k : Nat) : List (Int × Int) := (List.range k).map fun (k : Nat) => ((i : Int), (i : Int) + ((k : Int) + 1))
def dgR2 (i k : Nat) : List (Int × Int) := (List.range k).map fun (k : Nat) => ((i : Int) + ((k : Int) + 1), (i : Int))
theorem dgRow_eq (a l : List Int) (i : Nat) : dgRow a l i = [((i : Int), (i : Int))] ++ dgR1 i (a.getD i 0).toNat ++ dgR2 i (l.getD i 0).toNat := rfl
theorem dgR1_succ (i k : Nat) : dgR1 i (k + 1) = dgR1 i k ++ [((i : Int), (i : Int) + ((k : Int) + 1))] := range_map_succ _ _
theorem dgR2_succ (i k : Nat) : dgR2 i (k + 1) = dgR2 i k ++ [((i : Int) + ((k : Int) + 1), (i : Int))] := range_map_succ _ _
theorem dgR1_length (i k : Nat) : (dgR1 i k).length = k := by simp [dgR1]
theorem dgR2_length (i k : Nat) : (dgR2 i k).length = k := by simp [dgR2]

end Fer
