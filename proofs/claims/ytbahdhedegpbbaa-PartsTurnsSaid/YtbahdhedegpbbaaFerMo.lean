import Derived.Test.YtbahdhedegpbbaaFerMn
/- Mathematics: the diagonal's boxes are the diagonal; partitions of arms and legs. No program. -/
namespace Fer

theorem range_countP_lt (d r : Nat) : (List.range d).countP (fun k => decide (k < r)) = min d r := by
  induction d with
  | zero => simp
  | succ d ih =>
    rw [List.range_succ, List.countP_append, ih, List.countP_cons, List.countP_nil]
    by_cases h : d < r
    · rw [if_pos (decide_eq_true h)]; omega
    · rw [if_neg (by simpa using h)]; omega
theorem range_count_succ (f : Nat → Bool) (n : Nat) : (List.range (n + 1)).countP f = (List.range n).countP f + if f n = true then 1 else 0 := by
  rw [List.range_succ, List.countP_append, List.countP_cons, List.countP_nil, Nat.zero_add]
theorem range_count_ext {f g : Nat → Bool} {n : Nat} (h : ∀ k, k < n → f k = g k) : (List.range n).countP f = (List.range n).countP g := by
  refine List.countP_congr fun k hk => ?_
  rw [h k (List.mem_range.1 hk)]

/-! ### The diagonal's boxes -/

theorem rowB_diag (i n : Nat) : (rowB i n).filter (fun b => decide (b.1 = b.2)) = if i < n then [((i : Int), (i : Int))] else [] := by
  induction n with
  | zero => rfl
  | succ n ih =>
    rw [rowB_succ, List.filter_append, ih]
    by_cases e : i = n
    · subst e; simp
    · have : ¬ ((i : Int) = (n : Int)) := by omega
      simp only [List.filter_cons, List.filter_nil, this, decide_false, Bool.false_eq_true, if_false, List.append_nil]
      by_cases h : i < n
      · rw [if_pos h, if_pos (by omega)]
      · rw [if_neg h, if_neg (by omega)]
theorem boxes_diag (p : List Int) : ∀ i, (boxesTo p i).filter (fun b => decide (b.1 = b.2)) = ((List.range i).filter fun (i : Nat) => decide ((i : Int) < p.getD i 0)).map fun (i : Nat) => ((i : Int), (i : Int))
  | 0 => rfl
  | i + 1 => by
    rw [boxesTo_succ, List.filter_append, boxes_diag p i, rowB_diag, List.range_succ, List.filter_append, List.map_append]
    congr 1
    by_cases h : i < (p.getD i 0).toNat
    · rw [if_pos h]
      simp only [List.filter_cons, List.filter_nil, show ((i : Int) < p.getD i 0) by omega, decide_true, if_true, List.map_cons, List.map_nil]
    · rw [if_neg h]
      simp only [List.filter_cons, List.filter_nil, show ¬ ((i : Int) < p.getD i 0) by omega, decide_false, Bool.false_eq_true, if_false, List.map_nil]

/-- The diagonal's length. -/
theorem durf_len {p : List Int} : ∃ d, d ≤ p.length ∧ (∀ a, a < d → (a : Int) < p.getD a 0) ∧ (d = p.length ∨ p.getD d 0 ≤ d) ∧ durf p = List.range d := by
  obtain ⟨m, hm, h1, h2⟩ := leastNat (P := fun m => m = p.length ∨ p.getD m 0 ≤ m) p.length (.inl rfl)
  have hlt : ∀ a, a < m → (a : Int) < p.getD a 0 := fun a ha => by have := h2 a ha; omega
  exact ⟨m, hm, hlt, h1, durf_of hm hlt h1⟩

theorem durf_filter {p : List Int} (hr : partRows p) : (List.range p.length).filter (fun (i : Nat) => decide ((i : Int) < p.getD i 0)) = durf p := by
  obtain ⟨d, hd, h1, h2, e⟩ := durf_len (p := p)
  rw [e]
  have : List.range p.length = List.range d ++ (List.range (p.length - d)).map (d + ·) := by
    conv => lhs; rw [show p.length = d + (p.length - d) by omega]
    rw [List.range_add]
  rw [this, List.filter_append]
  have e1 : (List.range d).filter (fun (i : Nat) => decide ((i : Int) < p.getD i 0)) = List.range d := List.filter_eq_self.2 fun a ha => decide_eq_true (h1 a (List.mem_range.1 ha))
  have e2 : ((List.range (p.length - d)).map (d + ·)).filter (fun (i : Nat) => decide ((i : Int) < p.getD i 0)) = [] := List.filter_eq_nil_iff.2 fun a ha => by
    obtain ⟨k, hk, rfl⟩ := List.mem_map.1 ha
    have hk := List.mem_range.1 hk
    have := part_desc hr (show d ≤ d + k by omega) (by omega)
    rw [decide_eq_true_eq]
    rcases h2 with h2 | h2
    · omega
    · omega
  rw [e1, e2, List.append_nil]

theorem rowB_arm (r n i : Nat) : (rowB r n).countP (fun k => decide (k.1 = ((i : Int), (i : Int)).1 ∧ ((i : Int), (i : Int)).2 < k.2)) = if r = i then n - (i + 1) else 0 := by
  induction n with
  | zero => simp [rowB]
  | succ n ih =>
    rw [rowB_succ, List.countP_append, ih, List.countP_cons, List.countP_nil]
    by_cases e : r = i
    · rw [if_pos e, if_pos e]
      by_cases h : i < n
      · rw [if_pos (decide_eq_true (by dsimp only; omega))]; omega
      · rw [if_neg (by rw [decide_eq_true_eq]; dsimp only; omega)]; omega
    · rw [if_neg e, if_neg e, if_neg (by rw [decide_eq_true_eq]; dsimp only; omega)]
theorem boxes_arm (p : List Int) (i : Nat) : ∀ n, (boxesTo p n).countP (fun k => decide (k.1 = ((i : Int), (i : Int)).1 ∧ ((i : Int), (i : Int)).2 < k.2)) = if i < n then (p.getD i 0).toNat - (i + 1) else 0
  | 0 => by simp [boxesTo]
  | n + 1 => by
    rw [boxesTo_succ, List.countP_append, boxes_arm p i n, rowB_arm]
    by_cases e : n = i
    · subst e; rw [if_neg (by omega), if_pos rfl, if_pos (by omega)]; omega
    · rw [if_neg e]
      by_cases h : i < n
      · rw [if_pos h, if_pos (by omega)]; omega
      · rw [if_neg h, if_neg (by omega)]
theorem rowB_leg (r n i : Nat) : (rowB r n).countP (fun k => decide (k.2 = ((i : Int), (i : Int)).2 ∧ ((i : Int), (i : Int)).1 < k.1)) = if i < r ∧ i < n then 1 else 0 := by
  induction n with
  | zero => simp [rowB]
  | succ n ih =>
    rw [rowB_succ, List.countP_append, ih, List.countP_cons, List.countP_nil]
    by_cases e : n = i
    · rw [if_neg (by omega)]
      by_cases h : i < r
      · rw [if_pos (decide_eq_true (by dsimp only; omega)), if_pos (by omega)]
      · rw [if_neg (by rw [decide_eq_true_eq]; dsimp only; omega), if_neg (by omega)]
    · rw [if_neg (c := decide _ = true) (by rw [decide_eq_true_eq]; dsimp only; omega)]
      by_cases h : i < r ∧ i < n
      · rw [if_pos h, if_pos (by omega)]
      · rw [if_neg h, if_neg (by omega)]
theorem boxes_leg (p : List Int) (i : Nat) : ∀ n, (boxesTo p n).countP (fun k => decide (k.2 = ((i : Int), (i : Int)).2 ∧ ((i : Int), (i : Int)).1 < k.1)) = (List.range n).countP fun (r : Nat) => decide (i < r ∧ (i : Int) < p.getD r 0)
  | 0 => by simp [boxesTo]
  | n + 1 => by
    rw [boxesTo_succ, List.countP_append, boxes_leg p i n, rowB_leg, range_count_succ]
    by_cases h : i < n ∧ i < (p.getD n 0).toNat
    · rw [if_pos h, if_pos (decide_eq_true (by omega))]
    · rw [if_neg h, if_neg (by rw [decide_eq_true_eq]; omega)]
theorem count_rows (p : List Int) (i : Nat) : ∀ n, n ≤ p.length → (p.take n).countP (fun x => decide ((i : Int) < x)) = (List.range n).countP fun (r : Nat) => decide ((i : Int) < p.getD r 0)
  | 0, _ => by simp
  | n + 1, h => by rw [countP_take_succ _ 0 (by omega), count_rows p i n (by omega), range_count_succ]

/-- Split a count at i. -/
theorem count_split (f : Nat → Bool) {i n : Nat} (h1 : i < n) (h2 : ∀ k, k ≤ i → f k = true) : (List.range n).countP f = i + 1 + (List.range n).countP fun r => decide (i < r) && f r := by
  induction n with
  | zero => omega
  | succ n ih =>
    rw [range_count_succ, range_count_succ]
    by_cases e : i < n
    · rw [ih e, decide_eq_true e, Bool.true_and]; omega
    · have e : i = n := by omega
      subst e
      have a : (List.range i).countP f = i := by
        rw [range_count_ext (g := fun _ => true) fun k hk => h2 k (by omega)]; simp
      have b : (List.range i).countP (fun r => decide (i < r) && f r) = 0 := by
        rw [List.countP_eq_zero]
        intro r hr
        have := List.mem_range.1 hr
        simp only [Bool.and_eq_true, decide_eq_true_eq]
        omega
      rw [a, b, if_pos (h2 i (Nat.le_refl _)), if_neg (by simp)]

theorem diag_eq {p : List Int} (hr : partRows p) : diagA (boxes p) = frA p ∧ diagL (boxes p) = frL p := by
  have hf : (boxes p).filter (fun b => decide (b.1 = b.2)) = (durf p).map fun (i : Nat) => ((i : Int), (i : Int)) := by
    have := boxes_diag p p.length
    rw [durf_filter hr] at this
    exact this
  obtain ⟨d, hd, h1, h2, e⟩ := durf_len (p := p)
  unfold diagA diagL frA frL
  rw [hf, e, List.map_map, List.map_map]
  refine ⟨List.map_congr_left fun i hi => ?_, List.map_congr_left fun i hi => ?_⟩
  all_goals
    have hi := List.mem_range.1 hi
    have hlt := h1 i hi
    simp only [Function.comp]
  · have := boxes_arm p i p.length
    rw [if_pos (by omega)] at this
    unfold armN
    have e2 : boxesTo p p.length = boxes p := rfl
    rw [← e2, this]
    omega
  · have := boxes_leg p i p.length
    unfold legN
    have e2 : boxesTo p p.length = boxes p := rfl
    have h0 := part_desc hr (Nat.zero_le i) (show i < p.length by omega)
    rw [← e2, this, (flipL_getD (by omega)).resolve_right fun h => h hr]
    have e3 := count_rows p i p.length (Nat.le_refl _)
    rw [List.take_length] at e3
    have e4 := count_split (fun (r : Nat) => decide ((i : Int) < p.getD r 0)) (show i < p.length by omega) fun k hk => by
      have := part_desc hr hk (show i < p.length by omega)
      exact decide_eq_true (by omega)
    rw [e3, e4, range_count_ext (f := fun r => decide (i < r) && decide ((i : Int) < p.getD r 0)) (g := fun r => decide (i < r ∧ (i : Int) < p.getD r 0)) fun k _ => by simp]
    omega

end Fer
