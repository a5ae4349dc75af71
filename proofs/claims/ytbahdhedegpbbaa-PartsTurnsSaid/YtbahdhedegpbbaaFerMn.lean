import Derived.Test.YtbahdhedegpbbaaFerMm
/- Plain facts: partitions. No program in sight. -/
namespace Fer

def partRow (p : List Int) (i : Nat) : Prop := 1 ≤ p.getD i 0 ∧ (0 < i → p.getD i 0 ≤ p.getD (i - 1) 0)
def partRows (p : List Int) : Prop := ∀ i, i < p.length → partRow p i
noncomputable def partE (p : List Int) : Int := @ite _ (partRows p) (Classical.propDecidable _) (if 40 < p.sum then 2 else 0) 1

theorem partE_bad {p : List Int} (h : ¬ partRows p) : partE p = 1 := if_neg h
theorem partE_big {p : List Int} (h : partRows p) (h2 : 40 < p.sum) : partE p = 2 := (if_pos h).trans (if_pos h2)
theorem partE_ok {p : List Int} (h : partRows p) (h2 : ¬ 40 < p.sum) : partE p = 0 := (if_pos h).trans (if_neg h2)
theorem partE_zero {p : List Int} (h : partE p = 0) : partRows p ∧ p.sum ≤ 40 := by
  by_cases h1 : partRows p
  · by_cases h2 : 40 < p.sum
    · rw [partE_big h1 h2] at h; cases h
    · exact ⟨h1, by omega⟩
  · rw [partE_bad h1] at h; cases h

theorem part_take {p : List Int} (h : partRows p) : ∀ i, i ≤ p.length → (i : Int) ≤ (p.take i).sum
  | 0, _ => by simp
  | i + 1, hi => by
    have := part_take h i (by omega)
    have := (h i (by omega)).1
    rw [sum_take_succ (by omega)]; omega
theorem part_mono {p : List Int} (h : partRows p) {i : Nat} : ∀ d, i + d ≤ p.length → (p.take i).sum ≤ (p.take (i + d)).sum
  | 0, _ => Int.le_refl _
  | d + 1, hi => by
    have := part_mono h (i := i) d (by omega)
    have := (h (i + d) (by omega)).1
    rw [show i + (d + 1) = (i + d) + 1 by omega, sum_take_succ (by omega)]; omega
theorem part_sum {p : List Int} (h : partRows p) {i : Nat} (hi : i ≤ p.length) : (p.take i).sum ≤ p.sum := by
  have := part_mono h (i := i) (p.length - i) (by omega)
  rwa [show i + (p.length - i) = p.length by omega, List.take_length] at this
theorem part_le {p : List Int} (h : partRows p) {i : Nat} (hi : i < p.length) : p.getD i 0 ≤ p.sum := by
  have h1 := part_sum h (show i + 1 ≤ p.length by omega)
  have h2 := part_take h i (by omega)
  rw [sum_take_succ hi] at h1
  omega
theorem part_length {p : List Int} (h : partRows p) : (p.length : Int) ≤ p.sum := by
  have := part_take h p.length (Nat.le_refl _)
  rwa [List.take_length] at this
theorem part_desc {p : List Int} (h : partRows p) {i j : Nat} (hij : i ≤ j) (hj : j < p.length) : p.getD j 0 ≤ p.getD i 0 := by
  have key : ∀ d i, i + d < p.length → p.getD (i + d) 0 ≤ p.getD i 0 := by
    intro d
    induction d with
    | zero => intro i _; exact Int.le_refl _
    | succ d ih =>
      intro i hi
      have := (h (i + d + 1) (by omega)).2 (by omega)
      rw [Nat.add_sub_cancel] at this
      exact Int.le_trans this (ih i (by omega))
  have := key (j - i) i (by omega)
  rwa [show i + (j - i) = j by omega] at this

/-- The first ones of a have always as many as those of b. -/
def domP (a b : List Int) : Prop := ∀ k, (b.take k).sum ≤ (a.take k).sum
noncomputable def domB (a b : List Int) : Bool := @decide (domP a b) (Classical.propDecidable _)
theorem domB_true {a b : List Int} (h : domP a b) : domB a b = true := @decide_eq_true _ (Classical.propDecidable _) h
theorem domB_false {a b : List Int} (h : ¬ domP a b) : domB a b = false := @decide_eq_false _ (Classical.propDecidable _) h

theorem take_min (l : List Int) (k : Nat) : l.take (min k l.length) = l.take k := by
  by_cases h : k ≤ l.length
  · rw [Nat.min_eq_left h]
  · rw [Nat.min_eq_right (by omega), List.take_length, List.take_of_length_le (by omega)]

theorem dom_of {a b : List Int} {n : Nat} (hn : a.length ≤ n) (hm : b.length ≤ n) (h : ∀ k, k ≤ n → (b.take k).sum ≤ (a.take k).sum) : domP a b := fun k => by
  by_cases hk : k ≤ n
  · exact h k hk
  · have := h n (Nat.le_refl _)
    rw [List.take_of_length_le (by omega), List.take_of_length_le (by omega)] at this ⊢
    exact this

noncomputable def pbE (a b : List Int) : Int := if partE a ≠ 0 then partE a else if partE b ≠ 0 then partE b else if a.sum ≠ b.sum then 3 else 0
theorem pbE_zero {a b : List Int} (h : pbE a b = 0) : partE a = 0 ∧ partE b = 0 ∧ a.sum = b.sum := by
  unfold pbE at h
  split at h
  · rename_i h1; exact absurd h h1
  · rename_i h1
    split at h
    · rename_i h2; exact absurd h h2
    · rename_i h2
      split at h
      · cases h
      · rename_i h3
        exact ⟨by simpa using h1, by simpa using h2, by simpa using h3⟩

theorem sum_take_ext {l : List Int} {i : Nat} : (l.take (i + 1)).sum = (l.take i).sum + if i < l.length then l.getD i 0 else 0 := by
  by_cases h : i < l.length
  · rw [if_pos h, sum_take_succ h]
  · rw [if_neg h, List.take_of_length_le (by omega), List.take_of_length_le (by omega)]; omega
theorem part_take_rng {p : List Int} (h : partE p = 0) (i : Nat) : 0 ≤ (p.take i).sum ∧ (p.take i).sum ≤ 40 := by
  obtain ⟨h1, h2⟩ := partE_zero h
  rw [← take_min]
  have := part_take h1 (min i p.length) (Nat.min_le_right ..)
  have := part_sum h1 (i := min i p.length) (Nat.min_le_right ..)
  omega

/-- How many parts are greater: the columns. -/
def flipL (p : List Int) : List Int := (List.range (p.getD 0 0).toNat).map fun (j : Nat) => (((p.takeWhile fun x => decide ((j : Int) < x)).length : Nat) : Int)

/-! ### Rows of boxes, counted -/

theorem fbOne_getD {out : List Int} {b : Int × Int} (r : Nat) : (fbOne out b).getD r 0 = out.getD r 0 + if b.1.toNat = r then 1 else 0 := by
  have hap : ∀ k, (out ++ List.replicate (b.1.toNat + 1 - out.length) 0).getD k 0 = out.getD k 0 := fun k => by
    rw [append_getD]
    split
    · rfl
    · rename_i h
      rw [replicate_getD, List.getD_eq_getElem?_getD, List.getElem?_eq_none (by omega)]; rfl
  unfold fbOne
  rw [getD_set_if 0 (by rw [List.length_append, List.length_replicate]; omega), hap]
  by_cases e : r = b.1.toNat
  · rw [if_pos e, if_pos e.symm, e]
  · rw [if_neg e, if_neg (fun h => e h.symm), hap]; omega
theorem fold_getD (r : Nat) : ∀ (l : List (Int × Int)) (out : List Int), (l.foldl fbOne out).getD r 0 = out.getD r 0 + (l.countP fun b => decide (b.1.toNat = r) : Nat)
  | [], out => by simp
  | b :: l, out => by
    rw [List.foldl_cons, fold_getD r l, fbOne_getD, List.countP_cons]
    by_cases e : b.1.toNat = r
    · simp only [e, if_true, decide_true]; omega
    · simp only [e, if_false, decide_false, Bool.false_eq_true]; omega
theorem fold_length (m : Nat) : ∀ (l : List (Int × Int)) (out : List Int), (l.foldl fbOne out).length ≤ m ↔ out.length ≤ m ∧ ∀ b ∈ l, b.1.toNat < m
  | [], out => by simp
  | b :: l, out => by
    rw [List.foldl_cons, fold_length m l, fbOne_length]
    simp only [List.mem_cons, forall_eq_or_imp]
    constructor
    · rintro ⟨h1, h2⟩; exact ⟨by omega, by omega, h2⟩
    · rintro ⟨h1, h2, h3⟩; exact ⟨by omega, h3⟩
theorem fromB_getD (l : List (Int × Int)) (r : Nat) : (fromB l).getD r 0 = (l.countP fun b => decide (b.1.toNat = r) : Nat) := by
  unfold fromB
  rw [fold_getD]; simp
theorem fromB_len (l : List (Int × Int)) (m : Nat) : (fromB l).length ≤ m ↔ ∀ b ∈ l, b.1.toNat < m := by
  unfold fromB
  rw [fold_length]; simp

theorem rowB_col (i n j : Nat) : (rowB i n).countP (fun b => decide (b.2.toNat = j)) = if j < n then 1 else 0 := by
  induction n with
  | zero => rfl
  | succ n ih =>
    rw [rowB_succ, List.countP_append, ih]
    by_cases e : n = j
    · subst e; simp
    · have : ¬ ((n : Int).toNat = j) := by omega
      simp only [List.countP_cons, List.countP_nil, this, decide_false, Bool.false_eq_true, if_false]
      by_cases h : j < n
      · rw [if_pos h, if_pos (by omega)]
      · rw [if_neg h, if_neg (by omega)]
theorem boxes_col {p : List Int} (j : Nat) (hr : partRows p) : ∀ i, i ≤ p.length → (boxesTo p i).countP (fun b => decide (b.2.toNat = j)) = (p.take i).countP fun x => decide ((j : Int) < x)
  | 0, _ => by simp [boxesTo]
  | i + 1, hi => by
    have := (hr i (by omega)).1
    rw [boxesTo_succ, List.countP_append, boxes_col j hr i (by omega), countP_take_succ _ 0 (by omega), rowB_col]
    by_cases h : j < (p.getD i 0).toNat
    · rw [if_pos h, if_pos (decide_eq_true (by omega))]
    · rw [if_neg h, if_neg (by rw [decide_eq_true_eq]; omega)]

theorem while_count {p : List Int} (hr : partRows p) (j : Int) : (p.takeWhile fun x => decide (j < x)).length = p.countP fun x => decide (j < x) := by
  obtain ⟨m, hm, h1, h2⟩ := leastNat (P := fun m => m = p.length ∨ ¬ j < p.getD m 0) p.length (.inl rfl)
  have hlt : ∀ a, a < m → j < p.getD a 0 := fun a ha => by have := h2 a ha; omega
  rw [while_cutG 0 hm (fun a ha => decide_eq_true (hlt a ha)) (h1.imp id fun h => decide_eq_false h), List.length_take]
  have e1 : (p.take m).countP (fun x => decide (j < x)) = (p.take m).length := List.countP_eq_length.2 fun x hx => by
    obtain ⟨a, ha, rfl⟩ := mem_getD 0 hx
    rw [List.length_take] at ha
    have : (p.take m).getD a 0 = p.getD a 0 := by simp only [List.getD_eq_getElem?_getD, List.getElem?_take, if_pos (show a < m by omega)]
    rw [this]
    exact decide_eq_true (hlt a (by omega))
  have e2 : (p.drop m).countP (fun x => decide (j < x)) = 0 := List.countP_eq_zero.2 fun x hx => by
    obtain ⟨a, ha, rfl⟩ := mem_getD 0 hx
    rw [List.length_drop] at ha
    rw [drop_getD]
    have := part_desc hr (show m ≤ m + a by omega) (by omega)
    rw [decide_eq_true_eq]
    rcases h1 with h1 | h1
    · omega
    · omega
  have e3 : p.countP (fun x => decide (j < x)) = (p.take m).countP (fun x => decide (j < x)) + (p.drop m).countP (fun x => decide (j < x)) := by
    rw [← List.countP_append, List.take_append_drop]
  rw [e3, e1, e2, List.length_take]
  omega

theorem flipL_getD {p : List Int} {j : Nat} (h : j < (p.getD 0 0).toNat) : (flipL p).getD j 0 = (p.countP (fun x => decide ((j : Int) < x)) : Nat) ∨ ¬ partRows p := by
  by_cases hr : partRows p
  · left
    unfold flipL
    rw [range_map_getD _ _ h, while_count hr]
  · exact .inr hr

theorem mem_boxes {p : List Int} {b : Int × Int} : b ∈ boxes p ↔ ∃ i j : Nat, i < p.length ∧ j < (p.getD i 0).toNat ∧ b = ((i : Int), (j : Int)) := by
  unfold boxes rowB
  simp only [List.mem_flatMap, List.mem_map, List.mem_range]
  constructor
  · rintro ⟨i, hi, j, hj, rfl⟩; exact ⟨i, j, hi, hj, rfl⟩
  · rintro ⟨i, j, hi, hj, rfl⟩; exact ⟨i, hi, j, hj, rfl⟩

theorem conj_eq {p : List Int} (hr : partRows p) : fromB ((boxes p).map fun b => (b.2, b.1)) = flipL p := by
  have hfl : (flipL p).length = (p.getD 0 0).toNat := by simp [flipL]
  have hlen : ∀ m, (fromB ((boxes p).map fun b => (b.2, b.1))).length ≤ m ↔ (p.getD 0 0).toNat ≤ m := fun m => by
    rw [fromB_len]
    simp only [List.mem_map, forall_exists_index, and_imp, forall_apply_eq_imp_iff₂]
    constructor
    · intro h
      by_cases e : (p.getD 0 0).toNat = 0
      · omega
      · have hp : 0 < p.length := by
          refine Classical.byContradiction fun hn => e ?_
          rw [List.length_eq_zero_iff.1 (show p.length = 0 by omega)]; rfl
        have := h (((0 : Nat) : Int), ((((p.getD 0 0).toNat - 1 : Nat)) : Int)) (mem_boxes.2 ⟨0, _, hp, by omega, rfl⟩)
        dsimp only at this
        omega
    · rintro h b hb
      obtain ⟨i, j, hi, hj, rfl⟩ := mem_boxes.1 hb
      have := part_desc hr (Nat.zero_le i) hi
      dsimp only
      omega
  have hl : (fromB ((boxes p).map fun b => (b.2, b.1))).length = (flipL p).length := by
    have h1 := hlen (fromB ((boxes p).map fun b => (b.2, b.1))).length
    have h2 := hlen (p.getD 0 0).toNat
    omega
  refine ext_getD 0 hl fun j hj => ?_
  rw [fromB_getD, (flipL_getD (by omega)).resolve_right (fun h => h hr), List.countP_map]
  have := boxes_col j hr p.length (Nat.le_refl _)
  rw [List.take_length] at this
  rw [← this]
  rfl

/-! ### The diagonal -/

def durf (p : List Int) : List Nat := (List.range p.length).takeWhile fun (i : Nat) => decide ((i : Int) < p.getD i 0)
def frA (p : List Int) : List Int := (durf p).map fun (i : Nat) => p.getD i 0 - i - 1
def frL (p : List Int) : List Int := (durf p).map fun (i : Nat) => (flipL p).getD i 0 - i - 1

theorem durf_of {p : List Int} {i : Nat} (hi : i ≤ p.length) (h1 : ∀ a, a < i → (a : Int) < p.getD a 0) (h2 : i = p.length ∨ p.getD i 0 ≤ i) : durf p = List.range i := by
  have e : ∀ a, a < p.length → (List.range p.length).getD a 0 = a := fun a ha => by rw [getD_lt 0 (by simp; omega)]; simp
  have k1 : ∀ a, a < i → (fun i : Nat => decide ((i : Int) < p.getD i 0)) ((List.range p.length).getD a 0) = true := fun a ha => by
    rw [e a (by omega)]; exact decide_eq_true (h1 a ha)
  have k2 : i = (List.range p.length).length ∨ (fun i : Nat => decide ((i : Int) < p.getD i 0)) ((List.range p.length).getD i 0) = false := by
    by_cases c : i = p.length
    · left; simpa using c
    · right
      rw [e i (by omega)]
      exact decide_eq_false (by omega)
  unfold durf
  rw [while_cutG 0 (by simpa using hi) k1 k2, List.take_range, Nat.min_eq_left hi]

/-- A box's arm and leg. -/
def armN (l : List (Int × Int)) (b : Int × Int) : Int := (l.countP fun k => decide (k.1 = b.1 ∧ b.2 < k.2) : Nat)
def legN (l : List (Int × Int)) (b : Int × Int) : Int := (l.countP fun k => decide (k.2 = b.2 ∧ b.1 < k.1) : Nat)
def diagA (l : List (Int × Int)) : List Int := (l.filter fun b => decide (b.1 = b.2)).map (armN l)
def diagL (l : List (Int × Int)) : List Int := (l.filter fun b => decide (b.1 = b.2)).map (legN l)
def dgTo (f : Int × Int → Int) (l : List (Int × Int)) (i : Nat) : List Int := ((l.take i).filter fun b => decide (b.1 = b.2)).map f
theorem dgTo_succ {f : Int × Int → Int} {l : List (Int × Int)} {i : Nat} (h : i < l.length) : dgTo f l (i + 1) = dgTo f l i ++ if (l.getD i (0, 0)).1 = (l.getD i (0, 0)).2 then [f (l.getD i (0, 0))] else [] := by
  have e : l.getD i (0, 0) = l[i] := by simp [h]
  unfold dgTo
  rw [List.take_add_one, List.getElem?_eq_getElem h, e, List.filter_append, List.map_append]
  congr 1
  simp only [Option.toList_some, List.filter_cons, List.filter_nil]
  split
  · rename_i h1; rw [if_pos (of_decide_eq_true h1)]; rfl
  · rename_i h1; rw [if_neg (fun h => h1 (decide_eq_true h))]; rfl
theorem dgTo_length (f : Int × Int → Int) (l : List (Int × Int)) (i : Nat) : (dgTo f l i).length ≤ l.length := by
  unfold dgTo
  rw [List.length_map]
  exact Nat.le_trans (List.length_filter_le _ _) (by rw [List.length_take]; omega)
theorem count_succ {f : Int × Int → Bool} {l : List (Int × Int)} {i : Nat} (h : i < l.length) : (l.take (i + 1)).countP f = (l.take i).countP f + if f (l.getD i (0, 0)) = true then 1 else 0 := by
  have e : l.getD i (0, 0) = l[i] := by simp [h]
  rw [List.take_add_one, List.getElem?_eq_getElem h, e, List.countP_append]
  simp [List.countP_cons]

/-- Each less than the one before, none below 0. -/
def fallsP (l : List Int) : Prop := ∀ i, i < l.length → 0 ≤ l.getD i 0 ∧ (0 < i → l.getD i 0 < l.getD (i - 1) 0)
noncomputable def fallsB (l : List Int) : Bool := @decide (fallsP l) (Classical.propDecidable _)
theorem fallsB_true {l : List Int} (h : fallsP l) : fallsB l = true := @decide_eq_true _ (Classical.propDecidable _) h
theorem fallsB_false {l : List Int} (h : ¬ fallsP l) : fallsB l = false := @decide_eq_false _ (Classical.propDecidable _) h
theorem of_fallsB {l : List Int} (h : fallsB l = true) : fallsP l := @of_decide_eq_true _ (Classical.propDecidable _) h
theorem not_fallsB {l : List Int} (h : fallsB l = false) : ¬ fallsP l := @of_decide_eq_false _ (Classical.propDecidable _) h

end Fer
