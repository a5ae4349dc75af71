/- Machine and plain facts, over any program (several texts in one). No condition. -/

/- Plain facts on lists of numbers. No program in sight. -/
namespace Fer

theorem getD_lt {α : Type} {l : List α} {i : Nat} (d : α) (h : i < l.length) : l.getD i d = l[i] := by
  simp [List.getD_eq_getElem?_getD, h]

theorem take_succ_getD {α : Type} {l : List α} {i : Nat} (d : α) (h : i < l.length) : l.take (i + 1) = l.take i ++ [l.getD i d] := by
  rw [getD_lt d h, List.take_succ_eq_append_getElem h]

theorem foldl_take_succ {α β : Type} (f : β → α → β) (a : β) {l : List α} {i : Nat} (d : α) (h : i < l.length) :
    (l.take (i + 1)).foldl f a = f ((l.take i).foldl f a) (l.getD i d) := by
  rw [take_succ_getD d h, List.foldl_append]; rfl

theorem countP_take_succ {α : Type} (f : α → Bool) {l : List α} {i : Nat} (d : α) (h : i < l.length) :
    (l.take (i + 1)).countP f = (l.take i).countP f + (if f (l.getD i d) then 1 else 0) := by
  rw [take_succ_getD d h, List.countP_append]; simp [List.countP_cons]

theorem mem_take_succ {α : Type} {l : List α} {i : Nat} (d : α) (h : i < l.length) (x : α) : x ∈ l.take (i + 1) ↔ x ∈ l.take i ∨ x = l.getD i d := by
  rw [take_succ_getD d h]; simp

theorem getD_mem {α : Type} {l : List α} {i : Nat} (d : α) (h : i < l.length) : l.getD i d ∈ l := by
  rw [getD_lt d h]; exact List.getElem_mem h

theorem mem_getD {α : Type} {l : List α} {x : α} (d : α) (h : x ∈ l) : ∃ i, i < l.length ∧ l.getD i d = x := by
  obtain ⟨i, hi, rfl⟩ := List.getElem_of_mem h
  exact ⟨i, hi, getD_lt d hi⟩

theorem getD_set_if {α : Type} {l : List α} {i j : Nat} {x : α} (d : α) (h : i < l.length) : (l.set i x).getD j d = if j = i then x else l.getD j d := by
  simp only [List.getD_eq_getElem?_getD, List.getElem?_set]
  by_cases e : i = j
  · subst e; simp [h]
  · simp [e, Ne.symm e]

theorem ext_getD {α : Type} (d : α) {l m : List α} (h : l.length = m.length) (he : ∀ i, i < l.length → l.getD i d = m.getD i d) : l = m := by
  apply List.ext_getElem h
  intro i h1 h2
  have := he i h1
  rwa [getD_lt d h1, getD_lt d h2] at this

theorem replicate_getD {α : Type} (n i : Nat) (x : α) : (List.replicate n x).getD i x = x := by
  simp only [List.getD_eq_getElem?_getD, List.getElem?_replicate]; split <;> rfl

/-- The numbers 1 to n. -/
def iota (n : Nat) : List Int := (List.range n).map fun (i : Nat) => (i : Int) + 1

@[simp] theorem iota_length (n : Nat) : (iota n).length = n := by simp [iota]
theorem iota_succ (n : Nat) : iota (n + 1) = iota n ++ [(n : Int) + 1] := by simp [iota, List.range_succ]
theorem mem_iota {n : Nat} {x : Int} : x ∈ iota n ↔ 1 ≤ x ∧ x ≤ n := by
  simp only [iota, List.mem_map, List.mem_range]
  constructor
  · rintro ⟨i, h, rfl⟩; omega
  · intro h; exact ⟨(x - 1).toNat, by omega, by omega⟩
theorem iota_nodup (n : Nat) : (iota n).Nodup := by
  induction n with
  | zero => simp [iota]
  | succ n ih =>
    rw [iota_succ, List.nodup_append]
    refine ⟨ih, by simp, ?_⟩
    intro a ha b hb e
    subst e
    simp at hb
    have := mem_iota.1 ha
    omega

theorem nodup_len : ∀ (l m : List Int), l.Nodup → (∀ x ∈ l, x ∈ m) → l.length ≤ m.length
  | [], m, _, _ => by simp
  | a :: l, m, hn, hs => by
    have ha := hs a (by simp)
    rw [List.nodup_cons] at hn
    have := nodup_len l (m.erase a) hn.2 fun x hx => (List.mem_erase_of_ne (fun (e : x = a) => hn.1 (by rw [← e]; exact hx))).2 (hs x (by simp [hx]))
    rw [List.length_erase_of_mem ha] at this
    have := List.length_pos_of_mem ha
    simp; omega

/-! ### Is a list a permutation? -/

def isPerm (p : List Int) : Prop := ∀ n : Nat, n < p.length → ((n : Int) + 1) ∈ p
instance (p : List Int) : Decidable (isPerm p) := by unfold isPerm; infer_instance

def permE (p : List Int) : Int := if 40 < p.length then 2 else if isPerm p then 0 else 1

theorem isPerm_iota {p : List Int} (h : isPerm p) {x : Int} (hx : x ∈ iota p.length) : x ∈ p := by
  have := mem_iota.1 hx
  have := h (x - 1).toNat (by omega)
  rwa [show (((x - 1).toNat : Int) + 1) = x by omega] at this

/-- Is the place i the first one that is wrong? -/
def okAt (p : List Int) (i : Nat) : Prop := 1 ≤ p.getD i 0 ∧ p.getD i 0 ≤ p.length ∧ p.getD i 0 ∉ p.take i

theorem erase_dup {p : List Int} {i : Nat} (hi : i < p.length) (h : p.getD i 0 ∈ p.take i) {x : Int} (hx : x ∈ p) : x ∈ p.erase (p.getD i 0) := by
  by_cases e : x = p.getD i 0
  · rw [e]
    have h0 : p = p.take i ++ p.drop i := (List.take_append_drop i p).symm
    have h1 : p.erase (p.getD i 0) = (p.take i).erase (p.getD i 0) ++ p.drop i := by
      generalize p.getD i 0 = y at h ⊢
      rw [← List.erase_append_left _ h, ← h0]
    rw [h1]
    apply List.mem_append_right
    rw [getD_lt 0 hi]
    rw [List.drop_eq_getElem_cons hi]
    exact List.mem_cons_self
  · exact (List.mem_erase_of_ne e).2 hx

theorem permE_bad {p : List Int} {i : Nat} (hi : i < p.length) (hl : p.length ≤ 40) (h : ¬ okAt p i) : permE p = 1 := by
  unfold permE
  rw [if_neg (by omega), if_neg]
  intro hp
  have hx := getD_mem (0 : Int) hi
  have key : (∀ x ∈ iota p.length, x ∈ p.erase (p.getD i 0)) → False := fun hs => by
    have := nodup_len _ _ (iota_nodup p.length) hs
    rw [List.length_erase_of_mem hx, iota_length] at this
    omega
  by_cases h1 : 1 ≤ p.getD i 0 ∧ p.getD i 0 ≤ p.length
  · have hd : p.getD i 0 ∈ p.take i := by
      by_cases hd : p.getD i 0 ∈ p.take i
      · exact hd
      · exact absurd ⟨h1.1, h1.2, hd⟩ h
    exact key fun x hx => erase_dup hi hd (isPerm_iota hp hx)
  · refine key fun x hx => (List.mem_erase_of_ne ?_).2 (isPerm_iota hp hx)
    rintro rfl
    exact h1 (mem_iota.1 hx)

theorem okAt_nodup {p : List Int} : ∀ n, n ≤ p.length → (∀ i, i < n → okAt p i) → (p.take n).Nodup
  | 0, _, _ => by simp
  | n + 1, hn, h => by
    rw [take_succ_getD 0 (by omega), List.nodup_append]
    refine ⟨okAt_nodup n (by omega) fun i hi => h i (by omega), by simp, ?_⟩
    intro a ha b hb e
    subst e
    simp only [List.mem_singleton] at hb
    rw [hb] at ha
    exact (h n (by omega)).2.2 ha

theorem okAt_all {p : List Int} (h : ∀ i, i < p.length → okAt p i) : p.Nodup ∧ ∀ x ∈ p, 1 ≤ x ∧ x ≤ p.length := by
  have := okAt_nodup p.length (Nat.le_refl _) h
  rw [List.take_length] at this
  refine ⟨this, fun x hx => ?_⟩
  obtain ⟨i, hi, rfl⟩ := mem_getD 0 hx
  exact ⟨(h i hi).1, (h i hi).2.1⟩

theorem isPerm_of {p : List Int} (hn : p.Nodup) (hr : ∀ x ∈ p, 1 ≤ x ∧ x ≤ p.length) : isPerm p := by
  intro k hk
  by_cases hm : ((k : Int) + 1) ∈ p
  · exact hm
  · exfalso
    have := nodup_len (((k : Int) + 1) :: p) (iota p.length) (List.nodup_cons.2 ⟨hm, hn⟩) fun x hx => by
      rcases List.mem_cons.1 hx with rfl | hx
      · exact mem_iota.2 (by omega)
      · exact mem_iota.2 (hr x hx)
    simp at this
    omega

theorem permE_ok {p : List Int} (hl : p.length ≤ 40) (h : ∀ i, i < p.length → okAt p i) : permE p = 0 := by
  unfold permE
  rw [if_neg (by omega), if_pos (isPerm_of (okAt_all h).1 (okAt_all h).2)]

theorem permE_zero {p : List Int} (h : permE p = 0) : p.length ≤ 40 ∧ isPerm p ∧ p.Nodup ∧ ∀ x ∈ p, 1 ≤ x ∧ x ≤ p.length := by
  unfold permE at h
  split at h
  · cases h
  · rename_i hl
    split at h
    · rename_i hp
      have hl : p.length ≤ 40 := by omega
      have hall : ∀ i, i < p.length → okAt p i := fun i hi => by
        by_cases hk : okAt p i
        · exact hk
        · have := permE_bad hi hl hk
          unfold permE at this
          rw [if_neg (by omega), if_pos hp] at this
          cases this
      exact ⟨hl, hp, okAt_all hall⟩
    · cases h

theorem permE_cases (p : List Int) : permE p = 0 ∨ permE p = 1 ∨ permE p = 2 := by
  unfold permE; split
  · exact .inr (.inr rfl)
  · split
    · exact .inl rfl
    · exact .inr (.inl rfl)

theorem idxOf_of {n : Int} : ∀ {p : List Int} {i : Nat}, i < p.length → n ∉ p.take i → p.getD i 0 = n → p.idxOf n = i
  | [], _, h, _, _ => by simp at h
  | x :: p, 0, _, _, h => by simp at h; subst h; simp
  | x :: p, i + 1, hi, h1, h2 => by
    simp only [List.take_succ_cons, List.mem_cons, not_or] at h1
    rw [List.idxOf_cons, beq_eq_false_iff_ne.2 (fun e => h1.1 e.symm)]
    simp only [cond_false]
    rw [idxOf_of (by simpa using hi) h1.2 (by simpa using h2)]

theorem sum_take_succ {l : List Int} {i : Nat} (h : i < l.length) : (l.take (i + 1)).sum = (l.take i).sum + l.getD i 0 := by
  rw [take_succ_getD 0 h, List.sum_append]; simp

theorem nodup_getD {l : List Int} (h : l.Nodup) {i j : Nat} (hij : i < j) (hj : j < l.length) : l.getD i 0 ≠ l.getD j 0 := by
  rw [getD_lt 0 hj, getD_lt 0 (by omega)]
  exact List.pairwise_iff_getElem.1 h i j (by omega) hj hij

theorem iota_getD {n j : Nat} (h : j < n) : (iota n).getD j 0 = (j : Int) + 1 := by
  rw [getD_lt 0 (by simpa using h)]; simp [iota]

theorem iota_of {l : List Int} {n : Nat} (hl : l.length = n) (h : ∀ j, j < n → l.getD j 0 = (j : Int) + 1) : l = iota n :=
  ext_getD 0 (by simpa using hl) fun i hi => by rw [h i (by omega), iota_getD (by omega)]

end Fer

/- Words by which a list is put in order, neighbour by neighbour. No program in sight. -/
namespace Fer

def sws : Nat → List Int → List Int
  | 0, x :: y :: l => y :: x :: l
  | i + 1, x :: l => x :: sws i l
  | _, l => l

def ff : List Int → Option Nat
  | x :: y :: l => if y < x then some 0 else (ff (y :: l)).map (· + 1)
  | _ => none

def inv : List Int → Nat
  | [] => 0
  | x :: l => l.countP (fun y => decide (y < x)) + inv l

theorem sws_perm : ∀ (i : Nat) (l : List Int), (sws i l).Perm l
  | 0, x :: y :: l => List.Perm.swap ..
  | 0, [] => .refl _
  | 0, [_] => .refl _
  | i + 1, [] => .refl _
  | i + 1, x :: l => (sws_perm i l).cons x

@[simp] theorem sws_length (i : Nat) (l : List Int) : (sws i l).length = l.length := (sws_perm i l).length_eq

theorem sws_getD : ∀ (i : Nat) (l : List Int) (j : Nat), i + 1 < l.length → (sws i l).getD j 0 = if j = i then l.getD (i + 1) 0 else if j = i + 1 then l.getD i 0 else l.getD j 0
  | 0, x :: y :: l, j, _ => by
    rcases j with _ | _ | j <;> simp [sws]
  | 0, [], _, h => by simp at h
  | 0, [_], _, h => by simp at h
  | i + 1, [], _, h => by simp at h
  | i + 1, x :: l, j, h => by
    simp only [List.length_cons] at h
    cases j with
    | zero => simp [sws]
    | succ j =>
      simp only [sws, List.getD_cons_succ, sws_getD i l j (by omega), Nat.add_right_cancel_iff]

theorem set2_sws {i : Nat} {l : List Int} (h : i + 1 < l.length) : (l.set i (l.getD (i + 1) 0)).set (i + 1) (l.getD i 0) = sws i l := by
  apply ext_getD 0
  · simp
  · intro j hj
    rw [sws_getD i l j h, getD_set_if 0 (by simpa using h), getD_set_if 0 (by omega)]
    by_cases h1 : j = i
    · subst h1; rw [if_neg (by omega), if_pos rfl, if_pos rfl]
    · by_cases h2 : j = i + 1
      · rw [if_pos h2, if_neg h1, if_pos h2]
      · rw [if_neg h2, if_neg h1, if_neg h1, if_neg h2]

theorem set2_sws' {i : Nat} {l : List Int} (h : i + 1 < l.length) : (l.set (i + 1) (l.getD i 0)).set i (l.getD (i + 1) 0) = sws i l := by
  rw [← set2_sws h, List.set_comm _ _ (by omega)]

theorem sws_inv : ∀ (i : Nat) (l : List Int), i + 1 < l.length → l.getD (i + 1) 0 < l.getD i 0 → inv (sws i l) + 1 = inv l
  | 0, x :: y :: l, _, h => by
    simp at h
    simp only [sws, inv, List.countP_cons]
    simp [h, show ¬ x < y by omega]; omega
  | 0, [], h, _ => by simp at h
  | 0, [_], h, _ => by simp at h
  | i + 1, [], h, _ => by simp at h
  | i + 1, x :: l, h, h' => by
    simp only [List.length_cons] at h
    simp only [List.getD_cons_succ] at h'
    have := sws_inv i l (by omega) h'
    simp only [sws, inv, (sws_perm i l).countP_eq]
    omega

theorem ff_some : ∀ {l : List Int} {i : Nat}, ff l = some i → i + 1 < l.length ∧ l.getD (i + 1) 0 < l.getD i 0
  | [], _, h => by simp [ff] at h
  | [_], _, h => by simp [ff] at h
  | x :: y :: l, i, h => by
    simp only [ff] at h
    split at h
    · cases h; simpa using ‹y < x›
    · cases hf : ff (y :: l) with
      | none => rw [hf] at h; cases h
      | some k =>
        rw [hf] at h
        cases h
        have := ff_some hf
        simpa using this

theorem ff_of : ∀ {l : List Int} {i : Nat}, i + 1 < l.length → (∀ j, j < i → l.getD j 0 ≤ l.getD (j + 1) 0) → l.getD (i + 1) 0 < l.getD i 0 → ff l = some i
  | [], _, h, _, _ => by simp at h
  | [_], _, h, _, _ => by simp at h
  | x :: y :: l, 0, _, _, h => by simp at h; simp [ff, h]
  | x :: y :: l, i + 1, h, h1, h2 => by
    have h0 := h1 0 (by omega)
    simp at h0
    simp only [ff]
    rw [if_neg (by omega), ff_of (l := y :: l) (i := i) (by simpa using h) (fun j hj => by simpa using h1 (j + 1) (by omega)) (by simpa using h2)]
    rfl

theorem ff_none : ∀ {l : List Int}, (∀ j, j + 1 < l.length → l.getD j 0 ≤ l.getD (j + 1) 0) → ff l = none
  | [], _ => rfl
  | [_], _ => rfl
  | x :: y :: l, h => by
    have h0 := h 0 (by simp)
    simp at h0
    simp only [ff]
    rw [if_neg (by omega), ff_none (l := y :: l) (fun j hj => by simpa using h (j + 1) (by simpa using hj))]
    rfl

def nb : Nat → List Int → List Int
  | 0, _ => []
  | f + 1, q => match ff q with
    | none => []
    | some i => ((i : Int) + 1) :: nb f (sws i q)

/-- P7: the word. -/
def word (p : List Int) : List Int := nb (inv p) p

theorem word_none {q : List Int} (h : ff q = none) : word q = [] := by
  unfold word; cases inv q <;> simp [nb, h]

theorem word_some {q : List Int} {i : Nat} (h : ff q = some i) : word q = ((i : Int) + 1) :: word (sws i q) := by
  obtain ⟨h1, h2⟩ := ff_some h
  unfold word
  rw [← sws_inv i q h1 h2]
  simp [nb, h]

theorem inv_le : ∀ l : List Int, inv l ≤ l.length * l.length
  | [] => Nat.le_refl _
  | x :: l => by
    have := inv_le l
    have h2 : l.countP (fun y => decide (y < x)) ≤ l.length := List.countP_le_length
    simp only [inv, List.length_cons, Nat.mul_add, Nat.add_mul]
    omega

theorem word_length : ∀ (n : Nat) (q : List Int), inv q = n → (word q).length ≤ n
  | n, q, h => by
    cases hf : ff q with
    | none => rw [word_none hf]; simp
    | some i =>
      obtain ⟨h1, h2⟩ := ff_some hf
      have h3 := sws_inv i q h1 h2
      have := word_length (n - 1) (sws i q) (by omega)
      rw [word_some hf, List.length_cons]
      omega
termination_by n => n
decreasing_by all_goals omega

/-! ### Descents -/

def falls (w : List Int) (n : Nat) : List Int := ((List.range n).filter fun i => decide (1 ≤ i ∧ w.getD i 0 < w.getD (i - 1) 0)).map fun (i : Nat) => (i : Int)

theorem falls_zero (w : List Int) : falls w 0 = [] := rfl
theorem falls_one (w : List Int) : falls w 1 = [] := rfl
theorem falls_succ (w : List Int) (n : Nat) (h : 1 ≤ n) : falls w (n + 1) = falls w n ++ (if w.getD n 0 < w.getD (n - 1) 0 then [(n : Int)] else []) := by
  unfold falls
  rw [List.range_succ, List.filter_append, List.map_append]
  congr 1
  by_cases hh : w.getD n 0 < w.getD (n - 1) 0
  · rw [List.filter_cons_of_pos (by simp only [h, hh, and_self, decide_true]), if_pos hh]; rfl
  · rw [List.filter_cons_of_neg (by simp only [hh, and_false, decide_false, Bool.false_eq_true, not_false_eq_true]), if_neg hh]; rfl

theorem falls_length (w : List Int) (n : Nat) : (falls w n).length ≤ n := by
  unfold falls
  rw [List.length_map]
  exact Nat.le_trans (List.length_filter_le _ _) (by simp)

theorem falls_mem {w : List Int} {n : Nat} {x : Int} (h : x ∈ falls w n) : 1 ≤ x ∧ x < n := by
  unfold falls at h
  simp only [List.mem_map, List.mem_filter, List.mem_range, decide_eq_true_eq] at h
  obtain ⟨i, h, rfl⟩ := h
  omega

theorem falls_nil {w : List Int} (h : falls w w.length = []) : ff w = none := by
  apply ff_none
  intro j hj
  by_cases hx : w.getD j 0 ≤ w.getD (j + 1) 0
  · exact hx
  · exfalso
    have : ((j + 1 : Nat) : Int) ∈ falls w w.length := by
      unfold falls
      rw [List.mem_map]
      refine ⟨j + 1, ?_, rfl⟩
      rw [List.mem_filter]
      refine ⟨List.mem_range.2 hj, ?_⟩
      simp only [decide_eq_true_eq, Nat.add_sub_cancel]
      omega
    rw [h] at this
    cases this

theorem falls_cons {w : List Int} (h : falls w w.length ≠ []) : ff w = some ((falls w w.length).getD 0 0 - 1).toNat ∧ 1 ≤ (falls w w.length).getD 0 0 := by
  unfold falls at h ⊢
  cases hf : (List.range w.length).filter (fun i => decide (1 ≤ i ∧ w.getD i 0 < w.getD (i - 1) 0)) with
  | nil => rw [hf] at h; exact absurd rfl h
  | cons i l =>
    have h1 : ((List.range w.length).filter (fun i => decide (1 ≤ i ∧ w.getD i 0 < w.getD (i - 1) 0))).head? = some i := by rw [hf]; rfl
    rw [List.head?_filter] at h1
    have h2 := List.find?_range_eq_some.1 h1
    simp only [decide_eq_true_eq, List.mem_range, Bool.not_eq_true', decide_eq_false_iff_not, not_and] at h2
    obtain ⟨⟨h3, h4⟩, h5, h6⟩ := h2
    simp only [List.map_cons, List.getD_cons_zero]
    refine ⟨?_, by omega⟩
    rw [show ((i : Int) - 1).toNat = i - 1 by omega]
    apply ff_of
    · omega
    · intro j hj
      have := h6 (j + 1) (by omega) (by omega)
      simp only [Nat.add_sub_cancel] at this
      omega
    · rw [show i - 1 + 1 = i by omega]; exact h4

/-! ### Products -/

def came (out : List Int) (l : List Int) : List Int := l.foldr (fun i out => sws (i - 1).toNat out) out

@[simp] theorem came_length (out l : List Int) : (came out l).length = out.length := by
  induction l with
  | nil => rfl
  | cons i l ih => simpa [came] using ih

theorem drop_pred_getD {α : Type} {l : List α} {k : Nat} (d : α) (h : k < l.length) : l.drop k = l.getD k d :: l.drop (k + 1) := by
  rw [getD_lt d h, List.drop_eq_getElem_cons h]

theorem came_drop (out l : List Int) {k : Nat} (h : k < l.length) : came out (l.drop k) = sws (l.getD k 0 - 1).toNat (came out (l.drop (k + 1))) := by
  rw [drop_pred_getD 0 h]; rfl

def prodE (n : Int) (w : List Int) : Int := if n < 0 ∨ 40 < n then 1 else if ∀ x ∈ w, 1 ≤ x ∧ x < n then 0 else 1

end Fer

/- Bruhat's order, by counts and by lists put in order. No program in sight. -/
namespace Fer

/-- Of the first m numbers of l how many are at least k. -/
def atl (l : List Int) (m : Nat) (k : Int) : Int := ((l.take m).countP fun x => decide (k ≤ x) : Nat)

theorem atl_zero (l : List Int) (k : Int) : atl l 0 k = 0 := by simp [atl]
theorem atl_succ {l : List Int} {m : Nat} (k : Int) (h : m < l.length) : atl l (m + 1) k = atl l m k + (if k ≤ l.getD m 0 then 1 else 0) := by
  unfold atl
  rw [countP_take_succ _ 0 h]
  by_cases hk : k ≤ l.getD m 0
  · rw [if_pos (decide_eq_true hk), if_pos hk]; rfl
  · rw [if_neg (by rw [decide_eq_false hk]; exact Bool.false_ne_true), if_neg hk]; rfl

/-- Never fewer of b's than of a's. -/
def under (a b : List Int) : Prop := ∀ i : Nat, i < a.length → ∀ k : Nat, k < a.length → atl a (i + 1) ((k : Int) + 1) ≤ atl b (i + 1) ((k : Int) + 1)
instance (a b : List Int) : Decidable (under a b) := by unfold under; infer_instance

/-- The greatest first. -/
def Desc (l : List Int) : Prop := l.Pairwise fun x y => y ≤ x

theorem desc_getD {l : List Int} (h : Desc l) {i j : Nat} (hij : i ≤ j) (hj : j < l.length) : l.getD j 0 ≤ l.getD i 0 := by
  rcases Nat.lt_or_ge i j with hlt | hge
  · rw [getD_lt 0 hj, getD_lt 0 (by omega)]
    exact List.pairwise_iff_getElem.1 h i j (by omega) hj hlt
  · rw [show i = j by omega]; exact Int.le_refl _

theorem countP_mono_zip {t : Int} : ∀ (x y : List Int), x.length = y.length → (∀ k, k < x.length → x.getD k 0 ≤ y.getD k 0) → x.countP (fun u => decide (t ≤ u)) ≤ y.countP (fun u => decide (t ≤ u))
  | [], [], _, _ => Nat.le_refl _
  | [], _ :: _, h, _ => by simp at h
  | _ :: _, [], h, _ => by simp at h
  | u :: x, v :: y, h, hk => by
    have h0 := hk 0 (by simp)
    simp at h0
    have := countP_mono_zip (t := t) x y (by simpa using h) fun k hk' => by simpa using hk (k + 1) (by simpa using hk')
    simp only [List.countP_cons]
    by_cases hu : t ≤ u
    · have hv : t ≤ v := by omega
      simp only [hu, hv, decide_true, if_true]; omega
    · simp only [hu, decide_false, if_false, Bool.false_eq_true]
      omega

/-- The first ones of an ordered list, counted. -/
theorem countP_ge {t : Int} : ∀ (x : List Int) (k : Nat), k < x.length → (∀ j, j ≤ k → t ≤ x.getD j 0) → k + 1 ≤ x.countP (fun u => decide (t ≤ u))
  | [], _, h, _ => by simp at h
  | u :: x, 0, _, h => by
    have := h 0 (Nat.le_refl _)
    simp at this
    simp [List.countP_cons, this]
  | u :: x, k + 1, hk, h => by
    have h0 := h 0 (Nat.zero_le _)
    simp at h0
    have := countP_ge (t := t) x k (by simpa using hk) fun j hj => by simpa using h (j + 1) (by omega)
    simp only [List.countP_cons, h0, decide_true, if_true]
    omega

theorem countP_le {t : Int} : ∀ (x : List Int) (k : Nat), (∀ j, k ≤ j → j < x.length → x.getD j 0 < t) → x.countP (fun u => decide (t ≤ u)) ≤ k
  | [], _, _ => by simp
  | u :: x, 0, h => by
    have h0 := h 0 (Nat.le_refl _) (by simp)
    simp at h0
    have := countP_le (t := t) x 0 fun j _ hj => by simpa using h (j + 1) (by omega) (by simpa using hj)
    simp only [List.countP_cons, show ¬ t ≤ u by omega, decide_false, Bool.false_eq_true, if_false]
    omega
  | u :: x, k + 1, h => by
    have := countP_le (t := t) x k fun j hj hj' => by simpa using h (j + 1) (by omega) (by simpa using hj')
    simp only [List.countP_cons]
    split <;> omega

theorem atl_nonneg (l : List Int) (m : Nat) (k : Int) : 0 ≤ atl l m k := Int.natCast_nonneg _
theorem atl_le (l : List Int) (m : Nat) (k : Int) : atl l m k ≤ m := by
  unfold atl
  have h1 := List.countP_le_length (p := fun x => decide (k ≤ x)) (l := l.take m)
  have h2 := List.length_take_le m l
  omega

/-- A number is put to its place among the greater ones: all is in order up to i, except for what stands at k. -/
def Ins (out : List Int) (i k : Nat) : Prop := ∀ a b, a < b → b ≤ i → b ≠ k → out.getD b 0 ≤ out.getD a 0
def DescTo (out : List Int) (i : Nat) : Prop := ∀ a b, a < b → b < i → out.getD b 0 ≤ out.getD a 0

theorem Ins.start {out : List Int} {i : Nat} (h : DescTo out i) : Ins out i i := fun a b h1 h2 h3 => h a b h1 (by omega)
theorem Ins.stop {out : List Int} {i k : Nat} (h : Ins out i k) (hk : k = 0 ∨ out.getD k 0 ≤ out.getD (k - 1) 0) : DescTo out (i + 1) := by
  intro a b h1 h2
  by_cases e : b = k
  · subst e
    have hk : out.getD b 0 ≤ out.getD (b - 1) 0 := by rcases hk with h | h
                                                      · omega
                                                      · exact h
    by_cases e2 : a = b - 1
    · rw [e2]; exact hk
    · exact Int.le_trans hk (h a (b - 1) (by omega) (by omega) (by omega))
  · exact h a b h1 (by omega) e
theorem Ins.swap {out : List Int} {i k : Nat} (h : Ins out i (k + 1)) (hl : k + 1 < out.length) (hi : k + 1 ≤ i) (hk : out.getD k 0 < out.getD (k + 1) 0) : Ins (sws k out) i k := by
  intro a b h1 h2 h3
  rw [sws_getD _ _ _ hl, sws_getD _ _ _ hl, if_neg h3]
  by_cases e1 : b = k + 1
  · rw [if_pos e1]
    by_cases e2 : a = k
    · rw [if_pos e2]; omega
    · rw [if_neg e2, if_neg (by omega)]; exact h a k (by omega) (by omega) (by omega)
  · rw [if_neg e1]
    by_cases e2 : a = k
    · rw [if_pos e2]; exact h (k + 1) b (by omega) h2 e1
    · rw [if_neg e2]
      by_cases e3 : a = k + 1
      · rw [if_pos e3]; exact h k b (by omega) h2 e1
      · rw [if_neg e3]; exact h a b h1 h2 e1
theorem DescTo.all {out : List Int} (h : DescTo out out.length) : Desc out := by
  refine List.pairwise_iff_getElem.2 fun i j hi hj hij => ?_
  have := h i j hij hj
  rwa [getD_lt 0 hi, getD_lt 0 hj] at this

/-- One step of the order: the first i + 1 numbers, put in order, place by place; and by counts. -/
theorem place_iff {a b x y : List Int} {i n : Nat} (hi : i < a.length) (hab : a.length = b.length) (hn : ∀ u ∈ a, 1 ≤ u ∧ u ≤ n)
    (hx : x.Perm (a.take (i + 1))) (hy : y.Perm (b.take (i + 1))) (dx : Desc x) (dy : Desc y) :
    (∀ k, k < i + 1 → x.getD k 0 ≤ y.getD k 0) ↔ ∀ k : Nat, k < n → atl a (i + 1) ((k : Int) + 1) ≤ atl b (i + 1) ((k : Int) + 1) := by
  have lx : x.length = i + 1 := by rw [hx.length_eq, List.length_take]; omega
  have ly : y.length = i + 1 := by rw [hy.length_eq, List.length_take]; omega
  have cx : ∀ t, atl a (i + 1) t = (x.countP fun u => decide (t ≤ u) : Nat) := fun t => by unfold atl; rw [hx.countP_eq]
  have cy : ∀ t, atl b (i + 1) t = (y.countP fun u => decide (t ≤ u) : Nat) := fun t => by unfold atl; rw [hy.countP_eq]
  constructor
  · intro h k _
    rw [cx, cy]
    exact Int.ofNat_le.2 (countP_mono_zip x y (by omega) fun k hk => h k (by omega))
  · intro h k hk
    by_cases hle : x.getD k 0 ≤ y.getD k 0
    · exact hle
    · exfalso
      have hm : x.getD k 0 ∈ a := List.mem_of_mem_take (hx.mem_iff.1 (getD_mem 0 (by omega)))
      have hr := hn _ hm
      have := h (x.getD k 0 - 1).toNat (by omega)
      rw [show (((x.getD k 0 - 1).toNat : Int) + 1) = x.getD k 0 by omega, cx, cy] at this
      have h1 := countP_ge (t := x.getD k 0) x k (by omega) fun j hj => desc_getD dx hj (by omega)
      have h2 := countP_le (t := x.getD k 0) y k fun j hj hj' => by
        have := desc_getD dy hj hj'
        omega
      omega

end Fer

/- Inverses, codes, inversions. No program in sight. -/
namespace Fer

theorem idxOf_spec : ∀ {p : List Int} {n : Int}, n ∈ p → p.idxOf n < p.length ∧ p.getD (p.idxOf n) 0 = n
  | [], _, h => by cases h
  | x :: p, n, h => by
    by_cases e : x = n
    · subst e; simp
    · have hm : n ∈ p := by
        rcases List.mem_cons.1 h with h | h
        · exact absurd h.symm e
        · exact h
      obtain ⟨h1, h2⟩ := idxOf_spec hm
      rw [List.idxOf_cons, beq_eq_false_iff_ne.2 e]
      simp only [cond_false, List.length_cons, List.getD_cons_succ]
      exact ⟨by omega, h2⟩

/-! ### Sums over places -/

def sumTo (f : Nat → Int) : Nat → Int
  | 0 => 0
  | n + 1 => sumTo f n + f n

theorem sumTo_shift (f : Nat → Int) : ∀ n, sumTo f (n + 1) = f 0 + sumTo (fun i => f (i + 1)) n
  | 0 => by simp [sumTo]
  | n + 1 => by rw [sumTo, sumTo_shift f n, sumTo]; omega

theorem sumTo_congr {f g : Nat → Int} : ∀ n, (∀ i, i < n → f i = g i) → sumTo f n = sumTo g n
  | 0, _ => rfl
  | n + 1, h => by rw [sumTo, sumTo, sumTo_congr n fun i hi => h i (by omega), h n (by omega)]

theorem sumTo_add (f g : Nat → Int) : ∀ n, sumTo (fun i => f i + g i) n = sumTo f n + sumTo g n
  | 0 => rfl
  | n + 1 => by rw [sumTo, sumTo, sumTo, sumTo_add f g n]; omega

theorem sum_range (f : Nat → Int) : ∀ n, ((List.range n).map f).sum = sumTo f n
  | 0 => rfl
  | n + 1 => by rw [List.range_succ, List.map_append, List.sum_append, sum_range f n, sumTo]; simp

theorem sumTo_nonneg {f : Nat → Int} : ∀ n, (∀ i, 0 ≤ f i) → 0 ≤ sumTo f n
  | 0, _ => Int.le_refl _
  | n + 1, h => by have := sumTo_nonneg n h; have := h n; rw [sumTo]; omega

theorem sumTo_le {f : Nat → Int} {c : Int} : ∀ n : Nat, (∀ i, i < n → f i ≤ c) → sumTo f n ≤ n * c
  | 0, _ => by simp [sumTo]
  | n + 1, h => by
    have h1 := sumTo_le n fun i hi => h i (by omega)
    have h2 := h n (by omega)
    rw [sumTo]
    have : ((n + 1 : Nat) : Int) * c = n * c + c := by rw [Int.natCast_add, Int.add_mul]; simp
    omega

/-! ### Of each number how many lesser ones stand behind it -/

def less (l : List Int) (x : Int) : Int := (l.countP fun y => decide (y < x) : Nat)
def more (l : List Int) (x : Int) : Int := (l.countP fun y => decide (x < y) : Nat)

def cd (p : List Int) (i : Nat) : Int := less (p.drop (i + 1)) (p.getD i 0)
def code (p : List Int) : List Int := (List.range p.length).map (cd p)
def wr (p : List Int) (i : Nat) : Int := more (p.take i) (p.getD i 0)
def wrong (p : List Int) : Int := sumTo (wr p) p.length

theorem less_nonneg (l : List Int) (x : Int) : 0 ≤ less l x := Int.natCast_nonneg _
theorem less_le (l : List Int) (x : Int) : less l x ≤ l.length := Int.ofNat_le.2 List.countP_le_length
theorem more_nonneg (l : List Int) (x : Int) : 0 ≤ more l x := Int.natCast_nonneg _
theorem more_le (l : List Int) (x : Int) : more l x ≤ l.length := Int.ofNat_le.2 List.countP_le_length
theorem less_nil (x : Int) : less [] x = 0 := rfl
theorem less_cons (a : Int) (l : List Int) (x : Int) : less (a :: l) x = less l x + if a < x then 1 else 0 := by
  unfold less; rw [List.countP_cons]; by_cases h : a < x <;> simp [h]
theorem more_cons (a : Int) (l : List Int) (x : Int) : more (a :: l) x = more l x + if x < a then 1 else 0 := by
  unfold more; rw [List.countP_cons]; by_cases h : x < a <;> simp [h]

theorem less_take_succ {l : List Int} {i : Nat} (x : Int) (h : i < l.length) : less (l.take (i + 1)) x = less (l.take i) x + if l.getD i 0 < x then 1 else 0 := by
  unfold less
  rw [countP_take_succ _ 0 h]
  by_cases hk : l.getD i 0 < x
  · rw [if_pos (decide_eq_true hk), if_pos hk]; rfl
  · rw [if_neg (by rw [decide_eq_false hk]; exact Bool.false_ne_true), if_neg hk]; rfl
theorem more_take_succ {l : List Int} {i : Nat} (x : Int) (h : i < l.length) : more (l.take (i + 1)) x = more (l.take i) x + if x < l.getD i 0 then 1 else 0 := by
  unfold more
  rw [countP_take_succ _ 0 h]
  by_cases hk : x < l.getD i 0
  · rw [if_pos (decide_eq_true hk), if_pos hk]; rfl
  · rw [if_neg (by rw [decide_eq_false hk]; exact Bool.false_ne_true), if_neg hk]; rfl

@[simp] theorem code_length (p : List Int) : (code p).length = p.length := by simp [code]
theorem code_getD {p : List Int} {i : Nat} (h : i < p.length) : (code p).getD i 0 = cd p i := by
  rw [getD_lt 0 (by simpa using h)]; simp [code]
theorem code_of {p l : List Int} (hl : l.length = p.length) (h : ∀ i, i < p.length → l.getD i 0 = cd p i) : l = code p :=
  ext_getD 0 (by simpa using hl) fun i hi => by rw [h i (by omega), code_getD (by omega)]

theorem drop_getD {α : Type} {l : List α} {k i : Nat} (d : α) : (l.drop k).getD i d = l.getD (k + i) d := by
  simp [List.getD_eq_getElem?_getD, List.getElem?_drop]

/-- What stands behind a place, the place itself counted: it is not less than itself. -/
theorem cd_eq {p : List Int} {i : Nat} (h : i < p.length) : less (p.drop i) (p.getD i 0) = cd p i := by
  unfold cd
  rw [drop_pred_getD 0 h, less_cons, if_neg (Int.lt_irrefl _)]
  exact Int.add_zero _

theorem sum_code (p : List Int) : (code p).sum = sumTo (cd p) p.length := sum_range _ _

theorem sum_less : ∀ (x : Int) (l : List Int), sumTo (fun i => if l.getD i 0 < x then 1 else 0) l.length = less l x
  | x, [] => rfl
  | x, a :: l => by
    rw [List.length_cons, sumTo_shift, less_cons]
    simp only [List.getD_cons_zero, List.getD_cons_succ]
    rw [sum_less x l]
    omega

/-- Inversions, counted from the left and from the right. -/
theorem wrong_eq : ∀ p : List Int, wrong p = (code p).sum
  | [] => rfl
  | x :: l => by
    have ih := wrong_eq l
    rw [sum_code] at ih ⊢
    unfold wrong at ih ⊢
    rw [List.length_cons, sumTo_shift, sumTo_shift]
    have h1 : cd (x :: l) 0 = less l x := rfl
    have h2 : sumTo (fun i => cd (x :: l) (i + 1)) l.length = sumTo (cd l) l.length := sumTo_congr _ fun i _ => rfl
    have h3 : wr (x :: l) 0 = 0 := rfl
    have h4 : sumTo (fun i => wr (x :: l) (i + 1)) l.length = sumTo (fun i => wr l i + if l.getD i 0 < x then 1 else 0) l.length := sumTo_congr _ fun i _ => by
      unfold wr
      rw [List.take_succ_cons, List.getD_cons_succ, more_cons]
    rw [h1, h2, h3, h4, sumTo_add, sum_less, ih]
    omega

theorem cd_le {p : List Int} {i : Nat} : 0 ≤ cd p i ∧ cd p i ≤ p.length := by
  refine ⟨less_nonneg _ _, Int.le_trans (less_le _ _) ?_⟩
  rw [List.length_drop]; omega

theorem sum_bound {c : Int} : ∀ {l : List Int}, (∀ x ∈ l, 0 ≤ x ∧ x ≤ c) → 0 ≤ l.sum ∧ l.sum ≤ l.length * c
  | [], _ => by simp
  | a :: l, h => by
    have h1 := sum_bound (c := c) (l := l) fun x hx => h x (by simp [hx])
    have h2 := h a (by simp)
    rw [List.sum_cons, List.length_cons]
    have : ((l.length + 1 : Nat) : Int) * c = l.length * c + c := by rw [Int.natCast_add, Int.add_mul]; simp
    omega

theorem falls_sum {p : List Int} {n : Nat} (h : n ≤ 40) : 0 ≤ (falls p n).sum ∧ (falls p n).sum ≤ 1600 := by
  have h1 := sum_bound (c := 40) (l := falls p n) fun x hx => by have := falls_mem hx; omega
  have h2 := falls_length p n
  omega

/-! ### The inverse -/

def invr (p : List Int) : List Int := (iota p.length).map fun n => (p.idxOf n : Int) + 1
@[simp] theorem invr_length (p : List Int) : (invr p).length = p.length := by simp [invr]
theorem invr_getD {p : List Int} {i : Nat} (h : i < p.length) : (invr p).getD i 0 = (p.idxOf ((i : Int) + 1) : Int) + 1 := by
  rw [getD_lt 0 (by simpa using h)]
  simp [invr, iota]

theorem invr_of {p out : List Int} (hp : isPerm p) (hl : out.length = p.length) (h : ∀ j, j < p.length → out.getD (p.getD j 0 - 1).toNat 0 = (j : Int) + 1) : out = invr p := by
  refine ext_getD 0 (by simpa using hl) fun i hi => ?_
  obtain ⟨h1, h2⟩ := idxOf_spec (hp i (by omega))
  have := h _ h1
  rw [h2, show ((i : Int) + 1 - 1).toNat = i by omega] at this
  rw [this, invr_getD (by omega)]

theorem invr_take {p : List Int} {i : Nat} (h : i < p.length) : (invr p).take (i + 1) = (invr p).take i ++ [(p.idxOf ((i : Int) + 1) : Int) + 1] := by
  rw [take_succ_getD 0 (by simpa using h), invr_getD h]

/-! ### From codes -/

def upOne (n x : Int) : Int := if n < x then x + 1 else x

def ofCode : List Int → List Int
  | [] => []
  | n :: c => (n + 1) :: (ofCode c).map (upOne n)

@[simp] theorem ofCode_length : ∀ c : List Int, (ofCode c).length = c.length
  | [] => rfl
  | n :: c => by simp [ofCode, ofCode_length c]

def codeOK : List Int → Prop
  | [] => True
  | n :: c => 0 ≤ n ∧ n ≤ c.length ∧ codeOK c

theorem ofCode_pos : ∀ c : List Int, codeOK c → ∀ x ∈ ofCode c, 1 ≤ x ∧ x ≤ c.length
  | [], _, x, h => by cases h
  | n :: c, hc, x, h => by
    simp only [ofCode, List.mem_cons, List.mem_map] at h
    obtain ⟨h0, h1, h2⟩ := hc
    rw [List.length_cons]
    rcases h with rfl | ⟨y, hy, rfl⟩
    · omega
    · have := ofCode_pos c h2 y hy
      unfold upOne
      split <;> omega

/-- Each time the number at that place is taken away. -/
def taken : List Int → List Int → List Int
  | _, [] => []
  | left, n :: c => left.getD n.toNat 0 :: taken (left.eraseIdx n.toNat) c

theorem eraseIdx_getD {l : List Int} {n i : Nat} : (l.eraseIdx n).getD i 0 = if i < n then l.getD i 0 else l.getD (i + 1) 0 := by
  simp only [List.getD_eq_getElem?_getD, List.getElem?_eraseIdx]
  split <;> rfl

theorem taken_eq : ∀ (c left : List Int), codeOK c → left.length = c.length → taken left c = (ofCode c).map fun x => left.getD (x - 1).toNat 0
  | [], _, _, _ => rfl
  | n :: c, left, hc, hl => by
    obtain ⟨h0, h1, h2⟩ := hc
    rw [List.length_cons] at hl
    simp only [taken, ofCode, List.map_cons, List.map_map]
    rw [show (n + 1 - 1).toNat = n.toNat by omega, taken_eq c (left.eraseIdx n.toNat) h2 (by rw [List.length_eraseIdx]; split <;> omega)]
    congr 1
    apply List.map_congr_left
    intro x hx
    have hp := ofCode_pos c h2 x hx
    simp only [Function.comp, eraseIdx_getD, upOne]
    by_cases h : n < x
    · rw [if_neg (by omega), if_pos h, show (x - 1).toNat + 1 = (x + 1 - 1).toNat by omega]
    · rw [if_pos (by omega), if_neg h]

theorem taken_iota (c : List Int) (h : codeOK c) : taken (iota c.length) c = ofCode c := by
  rw [taken_eq c _ h (by simp)]
  have : ∀ x ∈ ofCode c, (fun x => (iota c.length).getD (x - 1).toNat 0) x = id x := fun x hx => by
    have := ofCode_pos c h x hx
    simp only [id]
    rw [iota_getD (by omega)]
    omega
  rw [List.map_congr_left this, List.map_id]

theorem codeOK_iff : ∀ c : List Int, codeOK c ↔ ∀ i : Nat, i < c.length → 0 ≤ c.getD i 0 ∧ c.getD i 0 ≤ c.length - 1 - i
  | [] => by simp [codeOK]
  | n :: c => by
    simp only [codeOK, codeOK_iff c, List.length_cons]
    constructor
    · rintro ⟨h0, h1, h2⟩ i hi
      cases i with
      | zero => simp; omega
      | succ i => have := h2 i (by omega); rw [List.getD_cons_succ]; omega
    · intro h
      refine ⟨by have := h 0 (by omega); simp at this; omega, by have := h 0 (by omega); simp at this; omega, fun i hi => ?_⟩
      have := h (i + 1) (by omega)
      rw [List.getD_cons_succ] at this
      omega

instance decCodeOK : (c : List Int) → Decidable (codeOK c)
  | [] => isTrue trivial
  | n :: c => by
    have := decCodeOK c
    unfold codeOK
    infer_instance

theorem codeOK_drop : ∀ {c : List Int} (i : Nat), codeOK c → codeOK (c.drop i)
  | [], i, _ => by simp [codeOK]
  | _ :: _, 0, h => h
  | _ :: c, i + 1, h => codeOK_drop (c := c) i h.2.2

def codeE (c : List Int) : Int := if 40 < c.length then 2 else if codeOK c then 0 else 1

end Fer

/- Foata's map, block by block, and back. No program in sight. -/
namespace Fer

def letE (w : List Int) : Int := if 40 < w.length then 2 else if ∀ x ∈ w, 1 ≤ x ∧ x ≤ 99 then 0 else 1

/-- Blocks that end at a letter of the same kind: what is written down so far; the block that is open. -/
def blk (x : Int) (low : Bool) (st : List Int × List Int) (y : Int) : List Int × List Int :=
  if (decide (y ≤ x)) = low then (st.1 ++ y :: st.2, []) else (st.1, st.2 ++ [y])

def lowOf (v : List Int) (x : Int) : Bool := decide (v.getD (v.length - 1) 0 ≤ x)

def foldOne (v : List Int) (x : Int) : List Int := (v.foldl (blk x (lowOf v x)) ([], [])).1 ++ [x]

/-- P8. -/
def folded (w : List Int) : List Int := w.foldl foldOne []

theorem blk_len (x : Int) (low : Bool) : ∀ (v : List Int) (st : List Int × List Int), (v.foldl (blk x low) st).1.length + (v.foldl (blk x low) st).2.length = st.1.length + st.2.length + v.length
  | [], st => by simp
  | y :: v, st => by
    rw [List.foldl_cons, blk_len x low v]
    unfold blk
    split <;> simp <;> omega

/-- The last letter ends its block. -/
theorem blk_last {x : Int} {v : List Int} (h : v ≠ []) : (v.foldl (blk x (lowOf v x)) ([], [])).2 = [] := by
  obtain ⟨u, y, rfl⟩ : ∃ u y, v = u ++ [y] := ⟨v.dropLast, v.getLast h, (List.dropLast_concat_getLast h).symm⟩
  have e : lowOf (u ++ [y]) x = decide (y ≤ x) := by
    unfold lowOf
    congr 1
    rw [List.length_append, List.getD_eq_getElem?_getD]
    simp
  rw [List.foldl_append, e]
  simp [blk]

theorem foldOne_length (v : List Int) (x : Int) : (foldOne v x).length = v.length + 1 := by
  unfold foldOne
  rw [List.length_append]
  by_cases h : v = []
  · subst h; rfl
  · have h1 := blk_len x (lowOf v x) v ([], [])
    rw [blk_last h] at h1
    simp at h1 ⊢
    omega

theorem foldl_take_le {v : List Int} {k : Nat} (x : Int) (low : Bool) (h : k ≤ v.length) : (((v.take k).foldl (blk x low) ([], [])).1.length + ((v.take k).foldl (blk x low) ([], [])).2.length) = k := by
  rw [blk_len]; simp; omega

theorem folded_take_succ {w : List Int} {i : Nat} (h : i < w.length) : folded (w.take (i + 1)) = foldOne (folded (w.take i)) (w.getD i 0) := by
  unfold folded
  rw [foldl_take_succ _ _ 0 h]

theorem folded_length (w : List Int) : (folded w).length = w.length := by
  have : ∀ (w v : List Int), (w.foldl foldOne v).length = v.length + w.length := by
    intro w
    induction w with
    | nil => simp
    | cons x w ih => intro v; rw [List.foldl_cons, ih, foldOne_length, List.length_cons]; omega
  unfold folded
  rw [this]; simp

theorem blk_succ {v : List Int} {k : Nat} (x : Int) (low : Bool) (h : k < v.length) : (v.take (k + 1)).foldl (blk x low) ([], []) = blk x low ((v.take k).foldl (blk x low) ([], [])) (v.getD k 0) := foldl_take_succ _ _ 0 h

theorem foldOne_of {v : List Int} (x : Int) : foldOne v x = ((v.take v.length).foldl (blk x (lowOf v x)) ([], [])).1 ++ [x] := by rw [List.take_length]; rfl

theorem app3_getD {A B : List Int} {y : Int} {R : List Int} {i : Nat} : (A ++ y :: (B ++ R)).getD i 0 = if i < A.length then A.getD i 0 else if i = A.length then y else if i < A.length + 1 + B.length then B.getD (i - A.length - 1) 0 else R.getD (i - A.length - 1 - B.length) 0 := by
  simp only [List.getD_eq_getElem?_getD]
  by_cases c1 : i < A.length
  · rw [List.getElem?_append_left c1, if_pos c1]
  · rw [List.getElem?_append_right (by omega), if_neg c1]
    by_cases c2 : i = A.length
    · rw [if_pos c2, c2]; simp
    · obtain ⟨j, hj⟩ : ∃ j, j = i - A.length - 1 := ⟨_, rfl⟩
      rw [if_neg c2, ← hj, show i - A.length = j + 1 by omega, List.getElem?_cons_succ]
      by_cases c3 : i < A.length + 1 + B.length
      · rw [if_pos c3, List.getElem?_append_left (by omega)]
      · rw [if_neg c3, List.getElem?_append_right (by omega)]

theorem app2_getD {A B : List Int} {y : Int} {R : List Int} {i : Nat} : (A ++ B ++ y :: R).getD i 0 = if i < A.length then A.getD i 0 else if i < A.length + B.length then B.getD (i - A.length) 0 else if i = A.length + B.length then y else R.getD (i - A.length - 1 - B.length) 0 := by
  simp only [List.getD_eq_getElem?_getD]
  by_cases c1 : i < A.length
  · rw [List.append_assoc, List.getElem?_append_left c1, if_pos c1]
  · rw [if_neg c1]
    by_cases c2 : i < A.length + B.length
    · rw [List.append_assoc, List.getElem?_append_right (by omega), List.getElem?_append_left (by omega), if_pos c2]
    · rw [if_neg c2, List.getElem?_append_right (by rw [List.length_append]; omega), List.length_append]
      by_cases c3 : i = A.length + B.length
      · rw [if_pos c3, c3]; simp
      · rw [if_neg c3, show i - (A.length + B.length) = (i - A.length - 1 - B.length) + 1 by omega, List.getElem?_cons_succ]

/-! ### And back -/

/-- The first letter of each block goes to its end. -/
def rotb (x : Int) (low : Bool) : Nat → List Int → List Int
  | 0, _ => []
  | _, [] => []
  | f + 1, a :: l => l.takeWhile (fun y => decide (y ≤ x) != low) ++ a :: rotb x low f (l.dropWhile fun y => decide (y ≤ x) != low)

theorem rotb_length (x : Int) (low : Bool) : ∀ (f : Nat) (l : List Int), l.length ≤ f → (rotb x low f l).length = l.length
  | 0, [], _ => rfl
  | 0, _ :: _, h => by simp at h
  | _ + 1, [], _ => rfl
  | f + 1, a :: l, h => by
    have h1 : (l.takeWhile (fun y => decide (y ≤ x) != low)).length + (l.dropWhile (fun y => decide (y ≤ x) != low)).length = l.length := by
      rw [← List.length_append, List.takeWhile_append_dropWhile]
    simp only [List.length_cons] at h
    rw [rotb, List.length_append, List.length_cons, rotb_length x low f _ (by omega), List.length_cons]
    omega

theorem drop_len (p : Int → Bool) (l : List Int) : (l.dropWhile p).length ≤ l.length := by
  have h1 : (l.takeWhile p).length + (l.dropWhile p).length = l.length := by rw [← List.length_append, List.takeWhile_append_dropWhile]
  omega

theorem rotb_fuel (x : Int) (low : Bool) : ∀ (f g : Nat) (l : List Int), l.length ≤ f → l.length ≤ g → rotb x low f l = rotb x low g l
  | 0, 0, _, _, _ => rfl
  | 0, g + 1, [], _, _ => rfl
  | f + 1, 0, [], _, _ => rfl
  | f + 1, g + 1, [], _, _ => rfl
  | 0, _ + 1, _ :: _, h, _ => by simp at h
  | _ + 1, 0, _ :: _, _, h => by simp at h
  | f + 1, g + 1, a :: l, h, h' => by
    simp only [List.length_cons] at h h'
    have := drop_len (fun y => decide (y ≤ x) != low) l
    rw [rotb, rotb, rotb_fuel x low f g _ (by omega) (by omega)]

def rot (x : Int) (low : Bool) (l : List Int) : List Int := rotb x low l.length l

theorem rot_cons (x : Int) (low : Bool) (a : Int) (l : List Int) : rot x low (a :: l) = l.takeWhile (fun y => decide (y ≤ x) != low) ++ a :: rot x low (l.dropWhile fun y => decide (y ≤ x) != low) := by
  unfold rot
  have := drop_len (fun y => decide (y ≤ x) != low) l
  rw [List.length_cons, rotb, rotb_fuel x low l.length _ _ this (Nat.le_refl _)]

@[simp] theorem rot_length (x : Int) (low : Bool) (l : List Int) : (rot x low l).length = l.length := rotb_length x low _ l (Nat.le_refl _)
@[simp] theorem rot_nil (x : Int) (low : Bool) : rot x low [] = [] := rfl

theorem while_cut {p : Int → Bool} : ∀ {l : List Int} {m : Nat}, m ≤ l.length → (∀ j, j < m → p (l.getD j 0) = true) → (m = l.length ∨ p (l.getD m 0) = false) → l.takeWhile p = l.take m ∧ l.dropWhile p = l.drop m
  | [], m, hm, _, _ => by simp
  | a :: l, 0, _, _, h => by
    have h : p a = false := by simpa using h
    simp [h]
  | a :: l, m + 1, hm, h1, h2 => by
    have h0 := h1 0 (by omega)
    simp at h0
    have := while_cut (p := p) (l := l) (m := m) (by simpa using hm) (fun j hj => by simpa using h1 (j + 1) (by omega)) (by simpa using h2)
    simp [h0, this.1, this.2]

def headLow (u : List Int) (x : Int) : Bool := decide (u.getD 0 0 ≤ x)

def unf : Nat → List Int → List Int
  | 0, _ => []
  | f + 1, v => if v = [] then [] else unf f (rot (v.getD (v.length - 1) 0) (headLow v.dropLast (v.getD (v.length - 1) 0)) v.dropLast) ++ [v.getD (v.length - 1) 0]

/-- P8, back. -/
def unfO (v : List Int) : List Int := unf v.length v

theorem unfO_nil : unfO [] = [] := rfl
theorem unfO_concat (u : List Int) (x : Int) : unfO (u ++ [x]) = unfO (rot x (headLow u x) u) ++ [x] := by
  unfold unfO
  rw [List.length_append, List.length_cons, List.length_nil, unf, if_neg (by simp)]
  have e1 : (u ++ [x]).getD ((u ++ [x]).length - 1) 0 = x := by
    rw [List.getD_eq_getElem?_getD]; simp
  rw [e1, List.dropLast_concat, rot_length]

theorem unfO_length : ∀ (n : Nat) (v : List Int), v.length = n → (unfO v).length = n
  | 0, v, h => by rw [List.length_eq_zero_iff.1 h]; rfl
  | n + 1, v, h => by
    have hne : v ≠ [] := by intro e; rw [e] at h; simp at h
    obtain ⟨u, x, rfl⟩ : ∃ u x, v = u ++ [x] := ⟨v.dropLast, v.getLast hne, (List.dropLast_concat_getLast hne).symm⟩
    rw [unfO_concat, List.length_append, unfO_length n _ (by simpa using h)]; rfl

theorem unfO_short {v : List Int} (h : v.length ≤ 1) : unfO v = v := by
  match v, h with
  | [], _ => rfl
  | [a], _ => exact unfO_concat [] a
  | _ :: _ :: _, h => simp at h

theorem split3 {l : List Int} {i j : Nat} (h : i < j) (hj : j ≤ l.length) : l = l.take i ++ l.getD i 0 :: ((l.take j).drop (i + 1) ++ l.drop j) := by
  have h1 : l.drop i = l.getD i 0 :: l.drop (i + 1) := drop_pred_getD 0 (by omega)
  have h2 : (l.take j).drop (i + 1) ++ l.drop j = l.drop (i + 1) := by
    have : l.drop (i + 1) = (l.take j ++ l.drop j).drop (i + 1) := by rw [List.take_append_drop]
    rw [this, List.drop_append_of_le_length (by rw [List.length_take]; omega)]
  rw [h2, ← h1, List.take_append_drop]

/-- One block more. -/
theorem rot_block {x : Int} {low : Bool} {l : List Int} {i j n : Nat} (hij : i < j) (hjn : j ≤ n) (hn : n ≤ l.length) (h1 : ∀ m, i + 1 ≤ m → m < j → (decide (l.getD m 0 ≤ x) != low) = true) (h2 : j = n ∨ (decide (l.getD j 0 ≤ x) != low) = false) :
    rot x low ((l.take n).drop i) = (l.take j).drop (i + 1) ++ l.getD i 0 :: rot x low ((l.take n).drop j) := by
  have hl : (l.take n).length = n := by rw [List.length_take]; omega
  have hg : ∀ m, m < n → (l.take n).getD m 0 = l.getD m 0 := fun m hm => by simp only [List.getD_eq_getElem?_getD, List.getElem?_take, if_pos hm]
  rw [drop_pred_getD (l := l.take n) 0 (by omega), rot_cons, hg i (by omega)]
  have hw := while_cut (p := fun y => decide (y ≤ x) != low) (l := (l.take n).drop (i + 1)) (m := j - (i + 1)) (by rw [List.length_drop, hl]; omega)
    (fun m hm => by rw [drop_getD, hg _ (by omega)]; exact h1 _ (by omega) (by omega))
    (by
      rcases h2 with h2 | h2
      · left; rw [List.length_drop, hl]; omega
      · by_cases e : j = n
        · left; rw [List.length_drop, hl]; omega
        · right; rw [drop_getD, show i + 1 + (j - (i + 1)) = j by omega, hg _ (by omega)]; exact h2)
  rw [hw.1, hw.2, List.drop_drop, show i + 1 + (j - (i + 1)) = j by omega]
  congr 1
  rw [List.drop_take, List.take_take, List.drop_take, show min (j - (i + 1)) (n - (i + 1)) = j - (i + 1) by omega]

end Fer

/- Plain facts: the cycles of a permutation. No program in sight. -/
namespace Fer

/-- What p makes of y. -/
def sg (p : List Int) (y : Int) : Int := p.getD (y - 1).toNat 0
def it (p : List Int) (y : Int) : Nat → Int
  | 0 => y
  | j + 1 => sg p (it p y j)

def IsRet (p : List Int) (y : Int) (r : Nat) : Prop := 0 < r ∧ it p y r = y ∧ ∀ d, 0 < d → d < r → it p y d ≠ y

theorem leastNat {P : Nat → Prop} : ∀ n, P n → ∃ r, r ≤ n ∧ P r ∧ ∀ d, d < r → ¬ P d := by
  intro n
  induction n using Nat.strongRecOn with
  | _ n ih =>
    intro h
    by_cases c : ∃ d, d < n ∧ P d
    · obtain ⟨d, hd, hp⟩ := c
      obtain ⟨r, h1, h2, h3⟩ := ih d hd hp
      exact ⟨r, by omega, h2, h3⟩
    · exact ⟨n, Nat.le_refl _, h, fun d hd hp => c ⟨d, hd, hp⟩⟩

theorem sg_rng {p : List Int} (h : permE p = 0) {y : Int} (h1 : 1 ≤ y) (h2 : y ≤ p.length) : 1 ≤ sg p y ∧ sg p y ≤ p.length :=
  (permE_zero h).2.2.2 _ (getD_mem 0 (by omega))

theorem sg_inj {p : List Int} (h : permE p = 0) {y z : Int} (h1 : 1 ≤ y) (h2 : y ≤ p.length) (h3 : 1 ≤ z) (h4 : z ≤ p.length) (e : sg p y = sg p z) : y = z := by
  have hn := (permE_zero h).2.2.1
  unfold sg at e
  by_cases c : (y - 1).toNat < (z - 1).toNat
  · exact absurd e (nodup_getD hn c (by omega))
  · by_cases c' : (z - 1).toNat < (y - 1).toNat
    · exact absurd e.symm (nodup_getD hn c' (by omega))
    · omega

theorem it_rng {p : List Int} (h : permE p = 0) {y : Int} (h1 : 1 ≤ y) (h2 : y ≤ p.length) : ∀ j, 1 ≤ it p y j ∧ it p y j ≤ p.length
  | 0 => ⟨h1, h2⟩
  | j + 1 => sg_rng h (it_rng h h1 h2 j).1 (it_rng h h1 h2 j).2

theorem it_add (p : List Int) (y : Int) (a : Nat) : ∀ b, it p (it p y a) b = it p y (a + b)
  | 0 => rfl
  | b + 1 => by show sg p _ = sg p (it p y (a + b)); rw [it_add p y a b]

theorem it_back {p : List Int} (h : permE p = 0) {y : Int} (h1 : 1 ≤ y) (h2 : y ≤ p.length) (d : Nat) : ∀ a, it p y a = it p y (a + d) → y = it p y d
  | 0, e => by rw [Nat.zero_add] at e; exact e
  | a + 1, e => by
    rw [show a + 1 + d = (a + d) + 1 by omega] at e
    exact it_back h h1 h2 d a (sg_inj h (it_rng h h1 h2 _).1 (it_rng h h1 h2 _).2 (it_rng h h1 h2 _).1 (it_rng h h1 h2 _).2 e)

theorem it_returns {p : List Int} (h : permE p = 0) {y : Int} (h1 : 1 ≤ y) (h2 : y ≤ p.length) : ∃ d, 0 < d ∧ d ≤ p.length ∧ it p y d = y := by
  refine Classical.byContradiction fun hc => ?_
  have hd : ∀ d, 0 < d → d ≤ p.length → it p y d ≠ y := fun d a b e => hc ⟨d, a, b, e⟩
  have hn : ((List.range (p.length + 1)).map (it p y)).Nodup := by
    refine List.pairwise_map.2 (List.Pairwise.imp_of_mem ?_ (List.pairwise_lt_range (n := p.length + 1)))
    intro a b ha hb hab e
    rw [List.mem_range] at ha hb
    rw [show b = a + (b - a) by omega] at e
    exact hd (b - a) (by omega) (by omega) (it_back h h1 h2 _ _ e).symm
  have := nodup_len _ (iota p.length) hn fun x hx => by
    obtain ⟨j, _, rfl⟩ := List.mem_map.1 hx
    exact mem_iota.2 (it_rng h h1 h2 j)
  simp at this
  omega

noncomputable def ret (p : List Int) (y : Int) : Nat := Classical.epsilon (IsRet p y)

theorem ret_spec {p : List Int} (h : permE p = 0) {y : Int} (h1 : 1 ≤ y) (h2 : y ≤ p.length) : IsRet p y (ret p y) ∧ ret p y ≤ p.length := by
  obtain ⟨d, d0, d1, d2⟩ := it_returns h h1 h2
  obtain ⟨r, r1, r2, r3⟩ := leastNat (P := fun d => 0 < d ∧ it p y d = y) d ⟨d0, d2⟩
  have hr : IsRet p y r := ⟨r2.1, r2.2, fun d a b e => r3 d b ⟨a, e⟩⟩
  have hs : IsRet p y (ret p y) := Classical.epsilon_spec ⟨r, hr⟩
  refine ⟨hs, ?_⟩
  by_cases c : ret p y ≤ r
  · omega
  · exact absurd hr.2.1 (hs.2.2 r hr.1 (by omega))

theorem ret_of {p : List Int} (h : permE p = 0) {y : Int} (h1 : 1 ≤ y) (h2 : y ≤ p.length) {r : Nat} (hr : IsRet p y r) : ret p y = r := by
  have hs := (ret_spec h h1 h2).1
  by_cases c : ret p y < r
  · exact absurd hs.2.1 (hr.2.2 _ hs.1 c)
  · by_cases c' : r < ret p y
    · exact absurd hr.2.1 (hs.2.2 _ hr.1 c')
    · omega

noncomputable def cyc (p : List Int) (y : Int) : List Int := (List.range (ret p y)).map (it p y)

theorem it_mod {p : List Int} (h : permE p = 0) {y : Int} (h1 : 1 ≤ y) (h2 : y ≤ p.length) : ∀ j, ∃ i, i < ret p y ∧ it p y j = it p y i := by
  intro j
  have hs := (ret_spec h h1 h2).1
  induction j using Nat.strongRecOn with
  | _ j ih =>
    by_cases c : j < ret p y
    · exact ⟨j, c, rfl⟩
    · have hp := hs.1
      obtain ⟨i, hi, e⟩ := ih (j - ret p y) (by omega)
      refine ⟨i, hi, ?_⟩
      rw [← e, show j = ret p y + (j - ret p y) by omega, ← it_add, hs.2.1, show ret p y + (j - ret p y) - ret p y = j - ret p y by omega]

theorem mem_cyc {p : List Int} (h : permE p = 0) {y : Int} (h1 : 1 ≤ y) (h2 : y ≤ p.length) {x : Int} : x ∈ cyc p y ↔ ∃ j, it p y j = x := by
  unfold cyc
  rw [List.mem_map]
  constructor
  · rintro ⟨j, _, e⟩; exact ⟨j, e⟩
  · rintro ⟨j, e⟩
    obtain ⟨i, hi, e'⟩ := it_mod h h1 h2 j
    exact ⟨i, List.mem_range.2 hi, e'.symm.trans e⟩

theorem cyc_rng {p : List Int} (h : permE p = 0) {y : Int} (h1 : 1 ≤ y) (h2 : y ≤ p.length) {x : Int} (hx : x ∈ cyc p y) : 1 ≤ x ∧ x ≤ p.length := by
  obtain ⟨j, rfl⟩ := (mem_cyc h h1 h2).1 hx
  exact it_rng h h1 h2 j

theorem cyc_symm {p : List Int} (h : permE p = 0) {y : Int} (h1 : 1 ≤ y) (h2 : y ≤ p.length) {x : Int} (hx : x ∈ cyc p y) : y ∈ cyc p x := by
  have hr := cyc_rng h h1 h2 hx
  obtain ⟨j, e⟩ := (mem_cyc h h1 h2).1 hx
  obtain ⟨i, hi, e'⟩ := it_mod h h1 h2 j
  refine (mem_cyc h hr.1 hr.2).2 ⟨ret p y - i, ?_⟩
  rw [← e, e', it_add, show i + (ret p y - i) = ret p y by omega]
  exact (ret_spec h h1 h2).1.2.1

theorem cyc_trans {p : List Int} (h : permE p = 0) {y : Int} (h1 : 1 ≤ y) (h2 : y ≤ p.length) {x z : Int} (hx : x ∈ cyc p y) (hz : z ∈ cyc p x) : z ∈ cyc p y := by
  have hr := cyc_rng h h1 h2 hx
  obtain ⟨j, e⟩ := (mem_cyc h h1 h2).1 hx
  obtain ⟨i, e'⟩ := (mem_cyc h hr.1 hr.2).1 hz
  exact (mem_cyc h h1 h2).2 ⟨j + i, by rw [← it_add, e, e']⟩

theorem it_ne {p : List Int} (h : permE p = 0) {y : Int} (h1 : 1 ≤ y) (h2 : y ≤ p.length) {i j : Nat} (hij : i < j) (hj : j < ret p y) : it p y i ≠ it p y j := by
  intro e
  rw [show j = i + (j - i) by omega] at e
  exact (ret_spec h h1 h2).1.2.2 (j - i) (by omega) (by omega) (it_back h h1 h2 _ _ e).symm

/-- The first of a cycle as Rounds writes it: its greatest. -/
noncomputable def isTop (p : List Int) (y : Int) : Bool := decide (∀ x ∈ cyc p y, x ≤ y)

noncomputable def tops (p l : List Int) : List (List Int) := (l.filter (isTop p)).map (cyc p)
noncomputable def rounds (p : List Int) : List Int := (tops p (iota p.length)).flatten

theorem tops_append (p l m : List Int) : tops p (l ++ m) = tops p l ++ tops p m := by simp [tops]
theorem tops_one (p : List Int) (y : Int) : tops p [y] = if isTop p y then [cyc p y] else [] := by
  unfold tops
  cases h : isTop p y <;> simp [h]

theorem cyc_length {p : List Int} (h : permE p = 0) {y : Int} (h1 : 1 ≤ y) (h2 : y ≤ p.length) : (cyc p y).length = ret p y := by simp [cyc]

theorem iota_drop {m : Nat} {n : Nat} (h : n < m) : (iota m).drop n = ((n : Int) + 1) :: (iota m).drop (n + 1) := by
  rw [drop_pred_getD 0 (by simpa using h), iota_getD h]

/-! All cycles together are no longer than p. -/

theorem flat_le (p : List Int) (h : permE p = 0) : ∀ l : List Int, l.Nodup → (∀ y ∈ l, 1 ≤ y ∧ y ≤ p.length) → ((tops p l).flatten).length ≤ p.length := by
  have key : ∀ l : List Int, l.Nodup → (∀ y ∈ l, 1 ≤ y ∧ y ≤ p.length) → (tops p l).flatten.Nodup ∧ ∀ x ∈ (tops p l).flatten, ∃ y ∈ l, isTop p y = true ∧ x ∈ cyc p y := by
    intro l
    induction l with
    | nil => intro _ _; simp [tops]
    | cons a l ih =>
      intro hn hr
      rw [List.nodup_cons] at hn
      obtain ⟨i1, i2⟩ := ih hn.2 fun y hy => hr y (List.mem_cons_of_mem _ hy)
      have ha := hr a (List.mem_cons_self ..)
      rw [show a :: l = [a] ++ l from rfl, tops_append, tops_one]
      by_cases c : isTop p a = true
      · rw [if_pos c, List.flatten_append, List.flatten_singleton]
        constructor
        · refine List.nodup_append.2 ⟨?_, i1, ?_⟩
          · refine List.pairwise_map.2 (List.Pairwise.imp_of_mem ?_ List.pairwise_lt_range)
            intro i j hi hj hij
            exact it_ne h ha.1 ha.2 hij (List.mem_range.1 hj)
          · intro x hx x' hx' e
            subst e
            obtain ⟨y, hy, ty, hxy⟩ := i2 x hx'
            have hyr := hr y (List.mem_cons_of_mem _ hy)
            have e1 : a ∈ cyc p y := cyc_trans h hyr.1 hyr.2 hxy (cyc_symm h ha.1 ha.2 hx)
            have e2 : y ∈ cyc p a := cyc_symm h hyr.1 hyr.2 e1
            simp only [isTop, decide_eq_true_eq] at c ty
            have := c y e2
            have := ty a e1
            exact hn.1 (by rw [show a = y by omega]; exact hy)
        · intro x hx
          rcases List.mem_append.1 hx with hx | hx
          · exact ⟨a, List.mem_cons_self .., c, hx⟩
          · obtain ⟨y, hy, r⟩ := i2 x hx
            exact ⟨y, List.mem_cons_of_mem _ hy, r⟩
      · rw [if_neg c]
        refine ⟨i1, fun x hx => ?_⟩
        obtain ⟨y, hy, r⟩ := i2 x hx
        exact ⟨y, List.mem_cons_of_mem _ hy, r⟩
  intro l hn hr
  obtain ⟨k1, k2⟩ := key l hn hr
  have := nodup_len _ (iota p.length) k1 fun x hx => by
    obtain ⟨y, hy, _, hxy⟩ := k2 x hx
    exact mem_iota.2 (cyc_rng h (hr y hy).1 (hr y hy).2 hxy)
  simpa using this

/-! ### Back -/

/-- Where the cycle that holds place i begins. -/
def fi (q : List Int) : Nat → Nat
  | 0 => 0
  | i + 1 => if q.getD (fi q i) 0 < q.getD (i + 1) 0 then i + 1 else fi q i
def nx (q : List Int) (k : Nat) : Int := if k + 1 < q.length ∧ ¬ q.getD (fi q k) 0 < q.getD (k + 1) 0 then q.getD (k + 1) 0 else q.getD (fi q k) 0
def unrO (q : List Int) : Nat → List Int
  | 0 => List.replicate q.length 0
  | k + 1 => (unrO q k).set (q.getD k 0 - 1).toNat (nx q k)

@[simp] theorem unrO_length (q : List Int) : ∀ k, (unrO q k).length = q.length
  | 0 => by simp [unrO]
  | k + 1 => by simp [unrO, unrO_length q k]

theorem fi_le (q : List Int) : ∀ i, fi q i ≤ i
  | 0 => Nat.le_refl _
  | i + 1 => by
    have := fi_le q i
    simp only [fi]; split <;> omega

theorem fi_run {q : List Int} {i : Nat} (h : fi q i = i) : ∀ d, (∀ k, i < k → k ≤ i + d → q.getD k 0 < q.getD i 0) → fi q (i + d) = i
  | 0, _ => h
  | d + 1, hk => by
    have e := fi_run h d fun k a b => hk k a (by omega)
    have := hk (i + d + 1) (by omega) (by omega)
    show (if q.getD (fi q (i + d)) 0 < q.getD (i + d + 1) 0 then i + d + 1 else fi q (i + d)) = i
    rw [e, if_neg (by omega)]

end Fer

/- Plain facts: tables, sums, alternating signs. No program in sight. -/
namespace Fer

theorem sumZ_le (p : List Int) (hb : ∀ x ∈ p, -1000000 ≤ x ∧ x ≤ 1000000) : ∀ i : Nat, -(1000000 * (p.length : Int)) ≤ (p.take i).sum ∧ (p.take i).sum ≤ 1000000 * (p.length : Int) := by
  induction p with
  | nil => intro i; simp
  | cons a p ih =>
    intro i
    have ha := hb a (List.mem_cons_self ..)
    cases i with
    | zero => simp only [List.take_zero, List.sum_nil, List.length_cons]; omega
    | succ i =>
      have := ih (fun x hx => hb x (List.mem_cons_of_mem _ hx)) i
      simp only [List.take_succ_cons, List.sum_cons, List.length_cons]
      omega

/-- Rows and columns change places. -/
def across (m : List (List Int)) : List (List Int) := (List.range (m.getD 0 []).length).map fun j => (m.takeWhile fun r => decide (j < r.length)).map fun r => r.getD j 0

def acol (m : List (List Int)) (j : Nat) : List Int := (m.takeWhile fun r => decide (j < r.length)).map fun r => r.getD j 0

theorem across_getD {m : List (List Int)} {j : Nat} (h : j < (m.getD 0 []).length) : (across m).getD j [] = acol m j := by
  unfold across acol
  rw [getD_lt [] (by simpa using h)]
  simp

theorem while_cutG {α : Type} {p : α → Bool} (d : α) : ∀ {l : List α} {m : Nat}, m ≤ l.length → (∀ j, j < m → p (l.getD j d) = true) → (m = l.length ∨ p (l.getD m d) = false) → l.takeWhile p = l.take m
  | [], m, hm, _, _ => by simp
  | a :: l, 0, _, _, h => by
    rcases h with h | h
    · simp at h
    · have : p a = false := h
      simp [this]
  | a :: l, m + 1, hm, h1, h2 => by
    have h0 : p a = true := h1 0 (by omega)
    rw [List.takeWhile_cons, if_pos h0, List.take_succ_cons]
    congr 1
    refine while_cutG d (by simpa using hm) (fun j hj => h1 (j + 1) (by omega)) ?_
    rcases h2 with h2 | h2
    · exact .inl (by simpa using h2)
    · exact .inr h2

theorem append_getD {l m : List Int} {k : Nat} : (l ++ m).getD k 0 = if k < l.length then l.getD k 0 else m.getD (k - l.length) 0 := by
  simp only [List.getD_eq_getElem?_getD, List.getElem?_append]
  split <;> rfl

end Fer

/- Plain facts: tableaux; a letter put into one. No program in sight. -/
namespace Fer

def tabRow (t : List (List Int)) (i : Nat) : Prop := 0 < (t.getD i []).length ∧ (0 < i → (t.getD i []).length ≤ (t.getD (i - 1) []).length) ∧
  ∀ j, j < (t.getD i []).length → (1 ≤ (t.getD i []).getD j 0 ∧ (t.getD i []).getD j 0 ≤ 99) ∧ (0 < j → (t.getD i []).getD (j - 1) 0 ≤ (t.getD i []).getD j 0) ∧ (0 < i → (t.getD (i - 1) []).getD j 0 < (t.getD i []).getD j 0)
def tabRows (t : List (List Int)) : Prop := ∀ i, i < t.length → tabRow t i
noncomputable def tabE (t : List (List Int)) : Int := if 40 < t.flatten.length then 2 else @ite _ (tabRows t) (Classical.propDecidable _) 0 1

theorem tabE_big {t : List (List Int)} (h : 40 < t.flatten.length) : tabE t = 2 := if_pos h
theorem tabE_bad {t : List (List Int)} (h : ¬ 40 < t.flatten.length) (h2 : ¬ tabRows t) : tabE t = 1 := (if_neg h).trans (if_neg h2)
theorem tabE_ok {t : List (List Int)} (h : ¬ 40 < t.flatten.length) (h2 : tabRows t) : tabE t = 0 := (if_neg h).trans (if_pos h2)
theorem tabE_zero {t : List (List Int)} (h : tabE t = 0) : t.flatten.length ≤ 40 ∧ tabRows t := by
  by_cases h1 : 40 < t.flatten.length
  · rw [tabE_big h1] at h; cases h
  · by_cases h2 : tabRows t
    · exact ⟨by omega, h2⟩
    · rw [tabE_bad h1 h2] at h; cases h

theorem flatten_take_le (t : List (List Int)) (i : Nat) : (t.take i).flatten.length ≤ t.flatten.length := by
  have e : t.flatten.length = ((t.take i).flatten ++ (t.drop i).flatten).length := by rw [← List.flatten_append, List.take_append_drop]
  rw [List.length_append] at e
  omega
theorem flatten_take_succ {t : List (List Int)} {i : Nat} (h : i < t.length) : (t.take (i + 1)).flatten.length = (t.take i).flatten.length + (t.getD i []).length := by
  rw [take_succ_getD [] h, List.flatten_append, List.flatten_singleton, List.length_append]
theorem row_le_flatten {t : List (List Int)} {i : Nat} (h : i < t.length) : (t.getD i []).length ≤ t.flatten.length := by
  have := flatten_take_succ h
  have := flatten_take_le t (i + 1)
  omega
theorem tab_length {t : List (List Int)} (h : tabRows t) : t.length ≤ t.flatten.length := by
  have key : ∀ i, i ≤ t.length → i ≤ (t.take i).flatten.length := fun i => by
    induction i with
    | zero => intro _; omega
    | succ i ih =>
      intro hi
      have := ih (by omega)
      have := (h i (by omega)).1
      rw [flatten_take_succ (by omega)]
      omega
  have := key t.length (Nat.le_refl _)
  rwa [List.take_length] at this

/-- How many at the front are less. -/
def lb (p : List Int) (n : Int) : Nat := (p.takeWhile fun x => decide (x < n)).length
/-- In order, the least first. -/
def Asc (p : List Int) : Prop := ∀ i j, i ≤ j → j < p.length → p.getD i 0 ≤ p.getD j 0

theorem lb_of {p : List Int} {n : Int} {k : Nat} (hk : k ≤ p.length) (h1 : ∀ a, a < k → p.getD a 0 < n) (h2 : k = p.length ∨ n ≤ p.getD k 0) : lb p n = k := by
  unfold lb
  rw [while_cutG 0 hk (fun j hj => decide_eq_true (h1 j hj)) (h2.imp id fun h => decide_eq_false (by omega)), List.length_take]
  omega
theorem lb_le (p : List Int) (n : Int) : lb p n ≤ p.length := by
  unfold lb
  generalize hq : (fun x : Int => decide (x < n)) = q
  clear hq
  induction p with
  | nil => simp
  | cons a p ih =>
    rw [List.takeWhile_cons]
    split
    · simp only [List.length_cons]; omega
    · simp
theorem asc_of {p : List Int} (h : ∀ j, j + 1 < p.length → p.getD j 0 ≤ p.getD (j + 1) 0) : Asc p := by
  have key : ∀ d i, i + d < p.length → p.getD i 0 ≤ p.getD (i + d) 0 := by
    intro d
    induction d with
    | zero => intro i _; exact Int.le_refl _
    | succ d ih => intro i hi; exact Int.le_trans (ih i (by omega)) (h (i + d) (by omega))
  intro i j hij hj
  have := key (j - i) i (by omega)
  rwa [show i + (j - i) = j by omega] at this
theorem tab_asc {t : List (List Int)} {i : Nat} (h : tabRow t i) : Asc (t.getD i []) :=
  asc_of fun j hj => ((h.2.2 (j + 1) hj).2.1 (by omega))

/-! ### Row by row -/

def intoL : List (List Int) → Int → List (List Int)
  | [], x => [[x]]
  | r :: t, x => if lb r (x + 1) = r.length then (r ++ [x]) :: t else (r.set (lb r (x + 1)) x) :: intoL t (r.getD (lb r (x + 1)) 0)
def intoI : List (List Int) → Int → Nat
  | [], _ => 0
  | r :: t, x => if lb r (x + 1) = r.length then 0 else intoI t (r.getD (lb r (x + 1)) 0) + 1

theorem into_nil (x : Int) : intoL [] x = [[x]] := rfl
theorem into_drop {t : List (List Int)} {i : Nat} (h : i < t.length) (x : Int) :
    intoL (t.drop i) x = (if lb (t.getD i []) (x + 1) = (t.getD i []).length then ((t.getD i []) ++ [x]) :: t.drop (i + 1) else ((t.getD i []).set (lb (t.getD i []) (x + 1)) x) :: intoL (t.drop (i + 1)) ((t.getD i []).getD (lb (t.getD i []) (x + 1)) 0)) ∧
    intoI (t.drop i) x = if lb (t.getD i []) (x + 1) = (t.getD i []).length then 0 else intoI (t.drop (i + 1)) ((t.getD i []).getD (lb (t.getD i []) (x + 1)) 0) + 1 := by
  rw [drop_pred_getD [] h]
  exact ⟨rfl, rfl⟩

theorem set_split {α : Type} {l : List α} {i : Nat} (h : i < l.length) (v : α) : l.set i v = l.take i ++ v :: l.drop (i + 1) := by
  rw [List.set_eq_take_append_cons_drop, if_pos h]
theorem set_take {α : Type} {l : List α} {i : Nat} (h : i < l.length) (v : α) : (l.set i v).take (i + 1) = l.take i ++ [v] := by
  rw [set_split h, List.take_append, List.length_take, List.take_take]
  rw [show min (i + 1) i = i by omega, show i + 1 - min i l.length = 1 by omega]
  rfl
theorem set_drop {α : Type} {l : List α} {i : Nat} (v : α) : (l.set i v).drop (i + 1) = l.drop (i + 1) := by
  rw [List.drop_set_of_lt (by omega)]
theorem drop_more {α : Type} {l m : List α} {i : Nat} (h : l.drop i = m.drop i) : l.drop (i + 1) = m.drop (i + 1) := by
  rw [← List.drop_drop, ← List.drop_drop, h]

/-- One row of the way down. -/
theorem into_step {t out : List (List Int)} {i : Nat} {x : Int} {k : Nat} {L : List (List Int)} {I : Nat} (hi : i < t.length) (hol : out.length = t.length) (hod : out.drop i = t.drop i) (hL : L = out.take i ++ intoL (t.drop i) x) (hI : I = i + intoI (t.drop i) x)
    (hk : lb (out.getD i []) (x + 1) = k) : out.getD i [] = t.getD i [] ∧
    (k = (out.getD i []).length → L = out.set i (out.getD i [] ++ [x]) ∧ I = i) ∧
    (k ≠ (out.getD i []).length → L = (out.set i ((out.getD i []).set k x)).take (i + 1) ++ intoL (t.drop (i + 1)) ((out.getD i []).getD k 0) ∧ (out.set i ((out.getD i []).set k x)).drop (i + 1) = t.drop (i + 1) ∧ I = i + 1 + intoI (t.drop (i + 1)) ((out.getD i []).getD k 0)) := by
  have hr : out.getD i [] = t.getD i [] := by
    have := congrArg (fun l => l.getD 0 []) hod
    simpa [List.getD_eq_getElem?_getD, List.getElem?_drop] using this
  obtain ⟨d1, d2⟩ := into_drop hi x
  rw [← hr, hk] at d1 d2
  refine ⟨hr, fun h => ?_, fun h => ?_⟩
  · rw [if_pos h] at d1 d2
    rw [hL, hI, d1, d2, set_split (by omega), drop_more hod]
    exact ⟨rfl, rfl⟩
  · rw [if_neg h] at d1 d2
    rw [hL, hI, d1, d2, set_take (by omega), set_drop, drop_more hod]
    refine ⟨by simp, rfl, by omega⟩

end Fer

/- Plain facts: rows and columns of a tableau; a letter put in column by column. No program in sight. -/
namespace Fer

def Shp (l : List (List Int)) : Prop := (∀ j, j < l.length → 0 < (l.getD j []).length) ∧ ∀ i j, i ≤ j → j < l.length → (l.getD j []).length ≤ (l.getD i []).length

theorem shp_of {l : List (List Int)} (h1 : ∀ j, j < l.length → 0 < (l.getD j []).length) (h2 : ∀ j, j + 1 < l.length → (l.getD (j + 1) []).length ≤ (l.getD j []).length) : Shp l := by
  refine ⟨h1, fun i j hij hj => ?_⟩
  have key : ∀ d i, i + d < l.length → (l.getD (i + d) []).length ≤ (l.getD i []).length := by
    intro d
    induction d with
    | zero => intro i _; exact Nat.le_refl _
    | succ d ih => intro i hi; exact Nat.le_trans (h2 (i + d) hi) (ih i (by omega))
  have := key (j - i) i (by omega)
  rwa [show i + (j - i) = j by omega] at this

theorem tab_shp {t : List (List Int)} (h : tabRows t) : Shp t :=
  shp_of (fun j hj => (h j hj).1) fun j hj => (h (j + 1) hj).2.1 (by omega)

/-- The one turned is the other. -/
def Tr (out cl : List (List Int)) : Prop := Shp cl ∧ out.length = (cl.getD 0 []).length ∧ ∀ i, i < out.length →
  (∀ j, j < (out.getD i []).length ↔ j < cl.length ∧ i < (cl.getD j []).length) ∧ ∀ j, j < (out.getD i []).length → (out.getD i []).getD j 0 = (cl.getD j []).getD i 0

theorem wid_iff {cl : List (List Int)} (h : Shp cl) (i j : Nat) : j < (acol cl i).length ↔ j < cl.length ∧ i < (cl.getD j []).length := by
  obtain ⟨m, hm, h1, h2⟩ := leastNat (P := fun m => m = cl.length ∨ ¬ i < (cl.getD m []).length) cl.length (.inl rfl)
  have e : acol cl i = (cl.take m).map fun r => r.getD i 0 := by
    unfold acol
    rw [while_cutG [] hm (fun a ha => decide_eq_true (by have := h2 a ha; omega)) (h1.imp id fun h => decide_eq_false h)]
  rw [e, List.length_map, List.length_take]
  constructor
  · intro hj
    have := h2 j (by omega)
    omega
  · rintro ⟨hj, hij⟩
    refine Classical.byContradiction fun hn => ?_
    rcases h1 with h1 | h1
    · omega
    · have := h.2 m j (by omega) hj
      omega
theorem acol_cell {cl : List (List Int)} {i j : Nat} (hj : j < (acol cl i).length) : (acol cl i).getD j 0 = (cl.getD j []).getD i 0 := by
  unfold acol at hj ⊢
  rw [List.length_map] at hj
  have e : ∀ (l : List (List Int)) (p : List Int → Bool) (j : Nat), j < (l.takeWhile p).length → (l.takeWhile p).getD j [] = l.getD j [] := by
    intro l p
    induction l with
    | nil => intro j hj; simp at hj
    | cons a l ih =>
      intro j hj
      rw [List.takeWhile_cons] at hj ⊢
      split at hj
      · rename_i ha
        rw [if_pos ha]
        cases j with
        | zero => rfl
        | succ j => exact ih j (by simpa using hj)
      · simp at hj
  rw [← e cl _ j hj, getD_lt 0 (by simpa using hj), getD_lt [] hj]
  simp
theorem across_length (m : List (List Int)) : (across m).length = (m.getD 0 []).length := by simp only [across, List.length_map, List.length_range]

theorem tr_across {out cl : List (List Int)} (h : Tr out cl) : across cl = out := by
  obtain ⟨hs, h1, h2⟩ := h
  refine ext_getD [] (by rw [across_length, h1]) fun i hi => ?_
  rw [across_length] at hi
  rw [across_getD hi]
  have hl : (acol cl i).length = (out.getD i []).length := by
    have key : ∀ j, j < (acol cl i).length ↔ j < (out.getD i []).length := fun j => (wid_iff hs i j).trans ((h2 i (by omega)).1 j).symm
    have k1 := key (acol cl i).length
    have k2 := key (out.getD i []).length
    omega
  refine ext_getD 0 hl fun j hj => ?_
  rw [acol_cell hj, (h2 i (by omega)).2 j (by omega)]

theorem tr_tab {t : List (List Int)} (h : tabRows t) : Tr t (across t) := by
  have hs := tab_shp h
  have hl := across_length t
  have hc : ∀ j, j < (t.getD 0 []).length → (across t).getD j [] = acol t j := fun j hj => across_getD hj
  have hlen : ∀ j, j < (t.getD 0 []).length → ∀ i, i < ((across t).getD j []).length ↔ i < t.length ∧ j < (t.getD i []).length := fun j hj i => by
    rw [hc j hj]; exact wid_iff hs j i
  refine ⟨shp_of (fun j hj => ?_) fun j hj => ?_, ?_, fun i hi => ⟨fun j => ?_, fun j hj => ?_⟩⟩
  · rw [hl] at hj
    refine (hlen j hj 0).2 ⟨?_, hj⟩
    by_cases e : t.length = 0
    · rw [List.length_eq_zero_iff.1 e] at hj; exact absurd hj (Nat.not_lt_zero _)
    · omega
  · rw [hl] at hj
    refine Classical.byContradiction fun hn => ?_
    have h1 := (hlen (j + 1) hj ((across t).getD j []).length).1 (by omega)
    have h2 := (hlen j (by omega) ((across t).getD j []).length).2 ⟨h1.1, by omega⟩
    omega
  · by_cases e : t.length = 0
    · rw [List.length_eq_zero_iff.1 e]; rfl
    · have h0 := hs.1 0 (by omega)
      have k1 := hlen 0 h0 t.length
      have k2 := hlen 0 h0 (t.length - 1)
      have := hs.1 (t.length - 1) (by omega)
      omega
  · rw [hl]
    have := hs.2 0 i (by omega) hi
    constructor
    · intro hj
      exact ⟨by omega, (hlen j (by omega) i).2 ⟨hi, hj⟩⟩
    · rintro ⟨hj, hij⟩
      exact ((hlen j hj i).1 hij).2
  · have := hs.2 0 i (by omega) hi
    have h3 := (hlen j (by omega) i).2 ⟨hi, hj⟩
    rw [hc j (by omega)] at h3 ⊢
    exact (acol_cell h3).symm

theorem tr_row {out cl : List (List Int)} (h : Tr out cl) {i : Nat} (hi : i < out.length) (j : Nat) : j < (out.getD i []).length ↔ j < cl.length ∧ i < (cl.getD j []).length := (h.2.2 i hi).1 j
theorem tr_cell {out cl : List (List Int)} (h : Tr out cl) {i j : Nat} (hi : i < out.length) (hj : j < (out.getD i []).length) : (out.getD i []).getD j 0 = (cl.getD j []).getD i 0 := (h.2.2 i hi).2 j hj
theorem tr_in {out cl : List (List Int)} (h : Tr out cl) {i j : Nat} (hj : j < cl.length) (hi : i < (cl.getD j []).length) : i < out.length ∧ j < (out.getD i []).length := by
  have h1 := h.1.2 0 j (by omega) hj
  have h2 : i < out.length := by have := h.2.1; omega
  exact ⟨h2, (tr_row h h2 j).2 ⟨hj, hi⟩⟩

theorem getD_set_row {l : List (List Int)} {i k : Nat} (hi : i < l.length) (r : List Int) : (l.set i r).getD k [] = if k = i then r else l.getD k [] := getD_set_if [] hi

/-- A letter changes places. -/
theorem tr_swap {out cl : List (List Int)} (h : Tr out cl) {i j : Nat} (hj : j < cl.length) (hi : i < (cl.getD j []).length) (v : Int) : Tr (out.set i ((out.getD i []).set j v)) (cl.set j ((cl.getD j []).set i v)) := by
  obtain ⟨hio, hjo⟩ := tr_in h hj hi
  have hc : ∀ k, ((cl.set j ((cl.getD j []).set i v)).getD k []).length = (cl.getD k []).length := fun k => by
    rw [getD_set_row hj]
    split
    · rename_i e; rw [e, List.length_set]
    · rfl
  refine ⟨⟨fun k hk => ?_, fun a b hab hb => ?_⟩, ?_, fun a ha => ⟨fun b => ?_, fun b hb => ?_⟩⟩
  · rw [hc]; rw [List.length_set] at hk; exact h.1.1 k hk
  · rw [hc, hc]; rw [List.length_set] at hb; exact h.1.2 a b hab hb
  · rw [List.length_set, hc]; exact h.2.1
  · rw [List.length_set] at ha
    rw [List.length_set, hc, getD_set_row hio]
    split
    · rename_i e; subst e; rw [List.length_set]; exact tr_row h ha b
    · exact tr_row h ha b
  · rw [List.length_set] at ha
    rw [getD_set_row hio] at hb ⊢
    rw [getD_set_row hj]
    by_cases e : a = i
    · subst e
      rw [if_pos rfl] at hb ⊢
      rw [List.length_set] at hb
      rw [getD_set_if 0 hjo]
      by_cases e2 : b = j
      · subst e2
        rw [if_pos rfl, if_pos rfl, getD_set_if 0 hi, if_pos rfl]
      · rw [if_neg e2, if_neg e2]; exact tr_cell h ha hb
    · rw [if_neg e] at hb ⊢
      by_cases e2 : b = j
      · subst e2
        rw [if_pos rfl, getD_set_if 0 hi, if_neg e]; exact tr_cell h ha hb
      · rw [if_neg e2]; exact tr_cell h ha hb

theorem tr_uniq {out out' cl : List (List Int)} (h : Tr out cl) (h' : Tr out' cl) : out = out' := (tr_across h).symm.trans (tr_across h')

/-- The letter ends a column that ends higher than the one to its left. -/
theorem tr_end {out cl : List (List Int)} (h : Tr out cl) {j : Nat} (j0 : 0 < j) (hj : j < cl.length) (hlt : (cl.getD j []).length < (cl.getD (j - 1) []).length) (x : Int) :
    (cl.getD j []).length < out.length ∧ (out.getD (cl.getD j []).length []).length = j ∧ Tr (out.set (cl.getD j []).length (out.getD (cl.getD j []).length [] ++ [x])) (cl.set j (cl.getD j [] ++ [x])) := by
  generalize hi : (cl.getD j []).length = i at *
  obtain ⟨hio, hjo⟩ := tr_in h (show j - 1 < cl.length by omega) hlt
  have hlen : (out.getD i []).length = j := by
    have k := tr_row h hio j
    omega
  have hc : ∀ k, ((cl.set j (cl.getD j [] ++ [x])).getD k []).length = if k = j then i + 1 else (cl.getD k []).length := fun k => by
    rw [getD_set_row hj]
    split
    · rw [List.length_append, hi]; rfl
    · rfl
  refine ⟨hio, hlen, ⟨fun k hk => ?_, fun a b hab hb => ?_⟩, ?_, fun a ha => ⟨fun b => ?_, fun b hb => ?_⟩⟩
  · rw [hc]; rw [List.length_set] at hk
    have := h.1.1 k hk
    split <;> omega
  · rw [hc, hc]; rw [List.length_set] at hb
    have h1 := h.1.2 a b hab hb
    by_cases e1 : b = j
    · rw [if_pos e1]
      by_cases e2 : a = j
      · rw [if_pos e2]; omega
      · rw [if_neg e2]
        have := h.1.2 a (j - 1) (by omega) (by omega)
        omega
    · rw [if_neg e1]
      by_cases e2 : a = j
      · rw [if_pos e2]; rw [e2, hi] at h1; omega
      · rw [if_neg e2]; exact h1
  · rw [List.length_set, hc, if_neg (by omega)]; exact h.2.1
  · rw [List.length_set] at ha
    rw [List.length_set, hc, getD_set_row hio]
    have k := tr_row h ha b
    by_cases e : a = i
    · subst e
      rw [if_pos rfl, List.length_append, List.length_singleton, hlen]
      rw [hlen] at k
      by_cases e2 : b = j
      · rw [if_pos e2]; omega
      · rw [if_neg e2]; omega
    · rw [if_neg e]
      by_cases e2 : b = j
      · subst e2
        rw [if_pos rfl, k, hi]; omega
      · rw [if_neg e2]; exact k
  · rw [List.length_set] at ha
    rw [getD_set_row hio] at hb ⊢
    rw [getD_set_row hj]
    by_cases e : a = i
    · subst e
      rw [if_pos rfl] at hb ⊢
      rw [List.length_append, List.length_singleton, hlen] at hb
      by_cases e2 : b = j
      · subst e2
        rw [if_pos rfl, append_getD, if_neg (by omega), append_getD, if_neg (by omega), hlen, hi]; simp
      · rw [if_neg e2, append_getD, if_pos (by omega)]; exact tr_cell h ha (by omega)
    · rw [if_neg e] at hb ⊢
      by_cases e2 : b = j
      · subst e2
        have k := (tr_row h ha b).1 hb
        rw [if_pos rfl, append_getD, if_pos k.2]; exact tr_cell h ha hb
      · rw [if_neg e2]; exact tr_cell h ha hb

/-- The letter ends the first column. -/
theorem tr_foot {out cl : List (List Int)} (h : Tr out cl) (hj : 0 < cl.length) (x : Int) : Tr (out ++ [[x]]) (cl.set 0 (cl.getD 0 [] ++ [x])) := by
  have hol := h.2.1
  have hc : ∀ k, ((cl.set 0 (cl.getD 0 [] ++ [x])).getD k []).length = if k = 0 then out.length + 1 else (cl.getD k []).length := fun k => by
    rw [getD_set_row hj]
    split
    · rw [List.length_append, ← hol]; rfl
    · rfl
  have hap : ∀ k, (out ++ [[x]]).getD k [] = if k < out.length then out.getD k [] else if k = out.length then [x] else [] := fun k => by
    simp only [List.getD_eq_getElem?_getD, List.getElem?_append]
    split
    · rfl
    · split
      · rename_i e; subst e; simp
      · rename_i e1 e2; rw [List.getElem?_eq_none (by simp; omega)]; rfl
  refine ⟨⟨fun k hk => ?_, fun a b hab hb => ?_⟩, ?_, fun a ha => ⟨fun b => ?_, fun b hb => ?_⟩⟩
  · rw [hc]; rw [List.length_set] at hk
    have := h.1.1 k hk
    split <;> omega
  · rw [hc, hc]; rw [List.length_set] at hb
    have h1 := h.1.2 a b hab hb
    by_cases e2 : a = 0
    · subst e2
      rw [if_pos rfl]
      split <;> omega
    · rw [if_neg e2, if_neg (by omega)]; exact h1
  · rw [hc, if_pos rfl, List.length_append]; rfl
  · rw [List.length_append, List.length_singleton] at ha
    rw [List.length_set, hc, hap]
    by_cases e : a < out.length
    · rw [if_pos e, tr_row h e b]
      by_cases e2 : b = 0
      · subst e2; rw [if_pos rfl]; omega
      · rw [if_neg e2]
    · rw [if_neg e, if_pos (by omega), List.length_singleton]
      by_cases e2 : b = 0
      · subst e2; rw [if_pos rfl]; omega
      · rw [if_neg e2]
        constructor
        · intro h1; omega
        · rintro ⟨h1, h2⟩
          have := h.1.2 0 b (by omega) h1
          omega
  · rw [List.length_append, List.length_singleton] at ha
    rw [hap] at hb ⊢
    rw [getD_set_row hj]
    by_cases e : a < out.length
    · rw [if_pos e] at hb ⊢
      by_cases e2 : b = 0
      · subst e2
        rw [if_pos rfl, append_getD, if_pos (by omega)]; exact tr_cell h e hb
      · rw [if_neg e2]; exact tr_cell h e hb
    · rw [if_neg e, if_pos (by omega)] at hb ⊢
      have hb0 : b = 0 := by simp at hb; exact hb
      subst hb0
      rw [if_pos rfl, append_getD, if_neg (by omega), ← hol, show a - out.length = 0 by omega]

/-- A new column. -/
theorem tr_new {out cl : List (List Int)} (h : Tr out cl) (ho : 0 < out.length) (x : Int) : (out.getD 0 []).length = cl.length ∧ Tr (out.set 0 (out.getD 0 [] ++ [x])) (cl ++ [[x]]) := by
  have hol := h.2.1
  have hlen : (out.getD 0 []).length = cl.length := by
    have k1 := tr_row h ho cl.length
    have k2 := tr_row h ho (cl.length - 1)
    have k3 := h.1.1 (cl.length - 1)
    have k4 : 0 < cl.length := by
      refine Classical.byContradiction fun hn => ?_
      rw [List.length_eq_zero_iff.1 (show cl.length = 0 by omega)] at hol
      have hz : out.length = 0 := hol
      omega
    have k5 := k2.2 ⟨by omega, k3 (by omega)⟩
    omega
  have hcl : 0 < cl.length := by
    refine Classical.byContradiction fun hn => ?_
    rw [List.length_eq_zero_iff.1 (show cl.length = 0 by omega)] at hol
    have hz : out.length = 0 := hol
    omega
  have hap : ∀ k, (cl ++ [[x]]).getD k [] = if k < cl.length then cl.getD k [] else if k = cl.length then [x] else [] := fun k => by
    simp only [List.getD_eq_getElem?_getD, List.getElem?_append]
    split
    · rfl
    · split
      · rename_i e; subst e; simp
      · rename_i e1 e2; rw [List.getElem?_eq_none (by simp; omega)]; rfl
  refine ⟨hlen, ⟨fun k hk => ?_, fun a b hab hb => ?_⟩, ?_, fun a ha => ⟨fun b => ?_, fun b hb => ?_⟩⟩
  · rw [hap]; rw [List.length_append, List.length_singleton] at hk
    by_cases e : k < cl.length
    · rw [if_pos e]; exact h.1.1 k e
    · rw [if_neg e, if_pos (by omega)]; exact Nat.one_pos
  · rw [hap, hap]; rw [List.length_append, List.length_singleton] at hb
    by_cases e : b < cl.length
    · rw [if_pos e, if_pos (by omega)]; exact h.1.2 a b hab e
    · rw [if_neg e, if_pos (by omega)]
      by_cases e2 : a < cl.length
      · rw [if_pos e2]; have := h.1.1 a e2; simp only [List.length_singleton]; omega
      · rw [if_neg e2, if_pos (by omega)]; exact Nat.le_refl _
  · rw [List.length_set, hap, if_pos hcl]; exact hol
  · rw [List.length_set] at ha
    rw [getD_set_row ho, hap, List.length_append (bs := [[x]]), List.length_singleton]
    by_cases e : a = 0
    · subst e
      rw [if_pos rfl, List.length_append, hlen, List.length_singleton]
      by_cases e2 : b < cl.length
      · rw [if_pos e2]; have := h.1.1 b e2; omega
      · rw [if_neg e2]
        by_cases e3 : b = cl.length
        · rw [if_pos e3, List.length_singleton]; omega
        · rw [if_neg e3, List.length_nil]; omega
    · rw [if_neg e, tr_row h ha b]
      by_cases e2 : b < cl.length
      · rw [if_pos e2]; omega
      · rw [if_neg e2]
        by_cases e3 : b = cl.length
        · rw [if_pos e3, List.length_singleton]; omega
        · rw [if_neg e3, List.length_nil]; omega
  · rw [List.length_set] at ha
    rw [getD_set_row ho] at hb ⊢
    rw [hap]
    by_cases e : a = 0
    · subst e
      rw [if_pos rfl] at hb ⊢
      rw [List.length_append, hlen, List.length_singleton] at hb
      by_cases e2 : b < cl.length
      · rw [append_getD, if_pos (by omega), if_pos e2]; exact tr_cell h ha (by omega)
      · rw [append_getD, if_neg (by omega), if_neg e2, if_pos (by omega), hlen, show b - cl.length = 0 by omega]
    · rw [if_neg e] at hb ⊢
      have := (tr_row h ha b).1 hb
      rw [if_pos this.1]; exact tr_cell h ha hb

theorem tr_one (x : Int) : Tr [[x]] [[x]] := by
  refine ⟨⟨fun k hk => ?_, fun a b hab hb => ?_⟩, rfl, fun a ha => ⟨fun b => ?_, fun b hb => ?_⟩⟩
  · have : k = 0 := by simpa using hk
    subst this; exact Nat.one_pos
  · have : b = 0 := by simpa using hb
    subst this
    have : a = 0 := by omega
    subst this; exact Nat.le_refl _
  · have : a = 0 := by simpa using ha
    subst this
    constructor
    · intro h
      have : b = 0 := by simpa using h
      subst this; exact ⟨Nat.one_pos, Nat.one_pos⟩
    · rintro ⟨h, _⟩; exact h
  · have : a = 0 := by simpa using ha
    subst this
    have : b = 0 := by simpa using hb
    subst this; rfl

/-! ### Column by column -/

def besL : List (List Int) → Int → List (List Int)
  | [], x => [[x]]
  | r :: t, x => if lb r x = r.length then (r ++ [x]) :: t else (r.set (lb r x) x) :: besL t (r.getD (lb r x) 0)
def besI : List (List Int) → Int → Nat
  | [], _ => 0
  | r :: t, x => if lb r x = r.length then 0 else besI t (r.getD (lb r x) 0) + 1

theorem bes_drop {t : List (List Int)} {i : Nat} (h : i < t.length) (x : Int) :
    besL (t.drop i) x = (if lb (t.getD i []) x = (t.getD i []).length then ((t.getD i []) ++ [x]) :: t.drop (i + 1) else ((t.getD i []).set (lb (t.getD i []) x) x) :: besL (t.drop (i + 1)) ((t.getD i []).getD (lb (t.getD i []) x) 0)) ∧
    besI (t.drop i) x = if lb (t.getD i []) x = (t.getD i []).length then 0 else besI (t.drop (i + 1)) ((t.getD i []).getD (lb (t.getD i []) x) 0) + 1 := by
  rw [drop_pred_getD [] h]
  exact ⟨rfl, rfl⟩

theorem bes_step {t out : List (List Int)} {i : Nat} {x : Int} {k : Nat} {L : List (List Int)} {I : Nat} (hi : i < t.length) (hol : out.length = t.length) (hod : out.drop i = t.drop i) (hL : L = out.take i ++ besL (t.drop i) x) (hI : I = i + besI (t.drop i) x)
    (hk : lb (out.getD i []) x = k) : out.getD i [] = t.getD i [] ∧
    (k = (out.getD i []).length → L = out.set i (out.getD i [] ++ [x]) ∧ I = i) ∧
    (k ≠ (out.getD i []).length → L = (out.set i ((out.getD i []).set k x)).take (i + 1) ++ besL (t.drop (i + 1)) ((out.getD i []).getD k 0) ∧ (out.set i ((out.getD i []).set k x)).drop (i + 1) = t.drop (i + 1) ∧ I = i + 1 + besI (t.drop (i + 1)) ((out.getD i []).getD k 0)) := by
  have hr : out.getD i [] = t.getD i [] := by
    have := congrArg (fun l => l.getD 0 []) hod
    simpa [List.getD_eq_getElem?_getD, List.getElem?_drop] using this
  obtain ⟨d1, d2⟩ := bes_drop hi x
  rw [← hr, hk] at d1 d2
  refine ⟨hr, fun h => ?_, fun h => ?_⟩
  · rw [if_pos h] at d1 d2
    rw [hL, hI, d1, d2, set_split (by omega), drop_more hod]
    exact ⟨rfl, rfl⟩
  · rw [if_neg h] at d1 d2
    rw [hL, hI, d1, d2, set_take (by omega), set_drop, drop_more hod]
    refine ⟨by simp, rfl, by omega⟩

theorem left_scan {out cl : List (List Int)} (h : Tr out cl) {j i : Nat} {x : Int} (hi : i ≤ out.length) (h1 : ∀ a, a < i → j < (out.getD a []).length ∧ (out.getD a []).getD j 0 < x)
    (h2 : i = out.length ∨ (out.getD i []).length ≤ j ∨ x ≤ (out.getD i []).getD j 0) : (j < cl.length → lb (cl.getD j []) x = i ∧ i ≤ (cl.getD j []).length) ∧ (cl.length ≤ j → i = 0) := by
  constructor
  · intro hj
    have hle : i ≤ (cl.getD j []).length := by
      by_cases e : i = 0
      · omega
      · have h3 := (h1 (i - 1) (by omega)).1
        have := (tr_row h (show i - 1 < out.length by omega) j).1 h3
        omega
    refine ⟨lb_of hle (fun a ha => ?_) ?_, hle⟩
    · obtain ⟨h3, h4⟩ := h1 a ha
      rwa [tr_cell h (by omega) h3] at h4
    · by_cases e : i = (cl.getD j []).length
      · exact .inl e
      · refine .inr ?_
        obtain ⟨k1, k2⟩ := tr_in h hj (show i < (cl.getD j []).length by omega)
        rw [← tr_cell h k1 k2]
        rcases h2 with h2 | h2 | h2
        · omega
        · omega
        · exact h2
  · intro hj
    refine Classical.byContradiction fun hn => ?_
    have h3 := (h1 0 (by omega)).1
    have := (tr_row h (show 0 < out.length by omega) j).1 h3
    omega

structure LInv (C : List (List Int)) (x0 : Int) (j : Nat) (x : Int) (out cl : List (List Int)) : Prop where
  tr : Tr out cl
  len : cl.length = C.length
  drop : cl.drop j = C.drop j
  L : besL C x0 = cl.take j ++ besL (C.drop j) x
  I : besI C x0 = j + besI (C.drop j) x
  lens : ∀ k, (cl.getD k []).length = (C.getD k []).length
  jle : j ≤ C.length
  bump : 0 < j → ∃ i0, i0 < (C.getD (j - 1) []).length ∧ x = (C.getD (j - 1) []).getD i0 0

theorem left_step {C out cl : List (List Int)} {x0 x : Int} {j i : Nat} (hC : ∀ j i, 0 < j → j < C.length → i < (C.getD j []).length → (C.getD (j - 1) []).getD i 0 ≤ (C.getD j []).getD i 0) (V : LInv C x0 j x out cl)
    (hi : i ≤ out.length) (h1 : ∀ a, a < i → j < (out.getD a []).length ∧ (out.getD a []).getD j 0 < x) (h2 : i = out.length ∨ (out.getD i []).length ≤ j ∨ x ≤ (out.getD i []).getD j 0) :
    (i = out.length → j = 0 ∧ across (besL C x0) = out ++ [[x]] ∧ besI C x0 = 0) ∧
    (i < out.length → (out.getD i []).length = j → across (besL C x0) = out.set i (out.getD i [] ++ [x]) ∧ besI C x0 = j) ∧
    (i < out.length → (out.getD i []).length ≠ j → j < C.length ∧ j < (out.getD i []).length ∧ LInv C x0 (j + 1) ((out.getD i []).getD j 0) (out.set i ((out.getD i []).set j x)) (cl.set j ((cl.getD j []).set i x))) := by
  obtain ⟨tr, len, drop, L, I, lens, jle, bump⟩ := V
  obtain ⟨s1, s2⟩ := left_scan tr hi h1 h2
  by_cases hj : j < C.length
  · obtain ⟨s3, s4⟩ := s1 (by omega)
    obtain ⟨b1, b2, b3⟩ := bes_step hj len drop L I s3
    by_cases he : i = (cl.getD j []).length
    · obtain ⟨e1, e2⟩ := b2 he
      by_cases j0 : j = 0
      · subst j0
        have hio : i = out.length := by rw [he]; exact tr.2.1.symm
        have hf := tr_foot tr (by omega) x
        refine ⟨fun _ => ⟨rfl, by rw [e1]; exact tr_across hf, e2⟩, fun h => by omega, fun h => by omega⟩
      · have hlt : (cl.getD j []).length < (cl.getD (j - 1) []).length := by
          obtain ⟨i0, g1, g2⟩ := bump (by omega)
          rw [lens (j - 1)]
          refine Classical.byContradiction fun hn => ?_
          have g3 : i0 < (C.getD j []).length := by rw [← lens j]; omega
          have g4 := hC j i0 (by omega) hj g3
          rw [← g2, ← b1] at g4
          have g5 : i0 < i := by rw [he, lens j]; exact g3
          obtain ⟨g6, g7⟩ := h1 i0 g5
          rw [tr_cell tr (by omega) g6] at g7
          omega
        obtain ⟨f1, f2, f3⟩ := tr_end tr (by omega) (by omega) hlt x
        rw [← he] at f1 f2 f3
        exact ⟨fun h => by omega, fun _ _ => ⟨by rw [e1]; exact tr_across f3, e2⟩, fun _ h => absurd f2 h⟩
    · have hlt : i < (cl.getD j []).length := by omega
      obtain ⟨f1, f2⟩ := tr_in tr (by omega) hlt
      obtain ⟨e1, e2, e3⟩ := b3 he
      refine ⟨fun h => by omega, fun _ h => by omega, fun _ _ => ⟨hj, f2, ?_⟩⟩
      have hcell := tr_cell tr f1 f2
      have hset : ∀ k, ((cl.set j ((cl.getD j []).set i x)).getD k []).length = (cl.getD k []).length := fun k => by
        rw [getD_set_row (by omega)]
        split
        · rename_i e; rw [e, List.length_set]
        · rfl
      refine ⟨tr_swap tr (by omega) hlt x, by rw [List.length_set]; exact len, e2, by rw [hcell]; exact e1, by rw [hcell]; exact e3, fun k => by rw [hset, lens], by omega, fun _ => ⟨i, ?_, ?_⟩⟩
      · rw [Nat.add_sub_cancel, ← lens j]; exact hlt
      · rw [Nat.add_sub_cancel, hcell, b1]
  · have hjC : j = C.length := by omega
    have hi0 := s2 (by omega)
    have e0 : C.drop j = [] := List.drop_eq_nil_of_le (by omega)
    rw [e0, show besL [] x = [[x]] from rfl, List.take_of_length_le (by omega)] at L
    rw [e0, show besI [] x = 0 from rfl] at I
    subst hi0
    by_cases ho : out.length = 0
    · have hc0 : cl.length = 0 := by
        refine Classical.byContradiction fun hn => ?_
        have := tr.1.1 0 (by omega)
        have := tr.2.1
        omega
      have : out = [] := List.length_eq_zero_iff.1 ho
      subst this
      have : cl = [] := List.length_eq_zero_iff.1 hc0
      subst this
      refine ⟨fun _ => ⟨by omega, by rw [L]; exact tr_across (tr_one x), by omega⟩, fun h => by omega, fun h => by omega⟩
    · obtain ⟨f1, f2⟩ := tr_new tr (by omega) x
      exact ⟨fun h => by omega, fun _ _ => ⟨by rw [L]; exact tr_across f2, by omega⟩, fun _ h => by omega⟩

theorem left_start {t : List (List Int)} (h : tabRows t) (x : Int) : LInv (across t) x 0 x t (across t) :=
  ⟨tr_tab h, rfl, rfl, rfl, by rw [List.drop_zero]; omega, fun _ => rfl, Nat.zero_le _, fun h => by omega⟩

theorem across_asc {t : List (List Int)} (h : tabRows t) : ∀ j i, 0 < j → j < (across t).length → i < ((across t).getD j []).length → ((across t).getD (j - 1) []).getD i 0 ≤ ((across t).getD j []).getD i 0 := fun j i j0 hj hi => by
  have T := tr_tab h
  obtain ⟨k1, k2⟩ := tr_in T hj hi
  rw [← tr_cell T k1 k2, ← tr_cell T k1 (by omega)]
  exact ((h i k1).2.2 j k2).2.1 j0

end Fer

/- Plain facts: the two tableaux of a word; letters taken out again. No program in sight. -/
set_option maxHeartbeats 1000000
namespace Fer

/-! ### Two tableaux of a word -/

def qStep (q : List (List Int)) (row : Nat) (a : Int) : List (List Int) :=
  (if row = q.length then q ++ [[]] else q).set row ((if row = q.length then q ++ [[]] else q).getD row [] ++ [a])
def pqP (w : List Int) : Nat → List (List Int)
  | 0 => []
  | k + 1 => intoL (pqP w k) (w.getD k 0)
def pqQ (w a : List Int) : Nat → List (List Int)
  | 0 => []
  | k + 1 => qStep (pqQ w a k) (intoI (pqP w k) (w.getD k 0)) (a.getD k 0)

def RA (n : Nat) (t : List (List Int)) : Prop := t.length ≤ n ∧ ∀ r ∈ t, r.length ≤ n ∧ Asc r ∧ ∀ x ∈ r, 1 ≤ x ∧ x ≤ 99

theorem lb_lt {r : List Int} {x : Int} : ∀ {j : Nat}, j < lb r x → r.getD j 0 < x := by
  induction r with
  | nil => intro j h; simp [lb] at h
  | cons a r ih =>
    intro j h
    unfold lb at h ih
    rw [List.takeWhile_cons] at h
    split at h
    · rename_i ha
      cases j with
      | zero => simpa using ha
      | succ j => exact ih (by simpa using h)
    · simp at h
theorem lb_ge {r : List Int} {x : Int} (h : lb r x < r.length) : x ≤ r.getD (lb r x) 0 := by
  induction r with
  | nil => simp [lb] at h
  | cons a r ih =>
    unfold lb at h ih ⊢
    rw [List.takeWhile_cons] at h ⊢
    split
    · rename_i ha
      rw [if_pos ha] at h
      simp only [List.length_cons] at h ⊢
      have := ih (by omega)
      simpa using this
    · rename_i ha
      simpa using ha
theorem lb_has {r : List Int} {x : Int} (h : Asc r) {j : Nat} (hj : j < r.length) (hx : r.getD j 0 < x) : j < lb r x := by
  refine Nat.lt_of_not_le fun hle => ?_
  have h1 := lb_ge (r := r) (x := x) (by omega)
  have := h _ _ hle hj
  omega

theorem mem_at {r : List Int} {x : Int} (h : x ∈ r) : ∃ j, j < r.length ∧ r.getD j 0 = x := by
  obtain ⟨j, hj, e⟩ := List.mem_iff_getElem.1 h
  exact ⟨j, hj, by rw [List.getD_eq_getElem?_getD, List.getElem?_eq_getElem hj]; exact e⟩
theorem at_mem {α : Type} {r : List α} {d : α} {j : Nat} (h : j < r.length) : r.getD j d ∈ r := by
  rw [List.getD_eq_getElem?_getD, List.getElem?_eq_getElem h]
  exact List.getElem_mem h

theorem asc_snoc {r : List Int} {x : Int} (h : Asc r) (hx : ∀ y ∈ r, y ≤ x) : Asc (r ++ [x]) := by
  refine asc_of fun j hj => ?_
  rw [List.length_append, List.length_singleton] at hj
  simp only [List.getD_eq_getElem?_getD, List.getElem?_append, if_pos (show j < r.length by omega)]
  by_cases e : j + 1 < r.length
  · rw [if_pos e]
    have := h j (j + 1) (by omega) e
    simpa only [List.getD_eq_getElem?_getD] using this
  · rw [if_neg e, show j + 1 - r.length = 0 by omega]
    have := hx _ (at_mem (d := 0) (show j < r.length by omega))
    rw [List.getD_eq_getElem?_getD] at this
    exact this
theorem asc_put {r : List Int} {x : Int} {k : Nat} (h : Asc r) (hk : k < r.length) (h1 : ∀ j, j < k → r.getD j 0 ≤ x) (h2 : ∀ j, k < j → j < r.length → x ≤ r.getD j 0) : Asc (r.set k x) := by
  refine asc_of fun j hj => ?_
  rw [List.length_set] at hj
  rw [getD_set_if 0 hk, getD_set_if 0 hk]
  have := h j (j + 1) (by omega) hj
  split
  · rename_i e
    rw [if_neg (by omega)]
    exact h2 _ (by omega) hj
  · split
    · exact h1 _ (by omega)
    · exact this

theorem ra_into {n : Nat} {x : Int} : ∀ {t : List (List Int)}, (∀ r ∈ t, r.length ≤ n ∧ Asc r ∧ ∀ x ∈ r, 1 ≤ x ∧ x ≤ 99) → 1 ≤ x → x ≤ 99 →
    ∀ r ∈ intoL t x, r.length ≤ n + 1 ∧ Asc r ∧ ∀ x ∈ r, 1 ≤ x ∧ x ≤ 99 := by
  intro t
  induction t generalizing x with
  | nil =>
    intro _ h0 h1 r hr
    simp only [intoL, List.mem_singleton] at hr
    subst hr
    refine ⟨by simp, asc_of fun j hj => by simp at hj, fun y hy => ?_⟩
    simp only [List.mem_singleton] at hy
    omega
  | cons r t ih =>
    intro H h0 h1 r' hr'
    obtain ⟨a1, a2, a3⟩ := H r (by simp)
    have H' := fun r' (h : r' ∈ t) => H r' (List.mem_cons_of_mem _ h)
    simp only [intoL] at hr'
    split at hr'
    · rename_i he
      rcases List.mem_cons.1 hr' with rfl | hr'
      · refine ⟨by simp; omega, asc_snoc a2 fun y hy => ?_, fun y hy => ?_⟩
        · obtain ⟨j, hj, rfl⟩ := mem_at hy
          have := lb_lt (r := r) (x := x + 1) (j := j) (by omega)
          omega
        · rcases List.mem_append.1 hy with hy | hy
          · exact a3 y hy
          · simp only [List.mem_singleton] at hy; omega
      · obtain ⟨b1, b2⟩ := H' r' hr'
        exact ⟨by omega, b2⟩
    · rename_i he
      have hlt : lb r (x + 1) < r.length := by have := lb_le r (x + 1); omega
      rcases List.mem_cons.1 hr' with rfl | hr'
      · refine ⟨by rw [List.length_set]; omega, asc_put a2 hlt (fun j hj => ?_) (fun j hj hj2 => ?_), fun y hy => ?_⟩
        · have := lb_lt hj; omega
        · have h1 := lb_ge hlt
          have := a2 _ _ (Nat.le_of_lt hj) hj2
          omega
        · obtain ⟨j, hj, rfl⟩ := mem_at hy
          rw [List.length_set] at hj
          rw [getD_set_if 0 hlt]
          split
          · exact ⟨h0, h1⟩
          · exact a3 _ (at_mem hj)
      · have hm := a3 _ (at_mem (d := 0) hlt)
        exact ih H' hm.1 hm.2 r' hr'
theorem into_len {x : Int} : ∀ {t : List (List Int)}, intoI t x ≤ t.length ∧ (intoL t x).length = if intoI t x = t.length then t.length + 1 else t.length := by
  intro t
  induction t generalizing x with
  | nil => simp [intoI, intoL]
  | cons r t ih =>
    simp only [intoI, intoL]
    split
    · simp
    · obtain ⟨h1, h2⟩ := ih (x := r.getD (lb r (x + 1)) 0)
      simp only [List.length_cons, h2]
      refine ⟨by omega, ?_⟩
      by_cases e : intoI t (r.getD (lb r (x + 1)) 0) = t.length
      · rw [if_pos e, if_pos (by omega)]
      · rw [if_neg e, if_neg (by omega)]

theorem pqP_ra {w : List Int} (hw : ∀ x ∈ w, 1 ≤ x ∧ x ≤ 99) : ∀ k, k ≤ w.length → RA k (pqP w k)
  | 0, _ => ⟨Nat.le_refl _, fun _ h => by cases h⟩
  | k + 1, hk => by
    obtain ⟨h1, h2⟩ := pqP_ra hw k (by omega)
    have hx := hw _ (at_mem (d := 0) (show k < w.length by omega))
    refine ⟨?_, ra_into (n := k) h2 hx.1 hx.2⟩
    show (intoL (pqP w k) (w.getD k 0)).length ≤ k + 1
    rw [into_len.2]
    split <;> omega

theorem qStep_len {q : List (List Int)} {row : Nat} {a : Int} : (qStep q row a).length = if row = q.length then q.length + 1 else q.length := by
  unfold qStep
  rw [List.length_set]
  split
  · simp
  · rfl
theorem pqQ_len {w a : List Int} : ∀ k, (pqQ w a k).length = (pqP w k).length
  | 0 => rfl
  | k + 1 => by
    show (qStep (pqQ w a k) (intoI (pqP w k) (w.getD k 0)) (a.getD k 0)).length = (intoL (pqP w k) (w.getD k 0)).length
    rw [qStep_len, into_len.2, pqQ_len k]
theorem qStep_row {q : List (List Int)} {row : Nat} {a : Int} {n : Nat} (hr : row ≤ q.length) (h : ∀ i, (q.getD i []).length ≤ n) : ∀ i, ((qStep q row a).getD i []).length ≤ n + 1 := by
  intro i
  unfold qStep
  have key : ∀ q' : List (List Int), row < q'.length → (∀ i, (q'.getD i []).length ≤ n) → ((q'.set row (q'.getD row [] ++ [a])).getD i []).length ≤ n + 1 := by
    intro q' h1 h2
    rw [getD_set_if [] h1]
    split
    · have := h2 row; rw [List.length_append, List.length_singleton]; omega
    · have := h2 i; omega
  split
  · refine key _ (by simp; omega) fun j => ?_
    simp only [List.getD_eq_getElem?_getD, List.getElem?_append]
    split
    · have := h j; simpa only [List.getD_eq_getElem?_getD] using this
    · cases j - q.length <;> simp
  · exact key q (by omega) h
theorem pqQ_row {w a : List Int} : ∀ k i, ((pqQ w a k).getD i []).length ≤ k
  | 0, i => by simp [pqQ]
  | k + 1, i => qStep_row (by rw [pqQ_len]; exact into_len.1) (fun j => pqQ_row k j) i

end Fer

/- Plain facts: letters taken out of two tableaux. No program in sight. -/
set_option maxHeartbeats 2000000
namespace Fer

def lastL (r : List Int) : Int := r.getD (r.length - 1) 0
def upX : List (List Int) → Int → Int
  | [], x => x
  | r :: t, x => r.getD (lb r (upX t x) - 1) 0
def upL : List (List Int) → Int → List (List Int)
  | [], _ => []
  | r :: t, x => r.set (lb r (upX t x) - 1) (upX t x) :: upL t x
def cutB (t : List (List Int)) (row : Nat) : List (List Int) := if (t.getD row []).length = 1 then t.take row else t.set row ((t.getD row []).take ((t.getD row []).length - 1))
def takL (t : List (List Int)) (row : Nat) : List (List Int) := upL (t.take row) (lastL (t.getD row [])) ++ (cutB t row).drop row
def takX (t : List (List Int)) (row : Nat) : Int := upX (t.take row) (lastL (t.getD row []))

theorem upL_len : ∀ (t : List (List Int)) (x : Int), (upL t x).length = t.length
  | [], _ => rfl
  | _ :: t, x => by simp [upL, upL_len t x]
theorem up_drop {t : List (List Int)} {i : Nat} (h : i < t.length) (x : Int) :
    upX (t.drop i) x = (t.getD i []).getD (lb (t.getD i []) (upX (t.drop (i + 1)) x) - 1) 0 ∧
    upL (t.drop i) x = (t.getD i []).set (lb (t.getD i []) (upX (t.drop (i + 1)) x) - 1) (upX (t.drop (i + 1)) x) :: upL (t.drop (i + 1)) x := by
  rw [drop_pred_getD [] h]
  exact ⟨rfl, rfl⟩
theorem upL_getD : ∀ {t : List (List Int)} {i : Nat} (x : Int), i < t.length → (upL t x).getD i [] = (t.getD i []).set (lb (t.getD i []) (upX (t.drop (i + 1)) x) - 1) (upX (t.drop (i + 1)) x)
  | [], _, _, h => by simp at h
  | r :: t, 0, x, _ => by simp [upL]
  | r :: t, i + 1, x, h => by
    have := upL_getD (t := t) (i := i) x (by simpa using h)
    simpa [upL] using this

theorem take_getD {α : Type} {l : List α} {d : α} {i n : Nat} (h : i < n) : (l.take n).getD i d = l.getD i d := by
  simp only [List.getD_eq_getElem?_getD, List.getElem?_take, if_pos h]
theorem dropD {α : Type} {l : List α} {d : α} {i n : Nat} : (l.drop n).getD i d = l.getD (n + i) d := by
  simp only [List.getD_eq_getElem?_getD, List.getElem?_drop]
theorem appD {α : Type} {l m : List α} {d : α} {i : Nat} : (l ++ m).getD i d = if i < l.length then l.getD i d else m.getD (i - l.length) d := by
  simp only [List.getD_eq_getElem?_getD, List.getElem?_append]
  split <;> rfl

theorem cutB_len {t : List (List Int)} {row : Nat} (hr : row < t.length) : (cutB t row).length = if (t.getD row []).length = 1 then row else t.length := by
  unfold cutB
  split
  · rw [List.length_take]; omega
  · rw [List.length_set]
theorem cutB_getD {t : List (List Int)} {row i : Nat} (hr : row < t.length) (hi : i < (cutB t row).length) : (cutB t row).getD i [] = if i = row then (t.getD row []).take ((t.getD row []).length - 1) else t.getD i [] := by
  rw [cutB_len hr] at hi
  unfold cutB
  split
  · rename_i h
    rw [if_pos h] at hi
    rw [take_getD hi, if_neg (by omega)]
  · rw [getD_set_if [] hr]
theorem takL_len {t : List (List Int)} {row : Nat} (hr : row < t.length) : (takL t row).length = (cutB t row).length := by
  have := cutB_len hr
  unfold takL
  rw [List.length_append, upL_len, List.length_take, List.length_drop]
  split at this <;> omega
theorem takL_getD {t : List (List Int)} {row i : Nat} (hr : row < t.length) : (takL t row).getD i [] =
    if i < row then (t.getD i []).set (lb (t.getD i []) (upX ((t.take row).drop (i + 1)) (lastL (t.getD row []))) - 1) (upX ((t.take row).drop (i + 1)) (lastL (t.getD row []))) else (cutB t row).getD i [] := by
  have hl : (upL (t.take row) (lastL (t.getD row []))).length = row := by rw [upL_len, List.length_take]; omega
  unfold takL
  split
  · rename_i h
    rw [appD, hl, if_pos h, upL_getD _ (by rw [List.length_take]; omega), take_getD h]
  · rename_i h
    rw [appD, hl, if_neg h, dropD, show row + (i - row) = i by omega]

/-- Where the letter that goes up comes by. -/
def upK (t : List (List Int)) (row i : Nat) : Nat := if i = row then (t.getD row []).length - 1 else lb (t.getD i []) (upX ((t.take row).drop (i + 1)) (lastL (t.getD row []))) - 1
def upV (t : List (List Int)) (row i : Nat) : Int := upX ((t.take row).drop i) (lastL (t.getD row []))

theorem up_facts {t : List (List Int)} {row : Nat} (ht : tabRows t) (hr : row < t.length) : ∀ d i, i + d = row →
    upK t row i < (t.getD i []).length ∧ upV t row i = (t.getD i []).getD (upK t row i) 0 ∧ (i < row → 1 ≤ lb (t.getD i []) (upV t row (i + 1)) ∧ upK t row i + 1 = lb (t.getD i []) (upV t row (i + 1)) ∧ upK t row (i + 1) ≤ upK t row i)
  | 0, i, h => by
    have : i = row := by omega
    subst this
    have h0 := (ht i hr).1
    refine ⟨by unfold upK; rw [if_pos rfl]; omega, ?_, fun h => by omega⟩
    unfold upV upK
    rw [if_pos rfl, List.drop_eq_nil_of_le (by rw [List.length_take]; omega)]
    rfl
  | d + 1, i, h => by
    obtain ⟨f1, f2, _⟩ := up_facts ht hr d (i + 1) (by omega)
    have hT := ht (i + 1) (by omega)
    have hlen : (t.getD (i + 1) []).length ≤ (t.getD i []).length := by have := hT.2.1 (by omega); simpa using this
    have hcol := ((hT.2.2 (upK t row (i + 1)) f1).2.2 (by omega))
    simp only [Nat.add_sub_cancel] at hcol
    rw [← f2] at hcol
    have hA := tab_asc (ht i (by omega))
    have hb := lb_has hA (j := upK t row (i + 1)) (by omega) hcol
    have hle := lb_le (t.getD i []) (upV t row (i + 1))
    have hk : upK t row i = lb (t.getD i []) (upV t row (i + 1)) - 1 := by
      unfold upK upV; rw [if_neg (by omega)]
    refine ⟨by omega, ?_, fun _ => ⟨by omega, by omega, by omega⟩⟩
    rw [hk]
    unfold upV
    rw [(up_drop (t := t.take row) (i := i) (by rw [List.length_take]; omega) _).1, take_getD (by omega)]

def crn (t : List (List Int)) (row : Nat) : Prop := row + 1 < t.length → (t.getD (row + 1) []).length < (t.getD row []).length

theorem crn_one {t : List (List Int)} {row : Nat} (ht : tabRows t) (hc : crn t row) (h1 : (t.getD row []).length = 1) : t.length ≤ row + 1 := by
  refine Nat.le_of_not_lt fun h => ?_
  have := hc h
  have := (ht (row + 1) h).1
  omega

theorem cut_tab {t : List (List Int)} {row : Nat} (ht : tabRows t) (hr : row < t.length) (hc : crn t row) : tabRows (cutB t row) := by
  intro i hi
  have hl := cutB_len hr
  have hone := crn_one ht hc
  have g := fun (a : Nat) (ha : a < (cutB t row).length) => cutB_getD hr ha
  have it : i < t.length := by rw [hl] at hi; split at hi <;> omega
  have T := ht i it
  have ei := g i hi
  have h0 := (ht row hr).1
  have hir : i = row → (t.getD row []).length ≠ 1 := fun e h => by rw [hl, if_pos h] at hi; omega
  have hw : ∀ a, a < (cutB t row).length → ∀ j, j < ((cutB t row).getD a []).length → ((cutB t row).getD a []).getD j 0 = (t.getD a []).getD j 0 ∧ j < (t.getD a []).length := fun a ha j hj => by
    rw [g a ha] at hj ⊢
    split
    · rename_i e
      subst e
      rw [if_pos rfl, List.length_take] at hj
      exact ⟨take_getD (by omega), by omega⟩
    · rename_i e
      rw [if_neg e] at hj
      exact ⟨rfl, hj⟩
  have hlen : ∀ a, a < (cutB t row).length → ((cutB t row).getD a []).length = if a = row then (t.getD row []).length - 1 else (t.getD a []).length := fun a ha => by
    rw [g a ha]
    split
    · rw [List.length_take]; omega
    · rfl
  refine ⟨?_, fun i0 => ?_, fun j hj => ?_⟩
  · rw [hlen i hi]
    split
    · rename_i e; have := hir e; omega
    · exact T.1
  · rw [hlen i hi, hlen (i - 1) (by omega)]
    have h1 := T.2.1 i0
    split
    · rename_i e
      subst e
      rw [if_neg (by omega)]
      omega
    · split
      · rename_i e
        have := hc (by omega)
        rw [show row + 1 = i by omega] at this
        omega
      · exact h1
  · obtain ⟨e1, e2⟩ := hw i hi j hj
    obtain ⟨b1, b2, b3⟩ := T.2.2 j e2
    rw [e1]
    refine ⟨b1, fun j0 => ?_, fun i0 => ?_⟩
    · rw [(hw i hi (j - 1) (by omega)).1]
      exact b2 j0
    · have hjl : j < ((cutB t row).getD (i - 1) []).length := by
        rw [hlen i hi] at hj
        rw [hlen (i - 1) (by omega)]
        have h1 := T.2.1 i0
        split
        · rename_i e
          rw [if_neg (by omega)] at hj
          have := hc (by omega)
          rw [show row + 1 = i by omega] at this
          omega
        · split at hj <;> omega
      rw [(hw (i - 1) (by omega) j hjl).1]
      exact b3 i0

theorem tak_tab {t : List (List Int)} {row : Nat} (ht : tabRows t) (hr : row < t.length) (hc : crn t row) : tabRows (takL t row) ∧ ∀ i, ((takL t row).getD i []).length = ((cutB t row).getD i []).length := by
  have hC := cut_tab ht hr hc
  have hl := cutB_len hr
  have hL := takL_len hr
  have F := fun i (h : i ≤ row) => up_facts ht hr (row - i) i (by omega)
  have gT : ∀ i, i < row → (takL t row).getD i [] = (t.getD i []).set (upK t row i) (upV t row (i + 1)) := fun i h => by
    rw [takL_getD hr, if_pos h]
    unfold upK upV
    rw [if_neg (by omega)]
  have gC : ∀ i, ¬ i < row → (takL t row).getD i [] = (cutB t row).getD i [] := fun i h => by rw [takL_getD hr, if_neg h]
  have hcl : row ≤ (cutB t row).length := by rw [hl]; split <;> omega
  have lens : ∀ i, ((takL t row).getD i []).length = ((cutB t row).getD i []).length := fun i => by
    by_cases h : i < row
    · rw [gT i h, List.length_set, cutB_getD hr (by omega), if_neg (by omega)]
    · rw [gC i h]
  refine ⟨fun i hi => ?_, lens⟩
  rw [hL] at hi
  have T := hC i hi
  have it : i < t.length := by rw [hl] at hi; split at hi <;> omega
  refine ⟨by rw [lens]; exact T.1, fun i0 => by rw [lens, lens]; exact T.2.1 i0, fun j hj => ?_⟩
  by_cases h : i < row
  · -- a row that the letter comes by
    obtain ⟨k1, k2, k3⟩ := F i (by omega)
    obtain ⟨k3, k4, k5⟩ := k3 h
    obtain ⟨m1, m2, _⟩ := F (i + 1) (by omega)
    have hT := ht i it
    have hA := tab_asc hT
    rw [gT i h, List.length_set] at hj
    have hlt := lb_lt (r := t.getD i []) (x := upV t row (i + 1)) (j := upK t row i) (by omega)
    have hge := fun (hh : lb (t.getD i []) (upV t row (i + 1)) < (t.getD i []).length) => lb_ge hh
    rw [gT i h, getD_set_if 0 k1, getD_set_if 0 k1]
    obtain ⟨b1, b2, b3⟩ := hT.2.2 j hj
    have bX := ((ht (i + 1) (by omega)).2.2 _ m1).1
    rw [← m2] at bX
    refine ⟨?_, fun j0 => ?_, fun i0 => ?_⟩
    · split
      · exact bX
      · exact b1
    · have b2 := b2 j0
      split
      · rename_i e
        rw [if_neg (by omega)]
        have := hge (by omega)
        rw [show lb (t.getD i []) (upV t row (i + 1)) = j by omega] at this
        exact this
      · split
        · rename_i e
          subst e
          omega
        · exact b2
    · obtain ⟨n1, n2, n3⟩ := F (i - 1) (by omega)
      have n3 := n3 (by omega)
      rw [show i - 1 + 1 = i by omega] at n3
      obtain ⟨n3, n4, n5⟩ := n3
      have b3 := b3 i0
      rw [gT (i - 1) (by omega), show i - 1 + 1 = i by omega, getD_set_if 0 n1]
      split
      · rename_i e
        split
        · omega
        · rename_i e2
          have h1 : lb (t.getD i []) (upV t row (i + 1)) ≤ j := by omega
          have h2 := hge (by omega)
          have h3 := hA _ _ h1 hj
          omega
      · split
        · rename_i e2
          subst e2
          omega
        · exact b3
  · rw [gC i h] at hj ⊢
    obtain ⟨b1, b2, b3⟩ := T.2.2 j hj
    refine ⟨b1, b2, fun i0 => ?_⟩
    have b3 := b3 i0
    by_cases h2 : i - 1 < row
    · have e : i = row := by omega
      subst e
      obtain ⟨n1, n2, n3⟩ := F (i - 1) (by omega)
      have n3 := n3 (by omega)
      rw [show i - 1 + 1 = i by omega] at n3
      have hk : upK t i i = (t.getD i []).length - 1 := by unfold upK; rw [if_pos rfl]
      rw [cutB_getD hr hi, if_pos rfl, List.length_take] at hj
      rw [gT (i - 1) h2, getD_set_if 0 n1, if_neg (by omega)]
      rw [cutB_getD hr (show i - 1 < _ by omega), if_neg (by omega)] at b3
      exact b3
    · rw [gC (i - 1) h2]
      exact b3

end Fer

/- Plain facts: all letters taken out of two tableaux, one by one. No program in sight. -/
set_option maxHeartbeats 2000000
namespace Fer

/-- The greatest last letter, and its row (of several the first one). -/
def bst (q : List (List Int)) : Nat → Nat × Int
  | 0 => (0, 0)
  | k + 1 => if (bst q k).2 < lastL (q.getD k []) then (k, lastL (q.getD k [])) else bst q k
def undR : Nat → List (List Int) → List (List Int) → List (Int × Int)
  | 0, _, _ => []
  | n + 1, p, q => ((bst q q.length).2, takX p (bst q q.length).1) :: undR n (takL p (bst q q.length).1) (cutB q (bst q q.length).1)
def und (p q : List (List Int)) : List (Int × Int) := undR p.flatten.length p q

def PQ (p q : List (List Int)) : Prop := tabRows p ∧ tabRows q ∧ p.length = q.length ∧ ∀ i, (p.getD i []).length = (q.getD i []).length

theorem lastL_eq {t : List (List Int)} (h : tabRows t) {i : Nat} (hi : i < t.length) : 1 ≤ lastL (t.getD i []) ∧ lastL (t.getD i []) ≤ 99 := by
  have h0 := (h i hi).1
  exact ((h i hi).2.2 ((t.getD i []).length - 1) (by omega)).1

theorem bst_facts {q : List (List Int)} (hq : tabRows q) : ∀ k, k ≤ q.length → (∀ i, i < k → lastL (q.getD i []) ≤ (bst q k).2) ∧ 0 ≤ (bst q k).2 ∧ (0 < k → (bst q k).1 < k ∧ (bst q k).2 = lastL (q.getD (bst q k).1 []))
  | 0, _ => ⟨fun i h => by omega, Int.le_refl _, fun h => by omega⟩
  | k + 1, hk => by
    obtain ⟨h1, h2, h3⟩ := bst_facts hq k (by omega)
    have h4 := lastL_eq hq (i := k) (by omega)
    simp only [bst]
    split
    · rename_i h
      refine ⟨fun i hi => ?_, by dsimp only; omega, fun _ => ⟨Nat.lt_succ_self k, rfl⟩⟩
      by_cases e : i = k
      · subst e; exact Int.le_refl _
      · have := h1 i (by omega); dsimp only; omega
    · rename_i h
      refine ⟨fun i hi => ?_, h2, fun _ => ?_⟩
      · by_cases e : i = k
        · subst e; omega
        · exact h1 i (by omega)
      · by_cases e : k = 0
        · subst e; simp only [bst] at h; omega
        · obtain ⟨g1, g2⟩ := h3 (by omega)
          exact ⟨by omega, g2⟩

theorem bst_ok {q : List (List Int)} (hq : tabRows q) (h0 : 0 < q.length) : (bst q q.length).1 < q.length ∧ crn q (bst q q.length).1 := by
  obtain ⟨h1, _, h3⟩ := bst_facts hq q.length (Nat.le_refl _)
  obtain ⟨h3, h4⟩ := h3 h0
  refine ⟨h3, fun hr => ?_⟩
  have hT := hq _ hr
  have hle := hT.2.1 (by omega)
  have hm := h1 _ hr
  rw [h4] at hm
  have g0 := hT.1
  simp only [Nat.add_sub_cancel] at hle
  refine Nat.lt_of_le_of_ne hle fun e => ?_
  have := (hT.2.2 ((q.getD ((bst q q.length).1 + 1) []).length - 1) (by omega)).2.2 (by omega)
  simp only [Nat.add_sub_cancel] at this
  unfold lastL at hm
  rw [e] at this hm
  omega

theorem flat_len {t u : List (List Int)} (h : t.length = u.length) (h2 : ∀ i, (t.getD i []).length = (u.getD i []).length) : t.flatten.length = u.flatten.length := by
  have key : ∀ n, n ≤ t.length → (t.take n).flatten.length = (u.take n).flatten.length := by
    intro n
    induction n with
    | zero => intro _; rfl
    | succ n ih =>
      intro hn
      rw [flatten_take_succ (by omega), flatten_take_succ (by omega), ih (by omega), h2 n]
  have := key t.length (Nat.le_refl _)
  rw [List.take_length] at this
  rw [h, List.take_length] at this
  exact this
theorem flat_set {t : List (List Int)} {i : Nat} (hi : i < t.length) (r : List Int) : (t.set i r).flatten.length + (t.getD i []).length = t.flatten.length + r.length := by
  rw [set_split hi]
  have e : t.flatten = ((t.take i) ++ t.getD i [] :: t.drop (i + 1)).flatten := by
    rw [← drop_pred_getD [] hi, List.take_append_drop]
  rw [e]
  simp only [List.flatten_append, List.flatten_cons, List.length_append]
  omega

theorem cut_flat {t : List (List Int)} {row : Nat} (ht : tabRows t) (hr : row < t.length) (hc : crn t row) : (cutB t row).flatten.length + 1 = t.flatten.length := by
  have h0 := (ht row hr).1
  unfold cutB
  split
  · rename_i h
    have hl := crn_one ht hc h
    have := flatten_take_succ hr
    rw [List.take_of_length_le (show t.length ≤ row + 1 by omega)] at this
    omega
  · have := flat_set hr ((t.getD row []).take ((t.getD row []).length - 1))
    rw [List.length_take] at this
    omega

theorem cut_lens {p q : List (List Int)} (hl : p.length = q.length) (h : ∀ i, (p.getD i []).length = (q.getD i []).length) {row : Nat} (hr : row < p.length) : (cutB p row).length = (cutB q row).length ∧ ∀ i, ((cutB p row).getD i []).length = ((cutB q row).getD i []).length := by
  have e1 := cutB_len hr
  have e2 := cutB_len (t := q) (row := row) (by omega)
  have hrw := h row
  have e3 : (cutB p row).length = (cutB q row).length := by rw [e1, e2, hrw, hl]
  refine ⟨e3, fun i => ?_⟩
  by_cases hi : i < (cutB p row).length
  · rw [cutB_getD hr hi, cutB_getD (by omega) (by omega)]
    split
    · rw [List.length_take, List.length_take, hrw]
    · exact h i
  · have z : ∀ l : List (List Int), ¬ i < l.length → l.getD i [] = [] := fun l h => by
      rw [List.getD_eq_getElem?_getD, List.getElem?_eq_none (by omega)]; rfl
    rw [z _ hi, z _ (by omega)]

theorem pq_step {p q : List (List Int)} (h : PQ p q) (h0 : 0 < p.length) : (bst q q.length).1 < p.length ∧ crn p (bst q q.length).1 ∧ PQ (takL p (bst q q.length).1) (cutB q (bst q q.length).1) ∧
    (takL p (bst q q.length).1).flatten.length + 1 = p.flatten.length ∧ (cutB q (bst q q.length).1).flatten.length + 1 = q.flatten.length ∧ und p q = ((bst q q.length).2, takX p (bst q q.length).1) :: und (takL p (bst q q.length).1) (cutB q (bst q q.length).1) := by
  obtain ⟨hp, hq, hl, hs⟩ := h
  obtain ⟨b1, b2⟩ := bst_ok hq (by omega)
  have hc : crn p (bst q q.length).1 := fun hr => by
    have := b2 (by omega)
    rw [hs, hs]; exact this
  obtain ⟨t1, t2⟩ := tak_tab hp (by omega) hc
  obtain ⟨c1, c2⟩ := cut_lens hl hs (row := (bst q q.length).1) (by omega)
  have hf := cut_flat hp (by omega) hc
  have hf2 : (takL p (bst q q.length).1).flatten.length = (cutB p (bst q q.length).1).flatten.length := flat_len (takL_len (by omega)) t2
  refine ⟨by omega, hc, ⟨t1, cut_tab hq b1 b2, ?_, fun i => ?_⟩, by omega, cut_flat hq b1 b2, ?_⟩
  · rw [takL_len (by omega), c1]
  · rw [t2, c2]
  · unfold und
    rw [← hf, ← hf2]
    rfl
theorem und_nil {q : List (List Int)} : und [] q = [] := rfl

theorem undR_len : ∀ (n : Nat) (p q : List (List Int)), (undR n p q).length = n
  | 0, _, _ => rfl
  | n + 1, p, q => by simp [undR, undR_len n]
theorem und_len (p q : List (List Int)) : (und p q).length = p.flatten.length := undR_len _ _ _
theorem pq_nil {p q : List (List Int)} (h : PQ p q) (h0 : q.length = 0) : und p q = [] := by
  have : p = [] := List.length_eq_zero_iff.1 (by rw [h.2.2.1]; exact h0)
  subst this
  rfl

theorem cut_form {q : List (List Int)} {row : Nat} (hr : row < q.length) (h0 : 0 < (q.getD row []).length) (m : Nat) (hm : m = (q.getD row []).length - 1) :
    (((q.set row ((q.getD row []).take m)).getD row []).length = 0 → (q.set row ((q.getD row []).take m)).take row = cutB q row) ∧ (¬ ((q.set row ((q.getD row []).take m)).getD row []).length = 0 → q.set row ((q.getD row []).take m) = cutB q row) := by
  subst hm
  rw [getD_set_if [] hr, if_pos rfl, List.length_take]
  unfold cutB
  constructor
  · intro h
    rw [if_pos (by omega), List.take_set_of_le (Nat.le_refl _)]
  · intro h
    rw [if_neg (by omega)]

/-! ### The way up, row by row -/

theorem take_more {α : Type} {l : List α} {i : Nat} (d : α) (h : i < l.length) : l.take (i + 1) = l.take i ++ [l.getD i d] := take_succ_getD d h

/-- One row of the way up: A are the rows as they were. -/
theorem up_step {A out rest : List (List Int)} {i : Nat} {x x0 : Int} (hi : i + 1 ≤ A.length) (ho : out = A.take (i + 1) ++ upL (A.drop (i + 1)) x0 ++ rest) (hx : x = upX (A.drop (i + 1)) x0) :
    out.getD i [] = A.getD i [] ∧ out.set i ((A.getD i []).set (lb (A.getD i []) x - 1) x) = A.take i ++ upL (A.drop i) x0 ++ rest ∧ (A.getD i []).getD (lb (A.getD i []) x - 1) 0 = upX (A.drop i) x0 := by
  have ht : (A.take (i + 1)).length = i + 1 := by rw [List.length_take]; omega
  have ho1 : out = A.take i ++ (A.getD i [] :: (upL (A.drop (i + 1)) x0 ++ rest)) := by
    rw [ho, take_more [] (by omega)]
    simp
  have hti : (A.take i).length = i := by rw [List.length_take]; omega
  obtain ⟨u1, u2⟩ := up_drop (t := A) (i := i) (by omega) x0
  refine ⟨?_, ?_, ?_⟩
  · rw [ho1, appD, hti, if_neg (by omega), Nat.sub_self]
    rfl
  · rw [ho1, List.set_append_right _ _ (by omega), hti, Nat.sub_self, u2, ← hx]
    simp
  · rw [u1, ← hx]

theorem up_start {t : List (List Int)} {row : Nat} (hr : row ≤ t.length) (x0 : Int) : t = (t.take row).take row ++ upL ((t.take row).drop row) x0 ++ t.drop row ∧ x0 = upX ((t.take row).drop row) x0 := by
  have e : (t.take row).drop row = [] := List.drop_eq_nil_of_le (by rw [List.length_take]; omega)
  rw [e, List.take_take, Nat.min_self]
  exact ⟨by simp [upL], rfl⟩
theorem cutB_take {t : List (List Int)} {row : Nat} (hr : row < t.length) : (cutB t row).take row = t.take row := by
  unfold cutB
  split
  · rw [List.take_take, Nat.min_self]
  · rw [List.take_set_of_le (Nat.le_refl _)]

end Fer

/- Plain facts: how often each letter is there; the first numbers. No program in sight. -/
set_option maxHeartbeats 1000000
namespace Fer

def topN : List Int → Nat
  | [] => 0
  | x :: u => max x.toNat (topN u)
def cntL (u : List Int) : List Int := (List.range (topN u)).map fun (c : Nat) => ((u.count ((c : Int) + 1) : Nat) : Int)

theorem cntL_len (u : List Int) : (cntL u).length = topN u := by simp [cntL]
theorem cntL_getD {u : List Int} {c : Nat} (h : c < topN u) : (cntL u).getD c 0 = (u.count ((c : Int) + 1) : Int) := by
  simp only [cntL, List.getD_eq_getElem?_getD, List.getElem?_map, List.getElem?_range h]
  rfl
theorem topN_mem {u : List Int} {x : Int} (h : x ∈ u) : x.toNat ≤ topN u := by
  induction u with
  | nil => cases h
  | cons y u ih =>
    simp only [topN]
    rcases List.mem_cons.1 h with rfl | h
    · omega
    · have := ih h; omega
theorem topN_snoc (u : List Int) (x : Int) : topN (u ++ [x]) = max (topN u) x.toNat := by
  induction u with
  | nil => simp [topN]
  | cons y u ih => simp only [List.cons_append, topN, ih]; omega
theorem topN_le {u : List Int} {n : Nat} (h : ∀ x ∈ u, x.toNat ≤ n) : topN u ≤ n := by
  induction u with
  | nil => simp [topN]
  | cons y u ih =>
    simp only [topN]
    have h1 := h y (by simp)
    have h2 := ih fun x hx => h x (List.mem_cons_of_mem _ hx)
    omega

theorem cnt_snoc {u : List Int} {n : Int} (hn : 1 ≤ n) : cntL (u ++ [n]) = (cntL u ++ List.replicate (n.toNat - topN u) 0).set (n.toNat - 1) ((cntL u ++ List.replicate (n.toNat - topN u) 0).getD (n.toNat - 1) 0 + 1) := by
  have hl : (cntL u ++ List.replicate (n.toNat - topN u) (0 : Int)).length = max (topN u) n.toNat := by
    rw [List.length_append, cntL_len, List.length_replicate]; omega
  have hz : ∀ c, topN u ≤ c → u.count ((c : Int) + 1) = 0 := fun c hc => by
    refine List.count_eq_zero.2 fun h => ?_
    have := topN_mem h
    omega
  have hg : ∀ c, (cntL u ++ List.replicate (n.toNat - topN u) (0 : Int)).getD c 0 = if c < max (topN u) n.toNat then (u.count ((c : Int) + 1) : Int) else 0 := fun c => by
    rw [appD, cntL_len]
    split
    · rename_i h
      rw [if_pos (by omega), cntL_getD h]
    · rename_i h
      rw [replicate_getD, hz c (by omega)]
      split <;> rfl
  refine ext_getD 0 (by rw [cntL_len, topN_snoc, List.length_set, hl]) fun c hc => ?_
  rw [cntL_len, topN_snoc] at hc
  rw [cntL_getD (by rw [topN_snoc]; exact hc), getD_set_if 0 (by rw [hl]; omega), hg, hg, if_pos hc, List.count_append]
  rw [if_pos (show n.toNat - 1 < max (topN u) n.toNat by omega)]
  split
  · rename_i e
    rw [show (c : Int) + 1 = n by omega, show ((n.toNat - 1 : Nat) : Int) + 1 = n by omega]
    simp
  · rename_i e
    have : ([n] : List Int).count ((c : Int) + 1) = 0 := List.count_eq_zero.2 fun h => by
      simp only [List.mem_singleton] at h
      omega
    rw [this]
    rfl

/-- Are there all of 1 to n, each once? -/
def allOne (l : List Int) : Prop := ∀ i, i < l.length → l.getD i 0 = 1
theorem std_iff {u : List Int} (hl : u.length ≤ 40) (hu : ∀ x ∈ u, 1 ≤ x) : allOne (cntL u) ↔ permE u = 0 := by
  constructor
  · intro h
    have hc : ∀ c, c < topN u → u.count ((c : Int) + 1) = 1 := fun c hc => by
      have := h c (by rw [cntL_len]; exact hc)
      rw [cntL_getD hc] at this
      omega
    have hnd : u.Nodup := by
      rw [List.nodup_iff_count]
      intro x
      by_cases hx : x ∈ u
      · have h1 := hu x hx
        have h2 := topN_mem hx
        have := hc (x.toNat - 1) (by omega)
        rw [show ((x.toNat - 1 : Nat) : Int) + 1 = x by omega] at this
        omega
      · rw [List.count_eq_zero.2 hx]; omega
    have ht : topN u ≤ u.length := by
      have := nodup_len (iota (topN u)) u (iota_nodup _) fun x hx => by
        have hx := mem_iota.1 hx
        have := hc (x.toNat - 1) (by omega)
        rw [show ((x.toNat - 1 : Nat) : Int) + 1 = x by omega] at this
        exact List.count_pos_iff.1 (by omega)
      rwa [iota_length] at this
    unfold permE
    rw [if_neg (by omega), if_pos (isPerm_of hnd fun x hx => ⟨hu x hx, by have := topN_mem hx; omega⟩)]
  · intro h i hi
    obtain ⟨_, h1, h2, h3⟩ := permE_zero h
    rw [cntL_len] at hi
    rw [cntL_getD hi]
    have hlt : topN u ≤ u.length := topN_le fun x hx => by have := h3 x hx; omega
    have hm := h1 i (by omega)
    have := List.nodup_iff_count.1 h2 ((i : Int) + 1)
    have := List.count_pos_iff.2 hm
    omega

end Fer

/- Plain facts: how many boxes the turned rows have; when they are a tableau; box by box. No program in sight. -/
set_option maxHeartbeats 1000000
namespace Fer

def sm : Nat → (Nat → Nat) → Nat
  | 0, _ => 0
  | n + 1, f => sm n f + f n
theorem sm_congr {n : Nat} {f g : Nat → Nat} (h : ∀ i, i < n → f i = g i) : sm n f = sm n g := by
  induction n with
  | zero => rfl
  | succ n ih => simp only [sm]; rw [ih fun i hi => h i (by omega), h n (by omega)]
theorem sm_add (n : Nat) (f g : Nat → Nat) : sm n (fun i => f i + g i) = sm n f + sm n g := by
  induction n with
  | zero => rfl
  | succ n ih => simp only [sm, ih]; omega
theorem sm_zero (n : Nat) : sm n (fun _ => 0) = 0 := by
  induction n with
  | zero => rfl
  | succ n ih => simp only [sm, ih]
theorem sm_swap (n m : Nat) (f : Nat → Nat → Nat) : sm n (fun i => sm m fun j => f i j) = sm m fun j => sm n fun i => f i j := by
  induction n with
  | zero => simp only [sm]; exact (sm_zero m).symm
  | succ n ih => simp only [sm, ih]; rw [← sm_add]
theorem sm_ind {m k : Nat} (h : k ≤ m) : sm m (fun j => if j < k then 1 else 0) = k := by
  induction m generalizing k with
  | zero => simp only [sm]; omega
  | succ m ih =>
    simp only [sm]
    by_cases e : k = m + 1
    · rw [if_pos (by omega), sm_congr (g := fun j => if j < m then 1 else 0) fun i hi => by rw [if_pos (by omega), if_pos hi], ih (Nat.le_refl m)]; omega
    · rw [ih (by omega), if_neg (by omega), Nat.add_zero]
theorem flat_sm (t : List (List Int)) : t.flatten.length = sm t.length fun i => (t.getD i []).length := by
  have key : ∀ n, n ≤ t.length → (t.take n).flatten.length = sm n fun i => (t.getD i []).length := by
    intro n
    induction n with
    | zero => intro _; rfl
    | succ n ih => intro hn; rw [flatten_take_succ (by omega), ih (by omega)]; rfl
  have := key t.length (Nat.le_refl _)
  rwa [List.take_length] at this

theorem tr_flat {out cl : List (List Int)} (h : Tr out cl) : out.flatten.length = cl.flatten.length := by
  have h0 := h
  obtain ⟨hs, hl, hr⟩ := h
  rw [flat_sm, flat_sm]
  have hc : ∀ i, i < out.length → (out.getD i []).length ≤ cl.length := fun i hi => by
    by_cases e : (out.getD i []).length ≤ cl.length
    · exact e
    · have := ((hr i hi).1 cl.length).1 (by omega); omega
  have hr2 : ∀ j, j < cl.length → (cl.getD j []).length ≤ out.length := fun j hj => by rw [hl]; exact hs.2 0 j (Nat.zero_le _) hj
  rw [sm_congr (g := fun i => sm cl.length fun j => if j < (out.getD i []).length then 1 else 0) fun i hi => (sm_ind (hc i hi)).symm]
  rw [sm_congr (n := cl.length) (g := fun j => sm out.length fun i => if i < (cl.getD j []).length then 1 else 0) fun j hj => (sm_ind (hr2 j hj)).symm]
  rw [sm_swap]
  refine sm_congr fun j hj => sm_congr fun i hi => ?_
  have := (hr i hi).1 j
  by_cases e : j < (out.getD i []).length
  · rw [if_pos e, if_pos (this.1 e).2]
  · rw [if_neg e, if_neg fun h2 => e (this.2 ⟨hj, h2⟩)]

/-- No letter stands twice in a row. -/
def rowsLt (t : List (List Int)) : Prop := ∀ i, i < t.length → ∀ j, 0 < j → j < (t.getD i []).length → (t.getD i []).getD (j - 1) 0 ≠ (t.getD i []).getD j 0

theorem across_tab {t : List (List Int)} (ht : tabRows t) : tabRows (across t) ↔ rowsLt t := by
  have hT := tr_tab ht
  have hs := hT.1
  have cell : ∀ j i, j < (across t).length → i < ((across t).getD j []).length → ((across t).getD j []).getD i 0 = (t.getD i []).getD j 0 ∧ i < t.length ∧ j < (t.getD i []).length := fun j i hj hi => by
    obtain ⟨h1, h2⟩ := tr_in hT hj hi
    exact ⟨(tr_cell hT h1 h2).symm, h1, h2⟩
  constructor
  · intro h i hi j j0 hj
    obtain ⟨h1, h2⟩ := (tr_row hT hi j).1 hj
    have hlt := ((h j h1).2.2 i h2).2.2 j0
    have hj1 : i < ((across t).getD (j - 1) []).length := ((tr_row hT hi (j - 1)).1 (by omega)).2
    rw [(cell j i h1 h2).1, (cell (j - 1) i (by omega) hj1).1] at hlt
    omega
  · intro h j hj
    refine ⟨hs.1 j hj, fun j0 => hs.2 (j - 1) j (by omega) hj, fun i hi => ?_⟩
    obtain ⟨c1, c2, c3⟩ := cell j i hj hi
    have hti := ht i c2
    obtain ⟨b1, b2, b3⟩ := hti.2.2 j c3
    rw [c1]
    refine ⟨b1, fun i0 => ?_, fun j0 => ?_⟩
    · rw [(cell j (i - 1) hj (by omega)).1]
      have := b3 i0
      omega
    · have hi1 : i < ((across t).getD (j - 1) []).length := Nat.lt_of_lt_of_le hi (hs.2 (j - 1) j (by omega) hj)
      rw [(cell (j - 1) i (by omega) hi1).1]
      have h1 := b2 j0
      have h2 := h i c2 j j0 c3
      omega
theorem across_E {t : List (List Int)} (ht : tabRows t) (hf : t.flatten.length ≤ 40) : (tabE (across t) = 0 ↔ rowsLt t) := by
  have hl := tr_flat (tr_tab ht)
  constructor
  · intro h
    exact (across_tab ht).1 (tabE_zero h).2
  · intro h
    exact tabE_ok (by omega) ((across_tab ht).2 h)

/-! ### Box by box -/

theorem acol_snoc {A : List (List Int)} {r : List Int} {c : Nat} (h : ∀ i, i < A.length → c < (A.getD i []).length) : acol (A ++ [r]) c = if c < r.length then A.map (fun r => r.getD c 0) ++ [r.getD c 0] else A.map fun r => r.getD c 0 := by
  have hall : ∀ x ∈ A, decide (c < x.length) = true := fun x hx => by
    obtain ⟨i, hi, e⟩ := List.mem_iff_getElem.1 hx
    have := h i hi
    rw [List.getD_eq_getElem?_getD, List.getElem?_eq_getElem hi] at this
    rw [← e]
    exact decide_eq_true this
  unfold acol
  rw [List.takeWhile_append_of_pos hall]
  by_cases e : c < r.length
  · rw [if_pos e]; simp [e]
  · rw [if_neg e]; simp [e]
theorem acol_short {A : List (List Int)} {r : List Int} {c : Nat} (h : ¬ c < r.length) : acol (A ++ [r]) c = acol A c := by
  unfold acol
  congr 1
  induction A with
  | nil => simp [h]
  | cons x A ih =>
    simp only [List.cons_append, List.takeWhile_cons]
    split
    · rw [ih]
    · rfl

/-- The columns, as far as the rows go. -/
def turnTo (t : List (List Int)) (i j : Nat) : List (List Int) := across (t.take i ++ [(t.getD i []).take j])

theorem turnTo_len {t : List (List Int)} {i j : Nat} (hi : i < t.length) (hj : j ≤ (t.getD i []).length) : (turnTo t i j).length = if i = 0 then j else (t.getD 0 []).length := by
  unfold turnTo
  rw [across_length]
  cases i with
  | zero =>
    have : (t.take 0 ++ [(t.getD 0 []).take j]).getD 0 [] = (t.getD 0 []).take j := by simp
    rw [this, List.length_take, if_pos rfl]; omega
  | succ i =>
    rw [appD, if_pos (by rw [List.length_take]; omega), take_getD (by omega), if_neg (by omega)]
theorem turnTo_getD {t : List (List Int)} {i j c : Nat} (hc : c < (turnTo t i j).length) : (turnTo t i j).getD c [] = acol (t.take i ++ [(t.getD i []).take j]) c := by
  unfold turnTo at hc ⊢
  rw [across_length] at hc
  have : across (t.take i ++ [(t.getD i []).take j]) = (List.range ((t.take i ++ [(t.getD i []).take j]).getD 0 []).length).map fun c => acol (t.take i ++ [(t.getD i []).take j]) c := rfl
  rw [this, List.getD_eq_getElem?_getD, List.getElem?_map, List.getElem?_range hc]
  rfl
theorem turn_row {t : List (List Int)} {i : Nat} (hi : i < t.length) (hs : Shp t) : turnTo t i (t.getD i []).length = (if i + 1 < t.length then turnTo t (i + 1) 0 else across t) := by
  have e : t.take i ++ [(t.getD i []).take (t.getD i []).length] = t.take (i + 1) := by rw [List.take_length, take_succ_getD [] hi]
  unfold turnTo
  rw [e]
  split
  · have h1 : across (t.take (i + 1) ++ [(t.getD (i + 1) []).take 0]) = (List.range ((t.take (i + 1) ++ [(t.getD (i + 1) []).take 0]).getD 0 []).length).map fun c => acol (t.take (i + 1) ++ [(t.getD (i + 1) []).take 0]) c := rfl
    have h2 : across (t.take (i + 1)) = (List.range ((t.take (i + 1)).getD 0 []).length).map fun c => acol (t.take (i + 1)) c := rfl
    rw [h1, h2, appD, if_pos (by rw [List.length_take]; omega)]
    refine List.map_congr_left fun c _ => (acol_short (by simp)).symm
  · rw [List.take_of_length_le (by omega)]
theorem turn_step {t : List (List Int)} {i j : Nat} (hi : i < t.length) (hj : j < (t.getD i []).length) (hs : Shp t) :
    turnTo t i (j + 1) = (if i = 0 then turnTo t i j ++ [[]] else turnTo t i j).set j ((if i = 0 then turnTo t i j ++ [[]] else turnTo t i j).getD j [] ++ [(t.getD i []).getD j 0]) ∧ (i ≠ 0 → j < (turnTo t i j).length) := by
  have l1 := turnTo_len (j := j + 1) hi (by omega)
  have l2 := turnTo_len (j := j) hi (by omega)
  have hjl : i ≠ 0 → j < (turnTo t i j).length := fun h => by
    rw [l2, if_neg h]
    have := hs.2 0 i (Nat.zero_le _) hi
    omega
  have hl3 : (if i = 0 then turnTo t i j ++ [([] : List Int)] else turnTo t i j).length = (turnTo t i (j + 1)).length := by
    split
    · rename_i h
      rw [List.length_append, l1, l2, if_pos h, if_pos h]; rfl
    · rename_i h
      rw [l1, l2, if_neg h, if_neg h]
  have hj3 : j < (turnTo t i (j + 1)).length := by
    rw [l1]
    split
    · omega
    · rename_i h
      have := hjl h
      rw [l2, if_neg h] at this; exact this
  have hall : ∀ c, c ≤ j → ∀ a, a < (t.take i).length → c < ((t.take i).getD a []).length := fun c hc a ha => by
    rw [List.length_take] at ha
    rw [take_getD (by omega)]
    have := hs.2 a i (by omega) hi
    omega
  have hlt : ∀ k, k ≤ (t.getD i []).length → ((t.getD i []).take k).length = k := fun k hk => by rw [List.length_take]; omega
  have hbase : ∀ c, c < (turnTo t i (j + 1)).length → (if i = 0 then turnTo t i j ++ [([] : List Int)] else turnTo t i j).getD c [] = acol (t.take i ++ [(t.getD i []).take j]) c := fun c hc => by
    split
    · rename_i h
      rw [appD]
      split
      · rename_i h2
        exact turnTo_getD h2
      · rename_i h2
        rw [l2, if_pos h] at h2
        rw [l1, if_pos h] at hc
        have : c = j := by omega
        subst this
        rw [acol_short (by rw [hlt c (by omega)]; omega), l2, if_pos h, Nat.sub_self]
        subst h
        rfl
    · rename_i h
      exact turnTo_getD (by rw [l2, if_neg h]; rw [l1, if_neg h] at hc; exact hc)
  refine ⟨ext_getD [] (by rw [List.length_set, hl3]) fun c hc => ?_, hjl⟩
  rw [getD_set_if [] (by rw [hl3]; exact hj3), turnTo_getD hc, hbase j hj3, hbase c hc]
  by_cases e : c = j
  · subst e
    rw [if_pos rfl, acol_snoc (hall c (Nat.le_refl _)), acol_snoc (hall c (Nat.le_refl _)), hlt _ (by omega), hlt _ (by omega), if_pos (by omega), if_neg (by omega), take_getD (by omega)]
  · rw [if_neg e]
    by_cases h2 : c < j
    · rw [acol_snoc (hall c (by omega)), acol_snoc (hall c (by omega)), hlt _ (by omega), hlt _ (by omega), if_pos (by omega), if_pos h2, take_getD (by omega), take_getD h2]
    · rw [acol_short (by rw [hlt _ (by omega)]; omega), acol_short (by rw [hlt _ (by omega)]; omega)]

end Fer

/- Plain facts: the boxes of a tableau in order; each box by how many come ahead of it. No program in sight. -/
set_option maxHeartbeats 1000000
namespace Fer

abbrev Bx := Int × Int × Int
def cellB (t : List (List Int)) (i j : Nat) : Bx := ((i : Int), (j : Int), (t.getD i []).getD j 0)
def rowB (t : List (List Int)) (i k : Nat) : List Bx := (List.range k).map fun j => cellB t i j
def bxTo (t : List (List Int)) (i : Nat) : List Bx := (List.range i).flatMap fun a => rowB t a (t.getD a []).length
def bxs (t : List (List Int)) : List Bx := bxTo t t.length
def ltB (x y : Bx) : Bool := decide (x.2.2 < y.2.2 ∨ x.2.2 = y.2.2 ∧ x.2.1 < y.2.1)
def numN (t : List (List Int)) (i j : Nat) : Int := 1 + (((bxs t).countP fun x => ltB x (cellB t i j) : Nat) : Int)
def numT (t : List (List Int)) : List (List Int) := (List.range t.length).map fun (i : Nat) => (List.range (t.getD i []).length).map fun (j : Nat) => numN t i j

theorem rowB_succ (t : List (List Int)) (i k : Nat) : rowB t i (k + 1) = rowB t i k ++ [cellB t i k] := by
  simp [rowB, List.range_succ]
theorem bxTo_succ (t : List (List Int)) (i : Nat) : bxTo t (i + 1) = bxTo t i ++ rowB t i (t.getD i []).length := by
  simp [bxTo, List.range_succ, List.flatMap_append]
theorem mem_bxs {t : List (List Int)} {x : Bx} : x ∈ bxs t ↔ ∃ i j, i < t.length ∧ j < (t.getD i []).length ∧ x = cellB t i j := by
  simp only [bxs, bxTo, rowB, List.mem_flatMap, List.mem_range, List.mem_map]
  constructor
  · rintro ⟨i, hi, j, hj, rfl⟩; exact ⟨i, j, hi, hj, rfl⟩
  · rintro ⟨i, j, hi, hj, rfl⟩; exact ⟨i, hi, j, hj, rfl⟩
theorem cellB_inj {t : List (List Int)} {i j a b : Nat} (h : cellB t i j = cellB t a b) : i = a ∧ j = b := by
  simp only [cellB, Prod.mk.injEq] at h
  omega
theorem bxs_nodup (t : List (List Int)) : (bxs t).Nodup := by
  unfold bxs bxTo List.Nodup
  rw [List.pairwise_flatMap]
  refine ⟨fun i _ => ?_, ?_⟩
  · unfold rowB
    rw [List.pairwise_map]
    exact List.Pairwise.imp (fun h e => by have := (cellB_inj e).2; omega) List.pairwise_lt_range
  · refine List.Pairwise.imp (fun h x hx y hy e => ?_) List.pairwise_lt_range
    simp only [rowB, List.mem_map, List.mem_range] at hx hy
    obtain ⟨j, _, rfl⟩ := hx
    obtain ⟨k, _, rfl⟩ := hy
    have := (cellB_inj e).1
    omega
theorem bxs_len (t : List (List Int)) : (bxs t).length = t.flatten.length := by
  have key : ∀ n, n ≤ t.length → (bxTo t n).length = (t.take n).flatten.length := by
    intro n
    induction n with
    | zero => intro _; rfl
    | succ n ih =>
      intro hn
      rw [bxTo_succ, List.length_append, flatten_take_succ (by omega), ih (by omega)]
      simp [rowB]
  have := key t.length (Nat.le_refl _)
  rwa [List.take_length] at this

/-- Two boxes that are neither ahead of one another are one. -/
theorem bx_tie {t : List (List Int)} (ht : tabRows t) {x y : Bx} (hx : x ∈ bxs t) (hy : y ∈ bxs t) (h1 : ltB x y = false) (h2 : ltB y x = false) : x = y := by
  obtain ⟨i, j, hi, hj, rfl⟩ := mem_bxs.1 hx
  obtain ⟨a, b, ha, hb, rfl⟩ := mem_bxs.1 hy
  have h1 : ¬ ((t.getD i []).getD j 0 < (t.getD a []).getD b 0 ∨ (t.getD i []).getD j 0 = (t.getD a []).getD b 0 ∧ (j : Int) < (b : Int)) := of_decide_eq_false h1
  have h2 : ¬ ((t.getD a []).getD b 0 < (t.getD i []).getD j 0 ∨ (t.getD a []).getD b 0 = (t.getD i []).getD j 0 ∧ (b : Int) < (j : Int)) := of_decide_eq_false h2
  have e1 : j = b := by omega
  subst e1
  have e2 : (t.getD i []).getD j 0 = (t.getD a []).getD j 0 := by omega
  have col : ∀ d u, u + d < t.length → j < (t.getD (u + d) []).length → 0 < d → (t.getD u []).getD j 0 < (t.getD (u + d) []).getD j 0 := by
    intro d
    induction d with
    | zero => intro u _ _ h; omega
    | succ d ih =>
      intro u hu hj2 _
      have hT := ht (u + (d + 1)) hu
      have h3 := (hT.2.2 j hj2).2.2 (by omega)
      have hle := hT.2.1 (by omega)
      rw [show u + (d + 1) - 1 = u + d by omega] at h3 hle
      by_cases e : d = 0
      · subst e; exact h3
      · have := ih u (by omega) (by omega) (by omega)
        omega
  have e3 : i = a := by
    rcases Nat.lt_trichotomy i a with h | h | h
    · have := col (a - i) i (by omega) (by rw [show i + (a - i) = a by omega]; exact hb) (by omega)
      rw [show i + (a - i) = a by omega] at this
      omega
    · exact h
    · have := col (i - a) a (by omega) (by rw [show a + (i - a) = i by omega]; exact hj) (by omega)
      rw [show a + (i - a) = i by omega] at this
      omega
  subst e3
  rfl

theorem countP_cut {α : Type} {f : α → Bool} {l : List α} {p : Nat} (d : α) (hp : p ≤ l.length) (h1 : ∀ q, q < p → f (l.getD q d) = true) (h2 : ∀ q, p ≤ q → q < l.length → f (l.getD q d) = false) : l.countP f = p := by
  rw [← List.take_append_drop p l, List.countP_append]
  have e1 : (l.take p).countP f = p := by
    have hl : (l.take p).length = p := by rw [List.length_take]; omega
    have : (l.take p).countP f = (l.take p).length := by
      rw [List.countP_eq_length]
      intro x hx
      obtain ⟨q, hq, rfl⟩ := mem_getD d hx
      rw [hl] at hq
      rw [take_getD hq]
      exact h1 q hq
    rw [this, hl]
  have e2 : (l.drop p).countP f = 0 := by
    rw [List.countP_eq_zero]
    intro x hx
    obtain ⟨q, hq, rfl⟩ := mem_getD d hx
    rw [List.length_drop] at hq
    rw [dropD, h2 (p + q) (by omega) (by omega)]
    exact Bool.false_ne_true
  rw [e1, e2, Nat.add_zero]

/-- In order, a box's place is how many come ahead of it. -/
theorem place_num {t : List (List Int)} (ht : tabRows t) {l : List Bx} (hp : l.Perm (bxs t)) (hs : ∀ i j, i < j → j < l.length → ltB (l.getD j (0, 0, 0)) (l.getD i (0, 0, 0)) = false) {p : Nat} (hpl : p < l.length) {i j : Nat} (he : l.getD p (0, 0, 0) = cellB t i j) : numN t i j = (p : Int) + 1 := by
  have hnd : l.Nodup := (hp.nodup_iff).2 (bxs_nodup t)
  have hm : ∀ q, q < l.length → l.getD q (0, 0, 0) ∈ bxs t := fun q hq => (hp.mem_iff).1 (getD_mem _ hq)
  unfold numN
  rw [← he, ← hp.countP_eq, countP_cut (p := p) (0, 0, 0) (by omega) (fun q hq => ?_) (fun q hq hq2 => ?_)]
  · omega
  · have h1 := hs q p hq hpl
    by_cases h2 : ltB (l.getD q (0, 0, 0)) (l.getD p (0, 0, 0)) = true
    · exact h2
    · exfalso
      have h3 := bx_tie ht (hm q (by omega)) (hm p hpl) (by simpa using h2) h1
      have h4 : l.getD q (0, 0, 0) ≠ l.getD p (0, 0, 0) := by
        rw [getD_lt _ (by omega), getD_lt _ hpl]
        exact fun e => absurd ((List.getElem_inj hnd).1 e) (by omega)
      exact h4 h3
  · by_cases e : q = p
    · subst e
      simp [ltB]
    · exact hs p q (by omega) hq2

theorem numT_row {t : List (List Int)} {i : Nat} (hi : i < t.length) : (numT t).getD i [] = (List.range (t.getD i []).length).map fun (j : Nat) => numN t i j := by
  unfold numT
  rw [List.getD_eq_getElem?_getD, List.getElem?_map, List.getElem?_range hi]
  rfl
theorem numT_cell {t : List (List Int)} {i j : Nat} (hi : i < t.length) (hj : j < (t.getD i []).length) : ((numT t).getD i []).getD j 0 = numN t i j := by
  rw [numT_row hi, List.getD_eq_getElem?_getD, List.getElem?_map, List.getElem?_range hj]
  rfl
theorem numT_len (t : List (List Int)) : (numT t).length = t.length := by simp [numT]
theorem numT_rowlen {t : List (List Int)} {i : Nat} (hi : i < t.length) : ((numT t).getD i []).length = (t.getD i []).length := by
  rw [numT_row hi]; simp

/-- Rows of the same lengths and the same cells are the same. -/
theorem table_ext {a b : List (List Int)} (hl : a.length = b.length) (hr : ∀ i, i < a.length → (a.getD i []).length = (b.getD i []).length) (hc : ∀ i j, i < a.length → j < (a.getD i []).length → (a.getD i []).getD j 0 = (b.getD i []).getD j 0) : a = b :=
  ext_getD [] hl fun i hi => ext_getD 0 (hr i hi) fun j hj => hc i j hi hj

/-- A box that is written. -/
theorem set_cell {out : List (List Int)} {r c : Nat} {v : Int} (hr : r < out.length) (hc : c < (out.getD r []).length) (i j : Nat) :
    ((out.set r ((out.getD r []).set c v)).getD i []).getD j 0 = if i = r ∧ j = c then v else (out.getD i []).getD j 0 := by
  rw [getD_set_if [] hr]
  by_cases e : i = r
  · subst e
    rw [if_pos rfl, getD_set_if 0 hc]
    by_cases e2 : j = c
    · rw [if_pos e2, if_pos ⟨rfl, e2⟩]
    · rw [if_neg e2, if_neg fun h => e2 h.2]
  · rw [if_neg e, if_neg fun h => e h.1]
theorem set_cell_len {out : List (List Int)} {r c : Nat} {v : Int} (hr : r < out.length) (i : Nat) : ((out.set r ((out.getD r []).set c v)).getD i []).length = (out.getD i []).length := by
  rw [getD_set_if [] hr]
  split
  · rename_i e; subst e; rw [List.length_set]
  · rfl

/-- All boxes written, each with its place: the numbered tableau. -/
theorem std_done {t out : List (List Int)} (ht : tabRows t) {l : List Bx} (hp : l.Perm (bxs t)) (hs : ∀ i j, i < j → j < l.length → ltB (l.getD j (0, 0, 0)) (l.getD i (0, 0, 0)) = false) (hl : out.length = t.length) (hr : ∀ i, (out.getD i []).length = (t.getD i []).length)
    (hw : ∀ q, q < l.length → (out.getD (l.getD q (0, 0, 0)).1.toNat []).getD (l.getD q (0, 0, 0)).2.1.toNat 0 = (q : Int) + 1) : out = numT t := by
  refine table_ext (by rw [hl, numT_len]) (fun i hi => by rw [hr, numT_rowlen (by omega)]) fun i j hi hj => ?_
  rw [hr] at hj
  have hm : cellB t i j ∈ l := (hp.mem_iff).2 (mem_bxs.2 ⟨i, j, by omega, hj, rfl⟩)
  obtain ⟨q, hq, he⟩ := mem_getD (0, 0, 0) hm
  have h1 := hw q hq
  rw [he] at h1
  simp only [cellB, Int.toNat_natCast] at h1
  rw [h1, numT_cell (by omega) hj, place_num ht hp hs hq he]

/-- Up to the greatest letter, how often each is there, so far. -/
def cntN (m : Nat) (u : List Int) : List Int := (List.range m).map fun (c : Nat) => ((u.count ((c : Int) + 1) : Nat) : Int)
theorem cntN_snoc {m : Nat} {u : List Int} {n : Int} (h1 : 1 ≤ n) (h2 : n.toNat ≤ m) : cntN m (u ++ [n]) = (cntN m u).set (n - 1).toNat ((cntN m u).getD (n - 1).toNat 0 + 1) := by
  have hg : ∀ (v : List Int) c, c < m → (cntN m v).getD c 0 = (v.count ((c : Int) + 1) : Int) := fun v c hc => by
    simp only [cntN, List.getD_eq_getElem?_getD, List.getElem?_map, List.getElem?_range hc]
    rfl
  have hlen : ∀ v : List Int, (cntN m v).length = m := fun v => by simp [cntN]
  refine ext_getD 0 (by rw [hlen, List.length_set, hlen]) fun c hc => ?_
  rw [hlen] at hc
  rw [hg _ c hc, getD_set_if 0 (by rw [hlen]; omega), hg _ _ (by omega), hg _ c hc, List.count_append]
  split
  · rename_i e
    rw [show (c : Int) + 1 = n by omega, show (((n - 1).toNat : Nat) : Int) + 1 = n by omega]
    simp
  · rename_i e
    have : ([n] : List Int).count ((c : Int) + 1) = 0 := List.count_eq_zero.2 fun h => by
      simp only [List.mem_singleton] at h
      omega
    rw [this]
    rfl
theorem cntN_zero (m : Nat) : cntN m [] = List.replicate m 0 := by
  simp only [cntN, List.count_nil]
  rw [List.map_const']
  simp

end Fer

/- Plain facts: a box's place counted box by box. No program in sight. -/
set_option maxHeartbeats 1000000
namespace Fer

def numAt (t : List (List Int)) (i j a b : Nat) : Int := 1 + (((bxTo t a ++ rowB t a b).countP fun x => ltB x (cellB t i j) : Nat) : Int)
theorem numAt_zero (t : List (List Int)) (i j : Nat) : numAt t i j 0 0 = 1 := by simp [numAt, bxTo, rowB]
theorem numAt_succ (t : List (List Int)) (i j a b : Nat) : numAt t i j a (b + 1) = numAt t i j a b + if ltB (cellB t a b) (cellB t i j) then 1 else 0 := by
  unfold numAt
  rw [rowB_succ, ← List.append_assoc, List.countP_append, List.countP_singleton]
  split <;> omega
theorem numAt_row (t : List (List Int)) (i j a : Nat) : numAt t i j a (t.getD a []).length = numAt t i j (a + 1) 0 := by
  unfold numAt
  rw [bxTo_succ]
  simp [rowB]
theorem numAt_end (t : List (List Int)) (i j : Nat) : numAt t i j t.length 0 = numN t i j := by
  unfold numAt numN bxs
  simp [rowB]
theorem bxTo_len {t : List (List Int)} : ∀ {n : Nat}, n ≤ t.length → (bxTo t n).length = (t.take n).flatten.length := by
  intro n
  induction n with
  | zero => intro _; rfl
  | succ n ih =>
    intro hn
    rw [bxTo_succ, List.length_append, flatten_take_succ (by omega), ih (by omega)]
    simp [rowB]
theorem numAt_le {t : List (List Int)} {i j a b : Nat} (h : a < t.length ∧ b ≤ (t.getD a []).length ∨ a ≤ t.length ∧ b = 0) : 1 ≤ numAt t i j a b ∧ numAt t i j a b ≤ 1 + t.flatten.length := by
  have h1 := List.countP_le_length (p := fun x => ltB x (cellB t i j)) (l := bxTo t a ++ rowB t a b)
  have h2 : (bxTo t a ++ rowB t a b).length ≤ t.flatten.length := by
    rw [List.length_append, bxTo_len (by omega)]
    have h3 : (rowB t a b).length = b := by simp [rowB]
    rw [h3]
    rcases h with ⟨ha, hb⟩ | ⟨ha, rfl⟩
    · have h4 := flatten_take_succ ha
      have h5 := flatten_take_le t (a + 1)
      omega
    · have := flatten_take_le t a
      omega
  unfold numAt
  omega
theorem ltB_cell (t : List (List Int)) (a b i j : Nat) : (ltB (cellB t a b) (cellB t i j) = true) ↔ ((t.getD a []).getD b 0 < (t.getD i []).getD j 0 ∨ (t.getD a []).getD b 0 = (t.getD i []).getD j 0 ∧ (b : Int) < (j : Int)) := decide_eq_true_iff

/-- The boxes written, row by row, up to one. -/
def numOk (t out : List (List Int)) (i j : Nat) : Prop := out.length = t.length ∧ (∀ a, (out.getD a []).length = (t.getD a []).length) ∧ ∀ a b, (a < i ∨ a = i ∧ b < j) → a < t.length → b < (t.getD a []).length → (out.getD a []).getD b 0 = numN t a b
theorem numOk_zero (t : List (List Int)) : numOk t t 0 0 := ⟨rfl, fun _ => rfl, fun a b h => by omega⟩
theorem numOk_row {t out : List (List Int)} {i : Nat} (h : numOk t out i (t.getD i []).length) : numOk t out (i + 1) 0 := by
  refine ⟨h.1, h.2.1, fun a b hab ha hb => h.2.2 a b ?_ ha hb⟩
  by_cases e : a = i
  · subst e; exact .inr ⟨rfl, hb⟩
  · exact .inl (by omega)
theorem numOk_set {t out : List (List Int)} {i j : Nat} (h : numOk t out i j) (hi : i < t.length) (hj : j < (t.getD i []).length) : numOk t (out.set i ((out.getD i []).set j (numN t i j))) i (j + 1) := by
  obtain ⟨h1, h2, h3⟩ := h
  refine ⟨by rw [List.length_set, h1], fun a => by rw [set_cell_len (by omega), h2], fun a b hab ha hb => ?_⟩
  rw [set_cell (by omega) (by rw [h2]; exact hj)]
  by_cases e : a = i ∧ b = j
  · rw [if_pos e, e.1, e.2]
  · rw [if_neg e]
    exact h3 a b (by omega) ha hb
theorem numOk_end {t out : List (List Int)} (h : numOk t out t.length 0) : out = numT t := by
  obtain ⟨h1, h2, h3⟩ := h
  refine table_ext (by rw [h1, numT_len]) (fun i hi => by rw [h2, numT_rowlen (by omega)]) fun i j hi hj => ?_
  rw [h2] at hj
  rw [h3 i j (.inl (by omega)) (by omega) hj, numT_cell (by omega) hj]

/-- The first k boxes of a list written, each with its place. -/
def stdOk (t : List (List Int)) (l : List Bx) (out : List (List Int)) (k : Nat) : Prop := out.length = t.length ∧ (∀ a, (out.getD a []).length = (t.getD a []).length) ∧ ∀ q, q < k → (out.getD (l.getD q (0, 0, 0)).1.toNat []).getD (l.getD q (0, 0, 0)).2.1.toNat 0 = (q : Int) + 1
theorem stdOk_zero (t : List (List Int)) (l : List Bx) : stdOk t l t 0 := ⟨rfl, fun _ => rfl, fun q h => by omega⟩
theorem bx_in {t : List (List Int)} {l : List Bx} (hp : l.Perm (bxs t)) {k : Nat} (hk : k < l.length) : ∃ r c, r < t.length ∧ c < (t.getD r []).length ∧ l.getD k (0, 0, 0) = cellB t r c := by
  obtain ⟨i, j, h1, h2, h3⟩ := mem_bxs.1 ((hp.mem_iff).1 (getD_mem (0, 0, 0) hk))
  exact ⟨i, j, h1, h2, h3⟩
theorem stdOk_step {t : List (List Int)} {l : List Bx} (hp : l.Perm (bxs t)) {out : List (List Int)} {k r c : Nat} (hk : k < l.length) (h : stdOk t l out k) (hr : r < t.length) (hc : c < (t.getD r []).length) (he : l.getD k (0, 0, 0) = cellB t r c) : stdOk t l (out.set r ((out.getD r []).set c ((k : Int) + 1))) (k + 1) := by
  obtain ⟨h1, h2, h3⟩ := h
  have hnd : l.Nodup := (hp.nodup_iff).2 (bxs_nodup t)
  refine ⟨by rw [List.length_set, h1], fun a => by rw [set_cell_len (by omega), h2], fun q hq => ?_⟩
  rw [set_cell (by omega) (by rw [h2]; exact hc)]
  by_cases e : q = k
  · subst e
    rw [he, if_pos ⟨by simp [cellB], by simp [cellB]⟩]
  · obtain ⟨a, b, ha, hb, hab⟩ := bx_in hp (show q < l.length by omega)
    rw [if_neg, h3 q (by omega)]
    rintro ⟨e1, e2⟩
    rw [hab] at e1 e2
    simp only [cellB, Int.toNat_natCast] at e1 e2
    subst e1 e2
    rw [← he] at hab
    have h4 : l.getD q (0, 0, 0) ≠ l.getD k (0, 0, 0) := by
      rw [getD_lt _ (by omega), getD_lt _ hk]
      exact fun e3 => absurd ((List.getElem_inj hnd).1 e3) (by omega)
    exact h4 hab
theorem stdOk_end {t out : List (List Int)} (ht : tabRows t) {l : List Bx} (hp : l.Perm (bxs t)) (hs : ∀ i j, i < j → j < l.length → ltB (l.getD j (0, 0, 0)) (l.getD i (0, 0, 0)) = false) (h : stdOk t l out l.length) : out = numT t := std_done ht hp hs h.1 h.2.1 h.2.2

end Fer
