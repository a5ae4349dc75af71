/- Machine and plain facts, over any program (several texts in one). No condition. -/
import Derived.Test.YtcgljjdfgicjpaaDoorFerA
import Derived.Lib.ItoaNum
import Derived.Lib.Strings
/- Plain facts on lists of numbers. No program in sight. -/
namespace Fer

theorem getD_lt {α : Type} {l : List α} {i : Nat} (d : α) (h : i < l.length) : l.getD i d = l[i] := by
  simp [List.getD_eq_getElem?_getD, h]

theorem take_succ_getD {α : Type} {l : List α} {i : Nat} (d : α) (h : i < l.length) : l.take (i + 1) = l.take i ++ [l.getD i d] := by
  rw [getD_lt d h, List.take_succ_eq_append_getElem h]

theorem foldl_take_succ {α β : Type} (f : β → α → β) (a : β) {l : List α} {i : Nat} (d : α) (h : i < l.length) :
    (l.take (i + 1)).foldl f a = f ((l.take i).foldl f a) (l.getD i d) := by
  rw [take_succ_getD d h, List.foldl_append]; rfl

theorem countP_take_succ {α : Type} (f : α → Bool) {l : List α} {i : Nat} (d : α) (h : i < l.length) :
    (l.take (i + 1)).countP f = (l.take i).countP f + (if f (l.getD i d) then 1 else 0) := by
  rw [take_succ_getD d h, List.countP_append]; simp [List.countP_cons]

theorem mem_take_succ {α : Type} {l : List α} {i : Nat} (d : α) (h : i < l.length) (x : α) : x ∈ l.take (i + 1) ↔ x ∈ l.take i ∨ x = l.getD i d := by
  rw [take_succ_getD d h]; simp

theorem getD_mem {α : Type} {l : List α} {i : Nat} (d : α) (h : i < l.length) : l.getD i d ∈ l := by
  rw [getD_lt d h]; exact List.getElem_mem h

theorem mem_getD {α : Type} {l : List α} {x : α} (d : α) (h : x ∈ l) : ∃ i, i < l.length ∧ l.getD i d = x := by
  obtain ⟨i, hi, rfl⟩ := List.getElem_of_mem h
  exact ⟨i, hi, getD_lt d hi⟩

theorem getD_set_if {α : Type} {l : List α} {i j : Nat} {x : α} (d : α) (h : i < l.length) : (l.set i x).getD j d = if j = i then x else l.getD j d := by
  simp only [List.getD_eq_getElem?_getD, List.getElem?_set]
  by_cases e : i = j
  · subst e; simp [h]
  · simp [e, Ne.symm e]

theorem ext_getD {α : Type} (d : α) {l m : List α} (h : l.length = m.length) (he : ∀ i, i < l.length → l.getD i d = m.getD i d) : l = m := by
  apply List.ext_getElem h
  intro i h1 h2
  have := he i h1
  rwa [getD_lt d h1, getD_lt d h2] at this

theorem replicate_getD {α : Type} (n i : Nat) (x : α) : (List.replicate n x).getD i x = x := by
  simp only [List.getD_eq_getElem?_getD, List.getElem?_replicate]; split <;> rfl

/-- The numbers 1 to n. -/
def iota (n : Nat) : List Int := (List.range n).map fun (i : Nat) => (i : Int) + 1

@[simp] theorem iota_length (n : Nat) : (iota n).length = n := by simp [iota]
theorem iota_succ (n : Nat) : iota (n + 1) = iota n ++ [(n : Int) + 1] := by simp [iota, List.range_succ]
theorem mem_iota {n : Nat} {x : Int} : x ∈ iota n ↔ 1 ≤ x ∧ x ≤ n := by
  simp only [iota, List.mem_map, List.mem_range]
  constructor
  · rintro ⟨i, h, rfl⟩; omega
  · intro h; exact ⟨(x - 1).toNat, by omega, by omega⟩
theorem iota_nodup (n : Nat) : (iota n).Nodup := by
  induction n with
  | zero => simp [iota]
  | succ n ih =>
    rw [iota_succ, List.nodup_append]
    refine ⟨ih, by simp, ?_⟩
    intro a ha b hb e
    subst e
    simp at hb
    have := mem_iota.1 ha
    omega

theorem nodup_len : ∀ (l m : List Int), l.Nodup → (∀ x ∈ l, x ∈ m) → l.length ≤ m.length
  | [], m, _, _ => by simp
  | a :: l, m, hn, hs => by
    have ha := hs a (by simp)
    rw [List.nodup_cons] at hn
    have := nodup_len l (m.erase a) hn.2 fun x hx => (List.mem_erase_of_ne (fun (e : x = a) => hn.1 (by rw [← e]; exact hx))).2 (hs x (by simp [hx]))
    rw [List.length_erase_of_mem ha] at this
    have := List.length_pos_of_mem ha
    simp; omega

/-! ### Is a list a permutation? -/

def isPerm (p : List Int) : Prop := ∀ n : Nat, n < p.length → ((n : Int) + 1) ∈ p
instance (p : List Int) : Decidable (isPerm p) := by unfold isPerm; infer_instance

def permE (p : List Int) : Int := if 40 < p.length then 2 else if isPerm p then 0 else 1

theorem isPerm_iota {p : List Int} (h : isPerm p) {x : Int} (hx : x ∈ iota p.length) : x ∈ p := by
  have := mem_iota.1 hx
  have := h (x - 1).toNat (by omega)
  rwa [show (((x - 1).toNat : Int) + 1) = x by omega] at this

/-- Is the place i the first one that is wrong? -/
def okAt (p : List Int) (i : Nat) : Prop := 1 ≤ p.getD i 0 ∧ p.getD i 0 ≤ p.length ∧ p.getD i 0 ∉ p.take i

theorem erase_dup {p : List Int} {i : Nat} (hi : i < p.length) (h : p.getD i 0 ∈ p.take i) {x : Int} (hx : x ∈ p) : x ∈ p.erase (p.getD i 0) := by
  by_cases e : x = p.getD i 0
  · rw [e]
    have h0 : p = p.take i ++ p.drop i := (List.take_append_drop i p).symm
    have h1 : p.erase (p.getD i 0) = (p.take i).erase (p.getD i 0) ++ p.drop i := by
      generalize p.getD i 0 = y at h ⊢
      rw [← List.erase_append_left _ h, ← h0]
    rw [h1]
    apply List.mem_append_right
    rw [getD_lt 0 hi]
    rw [List.drop_eq_getElem_cons hi]
    exact List.mem_cons_self
  · exact (List.mem_erase_of_ne e).2 hx

theorem permE_bad {p : List Int} {i : Nat} (hi : i < p.length) (hl : p.length ≤ 40) (h : ¬ okAt p i) : permE p = 1 := by
  unfold permE
  rw [if_neg (by omega), if_neg]
  intro hp
  have hx := getD_mem (0 : Int) hi
  have key : (∀ x ∈ iota p.length, x ∈ p.erase (p.getD i 0)) → False := fun hs => by
    have := nodup_len _ _ (iota_nodup p.length) hs
    rw [List.length_erase_of_mem hx, iota_length] at this
    omega
  by_cases h1 : 1 ≤ p.getD i 0 ∧ p.getD i 0 ≤ p.length
  · have hd : p.getD i 0 ∈ p.take i := by
      by_cases hd : p.getD i 0 ∈ p.take i
      · exact hd
      · exact absurd ⟨h1.1, h1.2, hd⟩ h
    exact key fun x hx => erase_dup hi hd (isPerm_iota hp hx)
  · refine key fun x hx => (List.mem_erase_of_ne ?_).2 (isPerm_iota hp hx)
    rintro rfl
    exact h1 (mem_iota.1 hx)

theorem okAt_nodup {p : List Int} : ∀ n, n ≤ p.length → (∀ i, i < n → okAt p i) → (p.take n).Nodup
  | 0, _, _ => by simp
  | n + 1, hn, h => by
    rw [take_succ_getD 0 (by omega), List.nodup_append]
    refine ⟨okAt_nodup n (by omega) fun i hi => h i (by omega), by simp, ?_⟩
    intro a ha b hb e
    subst e
    simp only [List.mem_singleton] at hb
    rw [hb] at ha
    exact (h n (by omega)).2.2 ha

theorem okAt_all {p : List Int} (h : ∀ i, i < p.length → okAt p i) : p.Nodup ∧ ∀ x ∈ p, 1 ≤ x ∧ x ≤ p.length := by
  have := okAt_nodup p.length (Nat.le_refl _) h
  rw [List.take_length] at this
  refine ⟨this, fun x hx => ?_⟩
  obtain ⟨i, hi, rfl⟩ := mem_getD 0 hx
  exact ⟨(h i hi).1, (h i hi).2.1⟩

theorem isPerm_of {p : List Int} (hn : p.Nodup) (hr : ∀ x ∈ p, 1 ≤ x ∧ x ≤ p.length) : isPerm p := by
  intro k hk
  by_cases hm : ((k : Int) + 1) ∈ p
  · exact hm
  · exfalso
    have := nodup_len (((k : Int) + 1) :: p) (iota p.length) (List.nodup_cons.2 ⟨hm, hn⟩) fun x hx => by
      rcases List.mem_cons.1 hx with rfl | hx
      · exact mem_iota.2 (by omega)
      · exact mem_iota.2 (hr x hx)
    simp at this
    omega

theorem permE_ok {p : List Int} (hl : p.length ≤ 40) (h : ∀ i, i < p.length → okAt p i) : permE p = 0 := by
  unfold permE
  rw [if_neg (by omega), if_pos (isPerm_of (okAt_all h).1 (okAt_all h).2)]

theorem permE_zero {p : List Int} (h : permE p = 0) : p.length ≤ 40 ∧ isPerm p ∧ p.Nodup ∧ ∀ x ∈ p, 1 ≤ x ∧ x ≤ p.length := by
  unfold permE at h
  split at h
  · cases h
  · rename_i hl
    split at h
    · rename_i hp
      have hl : p.length ≤ 40 := by omega
      have hall : ∀ i, i < p.length → okAt p i := fun i hi => by
        by_cases hk : okAt p i
        · exact hk
        · have := permE_bad hi hl hk
          unfold permE at this
          rw [if_neg (by omega), if_pos hp] at this
          cases this
      exact ⟨hl, hp, okAt_all hall⟩
    · cases h

theorem permE_cases (p : List Int) : permE p = 0 ∨ permE p = 1 ∨ permE p = 2 := by
  unfold permE; split
  · exact .inr (.inr rfl)
  · split
    · exact .inl rfl
    · exact .inr (.inl rfl)

theorem idxOf_of {n : Int} : ∀ {p : List Int} {i : Nat}, i < p.length → n ∉ p.take i → p.getD i 0 = n → p.idxOf n = i
  | [], _, h, _, _ => by simp at h
  | x :: p, 0, _, _, h => by simp at h; subst h; simp
  | x :: p, i + 1, hi, h1, h2 => by
    simp only [List.take_succ_cons, List.mem_cons, not_or] at h1
    rw [List.idxOf_cons, beq_eq_false_iff_ne.2 (fun e => h1.1 e.symm)]
    simp only [cond_false]
    rw [idxOf_of (by simpa using hi) h1.2 (by simpa using h2)]

theorem sum_take_succ {l : List Int} {i : Nat} (h : i < l.length) : (l.take (i + 1)).sum = (l.take i).sum + l.getD i 0 := by
  rw [take_succ_getD 0 h, List.sum_append]; simp

theorem nodup_getD {l : List Int} (h : l.Nodup) {i j : Nat} (hij : i < j) (hj : j < l.length) : l.getD i 0 ≠ l.getD j 0 := by
  rw [getD_lt 0 hj, getD_lt 0 (by omega)]
  exact List.pairwise_iff_getElem.1 h i j (by omega) hj hij

theorem iota_getD {n j : Nat} (h : j < n) : (iota n).getD j 0 = (j : Int) + 1 := by
  rw [getD_lt 0 (by simpa using h)]; simp [iota]

theorem iota_of {l : List Int} {n : Nat} (hl : l.length = n) (h : ∀ j, j < n → l.getD j 0 = (j : Int) + 1) : l = iota n :=
  ext_getD 0 (by simpa using hl) fun i hi => by rw [h i (by omega), iota_getD (by omega)]

end Fer

/- Words by which a list is put in order, neighbour by neighbour. No program in sight. -/
namespace Fer

def sws : Nat → List Int → List Int
  | 0, x :: y :: l => y :: x :: l
  | i + 1, x :: l => x :: sws i l
  | _, l => l

def ff : List Int → Option Nat
  | x :: y :: l => if y < x then some 0 else (ff (y :: l)).map (· + 1)
  | _ => none

def inv : List Int → Nat
  | [] => 0
  | x :: l => l.countP (fun y => decide (y < x)) + inv l

theorem sws_perm : ∀ (i : Nat) (l : List Int), (sws i l).Perm l
  | 0, x :: y :: l => List.Perm.swap ..
  | 0, [] => .refl _
  | 0, [_] => .refl _
  | i + 1, [] => .refl _
  | i + 1, x :: l => (sws_perm i l).cons x

@[simp] theorem sws_length (i : Nat) (l : List Int) : (sws i l).length = l.length := (sws_perm i l).length_eq

theorem sws_getD : ∀ (i : Nat) (l : List Int) (j : Nat), i + 1 < l.length → (sws i l).getD j 0 = if j = i then l.getD (i + 1) 0 else if j = i + 1 then l.getD i 0 else l.getD j 0
  | 0, x :: y :: l, j, _ => by
    rcases j with _ | _ | j <;> simp [sws]
  | 0, [], _, h => by simp at h
  | 0, [_], _, h => by simp at h
  | i + 1, [], _, h => by simp at h
  | i + 1, x :: l, j, h => by
    simp only [List.length_cons] at h
    cases j with
    | zero => simp [sws]
    | succ j =>
      simp only [sws, List.getD_cons_succ, sws_getD i l j (by omega), Nat.add_right_cancel_iff]

theorem set2_sws {i : Nat} {l : List Int} (h : i + 1 < l.length) : (l.set i (l.getD (i + 1) 0)).set (i + 1) (l.getD i 0) = sws i l := by
  apply ext_getD 0
  · simp
  · intro j hj
    rw [sws_getD i l j h, getD_set_if 0 (by simpa using h), getD_set_if 0 (by omega)]
    by_cases h1 : j = i
    · subst h1; rw [if_neg (by omega), if_pos rfl, if_pos rfl]
    · by_cases h2 : j = i + 1
      · rw [if_pos h2, if_neg h1, if_pos h2]
      · rw [if_neg h2, if_neg h1, if_neg h1, if_neg h2]

theorem set2_sws' {i : Nat} {l : List Int} (h : i + 1 < l.length) : (l.set (i + 1) (l.getD i 0)).set i (l.getD (i + 1) 0) = sws i l := by
  rw [← set2_sws h, List.set_comm _ _ (by omega)]

theorem sws_inv : ∀ (i : Nat) (l : List Int), i + 1 < l.length → l.getD (i + 1) 0 < l.getD i 0 → inv (sws i l) + 1 = inv l
  | 0, x :: y :: l, _, h => by
    simp at h
    simp only [sws, inv, List.countP_cons]
    simp [h, show ¬ x < y by omega]; omega
  | 0, [], h, _ => by simp at h
  | 0, [_], h, _ => by simp at h
  | i + 1, [], h, _ => by simp at h
  | i + 1, x :: l, h, h' => by
    simp only [List.length_cons] at h
    simp only [List.getD_cons_succ] at h'
    have := sws_inv i l (by omega) h'
    simp only [sws, inv, (sws_perm i l).countP_eq]
    omega

theorem ff_some : ∀ {l : List Int} {i : Nat}, ff l = some i → i + 1 < l.length ∧ l.getD (i + 1) 0 < l.getD i 0
  | [], _, h => by simp [ff] at h
  | [_], _, h => by simp [ff] at h
  | x :: y :: l, i, h => by
    simp only [ff] at h
    split at h
    · cases h; simpa using ‹y < x›
    · cases hf : ff (y :: l) with
      | none => rw [hf] at h; cases h
      | some k =>
        rw [hf] at h
        cases h
        have := ff_some hf
        simpa using this

theorem ff_of : ∀ {l : List Int} {i : Nat}, i + 1 < l.length → (∀ j, j < i → l.getD j 0 ≤ l.getD (j + 1) 0) → l.getD (i + 1) 0 < l.getD i 0 → ff l = some i
  | [], _, h, _, _ => by simp at h
  | [_], _, h, _, _ => by simp at h
  | x :: y :: l, 0, _, _, h => by simp at h; simp [ff, h]
  | x :: y :: l, i + 1, h, h1, h2 => by
    have h0 := h1 0 (by omega)
    simp at h0
    simp only [ff]
    rw [if_neg (by omega), ff_of (l := y :: l) (i := i) (by simpa using h) (fun j hj => by simpa using h1 (j + 1) (by omega)) (by simpa using h2)]
    rfl

theorem ff_none : ∀ {l : List Int}, (∀ j, j + 1 < l.length → l.getD j 0 ≤ l.getD (j + 1) 0) → ff l = none
  | [], _ => rfl
  | [_], _ => rfl
  | x :: y :: l, h => by
    have h0 := h 0 (by simp)
    simp at h0
    simp only [ff]
    rw [if_neg (by omega), ff_none (l := y :: l) (fun j hj => by simpa using h (j + 1) (by simpa using hj))]
    rfl

def nb : Nat → List Int → List Int
  | 0, _ => []
  | f + 1, q => match ff q with
    | none => []
    | some i => ((i : Int) + 1) :: nb f (sws i q)

/-- P7: the word. -/
def word (p : List Int) : List Int := nb (inv p) p

theorem word_none {q : List Int} (h : ff q = none) : word q = [] := by
  unfold word; cases inv q <;> simp [nb, h]

theorem word_some {q : List Int} {i : Nat} (h : ff q = some i) : word q = ((i : Int) + 1) :: word (sws i q) := by
  obtain ⟨h1, h2⟩ := ff_some h
  unfold word
  rw [← sws_inv i q h1 h2]
  simp [nb, h]

theorem inv_le : ∀ l : List Int, inv l ≤ l.length * l.length
  | [] => Nat.le_refl _
  | x :: l => by
    have := inv_le l
    have h2 : l.countP (fun y => decide (y < x)) ≤ l.length := List.countP_le_length
    simp only [inv, List.length_cons, Nat.mul_add, Nat.add_mul]
    omega

theorem word_length : ∀ (n : Nat) (q : List Int), inv q = n → (word q).length ≤ n
  | n, q, h => by
    cases hf : ff q with
    | none => rw [word_none hf]; simp
    | some i =>
      obtain ⟨h1, h2⟩ := ff_some hf
      have h3 := sws_inv i q h1 h2
      have := word_length (n - 1) (sws i q) (by omega)
      rw [word_some hf, List.length_cons]
      omega
termination_by n => n
decreasing_by all_goals omega

/-! ### Descents -/

def falls (w : List Int) (n : Nat) : List Int := ((List.range n).filter fun i => decide (1 ≤ i ∧ w.getD i 0 < w.getD (i - 1) 0)).map fun (i : Nat) => (i : Int)

theorem falls_zero (w : List Int) : falls w 0 = [] := rfl
theorem falls_one (w : List Int) : falls w 1 = [] := rfl
theorem falls_succ (w : List Int) (n : Nat) (h : 1 ≤ n) : falls w (n + 1) = falls w n ++ (if w.getD n 0 < w.getD (n - 1) 0 then [(n : Int)] else []) := by
  unfold falls
  rw [List.range_succ, List.filter_append, List.map_append]
  congr 1
  by_cases hh : w.getD n 0 < w.getD (n - 1) 0
  · rw [List.filter_cons_of_pos (by simp only [h, hh, and_self, decide_true]), if_pos hh]; rfl
  · rw [List.filter_cons_of_neg (by simp only [hh, and_false, decide_false, Bool.false_eq_true, not_false_eq_true]), if_neg hh]; rfl

theorem falls_length (w : List Int) (n : Nat) : (falls w n).length ≤ n := by
  unfold falls
  rw [List.length_map]
  exact Nat.le_trans (List.length_filter_le _ _) (by simp)

theorem falls_mem {w : List Int} {n : Nat} {x : Int} (h : x ∈ falls w n) : 1 ≤ x ∧ x < n := by
  unfold falls at h
  simp only [List.mem_map, List.mem_filter, List.mem_range, decide_eq_true_eq] at h
  obtain ⟨i, h, rfl⟩ := h
  omega

theorem falls_nil {w : List Int} (h : falls w w.length = []) : ff w = none := by
  apply ff_none
  intro j hj
  by_cases hx : w.getD j 0 ≤ w.getD (j + 1) 0
  · exact hx
  · exfalso
    have : ((j + 1 : Nat) : Int) ∈ falls w w.length := by
      unfold falls
      rw [List.mem_map]
      refine ⟨j + 1, ?_, rfl⟩
      rw [List.mem_filter]
      refine ⟨List.mem_range.2 hj, ?_⟩
      simp only [decide_eq_true_eq, Nat.add_sub_cancel]
      omega
    rw [h] at this
    cases this

theorem falls_cons {w : List Int} (h : falls w w.length ≠ []) : ff w = some ((falls w w.length).getD 0 0 - 1).toNat ∧ 1 ≤ (falls w w.length).getD 0 0 := by
  unfold falls at h ⊢
  cases hf : (List.range w.length).filter (fun i => decide (1 ≤ i ∧ w.getD i 0 < w.getD (i - 1) 0)) with
  | nil => rw [hf] at h; exact absurd rfl h
  | cons i l =>
    have h1 : ((List.range w.length).filter (fun i => decide (1 ≤ i ∧ w.getD i 0 < w.getD (i - 1) 0))).head? = some i := by rw [hf]; rfl
    rw [List.head?_filter] at h1
    have h2 := List.find?_range_eq_some.1 h1
    simp only [decide_eq_true_eq, List.mem_range, Bool.not_eq_true', decide_eq_false_iff_not, not_and] at h2
    obtain ⟨⟨h3, h4⟩, h5, h6⟩ := h2
    simp only [List.map_cons, List.getD_cons_zero]
    refine ⟨?_, by omega⟩
    rw [show ((i : Int) - 1).toNat = i - 1 by omega]
    apply ff_of
    · omega
    · intro j hj
      have := h6 (j + 1) (by omega) (by omega)
      simp only [Nat.add_sub_cancel] at this
      omega
    · rw [show i - 1 + 1 = i by omega]; exact h4

/-! ### Products -/

def came (out : List Int) (l : List Int) : List Int := l.foldr (fun i out => sws (i - 1).toNat out) out

@[simp] theorem came_length (out l : List Int) : (came out l).length = out.length := by
  induction l with
  | nil => rfl
  | cons i l ih => simpa [came] using ih

theorem drop_pred_getD {α : Type} {l : List α} {k : Nat} (d : α) (h : k < l.length) : l.drop k = l.getD k d :: l.drop (k + 1) := by
  rw [getD_lt d h, List.drop_eq_getElem_cons h]

theorem came_drop (out l : List Int) {k : Nat} (h : k < l.length) : came out (l.drop k) = sws (l.getD k 0 - 1).toNat (came out (l.drop (k + 1))) := by
  rw [drop_pred_getD 0 h]; rfl

def prodE (n : Int) (w : List Int) : Int := if n < 0 ∨ 40 < n then 1 else if ∀ x ∈ w, 1 ≤ x ∧ x < n then 0 else 1

end Fer

/- Bruhat's order, by counts and by lists put in order. No program in sight. -/
namespace Fer

/-- Of the first m numbers of l how many are at least k. -/
def atl (l : List Int) (m : Nat) (k : Int) : Int := ((l.take m).countP fun x => decide (k ≤ x) : Nat)

theorem atl_zero (l : List Int) (k : Int) : atl l 0 k = 0 := by simp [atl]
theorem atl_succ {l : List Int} {m : Nat} (k : Int) (h : m < l.length) : atl l (m + 1) k = atl l m k + (if k ≤ l.getD m 0 then 1 else 0) := by
  unfold atl
  rw [countP_take_succ _ 0 h]
  by_cases hk : k ≤ l.getD m 0
  · rw [if_pos (decide_eq_true hk), if_pos hk]; rfl
  · rw [if_neg (by rw [decide_eq_false hk]; exact Bool.false_ne_true), if_neg hk]; rfl

/-- Never fewer of b's than of a's. -/
def under (a b : List Int) : Prop := ∀ i : Nat, i < a.length → ∀ k : Nat, k < a.length → atl a (i + 1) ((k : Int) + 1) ≤ atl b (i + 1) ((k : Int) + 1)
instance (a b : List Int) : Decidable (under a b) := by unfold under; infer_instance

/-- The greatest first. -/
def Desc (l : List Int) : Prop := l.Pairwise fun x y => y ≤ x

theorem desc_getD {l : List Int} (h : Desc l) {i j : Nat} (hij : i ≤ j) (hj : j < l.length) : l.getD j 0 ≤ l.getD i 0 := by
  rcases Nat.lt_or_ge i j with hlt | hge
  · rw [getD_lt 0 hj, getD_lt 0 (by omega)]
    exact List.pairwise_iff_getElem.1 h i j (by omega) hj hlt
  · rw [show i = j by omega]; exact Int.le_refl _

theorem countP_mono_zip {t : Int} : ∀ (x y : List Int), x.length = y.length → (∀ k, k < x.length → x.getD k 0 ≤ y.getD k 0) → x.countP (fun u => decide (t ≤ u)) ≤ y.countP (fun u => decide (t ≤ u))
  | [], [], _, _ => Nat.le_refl _
  | [], _ :: _, h, _ => by simp at h
  | _ :: _, [], h, _ => by simp at h
  | u :: x, v :: y, h, hk => by
    have h0 := hk 0 (by simp)
    simp at h0
    have := countP_mono_zip (t := t) x y (by simpa using h) fun k hk' => by simpa using hk (k + 1) (by simpa using hk')
    simp only [List.countP_cons]
    by_cases hu : t ≤ u
    · have hv : t ≤ v := by omega
      simp only [hu, hv, decide_true, if_true]; omega
    · simp only [hu, decide_false, if_false, Bool.false_eq_true]
      omega

/-- The first ones of an ordered list, counted. -/
theorem countP_ge {t : Int} : ∀ (x : List Int) (k : Nat), k < x.length → (∀ j, j ≤ k → t ≤ x.getD j 0) → k + 1 ≤ x.countP (fun u => decide (t ≤ u))
  | [], _, h, _ => by simp at h
  | u :: x, 0, _, h => by
    have := h 0 (Nat.le_refl _)
    simp at this
    simp [List.countP_cons, this]
  | u :: x, k + 1, hk, h => by
    have h0 := h 0 (Nat.zero_le _)
    simp at h0
    have := countP_ge (t := t) x k (by simpa using hk) fun j hj => by simpa using h (j + 1) (by omega)
    simp only [List.countP_cons, h0, decide_true, if_true]
    omega

theorem countP_le {t : Int} : ∀ (x : List Int) (k : Nat), (∀ j, k ≤ j → j < x.length → x.getD j 0 < t) → x.countP (fun u => decide (t ≤ u)) ≤ k
  | [], _, _ => by simp
  | u :: x, 0, h => by
    have h0 := h 0 (Nat.le_refl _) (by simp)
    simp at h0
    have := countP_le (t := t) x 0 fun j _ hj => by simpa using h (j + 1) (by omega) (by simpa using hj)
    simp only [List.countP_cons, show ¬ t ≤ u by omega, decide_false, Bool.false_eq_true, if_false]
    omega
  | u :: x, k + 1, h => by
    have := countP_le (t := t) x k fun j hj hj' => by simpa using h (j + 1) (by omega) (by simpa using hj')
    simp only [List.countP_cons]
    split <;> omega

theorem atl_nonneg (l : List Int) (m : Nat) (k : Int) : 0 ≤ atl l m k := Int.natCast_nonneg _
theorem atl_le (l : List Int) (m : Nat) (k : Int) : atl l m k ≤ m := by
  unfold atl
  have h1 := List.countP_le_length (p := fun x => decide (k ≤ x)) (l := l.take m)
  have h2 := List.length_take_le m l
  omega

/-- A number is put to its place among the greater ones: all is in order up to i, except for what stands at k. -/
def Ins (out : List Int) (i k : Nat) : Prop := ∀ a b, a < b → b ≤ i → b ≠ k → out.getD b 0 ≤ out.getD a 0
def DescTo (out : List Int) (i : Nat) : Prop := ∀ a b, a < b → b < i → out.getD b 0 ≤ out.getD a 0

theorem Ins.start {out : List Int} {i : Nat} (h : DescTo out i) : Ins out i i := fun a b h1 h2 h3 => h a b h1 (by omega)
theorem Ins.stop {out : List Int} {i k : Nat} (h : Ins out i k) (hk : k = 0 ∨ out.getD k 0 ≤ out.getD (k - 1) 0) : DescTo out (i + 1) := by
  intro a b h1 h2
  by_cases e : b = k
  · subst e
    have hk : out.getD b 0 ≤ out.getD (b - 1) 0 := by rcases hk with h | h
                                                      · omega
                                                      · exact h
    by_cases e2 : a = b - 1
    · rw [e2]; exact hk
    · exact Int.le_trans hk (h a (b - 1) (by omega) (by omega) (by omega))
  · exact h a b h1 (by omega) e
theorem Ins.swap {out : List Int} {i k : Nat} (h : Ins out i (k + 1)) (hl : k + 1 < out.length) (hi : k + 1 ≤ i) (hk : out.getD k 0 < out.getD (k + 1) 0) : Ins (sws k out) i k := by
  intro a b h1 h2 h3
  rw [sws_getD _ _ _ hl, sws_getD _ _ _ hl, if_neg h3]
  by_cases e1 : b = k + 1
  · rw [if_pos e1]
    by_cases e2 : a = k
    · rw [if_pos e2]; omega
    · rw [if_neg e2, if_neg (by omega)]; exact h a k (by omega) (by omega) (by omega)
  · rw [if_neg e1]
    by_cases e2 : a = k
    · rw [if_pos e2]; exact h (k + 1) b (by omega) h2 e1
    · rw [if_neg e2]
      by_cases e3 : a = k + 1
      · rw [if_pos e3]; exact h k b (by omega) h2 e1
      · rw [if_neg e3]; exact h a b h1 h2 e1
theorem DescTo.all {out : List Int} (h : DescTo out out.length) : Desc out := by
  refine List.pairwise_iff_getElem.2 fun i j hi hj hij => ?_
  have := h i j hij hj
  rwa [getD_lt 0 hi, getD_lt 0 hj] at this

/-- One step of the order: the first i + 1 numbers, put in order, place by place; and by counts. -/
theorem place_iff {a b x y : List Int} {i n : Nat} (hi : i < a.length) (hab : a.length = b.length) (hn : ∀ u ∈ a, 1 ≤ u ∧ u ≤ n)
    (hx : x.Perm (a.take (i + 1))) (hy : y.Perm (b.take (i + 1))) (dx : Desc x) (dy : Desc y) :
    (∀ k, k < i + 1 → x.getD k 0 ≤ y.getD k 0) ↔ ∀ k : Nat, k < n → atl a (i + 1) ((k : Int) + 1) ≤ atl b (i + 1) ((k : Int) + 1) := by
  have lx : x.length = i + 1 := by rw [hx.length_eq, List.length_take]; omega
  have ly : y.length = i + 1 := by rw [hy.length_eq, List.length_take]; omega
  have cx : ∀ t, atl a (i + 1) t = (x.countP fun u => decide (t ≤ u) : Nat) := fun t => by unfold atl; rw [hx.countP_eq]
  have cy : ∀ t, atl b (i + 1) t = (y.countP fun u => decide (t ≤ u) : Nat) := fun t => by unfold atl; rw [hy.countP_eq]
  constructor
  · intro h k _
    rw [cx, cy]
    exact Int.ofNat_le.2 (countP_mono_zip x y (by omega) fun k hk => h k (by omega))
  · intro h k hk
    by_cases hle : x.getD k 0 ≤ y.getD k 0
    · exact hle
    · exfalso
      have hm : x.getD k 0 ∈ a := List.mem_of_mem_take (hx.mem_iff.1 (getD_mem 0 (by omega)))
      have hr := hn _ hm
      have := h (x.getD k 0 - 1).toNat (by omega)
      rw [show (((x.getD k 0 - 1).toNat : Int) + 1) = x.getD k 0 by omega, cx, cy] at this
      have h1 := countP_ge (t := x.getD k 0) x k (by omega) fun j hj => desc_getD dx hj (by omega)
      have h2 := countP_le (t := x.getD k 0) y k fun j hj hj' => by
        have := desc_getD dy hj hj'
        omega
      omega

end Fer

/- Inverses, codes, inversions. No program in sight. -/
namespace Fer

theorem idxOf_spec : ∀ {p : List Int} {n : Int}, n ∈ p → p.idxOf n < p.length ∧ p.getD (p.idxOf n) 0 = n
  | [], _, h => by cases h
  | x :: p, n, h => by
    by_cases e : x = n
    · subst e; simp
    · have hm : n ∈ p := by
        rcases List.mem_cons.1 h with h | h
        · exact absurd h.symm e
        · exact h
      obtain ⟨h1, h2⟩ := idxOf_spec hm
      rw [List.idxOf_cons, beq_eq_false_iff_ne.2 e]
      simp only [cond_false, List.length_cons, List.getD_cons_succ]
      exact ⟨by omega, h2⟩

/-! ### Sums over places -/

def sumTo (f : Nat → Int) : Nat → Int
  | 0 => 0
  | n + 1 => sumTo f n + f n

theorem sumTo_shift (f : Nat → Int) : ∀ n, sumTo f (n + 1) = f 0 + sumTo (fun i => f (i + 1)) n
  | 0 => by simp [sumTo]
  | n + 1 => by rw [sumTo, sumTo_shift f n, sumTo]; omega

theorem sumTo_congr {f g : Nat → Int} : ∀ n, (∀ i, i < n → f i = g i) → sumTo f n = sumTo g n
  | 0, _ => rfl
  | n + 1, h => by rw [sumTo, sumTo, sumTo_congr n fun i hi => h i (by omega), h n (by omega)]

theorem sumTo_add (f g : Nat → Int) : ∀ n, sumTo (fun i => f i + g i) n = sumTo f n + sumTo g n
  | 0 => rfl
  | n + 1 => by rw [sumTo, sumTo, sumTo, sumTo_add f g n]; omega

theorem sum_range (f : Nat → Int) : ∀ n, ((List.range n).map f).sum = sumTo f n
  | 0 => rfl
  | n + 1 => by rw [List.range_succ, List.map_append, List.sum_append, sum_range f n, sumTo]; simp

theorem sumTo_nonneg {f : Nat → Int} : ∀ n, (∀ i, 0 ≤ f i) → 0 ≤ sumTo f n
  | 0, _ => Int.le_refl _
  | n + 1, h => by have := sumTo_nonneg n h; have := h n; rw [sumTo]; omega

theorem sumTo_le {f : Nat → Int} {c : Int} : ∀ n : Nat, (∀ i, i < n → f i ≤ c) → sumTo f n ≤ n * c
  | 0, _ => by simp [sumTo]
  | n + 1, h => by
    have h1 := sumTo_le n fun i hi => h i (by omega)
    have h2 := h n (by omega)
    rw [sumTo]
    have : ((n + 1 : Nat) : Int) * c = n * c + c := by rw [Int.natCast_add, Int.add_mul]; simp
    omega

/-! ### Of each number how many lesser ones stand behind it -/

def less (l : List Int) (x : Int) : Int := (l.countP fun y => decide (y < x) : Nat)
def more (l : List Int) (x : Int) : Int := (l.countP fun y => decide (x < y) : Nat)

def cd (p : List Int) (i : Nat) : Int := less (p.drop (i + 1)) (p.getD i 0)
def code (p : List Int) : List Int := (List.range p.length).map (cd p)
def wr (p : List Int) (i : Nat) : Int := more (p.take i) (p.getD i 0)
def wrong (p : List Int) : Int := sumTo (wr p) p.length

theorem less_nonneg (l : List Int) (x : Int) : 0 ≤ less l x := Int.natCast_nonneg _
theorem less_le (l : List Int) (x : Int) : less l x ≤ l.length := Int.ofNat_le.2 List.countP_le_length
theorem more_nonneg (l : List Int) (x : Int) : 0 ≤ more l x := Int.natCast_nonneg _
theorem more_le (l : List Int) (x : Int) : more l x ≤ l.length := Int.ofNat_le.2 List.countP_le_length
theorem less_nil (x : Int) : less [] x = 0 := rfl
theorem less_cons (a : Int) (l : List Int) (x : Int) : less (a :: l) x = less l x + if a < x then 1 else 0 := by
  unfold less; rw [List.countP_cons]; by_cases h : a < x <;> simp [h]
theorem more_cons (a : Int) (l : List Int) (x : Int) : more (a :: l) x = more l x + if x < a then 1 else 0 := by
  unfold more; rw [List.countP_cons]; by_cases h : x < a <;> simp [h]

theorem less_take_succ {l : List Int} {i : Nat} (x : Int) (h : i < l.length) : less (l.take (i + 1)) x = less (l.take i) x + if l.getD i 0 < x then 1 else 0 := by
  unfold less
  rw [countP_take_succ _ 0 h]
  by_cases hk : l.getD i 0 < x
  · rw [if_pos (decide_eq_true hk), if_pos hk]; rfl
  · rw [if_neg (by rw [decide_eq_false hk]; exact Bool.false_ne_true), if_neg hk]; rfl
theorem more_take_succ {l : List Int} {i : Nat} (x : Int) (h : i < l.length) : more (l.take (i + 1)) x = more (l.take i) x + if x < l.getD i 0 then 1 else 0 := by
  unfold more
  rw [countP_take_succ _ 0 h]
  by_cases hk : x < l.getD i 0
  · rw [if_pos (decide_eq_true hk), if_pos hk]; rfl
  · rw [if_neg (by rw [decide_eq_false hk]; exact Bool.false_ne_true), if_neg hk]; rfl

@[simp] theorem code_length (p : List Int) : (code p).length = p.length := by simp [code]
theorem code_getD {p : List Int} {i : Nat} (h : i < p.length) : (code p).getD i 0 = cd p i := by
  rw [getD_lt 0 (by simpa using h)]; simp [code]
theorem code_of {p l : List Int} (hl : l.length = p.length) (h : ∀ i, i < p.length → l.getD i 0 = cd p i) : l = code p :=
  ext_getD 0 (by simpa using hl) fun i hi => by rw [h i (by omega), code_getD (by omega)]

theorem drop_getD {α : Type} {l : List α} {k i : Nat} (d : α) : (l.drop k).getD i d = l.getD (k + i) d := by
  simp [List.getD_eq_getElem?_getD, List.getElem?_drop]

/-- What stands behind a place, the place itself counted: it is not less than itself. -/
theorem cd_eq {p : List Int} {i : Nat} (h : i < p.length) : less (p.drop i) (p.getD i 0) = cd p i := by
  unfold cd
  rw [drop_pred_getD 0 h, less_cons, if_neg (Int.lt_irrefl _)]
  exact Int.add_zero _

theorem sum_code (p : List Int) : (code p).sum = sumTo (cd p) p.length := sum_range _ _

theorem sum_less : ∀ (x : Int) (l : List Int), sumTo (fun i => if l.getD i 0 < x then 1 else 0) l.length = less l x
  | x, [] => rfl
  | x, a :: l => by
    rw [List.length_cons, sumTo_shift, less_cons]
    simp only [List.getD_cons_zero, List.getD_cons_succ]
    rw [sum_less x l]
    omega

/-- Inversions, counted from the left and from the right. -/
theorem wrong_eq : ∀ p : List Int, wrong p = (code p).sum
  | [] => rfl
  | x :: l => by
    have ih := wrong_eq l
    rw [sum_code] at ih ⊢
    unfold wrong at ih ⊢
    rw [List.length_cons, sumTo_shift, sumTo_shift]
    have h1 : cd (x :: l) 0 = less l x := rfl
    have h2 : sumTo (fun i => cd (x :: l) (i + 1)) l.length = sumTo (cd l) l.length := sumTo_congr _ fun i _ => rfl
    have h3 : wr (x :: l) 0 = 0 := rfl
    have h4 : sumTo (fun i => wr (x :: l) (i + 1)) l.length = sumTo (fun i => wr l i + if l.getD i 0 < x then 1 else 0) l.length := sumTo_congr _ fun i _ => by
      unfold wr
      rw [List.take_succ_cons, List.getD_cons_succ, more_cons]
    rw [h1, h2, h3, h4, sumTo_add, sum_less, ih]
    omega

theorem cd_le {p : List Int} {i : Nat} : 0 ≤ cd p i ∧ cd p i ≤ p.length := by
  refine ⟨less_nonneg _ _, Int.le_trans (less_le _ _) ?_⟩
  rw [List.length_drop]; omega

theorem sum_bound {c : Int} : ∀ {l : List Int}, (∀ x ∈ l, 0 ≤ x ∧ x ≤ c) → 0 ≤ l.sum ∧ l.sum ≤ l.length * c
  | [], _ => by simp
  | a :: l, h => by
    have h1 := sum_bound (c := c) (l := l) fun x hx => h x (by simp [hx])
    have h2 := h a (by simp)
    rw [List.sum_cons, List.length_cons]
    have : ((l.length + 1 : Nat) : Int) * c = l.length * c + c := by rw [Int.natCast_add, Int.add_mul]; simp
    omega

theorem falls_sum {p : List Int} {n : Nat} (h : n ≤ 40) : 0 ≤ (falls p n).sum ∧ (falls p n).sum ≤ 1600 := by
  have h1 := sum_bound (c := 40) (l := falls p n) fun x hx => by have := falls_mem hx; omega
  have h2 := falls_length p n
  omega

/-! ### The inverse -/

def invr (p : List Int) : List Int := (iota p.length).map fun n => (p.idxOf n : Int) + 1
@[simp] theorem invr_length (p : List Int) : (invr p).length = p.length := by simp [invr]
theorem invr_getD {p : List Int} {i : Nat} (h : i < p.length) : (invr p).getD i 0 = (p.idxOf ((i : Int) + 1) : Int) + 1 := by
  rw [getD_lt 0 (by simpa using h)]
  simp [invr, iota]

theorem invr_of {p out : List Int} (hp : isPerm p) (hl : out.length = p.length) (h : ∀ j, j < p.length → out.getD (p.getD j 0 - 1).toNat 0 = (j : Int) + 1) : out = invr p := by
  refine ext_getD 0 (by simpa using hl) fun i hi => ?_
  obtain ⟨h1, h2⟩ := idxOf_spec (hp i (by omega))
  have := h _ h1
  rw [h2, show ((i : Int) + 1 - 1).toNat = i by omega] at this
  rw [this, invr_getD (by omega)]

theorem invr_take {p : List Int} {i : Nat} (h : i < p.length) : (invr p).take (i + 1) = (invr p).take i ++ [(p.idxOf ((i : Int) + 1) : Int) + 1] := by
  rw [take_succ_getD 0 (by simpa using h), invr_getD h]

/-! ### From codes -/

def upOne (n x : Int) : Int := if n < x then x + 1 else x

def ofCode : List Int → List Int
  | [] => []
  | n :: c => (n + 1) :: (ofCode c).map (upOne n)

@[simp] theorem ofCode_length : ∀ c : List Int, (ofCode c).length = c.length
  | [] => rfl
  | n :: c => by simp [ofCode, ofCode_length c]

def codeOK : List Int → Prop
  | [] => True
  | n :: c => 0 ≤ n ∧ n ≤ c.length ∧ codeOK c

theorem ofCode_pos : ∀ c : List Int, codeOK c → ∀ x ∈ ofCode c, 1 ≤ x ∧ x ≤ c.length
  | [], _, x, h => by cases h
  | n :: c, hc, x, h => by
    simp only [ofCode, List.mem_cons, List.mem_map] at h
    obtain ⟨h0, h1, h2⟩ := hc
    rw [List.length_cons]
    rcases h with rfl | ⟨y, hy, rfl⟩
    · omega
    · have := ofCode_pos c h2 y hy
      unfold upOne
      split <;> omega

/-- Each time the number at that place is taken away. -/
def taken : List Int → List Int → List Int
  | _, [] => []
  | left, n :: c => left.getD n.toNat 0 :: taken (left.eraseIdx n.toNat) c

theorem eraseIdx_getD {l : List Int} {n i : Nat} : (l.eraseIdx n).getD i 0 = if i < n then l.getD i 0 else l.getD (i + 1) 0 := by
  simp only [List.getD_eq_getElem?_getD, List.getElem?_eraseIdx]
  split <;> rfl

theorem taken_eq : ∀ (c left : List Int), codeOK c → left.length = c.length → taken left c = (ofCode c).map fun x => left.getD (x - 1).toNat 0
  | [], _, _, _ => rfl
  | n :: c, left, hc, hl => by
    obtain ⟨h0, h1, h2⟩ := hc
    rw [List.length_cons] at hl
    simp only [taken, ofCode, List.map_cons, List.map_map]
    rw [show (n + 1 - 1).toNat = n.toNat by omega, taken_eq c (left.eraseIdx n.toNat) h2 (by rw [List.length_eraseIdx]; split <;> omega)]
    congr 1
    apply List.map_congr_left
    intro x hx
    have hp := ofCode_pos c h2 x hx
    simp only [Function.comp, eraseIdx_getD, upOne]
    by_cases h : n < x
    · rw [if_neg (by omega), if_pos h, show (x - 1).toNat + 1 = (x + 1 - 1).toNat by omega]
    · rw [if_pos (by omega), if_neg h]

theorem taken_iota (c : List Int) (h : codeOK c) : taken (iota c.length) c = ofCode c := by
  rw [taken_eq c _ h (by simp)]
  have : ∀ x ∈ ofCode c, (fun x => (iota c.length).getD (x - 1).toNat 0) x = id x := fun x hx => by
    have := ofCode_pos c h x hx
    simp only [id]
    rw [iota_getD (by omega)]
    omega
  rw [List.map_congr_left this, List.map_id]

theorem codeOK_iff : ∀ c : List Int, codeOK c ↔ ∀ i : Nat, i < c.length → 0 ≤ c.getD i 0 ∧ c.getD i 0 ≤ c.length - 1 - i
  | [] => by simp [codeOK]
  | n :: c => by
    simp only [codeOK, codeOK_iff c, List.length_cons]
    constructor
    · rintro ⟨h0, h1, h2⟩ i hi
      cases i with
      | zero => simp; omega
      | succ i => have := h2 i (by omega); rw [List.getD_cons_succ]; omega
    · intro h
      refine ⟨by have := h 0 (by omega); simp at this; omega, by have := h 0 (by omega); simp at this; omega, fun i hi => ?_⟩
      have := h (i + 1) (by omega)
      rw [List.getD_cons_succ] at this
      omega

instance decCodeOK : (c : List Int) → Decidable (codeOK c)
  | [] => isTrue trivial
  | n :: c => by
    have := decCodeOK c
    unfold codeOK
    infer_instance

theorem codeOK_drop : ∀ {c : List Int} (i : Nat), codeOK c → codeOK (c.drop i)
  | [], i, _ => by simp [codeOK]
  | _ :: _, 0, h => h
  | _ :: c, i + 1, h => codeOK_drop (c := c) i h.2.2

def codeE (c : List Int) : Int := if 40 < c.length then 2 else if codeOK c then 0 else 1

end Fer

/- Foata's map, block by block, and back. No program in sight. -/
namespace Fer

def letE (w : List Int) : Int := if 40 < w.length then 2 else if ∀ x ∈ w, 1 ≤ x ∧ x ≤ 99 then 0 else 1

/-- Blocks that end at a letter of the same kind: what is written down so far; the block that is open. -/
def blk (x : Int) (low : Bool) (st : List Int × List Int) (y : Int) : List Int × List Int :=
  if (decide (y ≤ x)) = low then (st.1 ++ y :: st.2, []) else (st.1, st.2 ++ [y])

def lowOf (v : List Int) (x : Int) : Bool := decide (v.getD (v.length - 1) 0 ≤ x)

def foldOne (v : List Int) (x : Int) : List Int := (v.foldl (blk x (lowOf v x)) ([], [])).1 ++ [x]

/-- P8. -/
def folded (w : List Int) : List Int := w.foldl foldOne []

theorem blk_len (x : Int) (low : Bool) : ∀ (v : List Int) (st : List Int × List Int), (v.foldl (blk x low) st).1.length + (v.foldl (blk x low) st).2.length = st.1.length + st.2.length + v.length
  | [], st => by simp
  | y :: v, st => by
    rw [List.foldl_cons, blk_len x low v]
    unfold blk
    split <;> simp <;> omega

/-- The last letter ends its block. -/
theorem blk_last {x : Int} {v : List Int} (h : v ≠ []) : (v.foldl (blk x (lowOf v x)) ([], [])).2 = [] := by
  obtain ⟨u, y, rfl⟩ : ∃ u y, v = u ++ [y] := ⟨v.dropLast, v.getLast h, (List.dropLast_concat_getLast h).symm⟩
  have e : lowOf (u ++ [y]) x = decide (y ≤ x) := by
    unfold lowOf
    congr 1
    rw [List.length_append, List.getD_eq_getElem?_getD]
    simp
  rw [List.foldl_append, e]
  simp [blk]

theorem foldOne_length (v : List Int) (x : Int) : (foldOne v x).length = v.length + 1 := by
  unfold foldOne
  rw [List.length_append]
  by_cases h : v = []
  · subst h; rfl
  · have h1 := blk_len x (lowOf v x) v ([], [])
    rw [blk_last h] at h1
    simp at h1 ⊢
    omega

theorem foldl_take_le {v : List Int} {k : Nat} (x : Int) (low : Bool) (h : k ≤ v.length) : (((v.take k).foldl (blk x low) ([], [])).1.length + ((v.take k).foldl (blk x low) ([], [])).2.length) = k := by
  rw [blk_len]; simp; omega

theorem folded_take_succ {w : List Int} {i : Nat} (h : i < w.length) : folded (w.take (i + 1)) = foldOne (folded (w.take i)) (w.getD i 0) := by
  unfold folded
  rw [foldl_take_succ _ _ 0 h]

theorem folded_length (w : List Int) : (folded w).length = w.length := by
  have : ∀ (w v : List Int), (w.foldl foldOne v).length = v.length + w.length := by
    intro w
    induction w with
    | nil => simp
    | cons x w ih => intro v; rw [List.foldl_cons, ih, foldOne_length, List.length_cons]; omega
  unfold folded
  rw [this]; simp

theorem blk_succ {v : List Int} {k : Nat} (x : Int) (low : Bool) (h : k < v.length) : (v.take (k + 1)).foldl (blk x low) ([], []) = blk x low ((v.take k).foldl (blk x low) ([], [])) (v.getD k 0) := foldl_take_succ _ _ 0 h

theorem foldOne_of {v : List Int} (x : Int) : foldOne v x = ((v.take v.length).foldl (blk x (lowOf v x)) ([], [])).1 ++ [x] := by rw [List.take_length]; rfl

theorem app3_getD {A B : List Int} {y : Int} {R : List Int} {i : Nat} : (A ++ y :: (B ++ R)).getD i 0 = if i < A.length then A.getD i 0 else if i = A.length then y else if i < A.length + 1 + B.length then B.getD (i - A.length - 1) 0 else R.getD (i - A.length - 1 - B.length) 0 := by
  simp only [List.getD_eq_getElem?_getD]
  by_cases c1 : i < A.length
  · rw [List.getElem?_append_left c1, if_pos c1]
  · rw [List.getElem?_append_right (by omega), if_neg c1]
    by_cases c2 : i = A.length
    · rw [if_pos c2, c2]; simp
    · obtain ⟨j, hj⟩ : ∃ j, j = i - A.length - 1 := ⟨_, rfl⟩
      rw [if_neg c2, ← hj, show i - A.length = j + 1 by omega, List.getElem?_cons_succ]
      by_cases c3 : i < A.length + 1 + B.length
      · rw [if_pos c3, List.getElem?_append_left (by omega)]
      · rw [if_neg c3, List.getElem?_append_right (by omega)]

theorem app2_getD {A B : List Int} {y : Int} {R : List Int} {i : Nat} : (A ++ B ++ y :: R).getD i 0 = if i < A.length then A.getD i 0 else if i < A.length + B.length then B.getD (i - A.length) 0 else if i = A.length + B.length then y else R.getD (i - A.length - 1 - B.length) 0 := by
  simp only [List.getD_eq_getElem?_getD]
  by_cases c1 : i < A.length
  · rw [List.append_assoc, List.getElem?_append_left c1, if_pos c1]
  · rw [if_neg c1]
    by_cases c2 : i < A.length + B.length
    · rw [List.append_assoc, List.getElem?_append_right (by omega), List.getElem?_append_left (by omega), if_pos c2]
    · rw [if_neg c2, List.getElem?_append_right (by rw [List.length_append]; omega), List.length_append]
      by_cases c3 : i = A.length + B.length
      · rw [if_pos c3, c3]; simp
      · rw [if_neg c3, show i - (A.length + B.length) = (i - A.length - 1 - B.length) + 1 by omega, List.getElem?_cons_succ]

/-! ### And back -/

/-- The first letter of each block goes to its end. -/
def rotb (x : Int) (low : Bool) : Nat → List Int → List Int
  | 0, _ => []
  | _, [] => []
  | f + 1, a :: l => l.takeWhile (fun y => decide (y ≤ x) != low) ++ a :: rotb x low f (l.dropWhile fun y => decide (y ≤ x) != low)

theorem rotb_length (x : Int) (low : Bool) : ∀ (f : Nat) (l : List Int), l.length ≤ f → (rotb x low f l).length = l.length
  | 0, [], _ => rfl
  | 0, _ :: _, h => by simp at h
  | _ + 1, [], _ => rfl
  | f + 1, a :: l, h => by
    have h1 : (l.takeWhile (fun y => decide (y ≤ x) != low)).length + (l.dropWhile (fun y => decide (y ≤ x) != low)).length = l.length := by
      rw [← List.length_append, List.takeWhile_append_dropWhile]
    simp only [List.length_cons] at h
    rw [rotb, List.length_append, List.length_cons, rotb_length x low f _ (by omega), List.length_cons]
    omega

theorem drop_len (p : Int → Bool) (l : List Int) : (l.dropWhile p).length ≤ l.length := by
  have h1 : (l.takeWhile p).length + (l.dropWhile p).length = l.length := by rw [← List.length_append, List.takeWhile_append_dropWhile]
  omega

theorem rotb_fuel (x : Int) (low : Bool) : ∀ (f g : Nat) (l : List Int), l.length ≤ f → l.length ≤ g → rotb x low f l = rotb x low g l
  | 0, 0, _, _, _ => rfl
  | 0, g + 1, [], _, _ => rfl
  | f + 1, 0, [], _, _ => rfl
  | f + 1, g + 1, [], _, _ => rfl
  | 0, _ + 1, _ :: _, h, _ => by simp at h
  | _ + 1, 0, _ :: _, _, h => by simp at h
  | f + 1, g + 1, a :: l, h, h' => by
    simp only [List.length_cons] at h h'
    have := drop_len (fun y => decide (y ≤ x) != low) l
    rw [rotb, rotb, rotb_fuel x low f g _ (by omega) (by omega)]

def rot (x : Int) (low : Bool) (l : List Int) : List Int := rotb x low l.length l

theorem rot_cons (x : Int) (low : Bool) (a : Int) (l : List Int) : rot x low (a :: l) = l.takeWhile (fun y => decide (y ≤ x) != low) ++ a :: rot x low (l.dropWhile fun y => decide (y ≤ x) != low) := by
  unfold rot
  have := drop_len (fun y => decide (y ≤ x) != low) l
  rw [List.length_cons, rotb, rotb_fuel x low l.length _ _ this (Nat.le_refl _)]

@[simp] theorem rot_length (x : Int) (low : Bool) (l : List Int) : (rot x low l).length = l.length := rotb_length x low _ l (Nat.le_refl _)
@[simp] theorem rot_nil (x : Int) (low : Bool) : rot x low [] = [] := rfl

theorem while_cut {p : Int → Bool} : ∀ {l : List Int} {m : Nat}, m ≤ l.length → (∀ j, j < m → p (l.getD j 0) = true) → (m = l.length ∨ p (l.getD m 0) = false) → l.takeWhile p = l.take m ∧ l.dropWhile p = l.drop m
  | [], m, hm, _, _ => by simp
  | a :: l, 0, _, _, h => by
    have h : p a = false := by simpa using h
    simp [h]
  | a :: l, m + 1, hm, h1, h2 => by
    have h0 := h1 0 (by omega)
    simp at h0
    have := while_cut (p := p) (l := l) (m := m) (by simpa using hm) (fun j hj => by simpa using h1 (j + 1) (by omega)) (by simpa using h2)
    simp [h0, this.1, this.2]

def headLow (u : List Int) (x : Int) : Bool := decide (u.getD 0 0 ≤ x)

def unf : Nat → List Int → List Int
  | 0, _ => []
  | f + 1, v => if v = [] then [] else unf f (rot (v.getD (v.length - 1) 0) (headLow v.dropLast (v.getD (v.length - 1) 0)) v.dropLast) ++ [v.getD (v.length - 1) 0]

/-- P8, back. -/
def unfO (v : List Int) : List Int := unf v.length v

theorem unfO_nil : unfO [] = [] := rfl
theorem unfO_concat (u : List Int) (x : Int) : unfO (u ++ [x]) = unfO (rot x (headLow u x) u) ++ [x] := by
  unfold unfO
  rw [List.length_append, List.length_cons, List.length_nil, unf, if_neg (by simp)]
  have e1 : (u ++ [x]).getD ((u ++ [x]).length - 1) 0 = x := by
    rw [List.getD_eq_getElem?_getD]; simp
  rw [e1, List.dropLast_concat, rot_length]

theorem unfO_length : ∀ (n : Nat) (v : List Int), v.length = n → (unfO v).length = n
  | 0, v, h => by rw [List.length_eq_zero_iff.1 h]; rfl
  | n + 1, v, h => by
    have hne : v ≠ [] := by intro e; rw [e] at h; simp at h
    obtain ⟨u, x, rfl⟩ : ∃ u x, v = u ++ [x] := ⟨v.dropLast, v.getLast hne, (List.dropLast_concat_getLast hne).symm⟩
    rw [unfO_concat, List.length_append, unfO_length n _ (by simpa using h)]; rfl

theorem unfO_short {v : List Int} (h : v.length ≤ 1) : unfO v = v := by
  match v, h with
  | [], _ => rfl
  | [a], _ => exact unfO_concat [] a
  | _ :: _ :: _, h => simp at h

theorem split3 {l : List Int} {i j : Nat} (h : i < j) (hj : j ≤ l.length) : l = l.take i ++ l.getD i 0 :: ((l.take j).drop (i + 1) ++ l.drop j) := by
  have h1 : l.drop i = l.getD i 0 :: l.drop (i + 1) := drop_pred_getD 0 (by omega)
  have h2 : (l.take j).drop (i + 1) ++ l.drop j = l.drop (i + 1) := by
    have : l.drop (i + 1) = (l.take j ++ l.drop j).drop (i + 1) := by rw [List.take_append_drop]
    rw [this, List.drop_append_of_le_length (by rw [List.length_take]; omega)]
  rw [h2, ← h1, List.take_append_drop]

/-- One block more. -/
theorem rot_block {x : Int} {low : Bool} {l : List Int} {i j n : Nat} (hij : i < j) (hjn : j ≤ n) (hn : n ≤ l.length) (h1 : ∀ m, i + 1 ≤ m → m < j → (decide (l.getD m 0 ≤ x) != low) = true) (h2 : j = n ∨ (decide (l.getD j 0 ≤ x) != low) = false) :
    rot x low ((l.take n).drop i) = (l.take j).drop (i + 1) ++ l.getD i 0 :: rot x low ((l.take n).drop j) := by
  have hl : (l.take n).length = n := by rw [List.length_take]; omega
  have hg : ∀ m, m < n → (l.take n).getD m 0 = l.getD m 0 := fun m hm => by simp only [List.getD_eq_getElem?_getD, List.getElem?_take, if_pos hm]
  rw [drop_pred_getD (l := l.take n) 0 (by omega), rot_cons, hg i (by omega)]
  have hw := while_cut (p := fun y => decide (y ≤ x) != low) (l := (l.take n).drop (i + 1)) (m := j - (i + 1)) (by rw [List.length_drop, hl]; omega)
    (fun m hm => by rw [drop_getD, hg _ (by omega)]; exact h1 _ (by omega) (by omega))
    (by
      rcases h2 with h2 | h2
      · left; rw [List.length_drop, hl]; omega
      · by_cases e : j = n
        · left; rw [List.length_drop, hl]; omega
        · right; rw [drop_getD, show i + 1 + (j - (i + 1)) = j by omega, hg _ (by omega)]; exact h2)
  rw [hw.1, hw.2, List.drop_drop, show i + 1 + (j - (i + 1)) = j by omega]
  congr 1
  rw [List.drop_take, List.take_take, List.drop_take, show min (j - (i + 1)) (n - (i + 1)) = j - (i + 1) by omega]

end Fer

/- Plain facts: the cycles of a permutation. No program in sight. -/
namespace Fer

/-- What p makes of y. -/
def sg (p : List Int) (y : Int) : Int := p.getD (y - 1).toNat 0
def it (p : List Int) (y : Int) : Nat → Int
  | 0 => y
  | j + 1 => sg p (it p y j)

def IsRet (p : List Int) (y : Int) (r : Nat) : Prop := 0 < r ∧ it p y r = y ∧ ∀ d, 0 < d → d < r → it p y d ≠ y

theorem leastNat {P : Nat → Prop} : ∀ n, P n → ∃ r, r ≤ n ∧ P r ∧ ∀ d, d < r → ¬ P d := by
  intro n
  induction n using Nat.strongRecOn with
  | _ n ih =>
    intro h
    by_cases c : ∃ d, d < n ∧ P d
    · obtain ⟨d, hd, hp⟩ := c
      obtain ⟨r, h1, h2, h3⟩ := ih d hd hp
      exact ⟨r, by omega, h2, h3⟩
    · exact ⟨n, Nat.le_refl _, h, fun d hd hp => c ⟨d, hd, hp⟩⟩

theorem sg_rng {p : List Int} (h : permE p = 0) {y : Int} (h1 : 1 ≤ y) (h2 : y ≤ p.length) : 1 ≤ sg p y ∧ sg p y ≤ p.length :=
  (permE_zero h).2.2.2 _ (getD_mem 0 (by omega))

theorem sg_inj {p : List Int} (h : permE p = 0) {y z : Int} (h1 : 1 ≤ y) (h2 : y ≤ p.length) (h3 : 1 ≤ z) (h4 : z ≤ p.length) (e : sg p y = sg p z) : y = z := by
  have hn := (permE_zero h).2.2.1
  unfold sg at e
  by_cases c : (y - 1).toNat < (z - 1).toNat
  · exact absurd e (nodup_getD hn c (by omega))
  · by_cases c' : (z - 1).toNat < (y - 1).toNat
    · exact absurd e.symm (nodup_getD hn c' (by omega))
    · omega

theorem it_rng {p : List Int} (h : permE p = 0) {y : Int} (h1 : 1 ≤ y) (h2 : y ≤ p.length) : ∀ j, 1 ≤ it p y j ∧ it p y j ≤ p.length
  | 0 => ⟨h1, h2⟩
  | j + 1 => sg_rng h (it_rng h h1 h2 j).1 (it_rng h h1 h2 j).2

theorem it_add (p : List Int) (y : Int) (a : Nat) : ∀ b, it p (it p y a) b = it p y (a + b)
  | 0 => rfl
  | b + 1 => by show sg p _ = sg p (it p y (a + b)); rw [it_add p y a b]

theorem it_back {p : List Int} (h : permE p = 0) {y : Int} (h1 : 1 ≤ y) (h2 : y ≤ p.length) (d : Nat) : ∀ a, it p y a = it p y (a + d) → y = it p y d
  | 0, e => by rw [Nat.zero_add] at e; exact e
  | a + 1, e => by
    rw [show a + 1 + d = (a + d) + 1 by omega] at e
    exact it_back h h1 h2 d a (sg_inj h (it_rng h h1 h2 _).1 (it_rng h h1 h2 _).2 (it_rng h h1 h2 _).1 (it_rng h h1 h2 _).2 e)

theorem it_returns {p : List Int} (h : permE p = 0) {y : Int} (h1 : 1 ≤ y) (h2 : y ≤ p.length) : ∃ d, 0 < d ∧ d ≤ p.length ∧ it p y d = y := by
  refine Classical.byContradiction fun hc => ?_
  have hd : ∀ d, 0 < d → d ≤ p.length → it p y d ≠ y := fun d a b e => hc ⟨d, a, b, e⟩
  have hn : ((List.range (p.length + 1)).map (it p y)).Nodup := by
    refine List.pairwise_map.2 (List.Pairwise.imp_of_mem ?_ (List.pairwise_lt_range (n := p.length + 1)))
    intro a b ha hb hab e
    rw [List.mem_range] at ha hb
    rw [show b = a + (b - a) by omega] at e
    exact hd (b - a) (by omega) (by omega) (it_back h h1 h2 _ _ e).symm
  have := nodup_len _ (iota p.length) hn fun x hx => by
    obtain ⟨j, _, rfl⟩ := List.mem_map.1 hx
    exact mem_iota.2 (it_rng h h1 h2 j)
  simp at this
  omega

noncomputable def ret (p : List Int) (y : Int) : Nat := Classical.epsilon (IsRet p y)

theorem ret_spec {p : List Int} (h : permE p = 0) {y : Int} (h1 : 1 ≤ y) (h2 : y ≤ p.length) : IsRet p y (ret p y) ∧ ret p y ≤ p.length := by
  obtain ⟨d, d0, d1, d2⟩ := it_returns h h1 h2
  obtain ⟨r, r1, r2, r3⟩ := leastNat (P := fun d => 0 < d ∧ it p y d = y) d ⟨d0, d2⟩
  have hr : IsRet p y r := ⟨r2.1, r2.2, fun d a b e => r3 d b ⟨a, e⟩⟩
  have hs : IsRet p y (ret p y) := Classical.epsilon_spec ⟨r, hr⟩
  refine ⟨hs, ?_⟩
  by_cases c : ret p y ≤ r
  · omega
  · exact absurd hr.2.1 (hs.2.2 r hr.1 (by omega))

theorem ret_of {p : List Int} (h : permE p = 0) {y : Int} (h1 : 1 ≤ y) (h2 : y ≤ p.length) {r : Nat} (hr : IsRet p y r) : ret p y = r := by
  have hs := (ret_spec h h1 h2).1
  by_cases c : ret p y < r
  · exact absurd hs.2.1 (hr.2.2 _ hs.1 c)
  · by_cases c' : r < ret p y
    · exact absurd hr.2.1 (hs.2.2 _ hr.1 c')
    · omega

noncomputable def cyc (p : List Int) (y : Int) : List Int := (List.range (ret p y)).map (it p y)

theorem it_mod {p : List Int} (h : permE p = 0) {y : Int} (h1 : 1 ≤ y) (h2 : y ≤ p.length) : ∀ j, ∃ i, i < ret p y ∧ it p y j = it p y i := by
  intro j
  have hs := (ret_spec h h1 h2).1
  induction j using Nat.strongRecOn with
  | _ j ih =>
    by_cases c : j < ret p y
    · exact ⟨j, c, rfl⟩
    · have hp := hs.1
      obtain ⟨i, hi, e⟩ := ih (j - ret p y) (by omega)
      refine ⟨i, hi, ?_⟩
      rw [← e, show j = ret p y + (j - ret p y) by omega, ← it_add, hs.2.1, show ret p y + (j - ret p y) - ret p y = j - ret p y by omega]

theorem mem_cyc {p : List Int} (h : permE p = 0) {y : Int} (h1 : 1 ≤ y) (h2 : y ≤ p.length) {x : Int} : x ∈ cyc p y ↔ ∃ j, it p y j = x := by
  unfold cyc
  rw [List.mem_map]
  constructor
  · rintro ⟨j, _, e⟩; exact ⟨j, e⟩
  · rintro ⟨j, e⟩
    obtain ⟨i, hi, e'⟩ := it_mod h h1 h2 j
    exact ⟨i, List.mem_range.2 hi, e'.symm.trans e⟩

theorem cyc_rng {p : List Int} (h : permE p = 0) {y : Int} (h1 : 1 ≤ y) (h2 : y ≤ p.length) {x : Int} (hx : x ∈ cyc p y) : 1 ≤ x ∧ x ≤ p.length := by
  obtain ⟨j, rfl⟩ := (mem_cyc h h1 h2).1 hx
  exact it_rng h h1 h2 j

theorem cyc_symm {p : List Int} (h : permE p = 0) {y : Int} (h1 : 1 ≤ y) (h2 : y ≤ p.length) {x : Int} (hx : x ∈ cyc p y) : y ∈ cyc p x := by
  have hr := cyc_rng h h1 h2 hx
  obtain ⟨j, e⟩ := (mem_cyc h h1 h2).1 hx
  obtain ⟨i, hi, e'⟩ := it_mod h h1 h2 j
  refine (mem_cyc h hr.1 hr.2).2 ⟨ret p y - i, ?_⟩
  rw [← e, e', it_add, show i + (ret p y - i) = ret p y by omega]
  exact (ret_spec h h1 h2).1.2.1

theorem cyc_trans {p : List Int} (h : permE p = 0) {y : Int} (h1 : 1 ≤ y) (h2 : y ≤ p.length) {x z : Int} (hx : x ∈ cyc p y) (hz : z ∈ cyc p x) : z ∈ cyc p y := by
  have hr := cyc_rng h h1 h2 hx
  obtain ⟨j, e⟩ := (mem_cyc h h1 h2).1 hx
  obtain ⟨i, e'⟩ := (mem_cyc h hr.1 hr.2).1 hz
  exact (mem_cyc h h1 h2).2 ⟨j + i, by rw [← it_add, e, e']⟩

theorem it_ne {p : List Int} (h : permE p = 0) {y : Int} (h1 : 1 ≤ y) (h2 : y ≤ p.length) {i j : Nat} (hij : i < j) (hj : j < ret p y) : it p y i ≠ it p y j := by
  intro e
  rw [show j = i + (j - i) by omega] at e
  exact (ret_spec h h1 h2).1.2.2 (j - i) (by omega) (by omega) (it_back h h1 h2 _ _ e).symm

/-- The first of a cycle as Rounds writes it: its greatest. -/
noncomputable def isTop (p : List Int) (y : Int) : Bool := decide (∀ x ∈ cyc p y, x ≤ y)

noncomputable def tops (p l : List Int) : List (List Int) := (l.filter (isTop p)).map (cyc p)
noncomputable def rounds (p : List Int) : List Int := (tops p (iota p.length)).flatten

theorem tops_append (p l m : List Int) : tops p (l ++ m) = tops p l ++ tops p m := by simp [tops]
theorem tops_one (p : List Int) (y : Int) : tops p [y] = if isTop p y then [cyc p y] else [] := by
  unfold tops
  cases h : isTop p y <;> simp [h]

theorem cyc_length {p : List Int} (h : permE p = 0) {y : Int} (h1 : 1 ≤ y) (h2 : y ≤ p.length) : (cyc p y).length = ret p y := by simp [cyc]

theorem iota_drop {m : Nat} {n : Nat} (h : n < m) : (iota m).drop n = ((n : Int) + 1) :: (iota m).drop (n + 1) := by
  rw [drop_pred_getD 0 (by simpa using h), iota_getD h]

/-! All cycles together are no longer than p. -/

theorem flat_le (p : List Int) (h : permE p = 0) : ∀ l : List Int, l.Nodup → (∀ y ∈ l, 1 ≤ y ∧ y ≤ p.length) → ((tops p l).flatten).length ≤ p.length := by
  have key : ∀ l : List Int, l.Nodup → (∀ y ∈ l, 1 ≤ y ∧ y ≤ p.length) → (tops p l).flatten.Nodup ∧ ∀ x ∈ (tops p l).flatten, ∃ y ∈ l, isTop p y = true ∧ x ∈ cyc p y := by
    intro l
    induction l with
    | nil => intro _ _; simp [tops]
    | cons a l ih =>
      intro hn hr
      rw [List.nodup_cons] at hn
      obtain ⟨i1, i2⟩ := ih hn.2 fun y hy => hr y (List.mem_cons_of_mem _ hy)
      have ha := hr a (List.mem_cons_self ..)
      rw [show a :: l = [a] ++ l from rfl, tops_append, tops_one]
      by_cases c : isTop p a = true
      · rw [if_pos c, List.flatten_append, List.flatten_singleton]
        constructor
        · refine List.nodup_append.2 ⟨?_, i1, ?_⟩
          · refine List.pairwise_map.2 (List.Pairwise.imp_of_mem ?_ List.pairwise_lt_range)
            intro i j hi hj hij
            exact it_ne h ha.1 ha.2 hij (List.mem_range.1 hj)
          · intro x hx x' hx' e
            subst e
            obtain ⟨y, hy, ty, hxy⟩ := i2 x hx'
            have hyr := hr y (List.mem_cons_of_mem _ hy)
            have e1 : a ∈ cyc p y := cyc_trans h hyr.1 hyr.2 hxy (cyc_symm h ha.1 ha.2 hx)
            have e2 : y ∈ cyc p a := cyc_symm h hyr.1 hyr.2 e1
            simp only [isTop, decide_eq_true_eq] at c ty
            have := c y e2
            have := ty a e1
            exact hn.1 (by rw [show a = y by omega]; exact hy)
        · intro x hx
          rcases List.mem_append.1 hx with hx | hx
          · exact ⟨a, List.mem_cons_self .., c, hx⟩
          · obtain ⟨y, hy, r⟩ := i2 x hx
            exact ⟨y, List.mem_cons_of_mem _ hy, r⟩
      · rw [if_neg c]
        refine ⟨i1, fun x hx => ?_⟩
        obtain ⟨y, hy, r⟩ := i2 x hx
        exact ⟨y, List.mem_cons_of_mem _ hy, r⟩
  intro l hn hr
  obtain ⟨k1, k2⟩ := key l hn hr
  have := nodup_len _ (iota p.length) k1 fun x hx => by
    obtain ⟨y, hy, _, hxy⟩ := k2 x hx
    exact mem_iota.2 (cyc_rng h (hr y hy).1 (hr y hy).2 hxy)
  simpa using this

/-! ### Back -/

/-- Where the cycle that holds place i begins. -/
def fi (q : List Int) : Nat → Nat
  | 0 => 0
  | i + 1 => if q.getD (fi q i) 0 < q.getD (i + 1) 0 then i + 1 else fi q i
def nx (q : List Int) (k : Nat) : Int := if k + 1 < q.length ∧ ¬ q.getD (fi q k) 0 < q.getD (k + 1) 0 then q.getD (k + 1) 0 else q.getD (fi q k) 0
def unrO (q : List Int) : Nat → List Int
  | 0 => List.replicate q.length 0
  | k + 1 => (unrO q k).set (q.getD k 0 - 1).toNat (nx q k)

@[simp] theorem unrO_length (q : List Int) : ∀ k, (unrO q k).length = q.length
  | 0 => by simp [unrO]
  | k + 1 => by simp [unrO, unrO_length q k]

theorem fi_le (q : List Int) : ∀ i, fi q i ≤ i
  | 0 => Nat.le_refl _
  | i + 1 => by
    have := fi_le q i
    simp only [fi]; split <;> omega

theorem fi_run {q : List Int} {i : Nat} (h : fi q i = i) : ∀ d, (∀ k, i < k → k ≤ i + d → q.getD k 0 < q.getD i 0) → fi q (i + d) = i
  | 0, _ => h
  | d + 1, hk => by
    have e := fi_run h d fun k a b => hk k a (by omega)
    have := hk (i + d + 1) (by omega) (by omega)
    show (if q.getD (fi q (i + d)) 0 < q.getD (i + d + 1) 0 then i + d + 1 else fi q (i + d)) = i
    rw [e, if_neg (by omega)]

end Fer

/- Plain facts: tables, sums, alternating signs. No program in sight. -/
namespace Fer

theorem sumZ_le (p : List Int) (hb : ∀ x ∈ p, -1000000 ≤ x ∧ x ≤ 1000000) : ∀ i : Nat, -(1000000 * (p.length : Int)) ≤ (p.take i).sum ∧ (p.take i).sum ≤ 1000000 * (p.length : Int) := by
  induction p with
  | nil => intro i; simp
  | cons a p ih =>
    intro i
    have ha := hb a (List.mem_cons_self ..)
    cases i with
    | zero => simp only [List.take_zero, List.sum_nil, List.length_cons]; omega
    | succ i =>
      have := ih (fun x hx => hb x (List.mem_cons_of_mem _ hx)) i
      simp only [List.take_succ_cons, List.sum_cons, List.length_cons]
      omega

/-- Rows and columns change places. -/
def across (m : List (List Int)) : List (List Int) := (List.range (m.getD 0 []).length).map fun j => (m.takeWhile fun r => decide (j < r.length)).map fun r => r.getD j 0

def acol (m : List (List Int)) (j : Nat) : List Int := (m.takeWhile fun r => decide (j < r.length)).map fun r => r.getD j 0

theorem across_getD {m : List (List Int)} {j : Nat} (h : j < (m.getD 0 []).length) : (across m).getD j [] = acol m j := by
  unfold across acol
  rw [getD_lt [] (by simpa using h)]
  simp

theorem while_cutG {α : Type} {p : α → Bool} (d : α) : ∀ {l : List α} {m : Nat}, m ≤ l.length → (∀ j, j < m → p (l.getD j d) = true) → (m = l.length ∨ p (l.getD m d) = false) → l.takeWhile p = l.take m
  | [], m, hm, _, _ => by simp
  | a :: l, 0, _, _, h => by
    rcases h with h | h
    · simp at h
    · have : p a = false := h
      simp [this]
  | a :: l, m + 1, hm, h1, h2 => by
    have h0 : p a = true := h1 0 (by omega)
    rw [List.takeWhile_cons, if_pos h0, List.take_succ_cons]
    congr 1
    refine while_cutG d (by simpa using hm) (fun j hj => h1 (j + 1) (by omega)) ?_
    rcases h2 with h2 | h2
    · exact .inl (by simpa using h2)
    · exact .inr h2

theorem append_getD {l m : List Int} {k : Nat} : (l ++ m).getD k 0 = if k < l.length then l.getD k 0 else m.getD (k - l.length) 0 := by
  simp only [List.getD_eq_getElem?_getD, List.getElem?_append]
  split <;> rfl

end Fer

/- Plain facts: alternating signs, their corner sums. No program in sight. -/
namespace Fer

def altOK (l : List Int) : Prop := (∀ j, j ≤ l.length → 0 ≤ (l.take j).sum ∧ (l.take j).sum ≤ 1) ∧ l.sum = 1
def colL (m : List (List Int)) (j : Nat) : List Int := m.map fun r => r.getD j 0
def signOK (m : List (List Int)) : Prop := 1 ≤ m.length ∧ m.length ≤ 7 ∧ (∀ i, i < m.length → (m.getD i []).length = m.length ∧ altOK (m.getD i [])) ∧ ∀ j, j < m.length → altOK (colL m j)
noncomputable def altB (l : List Int) : Bool := @decide (altOK l) (Classical.propDecidable _)
noncomputable def signB (m : List (List Int)) : Bool := @decide (signOK m) (Classical.propDecidable _)
noncomputable def signE (m : List (List Int)) : Int := @ite _ (signOK m) (Classical.propDecidable _) 0 1

theorem altB_true {l : List Int} (h : altOK l) : altB l = true := @decide_eq_true _ (Classical.propDecidable _) h
theorem altB_false {l : List Int} (h : ¬ altOK l) : altB l = false := @decide_eq_false _ (Classical.propDecidable _) h
theorem of_altB {l : List Int} (h : altB l = true) : altOK l := @of_decide_eq_true _ (Classical.propDecidable _) h
theorem not_altB {l : List Int} (h : altB l = false) : ¬ altOK l := @of_decide_eq_false _ (Classical.propDecidable _) h
theorem signB_true {m : List (List Int)} (h : signOK m) : signB m = true := @decide_eq_true _ (Classical.propDecidable _) h
theorem signB_false {m : List (List Int)} (h : ¬ signOK m) : signB m = false := @decide_eq_false _ (Classical.propDecidable _) h
theorem of_signB {m : List (List Int)} (h : signB m = true) : signOK m := @of_decide_eq_true _ (Classical.propDecidable _) h
theorem not_signB {m : List (List Int)} (h : signB m = false) : ¬ signOK m := @of_decide_eq_false _ (Classical.propDecidable _) h
theorem signE_zero {m : List (List Int)} (h : signOK m) : signE m = 0 := if_pos h
theorem signE_one {m : List (List Int)} (h : ¬ signOK m) : signE m = 1 := if_neg h
theorem signE_iff {m : List (List Int)} : signE m = 0 ↔ signOK m := by
  by_cases h : signOK m
  · simp [signE_zero h, h]
  · simp [signE_one h, h]
theorem signE_cases (m : List (List Int)) : signE m = 0 ∨ signE m = 1 := by
  by_cases h : signOK m
  · exact .inl (signE_zero h)
  · exact .inr (signE_one h)

/-- Sum of the first numbers of a column. -/
def cp (m : List (List Int)) (a j : Nat) : Int := ((m.take a).map fun r => r.getD j 0).sum

theorem cp_zero (m : List (List Int)) (j : Nat) : cp m 0 j = 0 := rfl
theorem cp_succ {m : List (List Int)} {a : Nat} (j : Nat) (h : a < m.length) : cp m (a + 1) j = cp m a j + (m.getD a []).getD j 0 := by
  unfold cp
  rw [take_succ_getD [] h, List.map_append, List.sum_append]
  simp
theorem colL_take (m : List (List Int)) (a j : Nat) : ((colL m j).take a).sum = cp m a j := by
  unfold colL cp
  rw [← List.map_take]
theorem colL_sum (m : List (List Int)) (j : Nat) : (colL m j).sum = cp m m.length j := by
  rw [← colL_take, List.take_of_length_le (by simp [colL])]
theorem alt_col {m : List (List Int)} {j : Nat} : altOK (colL m j) ↔ (∀ a, a ≤ m.length → 0 ≤ cp m a j ∧ cp m a j ≤ 1) ∧ cp m m.length j = 1 := by
  unfold altOK
  rw [colL_sum]
  simp only [colL_take]
  rw [show (colL m j).length = m.length by simp [colL]]

theorem acol_eq {m : List (List Int)} {j : Nat} (h : ∀ i, i < m.length → j < (m.getD i []).length) : acol m j = colL m j := by
  unfold acol colL
  rw [while_cutG [] (l := m) (m := m.length) (Nat.le_refl _) (fun a ha => decide_eq_true (h a ha)) (.inl rfl), List.take_length]

/-! ### Tables by numbers -/

def mat (k : Nat) (f : Nat → Nat → Int) : List (List Int) := (List.range k).map fun i => (List.range k).map (f i)

theorem range_map_getD {α : Type} {k i : Nat} (f : Nat → α) (d : α) (h : i < k) : ((List.range k).map f).getD i d = f i := by
  rw [getD_lt d (by simpa using h)]
  simp
@[simp] theorem mat_length (k : Nat) (f : Nat → Nat → Int) : (mat k f).length = k := by simp [mat]
theorem mat_row {k i : Nat} (f : Nat → Nat → Int) (h : i < k) : (mat k f).getD i [] = (List.range k).map (f i) := range_map_getD _ _ h
theorem mat_cell {k i j : Nat} (f : Nat → Nat → Int) (h : i < k) (h' : j < k) : ((mat k f).getD i []).getD j 0 = f i j := by
  rw [mat_row f h, range_map_getD _ _ h']
theorem mat_of {k : Nat} {f : Nat → Nat → Int} {c : List (List Int)} (h0 : c.length = k) (h1 : ∀ i, i < k → (c.getD i []).length = k) (h2 : ∀ i, i < k → ∀ j, j < k → (c.getD i []).getD j 0 = f i j) : c = mat k f := by
  refine ext_getD [] (by simp [h0]) fun i hi => ?_
  rw [mat_row f (by omega)]
  refine ext_getD 0 (by rw [h1 i (by omega)]; simp) fun j hj => ?_
  have := h1 i (by omega)
  rw [range_map_getD _ _ (by omega), h2 i (by omega) j (by omega)]
theorem mat_congr {k : Nat} {f g : Nat → Nat → Int} (h : ∀ i, i < k → ∀ j, j < k → f i j = g i j) : mat k f = mat k g :=
  mat_of (mat_length ..) (fun i hi => by rw [mat_row f hi]; simp) fun i hi j hj => by rw [mat_cell f hi hj, h i hi j hj]
theorem range_map_succ {α : Type} (f : Nat → α) (k : Nat) : (List.range (k + 1)).map f = (List.range k).map f ++ [f k] := by
  rw [List.range_succ, List.map_append]; rfl

/-- What stands above and left of a corner. -/
def cs (m : List (List Int)) (i j : Nat) : Int := sumTo (fun a => ((m.getD a []).take j).sum) i
def cornr (m : List (List Int)) : List (List Int) := mat (m.length + 1) (cs m)

theorem cs_succ (m : List (List Int)) (i j : Nat) : cs m (i + 1) j = cs m i j + ((m.getD i []).take j).sum := rfl

theorem cs_le {m : List (List Int)} (h : signOK m) {i j : Nat} (hi : i ≤ m.length) (hj : j ≤ m.length) : 0 ≤ cs m i j ∧ cs m i j ≤ i := by
  induction i with
  | zero => exact ⟨Int.le_refl _, Int.le_refl _⟩
  | succ i ih =>
    have := ih (by omega)
    obtain ⟨h1, h2⟩ := h.2.2.1 i (by omega)
    have := h2.1 j (by omega)
    rw [cs_succ]
    omega

/-- What is in a place, of its four corners. -/
def dd (c : List (List Int)) (a b : Nat) : Int := (c.getD (a + 1) []).getD (b + 1) 0 - (c.getD a []).getD (b + 1) 0 - (c.getD (a + 1) []).getD b 0 + (c.getD a []).getD b 0
def unc (c : List (List Int)) : List (List Int) := mat (c.length - 1) (dd c)
def okC (c : List (List Int)) : Prop := 2 ≤ c.length ∧ c.length ≤ 8 ∧ ∀ i, i < c.length → (c.getD i []).length = c.length ∧ ∀ j, j < c.length → 0 ≤ (c.getD i []).getD j 0 ∧ (c.getD i []).getD j 0 ≤ 7
noncomputable def ofC (c : List (List Int)) : List (List Int) := @ite _ (okC c) (Classical.propDecidable _) (unc c) []

theorem ofC_ok {c : List (List Int)} (h : okC c) : ofC c = unc c := if_pos h
theorem ofC_bad {c : List (List Int)} (h : ¬ okC c) : ofC c = [] := if_neg h

/-- Corner by corner. -/
def pw (op : Int → Int → Int) (c d : List (List Int)) : List (List Int) := mat c.length fun i j => op ((c.getD i []).getD j 0) ((d.getD i []).getD j 0)

theorem cornr_row {m : List (List Int)} {i : Nat} (h : i ≤ m.length) : (cornr m).getD i [] = (List.range (m.length + 1)).map (cs m i) := mat_row _ (by omega)
theorem cornr_cell {m : List (List Int)} {i j : Nat} (h : i ≤ m.length) (h' : j ≤ m.length) : ((cornr m).getD i []).getD j 0 = cs m i j := mat_cell _ (by omega) (by omega)
@[simp] theorem cornr_length (m : List (List Int)) : (cornr m).length = m.length + 1 := by simp [cornr]

theorem cornr_ok {m : List (List Int)} (h : signOK m) : okC (cornr m) := by
  obtain ⟨h1, h2, _⟩ := id h
  refine ⟨by simp; omega, by simp; omega, fun i hi => ?_⟩
  rw [cornr_length] at hi
  rw [cornr_row (by omega)]
  refine ⟨by simp, fun j hj => ?_⟩
  rw [cornr_length] at hj
  rw [range_map_getD _ _ hj]
  have := cs_le h (i := i) (j := j) (by omega) (by omega)
  omega

theorem pw_ok {op : Int → Int → Int} (hop : ∀ x y, op x y = x ∨ op x y = y) {a b : List (List Int)} (ha : signOK a) (hb : signOK b) (hab : a.length = b.length) : okC (pw op (cornr a) (cornr b)) := by
  obtain ⟨h1, h2, _⟩ := id ha
  unfold pw
  refine ⟨by simp; omega, by simp; omega, fun i hi => ?_⟩
  simp only [mat_length, cornr_length] at hi ⊢
  rw [mat_row _ hi]
  refine ⟨by simp, fun j hj => ?_⟩
  rw [range_map_getD _ _ hj, cornr_cell (by omega) (by omega), cornr_cell (by omega) (by omega)]
  have := cs_le ha (i := i) (j := j) (by omega) (by omega)
  have := cs_le hb (i := i) (j := j) (by omega) (by omega)
  rcases hop (cs a i j) (cs b i j) with e | e <;> rw [e] <;> omega

def bnd2 (most : Bool) (x y : Int) : Int := if decide (x < y) = most then y else x

theorem bnd_max (x y : Int) : bnd2 true x y = max x y := by
  unfold bnd2
  by_cases h : x < y
  · rw [if_pos (by simp [h])]; omega
  · rw [if_neg (by simp [h])]; omega
theorem bnd_min (x y : Int) : bnd2 false x y = min x y := by
  unfold bnd2
  by_cases h : x < y
  · rw [if_neg (by simp [h])]; omega
  · rw [if_pos (by simp [h])]; omega

/-- A square whose places hold what f tells. -/
def Upd (n : Nat) (c : List (List Int)) (f : Nat → Nat → Int) : Prop := c.length = n ∧ (∀ i, i < n → (c.getD i []).length = n) ∧ ∀ i, i < n → ∀ j, j < n → (c.getD i []).getD j 0 = f i j

theorem Upd.eq {n : Nat} {c : List (List Int)} {f : Nat → Nat → Int} (h : Upd n c f) : c = mat n f := mat_of h.1 h.2.1 h.2.2
theorem Upd.congr {n : Nat} {c : List (List Int)} {f g : Nat → Nat → Int} (h : Upd n c f) (e : ∀ i, i < n → ∀ j, j < n → f i j = g i j) : Upd n c g := ⟨h.1, h.2.1, fun i hi j hj => (h.2.2 i hi j hj).trans (e i hi j hj)⟩
theorem Upd.cornr (m : List (List Int)) : Upd (m.length + 1) (cornr m) (cs m) := ⟨cornr_length m, fun i hi => by rw [cornr_row (by omega)]; simp, fun i hi j hj => cornr_cell (by omega) (by omega)⟩
theorem Upd.set {n : Nat} {c : List (List Int)} {f : Nat → Nat → Int} (h : Upd n c f) {i j : Nat} (hi : i < n) (hj : j < n) (v : Int) : Upd n (c.set i ((c.getD i []).set j v)) (fun a b => if a = i ∧ b = j then v else f a b) := by
  obtain ⟨h0, h1, h2⟩ := h
  refine ⟨by rw [List.length_set]; exact h0, fun a ha => ?_, fun a ha b hb => ?_⟩
  · rw [getD_set_if [] (by omega)]
    split
    · rw [List.length_set]; exact h1 i hi
    · exact h1 a ha
  · dsimp only
    rw [getD_set_if [] (by omega)]
    by_cases e : a = i
    · subst e
      rw [if_pos rfl, getD_set_if 0 (by rw [h1 a hi]; exact hj)]
      by_cases e2 : b = j
      · rw [if_pos e2, if_pos ⟨rfl, e2⟩]
      · rw [if_neg e2, if_neg (fun h => e2 h.2)]; exact h2 a ha b hb
    · rw [if_neg e, if_neg (fun h => e h.1)]; exact h2 a ha b hb

theorem pw_eq (op : Int → Int → Int) {a b : List (List Int)} (h : a.length = b.length) : pw op (cornr a) (cornr b) = mat (a.length + 1) fun i j => op (cs a i j) (cs b i j) := by
  unfold pw
  rw [cornr_length]
  exact mat_congr fun i hi j hj => by rw [cornr_cell (by omega) (by omega), cornr_cell (by omega) (by omega)]

/-- Nowhere less. -/
def geq (c d : List (List Int)) : Prop := ∀ i, i < c.length → ∀ j, j < c.length → (d.getD i []).getD j 0 ≤ (c.getD i []).getD j 0
noncomputable def geqB (c d : List (List Int)) : Bool := @decide (geq c d) (Classical.propDecidable _)

theorem geqB_true {c d : List (List Int)} (h : geq c d) : geqB c d = true := @decide_eq_true _ (Classical.propDecidable _) h
theorem geqB_false {c d : List (List Int)} (h : ¬ geq c d) : geqB c d = false := @decide_eq_false _ (Classical.propDecidable _) h

theorem flatten_len {k : Nat} : ∀ l : List (List Int), (∀ i, i < l.length → (l.getD i []).length = k) → l.flatten.length = l.length * k
  | [], _ => by simp
  | r :: l, h => by
    have h0 : r.length = k := h 0 (by simp)
    have ih := flatten_len l fun i hi => h (i + 1) (by simp; omega)
    rw [List.flatten_cons, List.length_append, ih, h0, List.length_cons, Nat.add_mul]; omega
theorem cornr_flat (m : List (List Int)) : (cornr m).flatten.length = (m.length + 1) * (m.length + 1) := by
  rw [flatten_len (k := m.length + 1) _ fun i hi => (Upd.cornr m).2.1 i (by simpa using hi), cornr_length]

theorem flat_geq : ∀ (l m : List (List Int)), l.length = m.length → (∀ i, i < l.length → (l.getD i []).length = (m.getD i []).length) →
    ((∀ k, k < l.flatten.length → m.flatten.getD k 0 ≤ l.flatten.getD k 0) ↔ ∀ i, i < l.length → ∀ j, j < (l.getD i []).length → (m.getD i []).getD j 0 ≤ (l.getD i []).getD j 0)
  | [], [], _, _ => by simp
  | [], _ :: _, h, _ => by simp at h
  | _ :: _, [], h, _ => by simp at h
  | r :: l, q :: m, h, hr => by
    have h0 : r.length = q.length := hr 0 (by simp)
    have ih := flat_geq l m (by simpa using h) fun i hi => hr (i + 1) (by simp; omega)
    rw [List.flatten_cons, List.flatten_cons]
    constructor
    · intro hk i hi j hj
      cases i with
      | zero =>
        have hj : j < r.length := hj
        have := hk j (by rw [List.length_append]; omega)
        rw [append_getD, append_getD, if_pos (by omega), if_pos hj] at this
        exact this
      | succ i =>
        refine (ih.1 fun k hk2 => ?_) i (by simpa using hi) j hj
        have := hk (r.length + k) (by rw [List.length_append]; omega)
        rw [append_getD, append_getD, if_neg (by omega), if_neg (by omega), show r.length + k - q.length = k by omega, show r.length + k - r.length = k by omega] at this
        exact this
    · intro hij k hk
      rw [List.length_append] at hk
      rw [append_getD, append_getD]
      by_cases c : k < r.length
      · rw [if_pos (by omega), if_pos c]
        exact hij 0 (by simp) k c
      · rw [if_neg (by omega), if_neg c, h0]
        exact ih.2 (fun i hi j hj => hij (i + 1) (by simp; omega) j hj) (k - q.length) (by omega)

theorem geq_flat {a b : List (List Int)} (hab : a.length = b.length) : geq (cornr a) (cornr b) ↔ ∀ k, k < (cornr a).flatten.length → (cornr b).flatten.getD k 0 ≤ (cornr a).flatten.getD k 0 := by
  rw [flat_geq _ _ (by simp [hab]) fun i hi => by rw [cornr_length] at hi; rw [(Upd.cornr a).2.1 i (by omega), (Upd.cornr b).2.1 i (by omega), hab]]
  unfold geq
  constructor
  · intro h i hi j hj
    rw [cornr_length] at hi
    rw [(Upd.cornr a).2.1 i (by omega)] at hj
    exact h i (by simpa using hi) j (by simpa using hj)
  · intro h i hi j hj
    exact h i hi j (by rw [(Upd.cornr a).2.1 i (by simpa using hi)]; simpa using hj)

end Fer

/- Plain facts: triangles of alternating signs; what corner sums tell. No program in sight. -/
namespace Fer

def trow (m : List (List Int)) (a j : Nat) : List Int := ((List.range j).filter fun q => decide (cp m a q = 1)).map fun (q : Nat) => (q : Int) + 1
def tri (m : List (List Int)) : List (List Int) := (List.range m.length).map fun i => trow m (i + 1) m.length

theorem trow_succ (m : List (List Int)) (a j : Nat) : trow m a (j + 1) = trow m a j ++ if cp m a j = 1 then [(j : Int) + 1] else [] := by
  unfold trow
  rw [List.range_succ, List.filter_append, List.map_append]
  by_cases h : cp m a j = 1 <;> simp [h]
theorem trow_length (m : List (List Int)) (a j : Nat) : (trow m a j).length ≤ j := by
  unfold trow
  rw [List.length_map]
  exact Nat.le_trans (List.length_filter_le ..) (by simp)
@[simp] theorem tri_length (m : List (List Int)) : (tri m).length = m.length := by simp [tri]

theorem cp_le {m : List (List Int)} (h : signOK m) {a j : Nat} (ha : a ≤ m.length) (hj : j < m.length) : 0 ≤ cp m a j ∧ cp m a j ≤ 1 := (alt_col.1 (h.2.2.2 j hj)).1 a ha

/-! What four corners tell, told back. -/

theorem unc_row {c : List (List Int)} {a : Nat} (h : a + 1 < c.length) : (unc c).getD a [] = (List.range (c.length - 1)).map (dd c a) := mat_row _ (by omega)

theorem unc_take {c : List (List Int)} {a : Nat} (h : a + 1 < c.length) : ∀ j, j + 1 ≤ c.length → (((unc c).getD a []).take j).sum = (c.getD (a + 1) []).getD j 0 - (c.getD a []).getD j 0 - (c.getD (a + 1) []).getD 0 0 + (c.getD a []).getD 0 0
  | 0, _ => by simp only [List.take_zero, List.sum_nil]; omega
  | j + 1, hj => by
    have hl : ((unc c).getD a []).length = c.length - 1 := by rw [unc_row h]; simp
    rw [sum_take_succ (by omega), unc_take h j (by omega), unc_row h, range_map_getD _ _ (by omega)]
    unfold dd
    omega

theorem cs_unc {c : List (List Int)} {j : Nat} (hj : j + 1 ≤ c.length) : ∀ i, i + 1 ≤ c.length → cs (unc c) i j = (c.getD i []).getD j 0 - (c.getD 0 []).getD j 0 - (c.getD i []).getD 0 0 + (c.getD 0 []).getD 0 0
  | 0, _ => by unfold cs sumTo; omega
  | i + 1, hi => by
    rw [cs_succ, cs_unc hj i (by omega), unc_take (by omega) j hj]
    omega

def bordC (c : List (List Int)) : Prop := ∀ i, i < c.length → (c.getD i []).getD 0 0 = 0 ∧ (c.getD 0 []).getD i 0 = 0
def fcOK (c : List (List Int)) : Prop := okC c ∧ bordC c ∧ signOK (unc c)

theorem cornr_unc {c : List (List Int)} (h : okC c) (hb : bordC c) : cornr (unc c) = c := by
  have hl : (unc c).length + 1 = c.length := by have := h.1; simp only [unc, mat_length]; omega
  symm
  unfold cornr
  rw [hl]
  refine mat_of rfl (fun i hi => (h.2.2 i hi).1) fun i hi j hj => ?_
  rw [cs_unc (by omega) i (by omega)]
  have h1 := hb i hi
  have h2 := hb j hj
  have h3 := hb 0 (by omega)
  omega

theorem fcOK_iff {c : List (List Int)} : fcOK c ↔ okC c ∧ signOK (unc c) ∧ cornr (unc c) = c := by
  constructor
  · rintro ⟨h1, h2, h3⟩
    exact ⟨h1, h3, cornr_unc h1 h2⟩
  · rintro ⟨h1, h2, h3⟩
    refine ⟨h1, fun i hi => ?_, h2⟩
    have hl : (unc c).length + 1 = c.length := by have := h1.1; simp only [unc, mat_length]; omega
    have e1 := cornr_cell (m := unc c) (i := i) (j := 0) (by omega) (by omega)
    have e2 := cornr_cell (m := unc c) (i := 0) (j := i) (by omega) (by omega)
    rw [h3] at e1 e2
    constructor
    · rw [e1]
      clear e1 e2 h3 hi hl
      induction i with
      | zero => rfl
      | succ i ih => rw [cs_succ, ih]; simp
    · rw [e2]; rfl

end Fer

/- Plain facts: monotone triangles and alternating signs. No program in sight. -/
namespace Fer

def Inc (l : List Int) : Prop := l.Pairwise (· < ·)

theorem inc_getD {l : List Int} (h : Inc l) {i j : Nat} (hij : i < j) (hj : j < l.length) : l.getD i 0 < l.getD j 0 := by
  rw [getD_lt 0 (by omega), getD_lt 0 hj]
  exact List.pairwise_iff_getElem.1 h i j (by omega) hj hij
theorem inc_le {l : List Int} (h : Inc l) {i j : Nat} (hij : i ≤ j) (hj : j < l.length) : l.getD i 0 ≤ l.getD j 0 := by
  by_cases e : i = j
  · subst e; exact Int.le_refl _
  · exact Int.le_of_lt (inc_getD h (by omega) hj)
theorem inc_of {l : List Int} (h : ∀ j, j + 1 < l.length → l.getD j 0 < l.getD (j + 1) 0) : Inc l := by
  have key : ∀ d i, i + d + 1 < l.length → l.getD i 0 < l.getD (i + d + 1) 0 := by
    intro d
    induction d with
    | zero => intro i hi; exact h i hi
    | succ d ih => intro i hi; exact Int.lt_trans (ih i (by omega)) (h (i + d + 1) (by omega))
  refine List.pairwise_iff_getElem.2 fun i j hi hj hij => ?_
  have := key (j - i - 1) i (by omega)
  rw [show i + (j - i - 1) + 1 = j by omega, getD_lt 0 hi, getD_lt 0 hj] at this
  exact this
theorem inc_nodup {l : List Int} (h : Inc l) : l.Nodup := h.imp fun h e => by subst e; exact Int.lt_irrefl _ h

theorem inc_ext : ∀ {l m : List Int}, Inc l → Inc m → (∀ x, x ∈ l ↔ x ∈ m) → l = m
  | [], [], _, _, _ => rfl
  | [], y :: m, _, _, h => by have := (h y).2 (List.mem_cons_self ..); cases this
  | x :: l, [], _, _, h => by have := (h x).1 (List.mem_cons_self ..); cases this
  | x :: l, y :: m, hl, hm, h => by
    have hl' := List.pairwise_cons.1 hl
    have hm' := List.pairwise_cons.1 hm
    have e : x = y := by
      rcases List.mem_cons.1 ((h x).1 (List.mem_cons_self ..)) with e | e
      · exact e
      · rcases List.mem_cons.1 ((h y).2 (List.mem_cons_self ..)) with e2 | e2
        · exact e2.symm
        · have := hm'.1 x e
          have := hl'.1 y e2
          omega
    subst e
    congr 1
    refine inc_ext hl'.2 hm'.2 fun z => ⟨fun hz => ?_, fun hz => ?_⟩
    · rcases List.mem_cons.1 ((h z).1 (List.mem_cons_of_mem _ hz)) with e | e
      · have := hl'.1 z hz; omega
      · exact e
    · rcases List.mem_cons.1 ((h z).2 (List.mem_cons_of_mem _ hz)) with e | e
      · have := hm'.1 z hz; omega
      · exact e

/-- 1 if the number stands in the list, else 0. -/
def ind (r : List Int) (x : Int) : Int := if x ∈ r then 1 else 0
/-- How many of the numbers 1 to p stand in the list. -/
def cnt (r : List Int) (p : Nat) : Int := sumTo (fun q => ind r ((q : Int) + 1)) p

theorem ind_cases (r : List Int) (x : Int) : ind r x = 0 ∨ ind r x = 1 := by unfold ind; split <;> simp
theorem cnt_succ (r : List Int) (p : Nat) : cnt r (p + 1) = cnt r p + ind r ((p : Int) + 1) := rfl

theorem cnt_val {r : List Int} (hr : Inc r) (h1 : ∀ x ∈ r, 1 ≤ x) : ∀ (p c : Nat), c ≤ r.length → (∀ k, k < c → r.getD k 0 ≤ p) → (c = r.length ∨ (p : Int) < r.getD c 0) → cnt r p = c
  | 0, c, hc, h2, h3 => by
    by_cases e : c = 0
    · subst e; rfl
    · have := h2 0 (by omega)
      have := h1 _ (getD_mem 0 (show 0 < r.length by omega))
      omega
  | p + 1, c, hc, h2, h3 => by
    rw [cnt_succ]
    by_cases hm : ((p : Int) + 1) ∈ r
    · rw [show ind r ((p : Int) + 1) = 1 from if_pos hm]
      obtain ⟨k, hk, e⟩ := mem_getD 0 hm
      have hkc : k < c := by
        refine Classical.byContradiction fun hn => ?_
        rcases h3 with h3 | h3
        · omega
        · have := inc_le hr (show c ≤ k by omega) hk
          omega
      have hk1 : k = c - 1 := by
        refine Classical.byContradiction fun hn => ?_
        have := inc_getD hr (show k < c - 1 by omega) (by omega)
        have := h2 (c - 1) (by omega)
        omega
      subst hk1
      have := cnt_val hr h1 p (c - 1) (by omega) (fun k hk => by have := inc_getD hr hk (by omega); omega) (.inr (by omega))
      omega
    · rw [show ind r ((p : Int) + 1) = 0 from if_neg hm]
      have := cnt_val hr h1 p c hc (fun k hk => by
        have h4 := h2 k hk
        have : r.getD k 0 ≠ (p : Int) + 1 := fun e => hm (e ▸ getD_mem 0 (by omega))
        omega) (by
        rcases h3 with h3 | h3
        · exact .inl h3
        · exact .inr (by omega))
      omega

theorem cnt_spec {r : List Int} (hr : Inc r) (h1 : ∀ x ∈ r, 1 ≤ x) (p : Nat) : ∃ c, c ≤ r.length ∧ cnt r p = c ∧ (∀ k, k < c → r.getD k 0 ≤ p) ∧ (c = r.length ∨ (p : Int) < r.getD c 0) := by
  obtain ⟨c, hc, h2, h3⟩ := leastNat (P := fun c => c = r.length ∨ (p : Int) < r.getD c 0) r.length (.inl rfl)
  have h4 : ∀ k, k < c → r.getD k 0 ≤ p := fun k hk => by
    have := h3 k hk
    omega
  exact ⟨c, hc, cnt_val hr h1 p c hc h4 h2, h4, h2⟩

/-! ### Triangles -/

def ot (t : List (List Int)) (i q : Nat) : Int := ind (t.getD i []) ((q : Int) + 1) - if i = 0 then 0 else ind (t.getD (i - 1) []) ((q : Int) + 1)
def ofT (t : List (List Int)) : List (List Int) := mat t.length (ot t)

def trRow (t : List (List Int)) (i : Nat) : Prop := (t.getD i []).length = i + 1 ∧ ∀ j, j ≤ i → (1 ≤ (t.getD i []).getD j 0 ∧ (t.getD i []).getD j 0 ≤ t.length) ∧
  (0 < j → (t.getD i []).getD (j - 1) 0 < (t.getD i []).getD j 0 ∧ (t.getD i []).getD (j - 1) 0 ≤ (t.getD (i - 1) []).getD (j - 1) 0 ∧ (t.getD (i - 1) []).getD (j - 1) 0 ≤ (t.getD i []).getD j 0)
def trOK (t : List (List Int)) : Prop := 1 ≤ t.length ∧ t.length ≤ 7 ∧ ∀ i, i < t.length → trRow t i

theorem trRow_inc {t : List (List Int)} {i : Nat} (h : trRow t i) : Inc (t.getD i []) :=
  inc_of fun j hj => (h.2 (j + 1) (by have := h.1; omega)).2 (by omega) |>.1
theorem trRow_mem {t : List (List Int)} {i : Nat} (h : trRow t i) {x : Int} (hx : x ∈ t.getD i []) : 1 ≤ x ∧ x ≤ t.length := by
  obtain ⟨j, hj, rfl⟩ := mem_getD 0 hx
  exact (h.2 j (by have := h.1; omega)).1

@[simp] theorem ofT_length (t : List (List Int)) : (ofT t).length = t.length := by simp [ofT]
theorem ofT_row {t : List (List Int)} {i : Nat} (h : i < t.length) : (ofT t).getD i [] = (List.range t.length).map (ot t i) := mat_row _ h
theorem ofT_cell {t : List (List Int)} {i q : Nat} (h : i < t.length) (h' : q < t.length) : ((ofT t).getD i []).getD q 0 = ot t i q := mat_cell _ h h'

theorem ofT_take {t : List (List Int)} {i : Nat} (h : i < t.length) : ∀ p, p ≤ t.length → (((ofT t).getD i []).take p).sum = cnt (t.getD i []) p - if i = 0 then 0 else cnt (t.getD (i - 1) []) p
  | 0, _ => by simp [cnt, sumTo]
  | p + 1, hp => by
    rw [sum_take_succ (by rw [ofT_row h, List.length_map, List.length_range]; omega), ofT_take h p (by omega), ofT_cell h (by omega), cnt_succ, cnt_succ]
    unfold ot
    by_cases e : i = 0
    · simp only [if_pos e]; omega
    · simp only [if_neg e]; omega

theorem ofT_cp {t : List (List Int)} {q : Nat} (hq : q < t.length) : ∀ a, a ≤ t.length → cp (ofT t) a q = if a = 0 then 0 else ind (t.getD (a - 1) []) ((q : Int) + 1)
  | 0, _ => rfl
  | a + 1, ha => by
    rw [cp_succ q (by rw [ofT_length]; omega), ofT_cp hq a (by omega), ofT_cell (by omega) hq]
    unfold ot
    by_cases e : a = 0
    · simp [e]
    · simp only [if_neg e, if_neg (Nat.succ_ne_zero a), Nat.add_one_sub_one]; omega

theorem cnt_full {t : List (List Int)} {i : Nat} (h : trRow t i) : cnt (t.getD i []) t.length = i + 1 := by
  have := cnt_val (trRow_inc h) (fun x hx => (trRow_mem h hx).1) t.length (i + 1) (by have := h.1; omega) (fun k hk => (h.2 k (by omega)).1.2) (.inl h.1.symm)
  omega

theorem trOK_sign {t : List (List Int)} (h : trOK t) : signOK (ofT t) := by
  obtain ⟨n1, n7, hr⟩ := h
  refine ⟨by simpa using n1, by simpa using n7, fun i hi => ?_, fun q hq => ?_⟩
  · rw [ofT_length] at hi
    have hl : ((ofT t).getD i []).length = t.length := by rw [ofT_row hi]; simp
    refine ⟨by rw [hl]; simp, fun p hp => ?_, ?_⟩
    · rw [hl] at hp
      rw [ofT_take hi p hp]
      obtain ⟨c, c1, c2, c3, c4⟩ := cnt_spec (trRow_inc (hr i hi)) (fun x hx => (trRow_mem (hr i hi) hx).1) p
      have hli := (hr i hi).1
      by_cases e : i = 0
      · rw [if_pos e, c2]; omega
      · rw [if_neg e, c2]
        have hr' := hr (i - 1) (by omega)
        obtain ⟨d, d1, d2, d3, d4⟩ := cnt_spec (trRow_inc hr') (fun x hx => (trRow_mem hr' hx).1) p
        have hld := hr'.1
        rw [d2]
        have hdc : d ≤ c := by
          refine Classical.byContradiction fun hn => ?_
          have h5 := ((hr i hi).2 d (by omega)).2 (by omega)
          have h6 := d3 (d - 1) (by omega)
          rcases c4 with c4 | c4
          · omega
          · have := inc_le (trRow_inc (hr i hi)) (show c ≤ d - 1 by omega) (by omega)
            omega
        have hcd : c ≤ d + 1 := by
          refine Classical.byContradiction fun hn => ?_
          have h5 := ((hr i hi).2 (c - 1) (by omega)).2 (by omega)
          have h6 := c3 (c - 1) (by omega)
          rcases d4 with d4 | d4
          · omega
          · have := inc_le (trRow_inc hr') (show d ≤ c - 1 - 1 by omega) (by omega)
            omega
        omega
    · have := ofT_take hi t.length (Nat.le_refl _)
      rw [List.take_of_length_le (by omega), cnt_full (hr i hi)] at this
      rw [this]
      by_cases e : i = 0
      · rw [if_pos e]; omega
      · rw [if_neg e, cnt_full (hr (i - 1) (by omega))]; omega
  · rw [ofT_length] at hq
    rw [alt_col, ofT_length]
    refine ⟨fun a ha => ?_, ?_⟩
    · rw [ofT_cp hq a ha]
      split
      · omega
      · have := ind_cases (t.getD (a - 1) []) ((q : Int) + 1); omega
    · rw [ofT_cp hq _ (Nat.le_refl _), if_neg (by omega)]
      have hl := hr (t.length - 1) (by omega)
      have hp : isPerm (t.getD (t.length - 1) []) := isPerm_of (inc_nodup (trRow_inc hl)) fun x hx => by
        have := trRow_mem hl hx
        have := hl.1
        omega
      exact if_pos (hp q (by have := hl.1; omega))

theorem trow_inc (m : List (List Int)) (a p : Nat) : Inc (trow m a p) := by
  unfold trow
  refine List.pairwise_map.2 (List.Pairwise.imp ?_ (List.Pairwise.filter _ List.pairwise_lt_range))
  intro a b h; omega
theorem mem_trow {m : List (List Int)} {a p : Nat} {x : Int} : x ∈ trow m a p ↔ ∃ q : Nat, q < p ∧ cp m a q = 1 ∧ x = (q : Int) + 1 := by
  unfold trow
  simp only [List.mem_map, List.mem_filter, List.mem_range, decide_eq_true_eq]
  constructor
  · rintro ⟨q, ⟨h1, h2⟩, rfl⟩; exact ⟨q, h1, h2, rfl⟩
  · rintro ⟨q, h1, h2, rfl⟩; exact ⟨q, ⟨h1, h2⟩, rfl⟩

theorem trOK_tri {t : List (List Int)} (h : trOK t) : tri (ofT t) = t := by
  refine ext_getD [] (by simp) fun i hi => ?_
  rw [tri_length, ofT_length] at hi
  unfold tri
  rw [ofT_length, range_map_getD _ _ hi]
  have hr := h.2.2 i hi
  refine inc_ext (trow_inc ..) (trRow_inc hr) fun x => ?_
  rw [mem_trow]
  constructor
  · rintro ⟨q, hq, h1, rfl⟩
    rw [ofT_cp hq _ (by omega), if_neg (by omega), Nat.add_one_sub_one] at h1
    refine Classical.byContradiction fun hn => ?_
    rw [show ind (t.getD i []) ((q : Int) + 1) = 0 from if_neg hn] at h1
    omega
  · intro hx
    have hm := trRow_mem hr hx
    refine ⟨(x - 1).toNat, by omega, ?_, by omega⟩
    rw [ofT_cp (by omega) _ (by omega), if_neg (by omega), Nat.add_one_sub_one, show (((x - 1).toNat : Nat) : Int) + 1 = x by omega]
    exact if_pos hx

theorem sum_cp {m : List (List Int)} (h : signOK m) : ∀ a, a ≤ m.length → ∀ p, p ≤ m.length → sumTo (cp m a) p = cs m a p
  | 0, _, p, _ => by
    have : ∀ p, sumTo (cp m 0) p = 0 := by
      intro p
      induction p with
      | zero => rfl
      | succ p ih => show sumTo (cp m 0) p + cp m 0 p = 0; rw [ih, cp_zero]; omega
    rw [this]; rfl
  | a + 1, ha, p, hp => by
    rw [cs_succ, ← sum_cp h a (by omega) p hp]
    have hl := (h.2.2.1 a (by omega)).1
    have e : ∀ p, p ≤ m.length → ((m.getD a []).take p).sum = sumTo (fun q => (m.getD a []).getD q 0) p := by
      intro p
      induction p with
      | zero => intro _; rfl
      | succ p ih => intro hp; rw [sum_take_succ (by omega), ih (by omega)]; rfl
    rw [e p hp, ← sumTo_add]
    exact sumTo_congr p fun q _ => cp_succ q (by omega)

theorem sign_tri {t : List (List Int)} (n1 : 1 ≤ t.length) (n7 : t.length ≤ 7) (hs : signOK (ofT t)) (ht : tri (ofT t) = t) : trOK t := by
  have hn : (ofT t).length = t.length := ofT_length t
  have hrow : ∀ i, i < t.length → t.getD i [] = trow (ofT t) (i + 1) t.length := fun i hi => by
    conv => lhs; rw [← ht]
    unfold tri
    rw [hn, range_map_getD _ _ hi]
  generalize ofT t = m at *
  have hinc : ∀ i, i < t.length → Inc (t.getD i []) := fun i hi => by rw [hrow i hi]; exact trow_inc ..
  have hrng : ∀ i, i < t.length → ∀ x ∈ t.getD i [], 1 ≤ x ∧ x ≤ t.length := fun i hi x hx => by
    rw [hrow i hi] at hx
    obtain ⟨q, hq, _, rfl⟩ := mem_trow.1 hx
    omega
  have hind : ∀ i, i < t.length → ∀ q, q < t.length → ind (t.getD i []) ((q : Int) + 1) = cp m (i + 1) q := fun i hi q hq => by
    have hc := cp_le hs (a := i + 1) (j := q) (by omega) (by omega)
    unfold ind
    rw [hrow i hi]
    split
    · rename_i hx
      obtain ⟨q', _, h1, h2⟩ := mem_trow.1 hx
      rw [show q = q' by omega, h1]
    · rename_i hx
      have : cp m (i + 1) q ≠ 1 := fun e => hx (mem_trow.2 ⟨q, hq, e, rfl⟩)
      omega
  have hcnt : ∀ i, i < t.length → ∀ p, p ≤ t.length → cnt (t.getD i []) p = cs m (i + 1) p := fun i hi p hp => by
    rw [← sum_cp hs (i + 1) (by omega) p (by omega)]
    exact sumTo_congr p fun q hq => hind i hi q (by omega)
  have hfull : ∀ i, i ≤ t.length → cs m i t.length = i := fun i => by
    induction i with
    | zero => intro _; rfl
    | succ i ih =>
      intro hi
      have hr := hs.2.2.1 i (by omega)
      have := hr.2.2
      rw [cs_succ, ih (by omega), List.take_of_length_le (by omega), this]
      omega
  have hlen : ∀ i, i < t.length → (t.getD i []).length = i + 1 := fun i hi => by
    have h1 := cnt_val (hinc i hi) (fun x hx => (hrng i hi x hx).1) t.length (t.getD i []).length (Nat.le_refl _) (fun k hk => (hrng i hi _ (getD_mem 0 hk)).2) (.inl rfl)
    rw [hcnt i hi _ (Nat.le_refl _), hfull (i + 1) (by omega)] at h1
    omega
  refine ⟨n1, n7, fun i hi => ⟨hlen i hi, fun j hj => ⟨hrng i hi _ (getD_mem 0 (by rw [hlen i hi]; omega)), fun j0 => ?_⟩⟩⟩
  have hli := hlen i hi
  have hlp := hlen (i - 1) (by omega)
  have hmi : ∀ x ∈ t.getD i [], 1 ≤ x := fun x hx => (hrng i hi x hx).1
  have hmp : ∀ x ∈ t.getD (i - 1) [], 1 ≤ x := fun x hx => (hrng (i - 1) (by omega) x hx).1
  have step : ∀ p, p ≤ t.length → cnt (t.getD (i - 1) []) p ≤ cnt (t.getD i []) p ∧ cnt (t.getD i []) p ≤ cnt (t.getD (i - 1) []) p + 1 := fun p hp => by
    have hr := (hs.2.2.1 i (by omega))
    have := hr.2.1 p (by omega)
    rw [hcnt i hi p hp, hcnt (i - 1) (by omega) p hp, show i - 1 + 1 = i by omega, cs_succ]
    omega
  refine ⟨inc_getD (hinc i hi) (by omega) (by omega), ?_, ?_⟩
  · have hx := hrng (i - 1) (by omega) _ (getD_mem 0 (show j - 1 < (t.getD (i - 1) []).length by omega))
    generalize hxx : (t.getD (i - 1) []).getD (j - 1) 0 = x at *
    have h1 := cnt_val (hinc (i - 1) (by omega)) hmp x.toNat j (by omega) (fun k hk => by
      have := inc_le (hinc (i - 1) (by omega)) (show k ≤ j - 1 by omega) (by omega)
      omega) (by
      by_cases e : j = (t.getD (i - 1) []).length
      · exact .inl e
      · refine .inr ?_
        have := inc_getD (hinc (i - 1) (by omega)) (show j - 1 < j by omega) (by omega)
        omega)
    obtain ⟨c, c1, c2, c3, _⟩ := cnt_spec (hinc i hi) hmi x.toNat
    have := step x.toNat (by omega)
    have := c3 (j - 1) (by omega)
    omega
  · have hx := hrng i hi _ (getD_mem 0 (show j < (t.getD i []).length by omega))
    generalize hxx : (t.getD i []).getD j 0 = x at *
    have h1 := cnt_val (hinc i hi) hmi x.toNat (j + 1) (by omega) (fun k hk => by
      have := inc_le (hinc i hi) (show k ≤ j by omega) (by omega)
      omega) (by
      by_cases e : j + 1 = (t.getD i []).length
      · exact .inl e
      · refine .inr ?_
        have := inc_getD (hinc i hi) (show j < j + 1 by omega) (by omega)
        omega)
    obtain ⟨d, d1, d2, d3, _⟩ := cnt_spec (hinc (i - 1) (by omega)) hmp x.toNat
    have := step x.toNat (by omega)
    have := d3 (j - 1) (by omega)
    omega

theorem trOK_iff {t : List (List Int)} (n1 : 1 ≤ t.length) (n7 : t.length ≤ 7) : trOK t ↔ signOK (ofT t) ∧ tri (ofT t) = t :=
  ⟨fun h => ⟨trOK_sign h, trOK_tri h⟩, fun h => sign_tri n1 n7 h.1 h.2⟩

theorem ind_step {r : List Int} {b : Nat} (hn : r.Nodup) (hb : b < r.length) : ind (r.take b) (r.getD b 0) = 0 ∧ ∀ x, ind (r.take (b + 1)) x = if x = r.getD b 0 then 1 else ind (r.take b) x := by
  have h0 : r.getD b 0 ∉ r.take b := fun hm => by
    obtain ⟨k, hk, e⟩ := mem_getD 0 hm
    rw [List.length_take] at hk
    have : r.getD k 0 = r.getD b 0 := by
      rw [← e]
      simp only [List.getD_eq_getElem?_getD, List.getElem?_take, if_pos (show k < b by omega)]
    exact nodup_getD hn (show k < b by omega) hb this
  refine ⟨if_neg h0, fun x => ?_⟩
  unfold ind
  by_cases e : x = r.getD b 0
  · rw [if_pos ((mem_take_succ 0 hb x).2 (.inr e)), if_pos e]
  · rw [if_neg e]
    by_cases c : x ∈ r.take b
    · rw [if_pos ((mem_take_succ 0 hb x).2 (.inl c)), if_pos c]
    · rw [if_neg fun h => ((mem_take_succ 0 hb x).1 h).elim c e, if_neg c]

end Fer

/- Plain facts: tableaux; a letter put into one. No program in sight. -/
namespace Fer

def tabRow (t : List (List Int)) (i : Nat) : Prop := 0 < (t.getD i []).length ∧ (0 < i → (t.getD i []).length ≤ (t.getD (i - 1) []).length) ∧
  ∀ j, j < (t.getD i []).length → (1 ≤ (t.getD i []).getD j 0 ∧ (t.getD i []).getD j 0 ≤ 99) ∧ (0 < j → (t.getD i []).getD (j - 1) 0 ≤ (t.getD i []).getD j 0) ∧ (0 < i → (t.getD (i - 1) []).getD j 0 < (t.getD i []).getD j 0)
def tabRows (t : List (List Int)) : Prop := ∀ i, i < t.length → tabRow t i
noncomputable def tabE (t : List (List Int)) : Int := if 40 < t.flatten.length then 2 else @ite _ (tabRows t) (Classical.propDecidable _) 0 1

theorem tabE_big {t : List (List Int)} (h : 40 < t.flatten.length) : tabE t = 2 := if_pos h
theorem tabE_bad {t : List (List Int)} (h : ¬ 40 < t.flatten.length) (h2 : ¬ tabRows t) : tabE t = 1 := (if_neg h).trans (if_neg h2)
theorem tabE_ok {t : List (List Int)} (h : ¬ 40 < t.flatten.length) (h2 : tabRows t) : tabE t = 0 := (if_neg h).trans (if_pos h2)
theorem tabE_zero {t : List (List Int)} (h : tabE t = 0) : t.flatten.length ≤ 40 ∧ tabRows t := by
  by_cases h1 : 40 < t.flatten.length
  · rw [tabE_big h1] at h; cases h
  · by_cases h2 : tabRows t
    · exact ⟨by omega, h2⟩
    · rw [tabE_bad h1 h2] at h; cases h

theorem flatten_take_le (t : List (List Int)) (i : Nat) : (t.take i).flatten.length ≤ t.flatten.length := by
  have e : t.flatten.length = ((t.take i).flatten ++ (t.drop i).flatten).length := by rw [← List.flatten_append, List.take_append_drop]
  rw [List.length_append] at e
  omega
theorem flatten_take_succ {t : List (List Int)} {i : Nat} (h : i < t.length) : (t.take (i + 1)).flatten.length = (t.take i).flatten.length + (t.getD i []).length := by
  rw [take_succ_getD [] h, List.flatten_append, List.flatten_singleton, List.length_append]
theorem row_le_flatten {t : List (List Int)} {i : Nat} (h : i < t.length) : (t.getD i []).length ≤ t.flatten.length := by
  have := flatten_take_succ h
  have := flatten_take_le t (i + 1)
  omega
theorem tab_length {t : List (List Int)} (h : tabRows t) : t.length ≤ t.flatten.length := by
  have key : ∀ i, i ≤ t.length → i ≤ (t.take i).flatten.length := fun i => by
    induction i with
    | zero => intro _; omega
    | succ i ih =>
      intro hi
      have := ih (by omega)
      have := (h i (by omega)).1
      rw [flatten_take_succ (by omega)]
      omega
  have := key t.length (Nat.le_refl _)
  rwa [List.take_length] at this

/-- How many at the front are less. -/
def lb (p : List Int) (n : Int) : Nat := (p.takeWhile fun x => decide (x < n)).length
/-- In order, the least first. -/
def Asc (p : List Int) : Prop := ∀ i j, i ≤ j → j < p.length → p.getD i 0 ≤ p.getD j 0

theorem lb_of {p : List Int} {n : Int} {k : Nat} (hk : k ≤ p.length) (h1 : ∀ a, a < k → p.getD a 0 < n) (h2 : k = p.length ∨ n ≤ p.getD k 0) : lb p n = k := by
  unfold lb
  rw [while_cutG 0 hk (fun j hj => decide_eq_true (h1 j hj)) (h2.imp id fun h => decide_eq_false (by omega)), List.length_take]
  omega
theorem lb_le (p : List Int) (n : Int) : lb p n ≤ p.length := by
  unfold lb
  generalize hq : (fun x : Int => decide (x < n)) = q
  clear hq
  induction p with
  | nil => simp
  | cons a p ih =>
    rw [List.takeWhile_cons]
    split
    · simp only [List.length_cons]; omega
    · simp
theorem asc_of {p : List Int} (h : ∀ j, j + 1 < p.length → p.getD j 0 ≤ p.getD (j + 1) 0) : Asc p := by
  have key : ∀ d i, i + d < p.length → p.getD i 0 ≤ p.getD (i + d) 0 := by
    intro d
    induction d with
    | zero => intro i _; exact Int.le_refl _
    | succ d ih => intro i hi; exact Int.le_trans (ih i (by omega)) (h (i + d) (by omega))
  intro i j hij hj
  have := key (j - i) i (by omega)
  rwa [show i + (j - i) = j by omega] at this
theorem tab_asc {t : List (List Int)} {i : Nat} (h : tabRow t i) : Asc (t.getD i []) :=
  asc_of fun j hj => ((h.2.2 (j + 1) hj).2.1 (by omega))

/-! ### Row by row -/

def intoL : List (List Int) → Int → List (List Int)
  | [], x => [[x]]
  | r :: t, x => if lb r (x + 1) = r.length then (r ++ [x]) :: t else (r.set (lb r (x + 1)) x) :: intoL t (r.getD (lb r (x + 1)) 0)
def intoI : List (List Int) → Int → Nat
  | [], _ => 0
  | r :: t, x => if lb r (x + 1) = r.length then 0 else intoI t (r.getD (lb r (x + 1)) 0) + 1

theorem into_nil (x : Int) : intoL [] x = [[x]] := rfl
theorem into_drop {t : List (List Int)} {i : Nat} (h : i < t.length) (x : Int) :
    intoL (t.drop i) x = (if lb (t.getD i []) (x + 1) = (t.getD i []).length then ((t.getD i []) ++ [x]) :: t.drop (i + 1) else ((t.getD i []).set (lb (t.getD i []) (x + 1)) x) :: intoL (t.drop (i + 1)) ((t.getD i []).getD (lb (t.getD i []) (x + 1)) 0)) ∧
    intoI (t.drop i) x = if lb (t.getD i []) (x + 1) = (t.getD i []).length then 0 else intoI (t.drop (i + 1)) ((t.getD i []).getD (lb (t.getD i []) (x + 1)) 0) + 1 := by
  rw [drop_pred_getD [] h]
  exact ⟨rfl, rfl⟩

theorem set_split {α : Type} {l : List α} {i : Nat} (h : i < l.length) (v : α) : l.set i v = l.take i ++ v :: l.drop (i + 1) := by
  rw [List.set_eq_take_append_cons_drop, if_pos h]
theorem set_take {α : Type} {l : List α} {i : Nat} (h : i < l.length) (v : α) : (l.set i v).take (i + 1) = l.take i ++ [v] := by
  rw [set_split h, List.take_append, List.length_take, List.take_take]
  rw [show min (i + 1) i = i by omega, show i + 1 - min i l.length = 1 by omega]
  rfl
theorem set_drop {α : Type} {l : List α} {i : Nat} (v : α) : (l.set i v).drop (i + 1) = l.drop (i + 1) := by
  rw [List.drop_set_of_lt (by omega)]
theorem drop_more {α : Type} {l m : List α} {i : Nat} (h : l.drop i = m.drop i) : l.drop (i + 1) = m.drop (i + 1) := by
  rw [← List.drop_drop, ← List.drop_drop, h]

/-- One row of the way down. -/
theorem into_step {t out : List (List Int)} {i : Nat} {x : Int} {k : Nat} {L : List (List Int)} {I : Nat} (hi : i < t.length) (hol : out.length = t.length) (hod : out.drop i = t.drop i) (hL : L = out.take i ++ intoL (t.drop i) x) (hI : I = i + intoI (t.drop i) x)
    (hk : lb (out.getD i []) (x + 1) = k) : out.getD i [] = t.getD i [] ∧
    (k = (out.getD i []).length → L = out.set i (out.getD i [] ++ [x]) ∧ I = i) ∧
    (k ≠ (out.getD i []).length → L = (out.set i ((out.getD i []).set k x)).take (i + 1) ++ intoL (t.drop (i + 1)) ((out.getD i []).getD k 0) ∧ (out.set i ((out.getD i []).set k x)).drop (i + 1) = t.drop (i + 1) ∧ I = i + 1 + intoI (t.drop (i + 1)) ((out.getD i []).getD k 0)) := by
  have hr : out.getD i [] = t.getD i [] := by
    have := congrArg (fun l => l.getD 0 []) hod
    simpa [List.getD_eq_getElem?_getD, List.getElem?_drop] using this
  obtain ⟨d1, d2⟩ := into_drop hi x
  rw [← hr, hk] at d1 d2
  refine ⟨hr, fun h => ?_, fun h => ?_⟩
  · rw [if_pos h] at d1 d2
    rw [hL, hI, d1, d2, set_split (by omega), drop_more hod]
    exact ⟨rfl, rfl⟩
  · rw [if_neg h] at d1 d2
    rw [hL, hI, d1, d2, set_take (by omega), set_drop, drop_more hod]
    refine ⟨by simp, rfl, by omega⟩

end Fer

/- Plain facts: rows and columns of a tableau; a letter put in column by column. No program in sight. -/
namespace Fer

def Shp (l : List (List Int)) : Prop := (∀ j, j < l.length → 0 < (l.getD j []).length) ∧ ∀ i j, i ≤ j → j < l.length → (l.getD j []).length ≤ (l.getD i []).length

theorem shp_of {l : List (List Int)} (h1 : ∀ j, j < l.length → 0 < (l.getD j []).length) (h2 : ∀ j, j + 1 < l.length → (l.getD (j + 1) []).length ≤ (l.getD j []).length) : Shp l := by
  refine ⟨h1, fun i j hij hj => ?_⟩
  have key : ∀ d i, i + d < l.length → (l.getD (i + d) []).length ≤ (l.getD i []).length := by
    intro d
    induction d with
    | zero => intro i _; exact Nat.le_refl _
    | succ d ih => intro i hi; exact Nat.le_trans (h2 (i + d) hi) (ih i (by omega))
  have := key (j - i) i (by omega)
  rwa [show i + (j - i) = j by omega] at this

theorem tab_shp {t : List (List Int)} (h : tabRows t) : Shp t :=
  shp_of (fun j hj => (h j hj).1) fun j hj => (h (j + 1) hj).2.1 (by omega)

/-- The one turned is the other. -/
def Tr (out cl : List (List Int)) : Prop := Shp cl ∧ out.length = (cl.getD 0 []).length ∧ ∀ i, i < out.length →
  (∀ j, j < (out.getD i []).length ↔ j < cl.length ∧ i < (cl.getD j []).length) ∧ ∀ j, j < (out.getD i []).length → (out.getD i []).getD j 0 = (cl.getD j []).getD i 0

theorem wid_iff {cl : List (List Int)} (h : Shp cl) (i j : Nat) : j < (acol cl i).length ↔ j < cl.length ∧ i < (cl.getD j []).length := by
  obtain ⟨m, hm, h1, h2⟩ := leastNat (P := fun m => m = cl.length ∨ ¬ i < (cl.getD m []).length) cl.length (.inl rfl)
  have e : acol cl i = (cl.take m).map fun r => r.getD i 0 := by
    unfold acol
    rw [while_cutG [] hm (fun a ha => decide_eq_true (by have := h2 a ha; omega)) (h1.imp id fun h => decide_eq_false h)]
  rw [e, List.length_map, List.length_take]
  constructor
  · intro hj
    have := h2 j (by omega)
    omega
  · rintro ⟨hj, hij⟩
    refine Classical.byContradiction fun hn => ?_
    rcases h1 with h1 | h1
    · omega
    · have := h.2 m j (by omega) hj
      omega
theorem acol_cell {cl : List (List Int)} {i j : Nat} (hj : j < (acol cl i).length) : (acol cl i).getD j 0 = (cl.getD j []).getD i 0 := by
  unfold acol at hj ⊢
  rw [List.length_map] at hj
  have e : ∀ (l : List (List Int)) (p : List Int → Bool) (j : Nat), j < (l.takeWhile p).length → (l.takeWhile p).getD j [] = l.getD j [] := by
    intro l p
    induction l with
    | nil => intro j hj; simp at hj
    | cons a l ih =>
      intro j hj
      rw [List.takeWhile_cons] at hj ⊢
      split at hj
      · rename_i ha
        rw [if_pos ha]
        cases j with
        | zero => rfl
        | succ j => exact ih j (by simpa using hj)
      · simp at hj
  rw [← e cl _ j hj, getD_lt 0 (by simpa using hj), getD_lt [] hj]
  simp
theorem across_length (m : List (List Int)) : (across m).length = (m.getD 0 []).length := by simp only [across, List.length_map, List.length_range]

theorem tr_across {out cl : List (List Int)} (h : Tr out cl) : across cl = out := by
  obtain ⟨hs, h1, h2⟩ := h
  refine ext_getD [] (by rw [across_length, h1]) fun i hi => ?_
  rw [across_length] at hi
  rw [across_getD hi]
  have hl : (acol cl i).length = (out.getD i []).length := by
    have key : ∀ j, j < (acol cl i).length ↔ j < (out.getD i []).length := fun j => (wid_iff hs i j).trans ((h2 i (by omega)).1 j).symm
    have k1 := key (acol cl i).length
    have k2 := key (out.getD i []).length
    omega
  refine ext_getD 0 hl fun j hj => ?_
  rw [acol_cell hj, (h2 i (by omega)).2 j (by omega)]

theorem tr_tab {t : List (List Int)} (h : tabRows t) : Tr t (across t) := by
  have hs := tab_shp h
  have hl := across_length t
  have hc : ∀ j, j < (t.getD 0 []).length → (across t).getD j [] = acol t j := fun j hj => across_getD hj
  have hlen : ∀ j, j < (t.getD 0 []).length → ∀ i, i < ((across t).getD j []).length ↔ i < t.length ∧ j < (t.getD i []).length := fun j hj i => by
    rw [hc j hj]; exact wid_iff hs j i
  refine ⟨shp_of (fun j hj => ?_) fun j hj => ?_, ?_, fun i hi => ⟨fun j => ?_, fun j hj => ?_⟩⟩
  · rw [hl] at hj
    refine (hlen j hj 0).2 ⟨?_, hj⟩
    by_cases e : t.length = 0
    · rw [List.length_eq_zero_iff.1 e] at hj; exact absurd hj (Nat.not_lt_zero _)
    · omega
  · rw [hl] at hj
    refine Classical.byContradiction fun hn => ?_
    have h1 := (hlen (j + 1) hj ((across t).getD j []).length).1 (by omega)
    have h2 := (hlen j (by omega) ((across t).getD j []).length).2 ⟨h1.1, by omega⟩
    omega
  · by_cases e : t.length = 0
    · rw [List.length_eq_zero_iff.1 e]; rfl
    · have h0 := hs.1 0 (by omega)
      have k1 := hlen 0 h0 t.length
      have k2 := hlen 0 h0 (t.length - 1)
      have := hs.1 (t.length - 1) (by omega)
      omega
  · rw [hl]
    have := hs.2 0 i (by omega) hi
    constructor
    · intro hj
      exact ⟨by omega, (hlen j (by omega) i).2 ⟨hi, hj⟩⟩
    · rintro ⟨hj, hij⟩
      exact ((hlen j hj i).1 hij).2
  · have := hs.2 0 i (by omega) hi
    have h3 := (hlen j (by omega) i).2 ⟨hi, hj⟩
    rw [hc j (by omega)] at h3 ⊢
    exact (acol_cell h3).symm

theorem tr_row {out cl : List (List Int)} (h : Tr out cl) {i : Nat} (hi : i < out.length) (j : Nat) : j < (out.getD i []).length ↔ j < cl.length ∧ i < (cl.getD j []).length := (h.2.2 i hi).1 j
theorem tr_cell {out cl : List (List Int)} (h : Tr out cl) {i j : Nat} (hi : i < out.length) (hj : j < (out.getD i []).length) : (out.getD i []).getD j 0 = (cl.getD j []).getD i 0 := (h.2.2 i hi).2 j hj
theorem tr_in {out cl : List (List Int)} (h : Tr out cl) {i j : Nat} (hj : j < cl.length) (hi : i < (cl.getD j []).length) : i < out.length ∧ j < (out.getD i []).length := by
  have h1 := h.1.2 0 j (by omega) hj
  have h2 : i < out.length := by have := h.2.1; omega
  exact ⟨h2, (tr_row h h2 j).2 ⟨hj, hi⟩⟩

theorem getD_set_row {l : List (List Int)} {i k : Nat} (hi : i < l.length) (r : List Int) : (l.set i r).getD k [] = if k = i then r else l.getD k [] := getD_set_if [] hi

/-- A letter changes places. -/
theorem tr_swap {out cl : List (List Int)} (h : Tr out cl) {i j : Nat} (hj : j < cl.length) (hi : i < (cl.getD j []).length) (v : Int) : Tr (out.set i ((out.getD i []).set j v)) (cl.set j ((cl.getD j []).set i v)) := by
  obtain ⟨hio, hjo⟩ := tr_in h hj hi
  have hc : ∀ k, ((cl.set j ((cl.getD j []).set i v)).getD k []).length = (cl.getD k []).length := fun k => by
    rw [getD_set_row hj]
    split
    · rename_i e; rw [e, List.length_set]
    · rfl
  refine ⟨⟨fun k hk => ?_, fun a b hab hb => ?_⟩, ?_, fun a ha => ⟨fun b => ?_, fun b hb => ?_⟩⟩
  · rw [hc]; rw [List.length_set] at hk; exact h.1.1 k hk
  · rw [hc, hc]; rw [List.length_set] at hb; exact h.1.2 a b hab hb
  · rw [List.length_set, hc]; exact h.2.1
  · rw [List.length_set] at ha
    rw [List.length_set, hc, getD_set_row hio]
    split
    · rename_i e; subst e; rw [List.length_set]; exact tr_row h ha b
    · exact tr_row h ha b
  · rw [List.length_set] at ha
    rw [getD_set_row hio] at hb ⊢
    rw [getD_set_row hj]
    by_cases e : a = i
    · subst e
      rw [if_pos rfl] at hb ⊢
      rw [List.length_set] at hb
      rw [getD_set_if 0 hjo]
      by_cases e2 : b = j
      · subst e2
        rw [if_pos rfl, if_pos rfl, getD_set_if 0 hi, if_pos rfl]
      · rw [if_neg e2, if_neg e2]; exact tr_cell h ha hb
    · rw [if_neg e] at hb ⊢
      by_cases e2 : b = j
      · subst e2
        rw [if_pos rfl, getD_set_if 0 hi, if_neg e]; exact tr_cell h ha hb
      · rw [if_neg e2]; exact tr_cell h ha hb

theorem tr_uniq {out out' cl : List (List Int)} (h : Tr out cl) (h' : Tr out' cl) : out = out' := (tr_across h).symm.trans (tr_across h')

/-- The letter ends a column that ends higher than the one to its left. -/
theorem tr_end {out cl : List (List Int)} (h : Tr out cl) {j : Nat} (j0 : 0 < j) (hj : j < cl.length) (hlt : (cl.getD j []).length < (cl.getD (j - 1) []).length) (x : Int) :
    (cl.getD j []).length < out.length ∧ (out.getD (cl.getD j []).length []).length = j ∧ Tr (out.set (cl.getD j []).length (out.getD (cl.getD j []).length [] ++ [x])) (cl.set j (cl.getD j [] ++ [x])) := by
  generalize hi : (cl.getD j []).length = i at *
  obtain ⟨hio, hjo⟩ := tr_in h (show j - 1 < cl.length by omega) hlt
  have hlen : (out.getD i []).length = j := by
    have k := tr_row h hio j
    omega
  have hc : ∀ k, ((cl.set j (cl.getD j [] ++ [x])).getD k []).length = if k = j then i + 1 else (cl.getD k []).length := fun k => by
    rw [getD_set_row hj]
    split
    · rw [List.length_append, hi]; rfl
    · rfl
  refine ⟨hio, hlen, ⟨fun k hk => ?_, fun a b hab hb => ?_⟩, ?_, fun a ha => ⟨fun b => ?_, fun b hb => ?_⟩⟩
  · rw [hc]; rw [List.length_set] at hk
    have := h.1.1 k hk
    split <;> omega
  · rw [hc, hc]; rw [List.length_set] at hb
    have h1 := h.1.2 a b hab hb
    by_cases e1 : b = j
    · rw [if_pos e1]
      by_cases e2 : a = j
      · rw [if_pos e2]; omega
      · rw [if_neg e2]
        have := h.1.2 a (j - 1) (by omega) (by omega)
        omega
    · rw [if_neg e1]
      by_cases e2 : a = j
      · rw [if_pos e2]; rw [e2, hi] at h1; omega
      · rw [if_neg e2]; exact h1
  · rw [List.length_set, hc, if_neg (by omega)]; exact h.2.1
  · rw [List.length_set] at ha
    rw [List.length_set, hc, getD_set_row hio]
    have k := tr_row h ha b
    by_cases e : a = i
    · subst e
      rw [if_pos rfl, List.length_append, List.length_singleton, hlen]
      rw [hlen] at k
      by_cases e2 : b = j
      · rw [if_pos e2]; omega
      · rw [if_neg e2]; omega
    · rw [if_neg e]
      by_cases e2 : b = j
      · subst e2
        rw [if_pos rfl, k, hi]; omega
      · rw [if_neg e2]; exact k
  · rw [List.length_set] at ha
    rw [getD_set_row hio] at hb ⊢
    rw [getD_set_row hj]
    by_cases e : a = i
    · subst e
      rw [if_pos rfl] at hb ⊢
      rw [List.length_append, List.length_singleton, hlen] at hb
      by_cases e2 : b = j
      · subst e2
        rw [if_pos rfl, append_getD, if_neg (by omega), append_getD, if_neg (by omega), hlen, hi]; simp
      · rw [if_neg e2, append_getD, if_pos (by omega)]; exact tr_cell h ha (by omega)
    · rw [if_neg e] at hb ⊢
      by_cases e2 : b = j
      · subst e2
        have k := (tr_row h ha b).1 hb
        rw [if_pos rfl, append_getD, if_pos k.2]; exact tr_cell h ha hb
      · rw [if_neg e2]; exact tr_cell h ha hb

/-- The letter ends the first column. -/
theorem tr_foot {out cl : List (List Int)} (h : Tr out cl) (hj : 0 < cl.length) (x : Int) : Tr (out ++ [[x]]) (cl.set 0 (cl.getD 0 [] ++ [x])) := by
  have hol := h.2.1
  have hc : ∀ k, ((cl.set 0 (cl.getD 0 [] ++ [x])).getD k []).length = if k = 0 then out.length + 1 else (cl.getD k []).length := fun k => by
    rw [getD_set_row hj]
    split
    · rw [List.length_append, ← hol]; rfl
    · rfl
  have hap : ∀ k, (out ++ [[x]]).getD k [] = if k < out.length then out.getD k [] else if k = out.length then [x] else [] := fun k => by
    simp only [List.getD_eq_getElem?_getD, List.getElem?_append]
    split
    · rfl
    · split
      · rename_i e; subst e; simp
      · rename_i e1 e2; rw [List.getElem?_eq_none (by simp; omega)]; rfl
  refine ⟨⟨fun k hk => ?_, fun a b hab hb => ?_⟩, ?_, fun a ha => ⟨fun b => ?_, fun b hb => ?_⟩⟩
  · rw [hc]; rw [List.length_set] at hk
    have := h.1.1 k hk
    split <;> omega
  · rw [hc, hc]; rw [List.length_set] at hb
    have h1 := h.1.2 a b hab hb
    by_cases e2 : a = 0
    · subst e2
      rw [if_pos rfl]
      split <;> omega
    · rw [if_neg e2, if_neg (by omega)]; exact h1
  · rw [hc, if_pos rfl, List.length_append]; rfl
  · rw [List.length_append, List.length_singleton] at ha
    rw [List.length_set, hc, hap]
    by_cases e : a < out.length
    · rw [if_pos e, tr_row h e b]
      by_cases e2 : b = 0
      · subst e2; rw [if_pos rfl]; omega
      · rw [if_neg e2]
    · rw [if_neg e, if_pos (by omega), List.length_singleton]
      by_cases e2 : b = 0
      · subst e2; rw [if_pos rfl]; omega
      · rw [if_neg e2]
        constructor
        · intro h1; omega
        · rintro ⟨h1, h2⟩
          have := h.1.2 0 b (by omega) h1
          omega
  · rw [List.length_append, List.length_singleton] at ha
    rw [hap] at hb ⊢
    rw [getD_set_row hj]
    by_cases e : a < out.length
    · rw [if_pos e] at hb ⊢
      by_cases e2 : b = 0
      · subst e2
        rw [if_pos rfl, append_getD, if_pos (by omega)]; exact tr_cell h e hb
      · rw [if_neg e2]; exact tr_cell h e hb
    · rw [if_neg e, if_pos (by omega)] at hb ⊢
      have hb0 : b = 0 := by simp at hb; exact hb
      subst hb0
      rw [if_pos rfl, append_getD, if_neg (by omega), ← hol, show a - out.length = 0 by omega]

/-- A new column. -/
theorem tr_new {out cl : List (List Int)} (h : Tr out cl) (ho : 0 < out.length) (x : Int) : (out.getD 0 []).length = cl.length ∧ Tr (out.set 0 (out.getD 0 [] ++ [x])) (cl ++ [[x]]) := by
  have hol := h.2.1
  have hlen : (out.getD 0 []).length = cl.length := by
    have k1 := tr_row h ho cl.length
    have k2 := tr_row h ho (cl.length - 1)
    have k3 := h.1.1 (cl.length - 1)
    have k4 : 0 < cl.length := by
      refine Classical.byContradiction fun hn => ?_
      rw [List.length_eq_zero_iff.1 (show cl.length = 0 by omega)] at hol
      have hz : out.length = 0 := hol
      omega
    have k5 := k2.2 ⟨by omega, k3 (by omega)⟩
    omega
  have hcl : 0 < cl.length := by
    refine Classical.byContradiction fun hn => ?_
    rw [List.length_eq_zero_iff.1 (show cl.length = 0 by omega)] at hol
    have hz : out.length = 0 := hol
    omega
  have hap : ∀ k, (cl ++ [[x]]).getD k [] = if k < cl.length then cl.getD k [] else if k = cl.length then [x] else [] := fun k => by
    simp only [List.getD_eq_getElem?_getD, List.getElem?_append]
    split
    · rfl
    · split
      · rename_i e; subst e; simp
      · rename_i e1 e2; rw [List.getElem?_eq_none (by simp; omega)]; rfl
  refine ⟨hlen, ⟨fun k hk => ?_, fun a b hab hb => ?_⟩, ?_, fun a ha => ⟨fun b => ?_, fun b hb => ?_⟩⟩
  · rw [hap]; rw [List.length_append, List.length_singleton] at hk
    by_cases e : k < cl.length
    · rw [if_pos e]; exact h.1.1 k e
    · rw [if_neg e, if_pos (by omega)]; exact Nat.one_pos
  · rw [hap, hap]; rw [List.length_append, List.length_singleton] at hb
    by_cases e : b < cl.length
    · rw [if_pos e, if_pos (by omega)]; exact h.1.2 a b hab e
    · rw [if_neg e, if_pos (by omega)]
      by_cases e2 : a < cl.length
      · rw [if_pos e2]; have := h.1.1 a e2; simp only [List.length_singleton]; omega
      · rw [if_neg e2, if_pos (by omega)]; exact Nat.le_refl _
  · rw [List.length_set, hap, if_pos hcl]; exact hol
  · rw [List.length_set] at ha
    rw [getD_set_row ho, hap, List.length_append (bs := [[x]]), List.length_singleton]
    by_cases e : a = 0
    · subst e
      rw [if_pos rfl, List.length_append, hlen, List.length_singleton]
      by_cases e2 : b < cl.length
      · rw [if_pos e2]; have := h.1.1 b e2; omega
      · rw [if_neg e2]
        by_cases e3 : b = cl.length
        · rw [if_pos e3, List.length_singleton]; omega
        · rw [if_neg e3, List.length_nil]; omega
    · rw [if_neg e, tr_row h ha b]
      by_cases e2 : b < cl.length
      · rw [if_pos e2]; omega
      · rw [if_neg e2]
        by_cases e3 : b = cl.length
        · rw [if_pos e3, List.length_singleton]; omega
        · rw [if_neg e3, List.length_nil]; omega
  · rw [List.length_set] at ha
    rw [getD_set_row ho] at hb ⊢
    rw [hap]
    by_cases e : a = 0
    · subst e
      rw [if_pos rfl] at hb ⊢
      rw [List.length_append, hlen, List.length_singleton] at hb
      by_cases e2 : b < cl.length
      · rw [append_getD, if_pos (by omega), if_pos e2]; exact tr_cell h ha (by omega)
      · rw [append_getD, if_neg (by omega), if_neg e2, if_pos (by omega), hlen, show b - cl.length = 0 by omega]
    · rw [if_neg e] at hb ⊢
      have := (tr_row h ha b).1 hb
      rw [if_pos this.1]; exact tr_cell h ha hb

theorem tr_one (x : Int) : Tr [[x]] [[x]] := by
  refine ⟨⟨fun k hk => ?_, fun a b hab hb => ?_⟩, rfl, fun a ha => ⟨fun b => ?_, fun b hb => ?_⟩⟩
  · have : k = 0 := by simpa using hk
    subst this; exact Nat.one_pos
  · have : b = 0 := by simpa using hb
    subst this
    have : a = 0 := by omega
    subst this; exact Nat.le_refl _
  · have : a = 0 := by simpa using ha
    subst this
    constructor
    · intro h
      have : b = 0 := by simpa using h
      subst this; exact ⟨Nat.one_pos, Nat.one_pos⟩
    · rintro ⟨h, _⟩; exact h
  · have : a = 0 := by simpa using ha
    subst this
    have : b = 0 := by simpa using hb
    subst this; rfl

/-! ### Column by column -/

def besL : List (List Int) → Int → List (List Int)
  | [], x => [[x]]
  | r :: t, x => if lb r x = r.length then (r ++ [x]) :: t else (r.set (lb r x) x) :: besL t (r.getD (lb r x) 0)
def besI : List (List Int) → Int → Nat
  | [], _ => 0
  | r :: t, x => if lb r x = r.length then 0 else besI t (r.getD (lb r x) 0) + 1

theorem bes_drop {t : List (List Int)} {i : Nat} (h : i < t.length) (x : Int) :
    besL (t.drop i) x = (if lb (t.getD i []) x = (t.getD i []).length then ((t.getD i []) ++ [x]) :: t.drop (i + 1) else ((t.getD i []).set (lb (t.getD i []) x) x) :: besL (t.drop (i + 1)) ((t.getD i []).getD (lb (t.getD i []) x) 0)) ∧
    besI (t.drop i) x = if lb (t.getD i []) x = (t.getD i []).length then 0 else besI (t.drop (i + 1)) ((t.getD i []).getD (lb (t.getD i []) x) 0) + 1 := by
  rw [drop_pred_getD [] h]
  exact ⟨rfl, rfl⟩

theorem bes_step {t out : List (List Int)} {i : Nat} {x : Int} {k : Nat} {L : List (List Int)} {I : Nat} (hi : i < t.length) (hol : out.length = t.length) (hod : out.drop i = t.drop i) (hL : L = out.take i ++ besL (t.drop i) x) (hI : I = i + besI (t.drop i) x)
    (hk : lb (out.getD i []) x = k) : out.getD i [] = t.getD i [] ∧
    (k = (out.getD i []).length → L = out.set i (out.getD i [] ++ [x]) ∧ I = i) ∧
    (k ≠ (out.getD i []).length → L = (out.set i ((out.getD i []).set k x)).take (i + 1) ++ besL (t.drop (i + 1)) ((out.getD i []).getD k 0) ∧ (out.set i ((out.getD i []).set k x)).drop (i + 1) = t.drop (i + 1) ∧ I = i + 1 + besI (t.drop (i + 1)) ((out.getD i []).getD k 0)) := by
  have hr : out.getD i [] = t.getD i [] := by
    have := congrArg (fun l => l.getD 0 []) hod
    simpa [List.getD_eq_getElem?_getD, List.getElem?_drop] using this
  obtain ⟨d1, d2⟩ := bes_drop hi x
  rw [← hr, hk] at d1 d2
  refine ⟨hr, fun h => ?_, fun h => ?_⟩
  · rw [if_pos h] at d1 d2
    rw [hL, hI, d1, d2, set_split (by omega), drop_more hod]
    exact ⟨rfl, rfl⟩
  · rw [if_neg h] at d1 d2
    rw [hL, hI, d1, d2, set_take (by omega), set_drop, drop_more hod]
    refine ⟨by simp, rfl, by omega⟩

theorem left_scan {out cl : List (List Int)} (h : Tr out cl) {j i : Nat} {x : Int} (hi : i ≤ out.length) (h1 : ∀ a, a < i → j < (out.getD a []).length ∧ (out.getD a []).getD j 0 < x)
    (h2 : i = out.length ∨ (out.getD i []).length ≤ j ∨ x ≤ (out.getD i []).getD j 0) : (j < cl.length → lb (cl.getD j []) x = i ∧ i ≤ (cl.getD j []).length) ∧ (cl.length ≤ j → i = 0) := by
  constructor
  · intro hj
    have hle : i ≤ (cl.getD j []).length := by
      by_cases e : i = 0
      · omega
      · have h3 := (h1 (i - 1) (by omega)).1
        have := (tr_row h (show i - 1 < out.length by omega) j).1 h3
        omega
    refine ⟨lb_of hle (fun a ha => ?_) ?_, hle⟩
    · obtain ⟨h3, h4⟩ := h1 a ha
      rwa [tr_cell h (by omega) h3] at h4
    · by_cases e : i = (cl.getD j []).length
      · exact .inl e
      · refine .inr ?_
        obtain ⟨k1, k2⟩ := tr_in h hj (show i < (cl.getD j []).length by omega)
        rw [← tr_cell h k1 k2]
        rcases h2 with h2 | h2 | h2
        · omega
        · omega
        · exact h2
  · intro hj
    refine Classical.byContradiction fun hn => ?_
    have h3 := (h1 0 (by omega)).1
    have := (tr_row h (show 0 < out.length by omega) j).1 h3
    omega

structure LInv (C : List (List Int)) (x0 : Int) (j : Nat) (x : Int) (out cl : List (List Int)) : Prop where
  tr : Tr out cl
  len : cl.length = C.length
  drop : cl.drop j = C.drop j
  L : besL C x0 = cl.take j ++ besL (C.drop j) x
  I : besI C x0 = j + besI (C.drop j) x
  lens : ∀ k, (cl.getD k []).length = (C.getD k []).length
  jle : j ≤ C.length
  bump : 0 < j → ∃ i0, i0 < (C.getD (j - 1) []).length ∧ x = (C.getD (j - 1) []).getD i0 0

theorem left_step {C out cl : List (List Int)} {x0 x : Int} {j i : Nat} (hC : ∀ j i, 0 < j → j < C.length → i < (C.getD j []).length → (C.getD (j - 1) []).getD i 0 ≤ (C.getD j []).getD i 0) (V : LInv C x0 j x out cl)
    (hi : i ≤ out.length) (h1 : ∀ a, a < i → j < (out.getD a []).length ∧ (out.getD a []).getD j 0 < x) (h2 : i = out.length ∨ (out.getD i []).length ≤ j ∨ x ≤ (out.getD i []).getD j 0) :
    (i = out.length → j = 0 ∧ across (besL C x0) = out ++ [[x]] ∧ besI C x0 = 0) ∧
    (i < out.length → (out.getD i []).length = j → across (besL C x0) = out.set i (out.getD i [] ++ [x]) ∧ besI C x0 = j) ∧
    (i < out.length → (out.getD i []).length ≠ j → j < C.length ∧ j < (out.getD i []).length ∧ LInv C x0 (j + 1) ((out.getD i []).getD j 0) (out.set i ((out.getD i []).set j x)) (cl.set j ((cl.getD j []).set i x))) := by
  obtain ⟨tr, len, drop, L, I, lens, jle, bump⟩ := V
  obtain ⟨s1, s2⟩ := left_scan tr hi h1 h2
  by_cases hj : j < C.length
  · obtain ⟨s3, s4⟩ := s1 (by omega)
    obtain ⟨b1, b2, b3⟩ := bes_step hj len drop L I s3
    by_cases he : i = (cl.getD j []).length
    · obtain ⟨e1, e2⟩ := b2 he
      by_cases j0 : j = 0
      · subst j0
        have hio : i = out.length := by rw [he]; exact tr.2.1.symm
        have hf := tr_foot tr (by omega) x
        refine ⟨fun _ => ⟨rfl, by rw [e1]; exact tr_across hf, e2⟩, fun h => by omega, fun h => by omega⟩
      · have hlt : (cl.getD j []).length < (cl.getD (j - 1) []).length := by
          obtain ⟨i0, g1, g2⟩ := bump (by omega)
          rw [lens (j - 1)]
          refine Classical.byContradiction fun hn => ?_
          have g3 : i0 < (C.getD j []).length := by rw [← lens j]; omega
          have g4 := hC j i0 (by omega) hj g3
          rw [← g2, ← b1] at g4
          have g5 : i0 < i := by rw [he, lens j]; exact g3
          obtain ⟨g6, g7⟩ := h1 i0 g5
          rw [tr_cell tr (by omega) g6] at g7
          omega
        obtain ⟨f1, f2, f3⟩ := tr_end tr (by omega) (by omega) hlt x
        rw [← he] at f1 f2 f3
        exact ⟨fun h => by omega, fun _ _ => ⟨by rw [e1]; exact tr_across f3, e2⟩, fun _ h => absurd f2 h⟩
    · have hlt : i < (cl.getD j []).length := by omega
      obtain ⟨f1, f2⟩ := tr_in tr (by omega) hlt
      obtain ⟨e1, e2, e3⟩ := b3 he
      refine ⟨fun h => by omega, fun _ h => by omega, fun _ _ => ⟨hj, f2, ?_⟩⟩
      have hcell := tr_cell tr f1 f2
      have hset : ∀ k, ((cl.set j ((cl.getD j []).set i x)).getD k []).length = (cl.getD k []).length := fun k => by
        rw [getD_set_row (by omega)]
        split
        · rename_i e; rw [e, List.length_set]
        · rfl
      refine ⟨tr_swap tr (by omega) hlt x, by rw [List.length_set]; exact len, e2, by rw [hcell]; exact e1, by rw [hcell]; exact e3, fun k => by rw [hset, lens], by omega, fun _ => ⟨i, ?_, ?_⟩⟩
      · rw [Nat.add_sub_cancel, ← lens j]; exact hlt
      · rw [Nat.add_sub_cancel, hcell, b1]
  · have hjC : j = C.length := by omega
    have hi0 := s2 (by omega)
    have e0 : C.drop j = [] := List.drop_eq_nil_of_le (by omega)
    rw [e0, show besL [] x = [[x]] from rfl, List.take_of_length_le (by omega)] at L
    rw [e0, show besI [] x = 0 from rfl] at I
    subst hi0
    by_cases ho : out.length = 0
    · have hc0 : cl.length = 0 := by
        refine Classical.byContradiction fun hn => ?_
        have := tr.1.1 0 (by omega)
        have := tr.2.1
        omega
      have : out = [] := List.length_eq_zero_iff.1 ho
      subst this
      have : cl = [] := List.length_eq_zero_iff.1 hc0
      subst this
      refine ⟨fun _ => ⟨by omega, by rw [L]; exact tr_across (tr_one x), by omega⟩, fun h => by omega, fun h => by omega⟩
    · obtain ⟨f1, f2⟩ := tr_new tr (by omega) x
      exact ⟨fun h => by omega, fun _ _ => ⟨by rw [L]; exact tr_across f2, by omega⟩, fun _ h => by omega⟩

theorem left_start {t : List (List Int)} (h : tabRows t) (x : Int) : LInv (across t) x 0 x t (across t) :=
  ⟨tr_tab h, rfl, rfl, rfl, by rw [List.drop_zero]; omega, fun _ => rfl, Nat.zero_le _, fun h => by omega⟩

theorem across_asc {t : List (List Int)} (h : tabRows t) : ∀ j i, 0 < j → j < (across t).length → i < ((across t).getD j []).length → ((across t).getD (j - 1) []).getD i 0 ≤ ((across t).getD j []).getD i 0 := fun j i j0 hj hi => by
  have T := tr_tab h
  obtain ⟨k1, k2⟩ := tr_in T hj hi
  rw [← tr_cell T k1 k2, ← tr_cell T k1 (by omega)]
  exact ((h i k1).2.2 j k2).2.1 j0

end Fer

/- Plain facts: boxes of a partition. No program in sight. -/
namespace Fer

/-- The places of a row. -/
def rowB (i : Nat) (n : Nat) : List (Int × Int) := (List.range n).map fun (j : Nat) => ((i : Int), (j : Int))
def boxes (p : List Int) : List (Int × Int) := (List.range p.length).flatMap fun i => rowB i (p.getD i 0).toNat
def boxesTo (p : List Int) (i : Nat) : List (Int × Int) := (List.range i).flatMap fun i => rowB i (p.getD i 0).toNat

theorem boxesTo_succ (p : List Int) (i : Nat) : boxesTo p (i + 1) = boxesTo p i ++ rowB i (p.getD i 0).toNat := by
  unfold boxesTo
  rw [List.range_succ, List.flatMap_append]
  simp
theorem rowB_succ (i n : Nat) : rowB i (n + 1) = rowB i n ++ [((i : Int), (n : Int))] := by
  unfold rowB
  rw [List.range_succ, List.map_append]
  rfl
@[simp] theorem rowB_length (i n : Nat) : (rowB i n).length = n := by simp [rowB]
theorem boxesTo_le {p : List Int} {c : Nat} (h : ∀ x ∈ p, 0 ≤ x ∧ x ≤ (c : Int)) : ∀ i, i ≤ p.length → (boxesTo p i).length ≤ i * c
  | 0, _ => by simp [boxesTo]
  | i + 1, hi => by
    have := boxesTo_le h i (by omega)
    have := h _ (getD_mem 0 (show i < p.length by omega))
    rw [boxesTo_succ, List.length_append, rowB_length, Nat.add_mul]
    omega

/-- One box more. -/
def fbOne (out : List Int) (b : Int × Int) : List Int := (out ++ List.replicate (b.1.toNat + 1 - out.length) 0).set b.1.toNat ((out ++ List.replicate (b.1.toNat + 1 - out.length) 0).getD b.1.toNat 0 + 1)
def fromB (l : List (Int × Int)) : List Int := l.foldl fbOne []

theorem fromB_take {l : List (Int × Int)} {i : Nat} (h : i < l.length) : fromB (l.take (i + 1)) = fbOne (fromB (l.take i)) (l.getD i (0, 0)) := foldl_take_succ _ _ _ h
theorem fbOne_length (out : List Int) (b : Int × Int) : (fbOne out b).length = max out.length (b.1.toNat + 1) := by
  unfold fbOne
  rw [List.length_set, List.length_append, List.length_replicate]
  omega
theorem fromB_length {c : Nat} : ∀ (l : List (Int × Int)), (∀ b ∈ l, 0 ≤ b.1 ∧ b.1 < (c : Int)) → ∀ i, i ≤ l.length → (fromB (l.take i)).length ≤ c
  | l, h, 0, _ => by simp [fromB]
  | l, h, i + 1, hi => by
    have := fromB_length l h i (by omega)
    have hm : l.getD i (0, 0) ∈ l := getD_mem _ (by omega)
    have := h _ hm
    rw [fromB_take (by omega), fbOne_length]
    omega
theorem fbOne_val {out : List Int} {b : Int × Int} {c : Int} (h : ∀ k, out.getD k 0 ≤ c) (h0 : 0 ≤ c) : ∀ k, (fbOne out b).getD k 0 ≤ c + 1 := fun k => by
  unfold fbOne
  have hap : ∀ k, (out ++ List.replicate (b.1.toNat + 1 - out.length) 0).getD k 0 ≤ c := fun k => by
    rw [append_getD]
    split
    · exact h k
    · rw [replicate_getD]; exact h0
  rw [getD_set_if 0 (by rw [List.length_append, List.length_replicate]; omega)]
  have := hap k
  have := hap b.1.toNat
  split <;> omega
theorem fromB_val {l : List (Int × Int)} : ∀ i, i ≤ l.length → ∀ k, 0 ≤ (fromB (l.take i)).getD k 0 ∧ (fromB (l.take i)).getD k 0 ≤ i
  | 0, _, k => by simp [fromB]
  | i + 1, hi, k => by
    have ih := fromB_val (l := l) i (by omega)
    rw [fromB_take (by omega)]
    generalize fromB (l.take i) = out at *
    generalize l.getD i (0, 0) = b at *
    have hap : ∀ k, 0 ≤ (out ++ List.replicate (b.1.toNat + 1 - out.length) (0 : Int)).getD k 0 ∧ (out ++ List.replicate (b.1.toNat + 1 - out.length) (0 : Int)).getD k 0 ≤ (i : Int) := fun k => by
      rw [append_getD]
      split
      · exact ih k
      · rw [replicate_getD]; omega
    unfold fbOne
    rw [getD_set_if 0 (by rw [List.length_append, List.length_replicate]; omega)]
    have := hap k
    have := hap b.1.toNat
    split <;> omega

theorem boxes_mem {p : List Int} {c : Nat} (h : ∀ x ∈ p, 0 ≤ x ∧ x ≤ (c : Int)) : ∀ b ∈ boxes p, 0 ≤ b.2 ∧ b.2 < (c : Int) := fun b hb => by
  unfold boxes at hb
  obtain ⟨i, hi, hb⟩ := List.mem_flatMap.1 hb
  unfold rowB at hb
  obtain ⟨j, hj, rfl⟩ := List.mem_map.1 hb
  rw [List.mem_range] at hi hj
  have := h _ (getD_mem 0 hi)
  dsimp only
  omega

end Fer

/- Plain facts: partitions. No program in sight. -/
namespace Fer

def partRow (p : List Int) (i : Nat) : Prop := 1 ≤ p.getD i 0 ∧ (0 < i → p.getD i 0 ≤ p.getD (i - 1) 0)
def partRows (p : List Int) : Prop := ∀ i, i < p.length → partRow p i
noncomputable def partE (p : List Int) : Int := @ite _ (partRows p) (Classical.propDecidable _) (if 40 < p.sum then 2 else 0) 1

theorem partE_bad {p : List Int} (h : ¬ partRows p) : partE p = 1 := if_neg h
theorem partE_big {p : List Int} (h : partRows p) (h2 : 40 < p.sum) : partE p = 2 := (if_pos h).trans (if_pos h2)
theorem partE_ok {p : List Int} (h : partRows p) (h2 : ¬ 40 < p.sum) : partE p = 0 := (if_pos h).trans (if_neg h2)
theorem partE_zero {p : List Int} (h : partE p = 0) : partRows p ∧ p.sum ≤ 40 := by
  by_cases h1 : partRows p
  · by_cases h2 : 40 < p.sum
    · rw [partE_big h1 h2] at h; cases h
    · exact ⟨h1, by omega⟩
  · rw [partE_bad h1] at h; cases h

theorem part_take {p : List Int} (h : partRows p) : ∀ i, i ≤ p.length → (i : Int) ≤ (p.take i).sum
  | 0, _ => by simp
  | i + 1, hi => by
    have := part_take h i (by omega)
    have := (h i (by omega)).1
    rw [sum_take_succ (by omega)]; omega
theorem part_mono {p : List Int} (h : partRows p) {i : Nat} : ∀ d, i + d ≤ p.length → (p.take i).sum ≤ (p.take (i + d)).sum
  | 0, _ => Int.le_refl _
  | d + 1, hi => by
    have := part_mono h (i := i) d (by omega)
    have := (h (i + d) (by omega)).1
    rw [show i + (d + 1) = (i + d) + 1 by omega, sum_take_succ (by omega)]; omega
theorem part_sum {p : List Int} (h : partRows p) {i : Nat} (hi : i ≤ p.length) : (p.take i).sum ≤ p.sum := by
  have := part_mono h (i := i) (p.length - i) (by omega)
  rwa [show i + (p.length - i) = p.length by omega, List.take_length] at this
theorem part_le {p : List Int} (h : partRows p) {i : Nat} (hi : i < p.length) : p.getD i 0 ≤ p.sum := by
  have h1 := part_sum h (show i + 1 ≤ p.length by omega)
  have h2 := part_take h i (by omega)
  rw [sum_take_succ hi] at h1
  omega
theorem part_length {p : List Int} (h : partRows p) : (p.length : Int) ≤ p.sum := by
  have := part_take h p.length (Nat.le_refl _)
  rwa [List.take_length] at this
theorem part_desc {p : List Int} (h : partRows p) {i j : Nat} (hij : i ≤ j) (hj : j < p.length) : p.getD j 0 ≤ p.getD i 0 := by
  have key : ∀ d i, i + d < p.length → p.getD (i + d) 0 ≤ p.getD i 0 := by
    intro d
    induction d with
    | zero => intro i _; exact Int.le_refl _
    | succ d ih =>
      intro i hi
      have := (h (i + d + 1) (by omega)).2 (by omega)
      rw [Nat.add_sub_cancel] at this
      exact Int.le_trans this (ih i (by omega))
  have := key (j - i) i (by omega)
  rwa [show i + (j - i) = j by omega] at this

/-- The first ones of a have always as many as those of b. -/
def domP (a b : List Int) : Prop := ∀ k, (b.take k).sum ≤ (a.take k).sum
noncomputable def domB (a b : List Int) : Bool := @decide (domP a b) (Classical.propDecidable _)
theorem domB_true {a b : List Int} (h : domP a b) : domB a b = true := @decide_eq_true _ (Classical.propDecidable _) h
theorem domB_false {a b : List Int} (h : ¬ domP a b) : domB a b = false := @decide_eq_false _ (Classical.propDecidable _) h

theorem take_min (l : List Int) (k : Nat) : l.take (min k l.length) = l.take k := by
  by_cases h : k ≤ l.length
  · rw [Nat.min_eq_left h]
  · rw [Nat.min_eq_right (by omega), List.take_length, List.take_of_length_le (by omega)]

theorem dom_of {a b : List Int} {n : Nat} (hn : a.length ≤ n) (hm : b.length ≤ n) (h : ∀ k, k ≤ n → (b.take k).sum ≤ (a.take k).sum) : domP a b := fun k => by
  by_cases hk : k ≤ n
  · exact h k hk
  · have := h n (Nat.le_refl _)
    rw [List.take_of_length_le (by omega), List.take_of_length_le (by omega)] at this ⊢
    exact this

noncomputable def pbE (a b : List Int) : Int := if partE a ≠ 0 then partE a else if partE b ≠ 0 then partE b else if a.sum ≠ b.sum then 3 else 0
theorem pbE_zero {a b : List Int} (h : pbE a b = 0) : partE a = 0 ∧ partE b = 0 ∧ a.sum = b.sum := by
  unfold pbE at h
  split at h
  · rename_i h1; exact absurd h h1
  · rename_i h1
    split at h
    · rename_i h2; exact absurd h h2
    · rename_i h2
      split at h
      · cases h
      · rename_i h3
        exact ⟨by simpa using h1, by simpa using h2, by simpa using h3⟩

theorem sum_take_ext {l : List Int} {i : Nat} : (l.take (i + 1)).sum = (l.take i).sum + if i < l.length then l.getD i 0 else 0 := by
  by_cases h : i < l.length
  · rw [if_pos h, sum_take_succ h]
  · rw [if_neg h, List.take_of_length_le (by omega), List.take_of_length_le (by omega)]; omega
theorem part_take_rng {p : List Int} (h : partE p = 0) (i : Nat) : 0 ≤ (p.take i).sum ∧ (p.take i).sum ≤ 40 := by
  obtain ⟨h1, h2⟩ := partE_zero h
  rw [← take_min]
  have := part_take h1 (min i p.length) (Nat.min_le_right ..)
  have := part_sum h1 (i := min i p.length) (Nat.min_le_right ..)
  omega

/-- How many parts are greater: the columns. -/
def flipL (p : List Int) : List Int := (List.range (p.getD 0 0).toNat).map fun (j : Nat) => (((p.takeWhile fun x => decide ((j : Int) < x)).length : Nat) : Int)

/-! ### Rows of boxes, counted -/

theorem fbOne_getD {out : List Int} {b : Int × Int} (r : Nat) : (fbOne out b).getD r 0 = out.getD r 0 + if b.1.toNat = r then 1 else 0 := by
  have hap : ∀ k, (out ++ List.replicate (b.1.toNat + 1 - out.length) 0).getD k 0 = out.getD k 0 := fun k => by
    rw [append_getD]
    split
    · rfl
    · rename_i h
      rw [replicate_getD, List.getD_eq_getElem?_getD, List.getElem?_eq_none (by omega)]; rfl
  unfold fbOne
  rw [getD_set_if 0 (by rw [List.length_append, List.length_replicate]; omega), hap]
  by_cases e : r = b.1.toNat
  · rw [if_pos e, if_pos e.symm, e]
  · rw [if_neg e, if_neg (fun h => e h.symm), hap]; omega
theorem fold_getD (r : Nat) : ∀ (l : List (Int × Int)) (out : List Int), (l.foldl fbOne out).getD r 0 = out.getD r 0 + (l.countP fun b => decide (b.1.toNat = r) : Nat)
  | [], out => by simp
  | b :: l, out => by
    rw [List.foldl_cons, fold_getD r l, fbOne_getD, List.countP_cons]
    by_cases e : b.1.toNat = r
    · simp only [e, if_true, decide_true]; omega
    · simp only [e, if_false, decide_false, Bool.false_eq_true]; omega
theorem fold_length (m : Nat) : ∀ (l : List (Int × Int)) (out : List Int), (l.foldl fbOne out).length ≤ m ↔ out.length ≤ m ∧ ∀ b ∈ l, b.1.toNat < m
  | [], out => by simp
  | b :: l, out => by
    rw [List.foldl_cons, fold_length m l, fbOne_length]
    simp only [List.mem_cons, forall_eq_or_imp]
    constructor
    · rintro ⟨h1, h2⟩; exact ⟨by omega, by omega, h2⟩
    · rintro ⟨h1, h2, h3⟩; exact ⟨by omega, h3⟩
theorem fromB_getD (l : List (Int × Int)) (r : Nat) : (fromB l).getD r 0 = (l.countP fun b => decide (b.1.toNat = r) : Nat) := by
  unfold fromB
  rw [fold_getD]; simp
theorem fromB_len (l : List (Int × Int)) (m : Nat) : (fromB l).length ≤ m ↔ ∀ b ∈ l, b.1.toNat < m := by
  unfold fromB
  rw [fold_length]; simp

theorem rowB_col (i n j : Nat) : (rowB i n).countP (fun b => decide (b.2.toNat = j)) = if j < n then 1 else 0 := by
  induction n with
  | zero => rfl
  | succ n ih =>
    rw [rowB_succ, List.countP_append, ih]
    by_cases e : n = j
    · subst e; simp
    · have : ¬ ((n : Int).toNat = j) := by omega
      simp only [List.countP_cons, List.countP_nil, this, decide_false, Bool.false_eq_true, if_false]
      by_cases h : j < n
      · rw [if_pos h, if_pos (by omega)]
      · rw [if_neg h, if_neg (by omega)]
theorem boxes_col {p : List Int} (j : Nat) (hr : partRows p) : ∀ i, i ≤ p.length → (boxesTo p i).countP (fun b => decide (b.2.toNat = j)) = (p.take i).countP fun x => decide ((j : Int) < x)
  | 0, _ => by simp [boxesTo]
  | i + 1, hi => by
    have := (hr i (by omega)).1
    rw [boxesTo_succ, List.countP_append, boxes_col j hr i (by omega), countP_take_succ _ 0 (by omega), rowB_col]
    by_cases h : j < (p.getD i 0).toNat
    · rw [if_pos h, if_pos (decide_eq_true (by omega))]
    · rw [if_neg h, if_neg (by rw [decide_eq_true_eq]; omega)]

theorem while_count {p : List Int} (hr : partRows p) (j : Int) : (p.takeWhile fun x => decide (j < x)).length = p.countP fun x => decide (j < x) := by
  obtain ⟨m, hm, h1, h2⟩ := leastNat (P := fun m => m = p.length ∨ ¬ j < p.getD m 0) p.length (.inl rfl)
  have hlt : ∀ a, a < m → j < p.getD a 0 := fun a ha => by have := h2 a ha; omega
  rw [while_cutG 0 hm (fun a ha => decide_eq_true (hlt a ha)) (h1.imp id fun h => decide_eq_false h), List.length_take]
  have e1 : (p.take m).countP (fun x => decide (j < x)) = (p.take m).length := List.countP_eq_length.2 fun x hx => by
    obtain ⟨a, ha, rfl⟩ := mem_getD 0 hx
    rw [List.length_take] at ha
    have : (p.take m).getD a 0 = p.getD a 0 := by simp only [List.getD_eq_getElem?_getD, List.getElem?_take, if_pos (show a < m by omega)]
    rw [this]
    exact decide_eq_true (hlt a (by omega))
  have e2 : (p.drop m).countP (fun x => decide (j < x)) = 0 := List.countP_eq_zero.2 fun x hx => by
    obtain ⟨a, ha, rfl⟩ := mem_getD 0 hx
    rw [List.length_drop] at ha
    rw [drop_getD]
    have := part_desc hr (show m ≤ m + a by omega) (by omega)
    rw [decide_eq_true_eq]
    rcases h1 with h1 | h1
    · omega
    · omega
  have e3 : p.countP (fun x => decide (j < x)) = (p.take m).countP (fun x => decide (j < x)) + (p.drop m).countP (fun x => decide (j < x)) := by
    rw [← List.countP_append, List.take_append_drop]
  rw [e3, e1, e2, List.length_take]
  omega

theorem flipL_getD {p : List Int} {j : Nat} (h : j < (p.getD 0 0).toNat) : (flipL p).getD j 0 = (p.countP (fun x => decide ((j : Int) < x)) : Nat) ∨ ¬ partRows p := by
  by_cases hr : partRows p
  · left
    unfold flipL
    rw [range_map_getD _ _ h, while_count hr]
  · exact .inr hr

theorem mem_boxes {p : List Int} {b : Int × Int} : b ∈ boxes p ↔ ∃ i j : Nat, i < p.length ∧ j < (p.getD i 0).toNat ∧ b = ((i : Int), (j : Int)) := by
  unfold boxes rowB
  simp only [List.mem_flatMap, List.mem_map, List.mem_range]
  constructor
  · rintro ⟨i, hi, j, hj, rfl⟩; exact ⟨i, j, hi, hj, rfl⟩
  · rintro ⟨i, j, hi, hj, rfl⟩; exact ⟨i, hi, j, hj, rfl⟩

theorem conj_eq {p : List Int} (hr : partRows p) : fromB ((boxes p).map fun b => (b.2, b.1)) = flipL p := by
  have hfl : (flipL p).length = (p.getD 0 0).toNat := by simp [flipL]
  have hlen : ∀ m, (fromB ((boxes p).map fun b => (b.2, b.1))).length ≤ m ↔ (p.getD 0 0).toNat ≤ m := fun m => by
    rw [fromB_len]
    simp only [List.mem_map, forall_exists_index, and_imp, forall_apply_eq_imp_iff₂]
    constructor
    · intro h
      by_cases e : (p.getD 0 0).toNat = 0
      · omega
      · have hp : 0 < p.length := by
          refine Classical.byContradiction fun hn => e ?_
          rw [List.length_eq_zero_iff.1 (show p.length = 0 by omega)]; rfl
        have := h (((0 : Nat) : Int), ((((p.getD 0 0).toNat - 1 : Nat)) : Int)) (mem_boxes.2 ⟨0, _, hp, by omega, rfl⟩)
        dsimp only at this
        omega
    · rintro h b hb
      obtain ⟨i, j, hi, hj, rfl⟩ := mem_boxes.1 hb
      have := part_desc hr (Nat.zero_le i) hi
      dsimp only
      omega
  have hl : (fromB ((boxes p).map fun b => (b.2, b.1))).length = (flipL p).length := by
    have h1 := hlen (fromB ((boxes p).map fun b => (b.2, b.1))).length
    have h2 := hlen (p.getD 0 0).toNat
    omega
  refine ext_getD 0 hl fun j hj => ?_
  rw [fromB_getD, (flipL_getD (by omega)).resolve_right (fun h => h hr), List.countP_map]
  have := boxes_col j hr p.length (Nat.le_refl _)
  rw [List.take_length] at this
  rw [← this]
  rfl

/-! ### The diagonal -/

def durf (p : List Int) : List Nat := (List.range p.length).takeWhile fun (i : Nat) => decide ((i : Int) < p.getD i 0)
def frA (p : List Int) : List Int := (durf p).map fun (i : Nat) => p.getD i 0 - i - 1
def frL (p : List Int) : List Int := (durf p).map fun (i : Nat) => (flipL p).getD i 0 - i - 1

theorem durf_of {p : List Int} {i : Nat} (hi : i ≤ p.length) (h1 : ∀ a, a < i → (a : Int) < p.getD a 0) (h2 : i = p.length ∨ p.getD i 0 ≤ i) : durf p = List.range i := by
  have e : ∀ a, a < p.length → (List.range p.length).getD a 0 = a := fun a ha => by rw [getD_lt 0 (by simp; omega)]; simp
  have k1 : ∀ a, a < i → (fun i : Nat => decide ((i : Int) < p.getD i 0)) ((List.range p.length).getD a 0) = true := fun a ha => by
    rw [e a (by omega)]; exact decide_eq_true (h1 a ha)
  have k2 : i = (List.range p.length).length ∨ (fun i : Nat => decide ((i : Int) < p.getD i 0)) ((List.range p.length).getD i 0) = false := by
    by_cases c : i = p.length
    · left; simpa using c
    · right
      rw [e i (by omega)]
      exact decide_eq_false (by omega)
  unfold durf
  rw [while_cutG 0 (by simpa using hi) k1 k2, List.take_range, Nat.min_eq_left hi]

/-- A box's arm and leg. -/
def armN (l : List (Int × Int)) (b : Int × Int) : Int := (l.countP fun k => decide (k.1 = b.1 ∧ b.2 < k.2) : Nat)
def legN (l : List (Int × Int)) (b : Int × Int) : Int := (l.countP fun k => decide (k.2 = b.2 ∧ b.1 < k.1) : Nat)
def diagA (l : List (Int × Int)) : List Int := (l.filter fun b => decide (b.1 = b.2)).map (armN l)
def diagL (l : List (Int × Int)) : List Int := (l.filter fun b => decide (b.1 = b.2)).map (legN l)
def dgTo (f : Int × Int → Int) (l : List (Int × Int)) (i : Nat) : List Int := ((l.take i).filter fun b => decide (b.1 = b.2)).map f
theorem dgTo_succ {f : Int × Int → Int} {l : List (Int × Int)} {i : Nat} (h : i < l.length) : dgTo f l (i + 1) = dgTo f l i ++ if (l.getD i (0, 0)).1 = (l.getD i (0, 0)).2 then [f (l.getD i (0, 0))] else [] := by
  have e : l.getD i (0, 0) = l[i] := by simp [h]
  unfold dgTo
  rw [List.take_add_one, List.getElem?_eq_getElem h, e, List.filter_append, List.map_append]
  congr 1
  simp only [Option.toList_some, List.filter_cons, List.filter_nil]
  split
  · rename_i h1; rw [if_pos (of_decide_eq_true h1)]; rfl
  · rename_i h1; rw [if_neg (fun h => h1 (decide_eq_true h))]; rfl
theorem dgTo_length (f : Int × Int → Int) (l : List (Int × Int)) (i : Nat) : (dgTo f l i).length ≤ l.length := by
  unfold dgTo
  rw [List.length_map]
  exact Nat.le_trans (List.length_filter_le _ _) (by rw [List.length_take]; omega)
theorem count_succ {f : Int × Int → Bool} {l : List (Int × Int)} {i : Nat} (h : i < l.length) : (l.take (i + 1)).countP f = (l.take i).countP f + if f (l.getD i (0, 0)) = true then 1 else 0 := by
  have e : l.getD i (0, 0) = l[i] := by simp [h]
  rw [List.take_add_one, List.getElem?_eq_getElem h, e, List.countP_append]
  simp [List.countP_cons]

/-- Each less than the one before, none below 0. -/
def fallsP (l : List Int) : Prop := ∀ i, i < l.length → 0 ≤ l.getD i 0 ∧ (0 < i → l.getD i 0 < l.getD (i - 1) 0)
noncomputable def fallsB (l : List Int) : Bool := @decide (fallsP l) (Classical.propDecidable _)
theorem fallsB_true {l : List Int} (h : fallsP l) : fallsB l = true := @decide_eq_true _ (Classical.propDecidable _) h
theorem fallsB_false {l : List Int} (h : ¬ fallsP l) : fallsB l = false := @decide_eq_false _ (Classical.propDecidable _) h
theorem of_fallsB {l : List Int} (h : fallsB l = true) : fallsP l := @of_decide_eq_true _ (Classical.propDecidable _) h
theorem not_fallsB {l : List Int} (h : fallsB l = false) : ¬ fallsP l := @of_decide_eq_false _ (Classical.propDecidable _) h

end Fer

/- Plain facts: the two tableaux of a word; letters taken out again. No program in sight. -/
set_option maxHeartbeats 1000000
namespace Fer

/-! ### Two tableaux of a word -/

def qStep (q : List (List Int)) (row : Nat) (a : Int) : List (List Int) :=
  (if row = q.length then q ++ [[]] else q).set row ((if row = q.length then q ++ [[]] else q).getD row [] ++ [a])
def pqP (w : List Int) : Nat → List (List Int)
  | 0 => []
  | k + 1 => intoL (pqP w k) (w.getD k 0)
def pqQ (w a : List Int) : Nat → List (List Int)
  | 0 => []
  | k + 1 => qStep (pqQ w a k) (intoI (pqP w k) (w.getD k 0)) (a.getD k 0)

def RA (n : Nat) (t : List (List Int)) : Prop := t.length ≤ n ∧ ∀ r ∈ t, r.length ≤ n ∧ Asc r ∧ ∀ x ∈ r, 1 ≤ x ∧ x ≤ 99

theorem lb_lt {r : List Int} {x : Int} : ∀ {j : Nat}, j < lb r x → r.getD j 0 < x := by
  induction r with
  | nil => intro j h; simp [lb] at h
  | cons a r ih =>
    intro j h
    unfold lb at h ih
    rw [List.takeWhile_cons] at h
    split at h
    · rename_i ha
      cases j with
      | zero => simpa using ha
      | succ j => exact ih (by simpa using h)
    · simp at h
theorem lb_ge {r : List Int} {x : Int} (h : lb r x < r.length) : x ≤ r.getD (lb r x) 0 := by
  induction r with
  | nil => simp [lb] at h
  | cons a r ih =>
    unfold lb at h ih ⊢
    rw [List.takeWhile_cons] at h ⊢
    split
    · rename_i ha
      rw [if_pos ha] at h
      simp only [List.length_cons] at h ⊢
      have := ih (by omega)
      simpa using this
    · rename_i ha
      simpa using ha
theorem lb_has {r : List Int} {x : Int} (h : Asc r) {j : Nat} (hj : j < r.length) (hx : r.getD j 0 < x) : j < lb r x := by
  refine Nat.lt_of_not_le fun hle => ?_
  have h1 := lb_ge (r := r) (x := x) (by omega)
  have := h _ _ hle hj
  omega

theorem mem_at {r : List Int} {x : Int} (h : x ∈ r) : ∃ j, j < r.length ∧ r.getD j 0 = x := by
  obtain ⟨j, hj, e⟩ := List.mem_iff_getElem.1 h
  exact ⟨j, hj, by rw [List.getD_eq_getElem?_getD, List.getElem?_eq_getElem hj]; exact e⟩
theorem at_mem {α : Type} {r : List α} {d : α} {j : Nat} (h : j < r.length) : r.getD j d ∈ r := by
  rw [List.getD_eq_getElem?_getD, List.getElem?_eq_getElem h]
  exact List.getElem_mem h

theorem asc_snoc {r : List Int} {x : Int} (h : Asc r) (hx : ∀ y ∈ r, y ≤ x) : Asc (r ++ [x]) := by
  refine asc_of fun j hj => ?_
  rw [List.length_append, List.length_singleton] at hj
  simp only [List.getD_eq_getElem?_getD, List.getElem?_append, if_pos (show j < r.length by omega)]
  by_cases e : j + 1 < r.length
  · rw [if_pos e]
    have := h j (j + 1) (by omega) e
    simpa only [List.getD_eq_getElem?_getD] using this
  · rw [if_neg e, show j + 1 - r.length = 0 by omega]
    have := hx _ (at_mem (d := 0) (show j < r.length by omega))
    rw [List.getD_eq_getElem?_getD] at this
    exact this
theorem asc_put {r : List Int} {x : Int} {k : Nat} (h : Asc r) (hk : k < r.length) (h1 : ∀ j, j < k → r.getD j 0 ≤ x) (h2 : ∀ j, k < j → j < r.length → x ≤ r.getD j 0) : Asc (r.set k x) := by
  refine asc_of fun j hj => ?_
  rw [List.length_set] at hj
  rw [getD_set_if 0 hk, getD_set_if 0 hk]
  have := h j (j + 1) (by omega) hj
  split
  · rename_i e
    rw [if_neg (by omega)]
    exact h2 _ (by omega) hj
  · split
    · exact h1 _ (by omega)
    · exact this

theorem ra_into {n : Nat} {x : Int} : ∀ {t : List (List Int)}, (∀ r ∈ t, r.length ≤ n ∧ Asc r ∧ ∀ x ∈ r, 1 ≤ x ∧ x ≤ 99) → 1 ≤ x → x ≤ 99 →
    ∀ r ∈ intoL t x, r.length ≤ n + 1 ∧ Asc r ∧ ∀ x ∈ r, 1 ≤ x ∧ x ≤ 99 := by
  intro t
  induction t generalizing x with
  | nil =>
    intro _ h0 h1 r hr
    simp only [intoL, List.mem_singleton] at hr
    subst hr
    refine ⟨by simp, asc_of fun j hj => by simp at hj, fun y hy => ?_⟩
    simp only [List.mem_singleton] at hy
    omega
  | cons r t ih =>
    intro H h0 h1 r' hr'
    obtain ⟨a1, a2, a3⟩ := H r (by simp)
    have H' := fun r' (h : r' ∈ t) => H r' (List.mem_cons_of_mem _ h)
    simp only [intoL] at hr'
    split at hr'
    · rename_i he
      rcases List.mem_cons.1 hr' with rfl | hr'
      · refine ⟨by simp; omega, asc_snoc a2 fun y hy => ?_, fun y hy => ?_⟩
        · obtain ⟨j, hj, rfl⟩ := mem_at hy
          have := lb_lt (r := r) (x := x + 1) (j := j) (by omega)
          omega
        · rcases List.mem_append.1 hy with hy | hy
          · exact a3 y hy
          · simp only [List.mem_singleton] at hy; omega
      · obtain ⟨b1, b2⟩ := H' r' hr'
        exact ⟨by omega, b2⟩
    · rename_i he
      have hlt : lb r (x + 1) < r.length := by have := lb_le r (x + 1); omega
      rcases List.mem_cons.1 hr' with rfl | hr'
      · refine ⟨by rw [List.length_set]; omega, asc_put a2 hlt (fun j hj => ?_) (fun j hj hj2 => ?_), fun y hy => ?_⟩
        · have := lb_lt hj; omega
        · have h1 := lb_ge hlt
          have := a2 _ _ (Nat.le_of_lt hj) hj2
          omega
        · obtain ⟨j, hj, rfl⟩ := mem_at hy
          rw [List.length_set] at hj
          rw [getD_set_if 0 hlt]
          split
          · exact ⟨h0, h1⟩
          · exact a3 _ (at_mem hj)
      · have hm := a3 _ (at_mem (d := 0) hlt)
        exact ih H' hm.1 hm.2 r' hr'
theorem into_len {x : Int} : ∀ {t : List (List Int)}, intoI t x ≤ t.length ∧ (intoL t x).length = if intoI t x = t.length then t.length + 1 else t.length := by
  intro t
  induction t generalizing x with
  | nil => simp [intoI, intoL]
  | cons r t ih =>
    simp only [intoI, intoL]
    split
    · simp
    · obtain ⟨h1, h2⟩ := ih (x := r.getD (lb r (x + 1)) 0)
      simp only [List.length_cons, h2]
      refine ⟨by omega, ?_⟩
      by_cases e : intoI t (r.getD (lb r (x + 1)) 0) = t.length
      · rw [if_pos e, if_pos (by omega)]
      · rw [if_neg e, if_neg (by omega)]

theorem pqP_ra {w : List Int} (hw : ∀ x ∈ w, 1 ≤ x ∧ x ≤ 99) : ∀ k, k ≤ w.length → RA k (pqP w k)
  | 0, _ => ⟨Nat.le_refl _, fun _ h => by cases h⟩
  | k + 1, hk => by
    obtain ⟨h1, h2⟩ := pqP_ra hw k (by omega)
    have hx := hw _ (at_mem (d := 0) (show k < w.length by omega))
    refine ⟨?_, ra_into (n := k) h2 hx.1 hx.2⟩
    show (intoL (pqP w k) (w.getD k 0)).length ≤ k + 1
    rw [into_len.2]
    split <;> omega

theorem qStep_len {q : List (List Int)} {row : Nat} {a : Int} : (qStep q row a).length = if row = q.length then q.length + 1 else q.length := by
  unfold qStep
  rw [List.length_set]
  split
  · simp
  · rfl
theorem pqQ_len {w a : List Int} : ∀ k, (pqQ w a k).length = (pqP w k).length
  | 0 => rfl
  | k + 1 => by
    show (qStep (pqQ w a k) (intoI (pqP w k) (w.getD k 0)) (a.getD k 0)).length = (intoL (pqP w k) (w.getD k 0)).length
    rw [qStep_len, into_len.2, pqQ_len k]
theorem qStep_row {q : List (List Int)} {row : Nat} {a : Int} {n : Nat} (hr : row ≤ q.length) (h : ∀ i, (q.getD i []).length ≤ n) : ∀ i, ((qStep q row a).getD i []).length ≤ n + 1 := by
  intro i
  unfold qStep
  have key : ∀ q' : List (List Int), row < q'.length → (∀ i, (q'.getD i []).length ≤ n) → ((q'.set row (q'.getD row [] ++ [a])).getD i []).length ≤ n + 1 := by
    intro q' h1 h2
    rw [getD_set_if [] h1]
    split
    · have := h2 row; rw [List.length_append, List.length_singleton]; omega
    · have := h2 i; omega
  split
  · refine key _ (by simp; omega) fun j => ?_
    simp only [List.getD_eq_getElem?_getD, List.getElem?_append]
    split
    · have := h j; simpa only [List.getD_eq_getElem?_getD] using this
    · cases j - q.length <;> simp
  · exact key q (by omega) h
theorem pqQ_row {w a : List Int} : ∀ k i, ((pqQ w a k).getD i []).length ≤ k
  | 0, i => by simp [pqQ]
  | k + 1, i => qStep_row (by rw [pqQ_len]; exact into_len.1) (fun j => pqQ_row k j) i

end Fer

/- Plain facts: letters taken out of two tableaux. No program in sight. -/
set_option maxHeartbeats 2000000
namespace Fer

def lastL (r : List Int) : Int := r.getD (r.length - 1) 0
def upX : List (List Int) → Int → Int
  | [], x => x
  | r :: t, x => r.getD (lb r (upX t x) - 1) 0
def upL : List (List Int) → Int → List (List Int)
  | [], _ => []
  | r :: t, x => r.set (lb r (upX t x) - 1) (upX t x) :: upL t x
def cutB (t : List (List Int)) (row : Nat) : List (List Int) := if (t.getD row []).length = 1 then t.take row else t.set row ((t.getD row []).take ((t.getD row []).length - 1))
def takL (t : List (List Int)) (row : Nat) : List (List Int) := upL (t.take row) (lastL (t.getD row [])) ++ (cutB t row).drop row
def takX (t : List (List Int)) (row : Nat) : Int := upX (t.take row) (lastL (t.getD row []))

theorem upL_len : ∀ (t : List (List Int)) (x : Int), (upL t x).length = t.length
  | [], _ => rfl
  | _ :: t, x => by simp [upL, upL_len t x]
theorem up_drop {t : List (List Int)} {i : Nat} (h : i < t.length) (x : Int) :
    upX (t.drop i) x = (t.getD i []).getD (lb (t.getD i []) (upX (t.drop (i + 1)) x) - 1) 0 ∧
    upL (t.drop i) x = (t.getD i []).set (lb (t.getD i []) (upX (t.drop (i + 1)) x) - 1) (upX (t.drop (i + 1)) x) :: upL (t.drop (i + 1)) x := by
  rw [drop_pred_getD [] h]
  exact ⟨rfl, rfl⟩
theorem upL_getD : ∀ {t : List (List Int)} {i : Nat} (x : Int), i < t.length → (upL t x).getD i [] = (t.getD i []).set (lb (t.getD i []) (upX (t.drop (i + 1)) x) - 1) (upX (t.drop (i + 1)) x)
  | [], _, _, h => by simp at h
  | r :: t, 0, x, _ => by simp [upL]
  | r :: t, i + 1, x, h => by
    have := upL_getD (t := t) (i := i) x (by simpa using h)
    simpa [upL] using this

theorem take_getD {α : Type} {l : List α} {d : α} {i n : Nat} (h : i < n) : (l.take n).getD i d = l.getD i d := by
  simp only [List.getD_eq_getElem?_getD, List.getElem?_take, if_pos h]
theorem dropD {α : Type} {l : List α} {d : α} {i n : Nat} : (l.drop n).getD i d = l.getD (n + i) d := by
  simp only [List.getD_eq_getElem?_getD, List.getElem?_drop]
theorem appD {α : Type} {l m : List α} {d : α} {i : Nat} : (l ++ m).getD i d = if i < l.length then l.getD i d else m.getD (i - l.length) d := by
  simp only [List.getD_eq_getElem?_getD, List.getElem?_append]
  split <;> rfl

theorem cutB_len {t : List (List Int)} {row : Nat} (hr : row < t.length) : (cutB t row).length = if (t.getD row []).length = 1 then row else t.length := by
  unfold cutB
  split
  · rw [List.length_take]; omega
  · rw [List.length_set]
theorem cutB_getD {t : List (List Int)} {row i : Nat} (hr : row < t.length) (hi : i < (cutB t row).length) : (cutB t row).getD i [] = if i = row then (t.getD row []).take ((t.getD row []).length - 1) else t.getD i [] := by
  rw [cutB_len hr] at hi
  unfold cutB
  split
  · rename_i h
    rw [if_pos h] at hi
    rw [take_getD hi, if_neg (by omega)]
  · rw [getD_set_if [] hr]
theorem takL_len {t : List (List Int)} {row : Nat} (hr : row < t.length) : (takL t row).length = (cutB t row).length := by
  have := cutB_len hr
  unfold takL
  rw [List.length_append, upL_len, List.length_take, List.length_drop]
  split at this <;> omega
theorem takL_getD {t : List (List Int)} {row i : Nat} (hr : row < t.length) : (takL t row).getD i [] =
    if i < row then (t.getD i []).set (lb (t.getD i []) (upX ((t.take row).drop (i + 1)) (lastL (t.getD row []))) - 1) (upX ((t.take row).drop (i + 1)) (lastL (t.getD row []))) else (cutB t row).getD i [] := by
  have hl : (upL (t.take row) (lastL (t.getD row []))).length = row := by rw [upL_len, List.length_take]; omega
  unfold takL
  split
  · rename_i h
    rw [appD, hl, if_pos h, upL_getD _ (by rw [List.length_take]; omega), take_getD h]
  · rename_i h
    rw [appD, hl, if_neg h, dropD, show row + (i - row) = i by omega]

/-- Where the letter that goes up comes by. -/
def upK (t : List (List Int)) (row i : Nat) : Nat := if i = row then (t.getD row []).length - 1 else lb (t.getD i []) (upX ((t.take row).drop (i + 1)) (lastL (t.getD row []))) - 1
def upV (t : List (List Int)) (row i : Nat) : Int := upX ((t.take row).drop i) (lastL (t.getD row []))

theorem up_facts {t : List (List Int)} {row : Nat} (ht : tabRows t) (hr : row < t.length) : ∀ d i, i + d = row →
    upK t row i < (t.getD i []).length ∧ upV t row i = (t.getD i []).getD (upK t row i) 0 ∧ (i < row → 1 ≤ lb (t.getD i []) (upV t row (i + 1)) ∧ upK t row i + 1 = lb (t.getD i []) (upV t row (i + 1)) ∧ upK t row (i + 1) ≤ upK t row i)
  | 0, i, h => by
    have : i = row := by omega
    subst this
    have h0 := (ht i hr).1
    refine ⟨by unfold upK; rw [if_pos rfl]; omega, ?_, fun h => by omega⟩
    unfold upV upK
    rw [if_pos rfl, List.drop_eq_nil_of_le (by rw [List.length_take]; omega)]
    rfl
  | d + 1, i, h => by
    obtain ⟨f1, f2, _⟩ := up_facts ht hr d (i + 1) (by omega)
    have hT := ht (i + 1) (by omega)
    have hlen : (t.getD (i + 1) []).length ≤ (t.getD i []).length := by have := hT.2.1 (by omega); simpa using this
    have hcol := ((hT.2.2 (upK t row (i + 1)) f1).2.2 (by omega))
    simp only [Nat.add_sub_cancel] at hcol
    rw [← f2] at hcol
    have hA := tab_asc (ht i (by omega))
    have hb := lb_has hA (j := upK t row (i + 1)) (by omega) hcol
    have hle := lb_le (t.getD i []) (upV t row (i + 1))
    have hk : upK t row i = lb (t.getD i []) (upV t row (i + 1)) - 1 := by
      unfold upK upV; rw [if_neg (by omega)]
    refine ⟨by omega, ?_, fun _ => ⟨by omega, by omega, by omega⟩⟩
    rw [hk]
    unfold upV
    rw [(up_drop (t := t.take row) (i := i) (by rw [List.length_take]; omega) _).1, take_getD (by omega)]

def crn (t : List (List Int)) (row : Nat) : Prop := row + 1 < t.length → (t.getD (row + 1) []).length < (t.getD row []).length

theorem crn_one {t : List (List Int)} {row : Nat} (ht : tabRows t) (hc : crn t row) (h1 : (t.getD row []).length = 1) : t.length ≤ row + 1 := by
  refine Nat.le_of_not_lt fun h => ?_
  have := hc h
  have := (ht (row + 1) h).1
  omega

theorem cut_tab {t : List (List Int)} {row : Nat} (ht : tabRows t) (hr : row < t.length) (hc : crn t row) : tabRows (cutB t row) := by
  intro i hi
  have hl := cutB_len hr
  have hone := crn_one ht hc
  have g := fun (a : Nat) (ha : a < (cutB t row).length) => cutB_getD hr ha
  have it : i < t.length := by rw [hl] at hi; split at hi <;> omega
  have T := ht i it
  have ei := g i hi
  have h0 := (ht row hr).1
  have hir : i = row → (t.getD row []).length ≠ 1 := fun e h => by rw [hl, if_pos h] at hi; omega
  have hw : ∀ a, a < (cutB t row).length → ∀ j, j < ((cutB t row).getD a []).length → ((cutB t row).getD a []).getD j 0 = (t.getD a []).getD j 0 ∧ j < (t.getD a []).length := fun a ha j hj => by
    rw [g a ha] at hj ⊢
    split
    · rename_i e
      subst e
      rw [if_pos rfl, List.length_take] at hj
      exact ⟨take_getD (by omega), by omega⟩
    · rename_i e
      rw [if_neg e] at hj
      exact ⟨rfl, hj⟩
  have hlen : ∀ a, a < (cutB t row).length → ((cutB t row).getD a []).length = if a = row then (t.getD row []).length - 1 else (t.getD a []).length := fun a ha => by
    rw [g a ha]
    split
    · rw [List.length_take]; omega
    · rfl
  refine ⟨?_, fun i0 => ?_, fun j hj => ?_⟩
  · rw [hlen i hi]
    split
    · rename_i e; have := hir e; omega
    · exact T.1
  · rw [hlen i hi, hlen (i - 1) (by omega)]
    have h1 := T.2.1 i0
    split
    · rename_i e
      subst e
      rw [if_neg (by omega)]
      omega
    · split
      · rename_i e
        have := hc (by omega)
        rw [show row + 1 = i by omega] at this
        omega
      · exact h1
  · obtain ⟨e1, e2⟩ := hw i hi j hj
    obtain ⟨b1, b2, b3⟩ := T.2.2 j e2
    rw [e1]
    refine ⟨b1, fun j0 => ?_, fun i0 => ?_⟩
    · rw [(hw i hi (j - 1) (by omega)).1]
      exact b2 j0
    · have hjl : j < ((cutB t row).getD (i - 1) []).length := by
        rw [hlen i hi] at hj
        rw [hlen (i - 1) (by omega)]
        have h1 := T.2.1 i0
        split
        · rename_i e
          rw [if_neg (by omega)] at hj
          have := hc (by omega)
          rw [show row + 1 = i by omega] at this
          omega
        · split at hj <;> omega
      rw [(hw (i - 1) (by omega) j hjl).1]
      exact b3 i0

theorem tak_tab {t : List (List Int)} {row : Nat} (ht : tabRows t) (hr : row < t.length) (hc : crn t row) : tabRows (takL t row) ∧ ∀ i, ((takL t row).getD i []).length = ((cutB t row).getD i []).length := by
  have hC := cut_tab ht hr hc
  have hl := cutB_len hr
  have hL := takL_len hr
  have F := fun i (h : i ≤ row) => up_facts ht hr (row - i) i (by omega)
  have gT : ∀ i, i < row → (takL t row).getD i [] = (t.getD i []).set (upK t row i) (upV t row (i + 1)) := fun i h => by
    rw [takL_getD hr, if_pos h]
    unfold upK upV
    rw [if_neg (by omega)]
  have gC : ∀ i, ¬ i < row → (takL t row).getD i [] = (cutB t row).getD i [] := fun i h => by rw [takL_getD hr, if_neg h]
  have hcl : row ≤ (cutB t row).length := by rw [hl]; split <;> omega
  have lens : ∀ i, ((takL t row).getD i []).length = ((cutB t row).getD i []).length := fun i => by
    by_cases h : i < row
    · rw [gT i h, List.length_set, cutB_getD hr (by omega), if_neg (by omega)]
    · rw [gC i h]
  refine ⟨fun i hi => ?_, lens⟩
  rw [hL] at hi
  have T := hC i hi
  have it : i < t.length := by rw [hl] at hi; split at hi <;> omega
  refine ⟨by rw [lens]; exact T.1, fun i0 => by rw [lens, lens]; exact T.2.1 i0, fun j hj => ?_⟩
  by_cases h : i < row
  · -- a row that the letter comes by
    obtain ⟨k1, k2, k3⟩ := F i (by omega)
    obtain ⟨k3, k4, k5⟩ := k3 h
    obtain ⟨m1, m2, _⟩ := F (i + 1) (by omega)
    have hT := ht i it
    have hA := tab_asc hT
    rw [gT i h, List.length_set] at hj
    have hlt := lb_lt (r := t.getD i []) (x := upV t row (i + 1)) (j := upK t row i) (by omega)
    have hge := fun (hh : lb (t.getD i []) (upV t row (i + 1)) < (t.getD i []).length) => lb_ge hh
    rw [gT i h, getD_set_if 0 k1, getD_set_if 0 k1]
    obtain ⟨b1, b2, b3⟩ := hT.2.2 j hj
    have bX := ((ht (i + 1) (by omega)).2.2 _ m1).1
    rw [← m2] at bX
    refine ⟨?_, fun j0 => ?_, fun i0 => ?_⟩
    · split
      · exact bX
      · exact b1
    · have b2 := b2 j0
      split
      · rename_i e
        rw [if_neg (by omega)]
        have := hge (by omega)
        rw [show lb (t.getD i []) (upV t row (i + 1)) = j by omega] at this
        exact this
      · split
        · rename_i e
          subst e
          omega
        · exact b2
    · obtain ⟨n1, n2, n3⟩ := F (i - 1) (by omega)
      have n3 := n3 (by omega)
      rw [show i - 1 + 1 = i by omega] at n3
      obtain ⟨n3, n4, n5⟩ := n3
      have b3 := b3 i0
      rw [gT (i - 1) (by omega), show i - 1 + 1 = i by omega, getD_set_if 0 n1]
      split
      · rename_i e
        split
        · omega
        · rename_i e2
          have h1 : lb (t.getD i []) (upV t row (i + 1)) ≤ j := by omega
          have h2 := hge (by omega)
          have h3 := hA _ _ h1 hj
          omega
      · split
        · rename_i e2
          subst e2
          omega
        · exact b3
  · rw [gC i h] at hj ⊢
    obtain ⟨b1, b2, b3⟩ := T.2.2 j hj
    refine ⟨b1, b2, fun i0 => ?_⟩
    have b3 := b3 i0
    by_cases h2 : i - 1 < row
    · have e : i = row := by omega
      subst e
      obtain ⟨n1, n2, n3⟩ := F (i - 1) (by omega)
      have n3 := n3 (by omega)
      rw [show i - 1 + 1 = i by omega] at n3
      have hk : upK t i i = (t.getD i []).length - 1 := by unfold upK; rw [if_pos rfl]
      rw [cutB_getD hr hi, if_pos rfl, List.length_take] at hj
      rw [gT (i - 1) h2, getD_set_if 0 n1, if_neg (by omega)]
      rw [cutB_getD hr (show i - 1 < _ by omega), if_neg (by omega)] at b3
      exact b3
    · rw [gC (i - 1) h2]
      exact b3

end Fer

/- Plain facts: odd parts, distinct parts (Glaisher). No program in sight. -/
set_option maxHeartbeats 1000000
namespace Fer
open Go

theorem andI_nat {x y : Nat} (hx : x < 9223372036854775808) : andI .i64 (x : Int) (y : Int) = ((x &&& y : Nat) : Int) := by
  have hle : x &&& y ≤ x := Nat.and_le_left
  have h1 : (BitVec.ofInt 64 (x : Int)).toNat = x % 18446744073709551616 := by simp
  have h2 : (BitVec.ofInt 64 (y : Int)).toNat = y % 18446744073709551616 := by simp
  unfold andI
  show IntKind.i64.wrap ((BitVec.ofInt 64 (x : Int) &&& BitVec.ofInt 64 (y : Int)).toNat : Int) = _
  rw [BitVec.toNat_and, h1, h2, Nat.mod_eq_of_lt (by omega)]
  have h3 : x &&& y % 18446744073709551616 = x &&& y := by
    apply Nat.eq_of_testBit_eq
    intro i
    rw [Nat.testBit_and, Nat.testBit_and, show (18446744073709551616 : Nat) = 2 ^ 64 from rfl, Nat.testBit_mod_two_pow]
    by_cases hi : i < 64
    · simp [hi]
    · have : x.testBit i = false := Nat.testBit_lt_two_pow (Nat.lt_of_lt_of_le (show x < 2 ^ 64 by omega) (Nat.pow_le_pow_right (by omega) (by omega)))
      simp [this]
  rw [h3]
  simp [IntKind.wrap, IntKind.bits, IntKind.signed]
  omega
theorem and_bit {t k : Nat} : t &&& 2 ^ k = if t.testBit k = true then 2 ^ k else 0 := by
  apply Nat.eq_of_testBit_eq
  intro i
  rw [Nat.testBit_and, Nat.testBit_two_pow]
  by_cases h : k = i
  · subst h
    by_cases h2 : t.testBit k = true
    · simp [h2]
    · simp [h2]
  · by_cases h2 : t.testBit k = true
    · simp [h2, h, Nat.testBit_two_pow]
    · simp [h2, h]

/-! ### Falling lists -/

def fallS (l : List Int) : Prop := l.Pairwise (fun a b => b ≤ a)
def insF (x : Int) : List Int → List Int
  | [] => [x]
  | y :: l => if y ≤ x then x :: y :: l else y :: insF x l
def fallL : List Int → List Int
  | [] => []
  | x :: l => insF x (fallL l)
theorem insF_perm (x : Int) : ∀ l : List Int, (insF x l).Perm (x :: l)
  | [] => .refl _
  | y :: l => by
    simp only [insF]
    split
    · exact .refl _
    · exact ((insF_perm x l).cons y).trans (.swap _ _ _)
theorem fallL_perm : ∀ l : List Int, (fallL l).Perm l
  | [] => .refl _
  | x :: l => (insF_perm x _).trans ((fallL_perm l).cons x)
theorem insF_falls (x : Int) : ∀ l : List Int, fallS l → fallS (insF x l)
  | [], _ => List.pairwise_singleton _ _
  | y :: l, h => by
    simp only [insF]
    unfold fallS at h ⊢
    rw [List.pairwise_cons] at h
    split
    · rename_i hy
      rw [List.pairwise_cons, List.pairwise_cons]
      refine ⟨fun z hz => ?_, h⟩
      rcases List.mem_cons.1 hz with rfl | hz
      · exact hy
      · exact Int.le_trans (h.1 z hz) hy
    · rename_i hy
      rw [List.pairwise_cons]
      refine ⟨fun z hz => ?_, insF_falls x l h.2⟩
      rcases List.mem_cons.1 ((insF_perm x l).mem_iff.1 hz) with rfl | hz
      · omega
      · exact h.1 z hz
theorem fallL_falls : ∀ l : List Int, fallS (fallL l)
  | [] => .nil
  | x :: l => insF_falls x _ (fallL_falls l)
theorem falls_unique : ∀ {l l' : List Int}, l.Perm l' → fallS l → fallS l' → l = l'
  | [], l', h, _, _ => (List.Perm.nil_eq h)
  | x :: l, l', h, h1, h2 => by
    cases l' with
    | nil => exact absurd h.length_eq (by simp)
    | cons y l' =>
      unfold fallS at h1 h2
      rw [List.pairwise_cons] at h1 h2
      have hxy : x = y := by
        have a : x ∈ y :: l' := h.mem_iff.1 (.head _)
        have b : y ∈ x :: l := h.mem_iff.2 (.head _)
        rcases List.mem_cons.1 a with a | a
        · exact a
        · rcases List.mem_cons.1 b with b | b
          · exact b.symm
          · have := h2.1 x a
            have := h1.1 y b
            omega
      subst hxy
      rw [falls_unique (List.Perm.cons_inv h) h1.2 h2.2]
theorem fallL_of {l l' : List Int} (h : l'.Perm l) (hf : fallS l') : l' = fallL l := falls_unique (h.trans (fallL_perm l).symm) hf (fallL_falls l)
theorem fallL_len (l : List Int) : (fallL l).length = l.length := (fallL_perm l).length_eq
theorem fallS_getD {l : List Int} (h : ∀ i j, i < j → j < l.length → l.getD j 0 ≤ l.getD i 0) : fallS l := by
  unfold fallS
  rw [List.pairwise_iff_getElem]
  intro i j hi hj hij
  have := h i j hij hj
  rwa [getD_lt _ hi, getD_lt _ hj] at this
theorem falls_getD {l : List Int} (h : fallS l) {i j : Nat} (hij : i < j) (hj : j < l.length) : l.getD j 0 ≤ l.getD i 0 := by
  unfold fallS at h
  rw [List.pairwise_iff_getElem] at h
  have := h i j (by omega) hj hij
  rw [getD_lt 0 (show i < l.length by omega), getD_lt 0 hj]
  exact this

/-! ### Odd parts -/

def oddP (x : Nat) : Nat := if x = 0 then 0 else if x % 2 = 0 then oddP (x / 2) else x
termination_by x
decreasing_by omega
def powP (x : Nat) : Nat := if x = 0 then 0 else if x % 2 = 0 then 2 * powP (x / 2) else 1
termination_by x
decreasing_by omega
theorem oddP_two {x : Nat} (h : 0 < x) : oddP (2 * x) = oddP x := by
  rw [oddP, if_neg (by omega), if_pos (by omega), show 2 * x / 2 = x by omega]
theorem powP_two {x : Nat} (h : 0 < x) : powP (2 * x) = 2 * powP x := by
  rw [powP, if_neg (by omega), if_pos (by omega), show 2 * x / 2 = x by omega]
theorem oddP_odd {x : Nat} (h : x % 2 = 1) : oddP x = x := by
  rw [oddP, if_neg (by omega), if_neg (by omega)]
theorem powP_odd {x : Nat} (h : x % 2 = 1) : powP x = 1 := by
  rw [powP, if_neg (by omega), if_neg (by omega)]
theorem odd_pow {m : Nat} (h : m % 2 = 1) (k : Nat) : oddP (m * 2 ^ k) = m ∧ powP (m * 2 ^ k) = 2 ^ k := by
  induction k with
  | zero => simp only [Nat.pow_zero, Nat.mul_one]; exact ⟨oddP_odd h, powP_odd h⟩
  | succ k ih =>
    have hp : 0 < m * 2 ^ k := Nat.mul_pos (by omega) (Nat.two_pow_pos k)
    rw [show m * 2 ^ (k + 1) = 2 * (m * 2 ^ k) by rw [Nat.pow_succ]; simp only [Nat.mul_comm, Nat.mul_left_comm], oddP_two hp, powP_two hp, ih.1, ih.2, Nat.pow_succ, Nat.mul_comm]
    exact ⟨rfl, rfl⟩
theorem odd_split : ∀ (n x : Nat), x ≤ n → 0 < x → ∃ k, oddP x % 2 = 1 ∧ powP x = 2 ^ k ∧ x = oddP x * 2 ^ k
  | 0, x, h, h0 => by omega
  | n + 1, x, h, h0 => by
    by_cases hx : x % 2 = 1
    · exact ⟨0, by rw [oddP_odd hx]; exact hx, by rw [powP_odd hx], by rw [oddP_odd hx]; simp⟩
    · obtain ⟨y, rfl⟩ : ∃ y, x = 2 * y := ⟨x / 2, by omega⟩
      obtain ⟨k, h1, h2, h3⟩ := odd_split n y (by omega) (by omega)
      refine ⟨k + 1, by rw [oddP_two (by omega)]; exact h1, by rw [powP_two (by omega), h2, Nat.pow_succ, Nat.mul_comm], ?_⟩
      rw [oddP_two (by omega), Nat.pow_succ, Nat.mul_comm (2 ^ k), ← Nat.mul_assoc, Nat.mul_comm (oddP y), Nat.mul_assoc, ← h3]

def mulP (m x : Nat) : Nat := if oddP x = m then powP x else 0
theorem mulP_two {m x : Nat} (h : 0 < x) : mulP m (2 * x) = 2 * mulP m x := by
  unfold mulP
  rw [oddP_two h, powP_two h]
  split <;> omega
theorem mulP_odd {m x : Nat} (h : x % 2 = 1) : mulP m x = if x = m then 1 else 0 := by
  unfold mulP
  rw [oddP_odd h, powP_odd h]
def valP (m : Nat) (l : List Int) : Nat := (l.map fun x => mulP m x.toNat).sum
theorem valP_append (m : Nat) (a b : List Int) : valP m (a ++ b) = valP m a + valP m b := by
  simp [valP]
theorem valP_cons (m : Nat) (x : Int) (l : List Int) : valP m (x :: l) = mulP m x.toNat + valP m l := by
  simp [valP]
theorem valP_perm {m : Nat} {a b : List Int} (h : a.Perm b) : valP m a = valP m b := by
  unfold valP
  exact (h.map _).sum_nat
def posL (l : List Int) : Prop := ∀ x ∈ l, 1 ≤ x
def oddL (l : List Int) : Prop := ∀ x ∈ l, x % 2 = 1
theorem valP_odd {l : List Int} (hp : posL l) (ho : oddL l) (m : Nat) : valP m l = l.count (m : Int) := by
  induction l with
  | nil => rfl
  | cons x l ih =>
    have h1 := hp x (.head _)
    have h2 := ho x (.head _)
    rw [valP_cons, ih (fun y hy => hp y (.tail _ hy)) fun y hy => ho y (.tail _ hy), mulP_odd (by omega), List.count_cons]
    by_cases e : x.toNat = m
    · rw [if_pos e, if_pos (by simp; omega)]; omega
    · rw [if_neg e, if_neg (by simp; omega)]; omega

/-! ### Bits -/

theorem bit_add {n j k : Nat} (h : n.testBit j = false) : (n + 2 ^ j).testBit k = (decide (k = j) || n.testBit k) := by
  have hor : n + 2 ^ j = n ||| 2 ^ j := by
    have e : n % 2 ^ (j + 1) < 2 ^ j := by
      rw [Nat.mod_pow_succ]
      have : n / 2 ^ j % 2 = 0 := by
        have h2 := h
        rw [Nat.testBit_eq_decide_div_mod_eq] at h2
        have := of_decide_eq_false h2
        omega
      rw [this]
      have := Nat.mod_lt n (Nat.two_pow_pos j)
      omega
    apply Nat.eq_of_testBit_eq
    intro i
    rw [Nat.testBit_or, Nat.testBit_two_pow]
    rcases Nat.lt_trichotomy i j with hi | hi | hi
    · have e1 : (n + 2 ^ j).testBit i = n.testBit i := by
        have := Nat.testBit_two_pow_mul_add (a := n / 2 ^ j) (i := j) (b := n % 2 ^ j) (Nat.mod_lt n (Nat.two_pow_pos j)) i
        have e2 := Nat.testBit_two_pow_mul_add (a := n / 2 ^ j + 1) (i := j) (b := n % 2 ^ j) (Nat.mod_lt n (Nat.two_pow_pos j)) i
        rw [Nat.div_add_mod] at this
        rw [show 2 ^ j * (n / 2 ^ j + 1) + n % 2 ^ j = n + 2 ^ j by have := Nat.div_add_mod n (2 ^ j); rw [Nat.mul_add, Nat.mul_one]; omega] at e2
        rw [e2, this, if_pos hi, if_pos hi]
      rw [e1]
      simp [show ¬ j = i by omega]
    · subst hi
      have e2 := Nat.testBit_two_pow_mul_add (a := n / 2 ^ i + 1) (i := i) (b := n % 2 ^ i) (Nat.mod_lt n (Nat.two_pow_pos i)) i
      rw [show 2 ^ i * (n / 2 ^ i + 1) + n % 2 ^ i = n + 2 ^ i by have := Nat.div_add_mod n (2 ^ i); rw [Nat.mul_add, Nat.mul_one]; omega] at e2
      rw [e2, if_neg (by omega), Nat.sub_self]
      have : n / 2 ^ i % 2 = 0 := by
        have h2 := h
        rw [Nat.testBit_eq_decide_div_mod_eq] at h2
        have := of_decide_eq_false h2
        omega
      simp [Nat.testBit_zero]
      omega
    · have e1 := Nat.testBit_two_pow_mul_add (a := n / 2 ^ (j + 1)) (i := j + 1) (b := n % 2 ^ (j + 1)) (Nat.mod_lt n (Nat.two_pow_pos (j + 1))) i
      have e2 := Nat.testBit_two_pow_mul_add (a := n / 2 ^ (j + 1)) (i := j + 1) (b := n % 2 ^ (j + 1) + 2 ^ j) (by have h3 : 2 ^ (j + 1) = 2 ^ j * 2 := Nat.pow_succ 2 j; omega) i
      rw [Nat.div_add_mod] at e1
      rw [← Nat.add_assoc, Nat.div_add_mod] at e2
      rw [e1, e2, if_neg (by omega), if_neg (by omega)]
      simp [show ¬ j = i by omega]
  rw [hor, Nat.testBit_or, Nat.testBit_two_pow]
  by_cases e : k = j
  · simp [e]
  · simp [e, show ¬ j = k from fun h => e h.symm]

theorem bit_mem {m : Nat} (hm : m % 2 = 1) : ∀ {l : List Int}, posL l → l.Nodup → ∀ k, (valP m l).testBit k = true ↔ ((m * 2 ^ k : Nat) : Int) ∈ l
  | [], _, _, k => by simp [valP]
  | x :: l, hp, hn, k => by
    have h1 := hp x (.head _)
    have hp2 : posL l := fun y hy => hp y (.tail _ hy)
    rw [List.nodup_cons] at hn
    have ih := bit_mem hm hp2 hn.2
    obtain ⟨q, e1, e2, e3⟩ := odd_split x.toNat x.toNat (Nat.le_refl _) (by omega)
    rw [valP_cons]
    by_cases e : oddP x.toNat = m
    · have hx : x = ((m * 2 ^ q : Nat) : Int) := by rw [← e, ← e3]; omega
      have hb : (valP m l).testBit q = false := by
        cases hh : (valP m l).testBit q with
        | false => rfl
        | true => exact absurd (hx ▸ (ih q).1 hh) hn.1
      unfold mulP
      rw [if_pos e, e2, Nat.add_comm, bit_add hb, Bool.or_eq_true, decide_eq_true_eq, ih k, List.mem_cons]
      refine or_congr ⟨fun h => by rw [h, hx], fun h => ?_⟩ Iff.rfl
      rw [hx] at h
      have h : m * 2 ^ k = m * 2 ^ q := by omega
      exact (Nat.pow_right_inj (by omega)).1 (Nat.eq_of_mul_eq_mul_left (by omega) h)
    · unfold mulP
      rw [if_neg e, Nat.zero_add, ih k, List.mem_cons]
      refine ⟨.inr, fun h => h.elim (fun h => ?_) id⟩
      exfalso
      have : x.toNat = m * 2 ^ k := by omega
      rw [this, (odd_pow hm k).1] at e
      exact e rfl

theorem perm_of_mem {a b : List Int} (ha : a.Nodup) (hb : b.Nodup) (h : ∀ x, x ∈ a ↔ x ∈ b) : a.Perm b := by
  rw [List.perm_iff_count]
  intro x
  have h1 := List.nodup_iff_count.1 ha x
  have h2 := List.nodup_iff_count.1 hb x
  have h3 : 0 < a.count x ↔ 0 < b.count x := by rw [List.count_pos_iff, List.count_pos_iff]; exact h x
  omega

/-- Lists of distinct parts with the same values are the same. -/
theorem distinct_same {a b : List Int} (pa : posL a) (pb : posL b) (ha : a.Nodup) (hb : b.Nodup) (h : ∀ m, m % 2 = 1 → valP m a = valP m b) : a.Perm b := by
  refine perm_of_mem ha hb fun x => ?_
  have key : ∀ {a b : List Int}, posL a → posL b → a.Nodup → b.Nodup → (∀ m, m % 2 = 1 → valP m a = valP m b) → x ∈ a → x ∈ b := fun {a b} pa pb ha hb h hx => by
    have h1 := pa x hx
    obtain ⟨q, e1, e2, e3⟩ := odd_split x.toNat x.toNat (Nat.le_refl _) (by omega)
    have hxe : ((oddP x.toNat * 2 ^ q : Nat) : Int) = x := by rw [← e3]; omega
    have := (bit_mem e1 pa ha q).2 (by rw [hxe]; exact hx)
    rw [h _ e1] at this
    have := (bit_mem e1 pb hb q).1 this
    rwa [hxe] at this
  exact ⟨key pa pb ha hb h, key pb pa hb ha fun m hm => (h m hm).symm⟩

end Fer

/- Plain facts: merging, splitting, Franklin's moves. No program in sight. -/
set_option maxHeartbeats 1000000
namespace Fer

theorem valP_nil (m : Nat) : valP m [] = 0 := rfl

/-! ### Merging: by bits -/

def bitsTo (n t k : Nat) : List Int := ((List.range k).filter fun j => t.testBit j).map fun j => ((n * 2 ^ j : Nat) : Int)
def mrgTo (f : Nat → Nat) (i : Nat) : List Int := (List.range i).flatMap fun a => bitsTo (2 * a + 1) (f (2 * a + 1)) 6
theorem bitsTo_succ (n t k : Nat) : bitsTo n t (k + 1) = bitsTo n t k ++ if t.testBit k = true then [((n * 2 ^ k : Nat) : Int)] else [] := by
  unfold bitsTo
  rw [List.range_succ, List.filter_append, List.map_append]
  by_cases h : t.testBit k = true
  · simp [h]
  · simp [h]
theorem bitsTo_end {n t k : Nat} (h : t < 2 ^ k) : ∀ d, bitsTo n t (k + d) = bitsTo n t k
  | 0 => rfl
  | d + 1 => by
    rw [show k + (d + 1) = k + d + 1 by omega, bitsTo_succ, bitsTo_end h d, if_neg, List.append_nil]
    rw [Nat.testBit_lt_two_pow (Nat.lt_of_lt_of_le h (Nat.pow_le_pow_right (by omega) (by omega)))]
    exact Bool.false_ne_true
theorem bitsTo_len (n t k : Nat) : (bitsTo n t k).length ≤ k := by
  unfold bitsTo
  rw [List.length_map]
  exact Nat.le_trans (List.length_filter_le _ _) (by simp)
theorem mrgTo_succ (f : Nat → Nat) (i : Nat) : mrgTo f (i + 1) = mrgTo f i ++ bitsTo (2 * i + 1) (f (2 * i + 1)) 6 := by
  simp [mrgTo, List.range_succ, List.flatMap_append]
theorem mrgTo_len (f : Nat → Nat) : ∀ i, (mrgTo f i).length ≤ 6 * i
  | 0 => Nat.le_refl _
  | i + 1 => by
    have := mrgTo_len f i
    have := bitsTo_len (2 * i + 1) (f (2 * i + 1)) 6
    rw [mrgTo_succ, List.length_append]
    omega
theorem mem_bits {n t k : Nat} {x : Int} : x ∈ bitsTo n t k ↔ ∃ j, j < k ∧ t.testBit j = true ∧ x = ((n * 2 ^ j : Nat) : Int) := by
  simp only [bitsTo, List.mem_map, List.mem_filter, List.mem_range]
  constructor
  · rintro ⟨j, ⟨h1, h2⟩, rfl⟩; exact ⟨j, h1, h2, rfl⟩
  · rintro ⟨j, h1, h2, rfl⟩; exact ⟨j, ⟨h1, h2⟩, rfl⟩
theorem mem_mrg {f : Nat → Nat} {i : Nat} {x : Int} : x ∈ mrgTo f i ↔ ∃ a j, a < i ∧ j < 6 ∧ (f (2 * a + 1)).testBit j = true ∧ x = (((2 * a + 1) * 2 ^ j : Nat) : Int) := by
  simp only [mrgTo, List.mem_flatMap, List.mem_range, mem_bits]
  constructor
  · rintro ⟨a, h1, j, h2, h3, h4⟩; exact ⟨a, j, h1, h2, h3, h4⟩
  · rintro ⟨a, j, h1, h2, h3, h4⟩; exact ⟨a, h1, j, h2, h3, h4⟩
theorem odd_inj {a b j k : Nat} (h : (2 * a + 1) * 2 ^ j = (2 * b + 1) * 2 ^ k) : a = b ∧ j = k := by
  have h1 := (odd_pow (m := 2 * a + 1) (by omega) j).1
  rw [h, (odd_pow (m := 2 * b + 1) (by omega) k).1] at h1
  have e : a = b := by omega
  subst e
  exact ⟨rfl, (Nat.pow_right_inj (by omega)).1 (Nat.eq_of_mul_eq_mul_left (by omega) h)⟩
theorem mrg_nodup (f : Nat → Nat) (i : Nat) : (mrgTo f i).Nodup := by
  unfold mrgTo List.Nodup
  rw [List.pairwise_flatMap]
  refine ⟨fun a _ => ?_, ?_⟩
  · unfold bitsTo
    rw [List.pairwise_map]
    refine List.Pairwise.imp (fun {x y} h e => ?_) ((List.pairwise_lt_range (n := 6)).sublist (List.filter_sublist))
    have : (2 * a + 1) * 2 ^ x = (2 * a + 1) * 2 ^ y := by omega
    have := (odd_inj this).2
    omega
  · refine List.Pairwise.imp (fun {a b} h x hx y hy e => ?_) List.pairwise_lt_range
    obtain ⟨j, _, _, e1⟩ := mem_bits.1 hx
    obtain ⟨k, _, _, e2⟩ := mem_bits.1 hy
    have : (2 * a + 1) * 2 ^ j = (2 * b + 1) * 2 ^ k := by rw [e1, e2] at e; omega
    have := (odd_inj this).1
    omega
theorem mrg_pos (f : Nat → Nat) (i : Nat) : posL (mrgTo f i) := fun x hx => by
  obtain ⟨a, j, _, _, _, rfl⟩ := mem_mrg.1 hx
  have : 0 < (2 * a + 1) * 2 ^ j := Nat.mul_pos (by omega) (Nat.two_pow_pos j)
  omega
theorem mrg_val {f : Nat → Nat} (hf : ∀ n, f n < 64) (h0 : ∀ n, 40 < n → f n = 0) {m : Nat} (hm : m % 2 = 1) : valP m (mrgTo f 20) = f m := by
  apply Nat.eq_of_testBit_eq
  intro k
  rw [Bool.eq_iff_iff, bit_mem hm (mrg_pos f 20) (mrg_nodup f 20), mem_mrg]
  constructor
  · rintro ⟨a, j, h1, h2, h3, h4⟩
    obtain ⟨b, rfl⟩ : ∃ b, m = 2 * b + 1 := ⟨m / 2, by omega⟩
    obtain ⟨rfl, rfl⟩ := odd_inj (show (2 * b + 1) * 2 ^ k = (2 * a + 1) * 2 ^ j by omega)
    exact h3
  · intro h
    obtain ⟨b, rfl⟩ : ∃ b, m = 2 * b + 1 := ⟨m / 2, by omega⟩
    have hk : k < 6 := by
      refine Classical.byContradiction fun hk => ?_
      rw [Nat.testBit_lt_two_pow (Nat.lt_of_lt_of_le (hf _) (show 64 ≤ 2 ^ k from Nat.pow_le_pow_right (n := 2) (i := 6) (by omega) (by omega)))] at h
      cases h
    have hb : b < 20 := by
      refine Classical.byContradiction fun hb => ?_
      rw [h0 _ (by omega), Nat.zero_testBit] at h
      cases h
    exact ⟨b, k, hb, hk, h, rfl⟩

/-! ### Merging: two that are the same become one -/

theorem part_pos {p : List Int} (h : partRows p) : posL p := fun x hx => by
  obtain ⟨i, hi, rfl⟩ := mem_getD 0 hx
  exact (h i hi).1
theorem part_falls {p : List Int} (h : partRows p) : fallS p := fallS_getD fun i j hij hj => part_desc h (by omega) hj

def twiceAt (l : List Int) (i : Nat) : Prop := 0 < i ∧ i < l.length ∧ l.getD i 0 = l.getD (i - 1) 0
def mrgStep (l : List Int) (i : Nat) : List Int := fallL (l.take (i - 1) ++ l.drop (i + 1) ++ [2 * l.getD i 0])
theorem twice_split {l : List Int} {i : Nat} (h : twiceAt l i) : l = l.take (i - 1) ++ ([l.getD i 0, l.getD i 0] ++ l.drop (i + 1)) := by
  obtain ⟨h1, h2, h3⟩ := h
  have e1 := drop_pred_getD (0 : Int) (show i - 1 < l.length by omega)
  have e2 := drop_pred_getD (0 : Int) h2
  rw [show i - 1 + 1 = i by omega, e2, ← h3] at e1
  have e3 := List.take_append_drop (i - 1) l
  rw [e1] at e3
  exact e3.symm
theorem sum_perm {a b : List Int} (h : a.Perm b) : a.sum = b.sum := by
  induction h with
  | nil => rfl
  | cons x _ ih => simp only [List.sum_cons, ih]
  | swap x y l => simp only [List.sum_cons]; omega
  | trans _ _ h1 h2 => exact h1.trans h2
theorem mrg_step {l : List Int} {i : Nat} (hp : posL l) (h : twiceAt l i) : posL (mrgStep l i) ∧ fallS (mrgStep l i) ∧ (mrgStep l i).sum = l.sum ∧ (mrgStep l i).length + 1 = l.length ∧ ∀ m, valP m (mrgStep l i) = valP m l := by
  have hs := twice_split h
  obtain ⟨h1, h2, h3⟩ := h
  have hx : 1 ≤ l.getD i 0 := hp _ (getD_mem 0 h2)
  have hpm := fallL_perm (l.take (i - 1) ++ l.drop (i + 1) ++ [2 * l.getD i 0])
  refine ⟨fun x hx2 => ?_, fallL_falls _, ?_, ?_, fun m => ?_⟩
  · have := hpm.mem_iff.1 hx2
    simp only [List.mem_append, List.mem_singleton] at this
    rcases this with (h | h) | h
    · exact hp x (List.mem_of_mem_take h)
    · exact hp x (List.mem_of_mem_drop h)
    · omega
  · rw [show mrgStep l i = fallL _ from rfl, sum_perm hpm]
    conv => rhs; rw [hs]
    simp only [List.sum_append, List.sum_cons, List.sum_nil]
    omega
  · rw [show mrgStep l i = fallL _ from rfl, hpm.length_eq]
    simp only [List.length_append, List.length_take, List.length_drop, List.length_singleton]
    omega
  · rw [show mrgStep l i = fallL _ from rfl, valP_perm hpm]
    conv => rhs; rw [hs]
    simp only [valP_append, valP_cons, valP_nil]
    rw [show (2 * l.getD i 0).toNat = 2 * (l.getD i 0).toNat by omega, mulP_two (by omega)]
    omega
theorem falls_nodup {l : List Int} (hf : fallS l) (h : ∀ i, 0 < i → i < l.length → l.getD i 0 ≠ l.getD (i - 1) 0) : l.Nodup := by
  unfold List.Nodup
  rw [List.pairwise_iff_getElem]
  intro i j hi hj hij e
  have h1 : l.getD j 0 ≤ l.getD (i + 1) 0 := by
    by_cases e2 : j = i + 1
    · rw [e2]; exact Int.le_refl _
    · exact falls_getD hf (by omega) hj
  have h2 := falls_getD hf (show i < i + 1 by omega) (show i + 1 < l.length by omega)
  have h3 := h (i + 1) (by omega) (by omega)
  rw [Nat.add_sub_cancel] at h3
  rw [← getD_lt 0 hi, ← getD_lt 0 hj] at e
  omega

def cntF (p : List Int) (n : Nat) : Nat := p.count (n : Int)
def mrgR (p : List Int) : List Int := fallL (mrgTo (cntF p) 20)
theorem cntF_lt {p : List Int} (hp : partRows p) (hs : p.sum ≤ 40) (n : Nat) : cntF p n < 64 := by
  have h1 := List.count_le_length (a := (n : Int)) (l := p)
  have h2 := part_length hp
  unfold cntF
  omega
theorem cntF_big {p : List Int} (hp : partRows p) (hs : p.sum ≤ 40) {n : Nat} (h : 40 < n) : cntF p n = 0 := by
  refine List.count_eq_zero.2 fun hm => ?_
  obtain ⟨i, hi, he⟩ := mem_getD 0 hm
  have := part_le hp hi
  omega
theorem mrg_done {p l : List Int} (hp : partRows p) (hs : p.sum ≤ 40) (ho : oddL p) (hl : posL l) (hf : fallS l) (hv : ∀ m, valP m l = valP m p) (hd : ∀ i, 0 < i → i < l.length → l.getD i 0 ≠ l.getD (i - 1) 0) : l = mrgR p := by
  refine fallL_of ?_ hf
  refine distinct_same hl (mrg_pos _ _) (falls_nodup hf hd) (mrg_nodup _ _) fun m hm => ?_
  rw [hv, mrg_val (cntF_lt hp hs) (fun n h => cntF_big hp hs h) hm, valP_odd (part_pos hp) ho]
  rfl

/-! ### Splitting -/

def splOne (x : Int) : List Int := List.replicate (powP x.toNat) ((oddP x.toNat : Nat) : Int)
def splTo (p : List Int) (i : Nat) : List Int := (p.take i).flatMap splOne
def splR (p : List Int) : List Int := fallL (p.flatMap splOne)
theorem splTo_succ {p : List Int} {i : Nat} (h : i < p.length) : splTo p (i + 1) = splTo p i ++ splOne (p.getD i 0) := by
  unfold splTo
  rw [take_succ_getD 0 h, List.flatMap_append]
  simp
theorem powP_le {x : Nat} (h : 0 < x) : 1 ≤ powP x ∧ powP x ≤ x := by
  obtain ⟨k, h1, h2, h3⟩ := odd_split x x (Nat.le_refl _) h
  rw [h2]
  have := Nat.two_pow_pos k
  refine ⟨this, ?_⟩
  conv => rhs; rw [h3]
  exact Nat.le_mul_of_pos_left _ (by omega)
theorem splTo_len {p : List Int} (hp : partRows p) : ∀ i, i ≤ p.length → ((splTo p i).length : Int) ≤ (p.take i).sum
  | 0, _ => by simp [splTo]
  | i + 1, hi => by
    have h1 := splTo_len hp i (by omega)
    have h2 := (hp i (by omega)).1
    have h3 := powP_le (show 0 < (p.getD i 0).toNat by omega)
    rw [splTo_succ (by omega), sum_take_succ (by omega), List.length_append]
    unfold splOne
    rw [List.length_replicate]
    omega
theorem mulP_oddP {m x : Nat} (h : 0 < x) : mulP m (oddP x) = if oddP x = m then 1 else 0 := by
  obtain ⟨k, h1, _, _⟩ := odd_split x x (Nat.le_refl _) h
  exact mulP_odd h1
theorem val_one {x : Int} (h : 1 ≤ x) (m : Nat) : valP m (splOne x) = mulP m x.toNat := by
  have key : ∀ n, valP m (List.replicate n ((oddP x.toNat : Nat) : Int)) = n * if oddP x.toNat = m then 1 else 0 := by
    intro n
    induction n with
    | zero => simp [valP]
    | succ n ih =>
      rw [List.replicate_succ, valP_cons, ih, Int.toNat_natCast, mulP_oddP (by omega), Nat.succ_mul]
      omega
  unfold splOne
  rw [key]
  unfold mulP
  split <;> omega
theorem val_spl {p : List Int} (hp : posL p) (m : Nat) : valP m (p.flatMap splOne) = valP m p := by
  induction p with
  | nil => rfl
  | cons x p ih =>
    rw [List.flatMap_cons, valP_append, valP_cons, val_one (hp x (.head _)), ih fun y hy => hp y (.tail _ hy)]
theorem spl_pos {p : List Int} (hp : posL p) : posL (p.flatMap splOne) ∧ oddL (p.flatMap splOne) := by
  have key : ∀ x ∈ p.flatMap splOne, 1 ≤ x ∧ x % 2 = 1 := fun x hx => by
    obtain ⟨y, hy, hx⟩ := List.mem_flatMap.1 hx
    have h1 := hp y hy
    obtain ⟨k, h2, _, _⟩ := odd_split y.toNat y.toNat (Nat.le_refl _) (by omega)
    have := (List.mem_replicate.1 hx).2
    omega
  exact ⟨fun x hx => (key x hx).1, fun x hx => (key x hx).2⟩
theorem odd_same {a b : List Int} (pa : posL a) (pb : posL b) (oa : oddL a) (ob : oddL b) (h : ∀ m, valP m a = valP m b) : a.Perm b := by
  rw [List.perm_iff_count]
  intro x
  by_cases hx : 0 ≤ x
  · have h1 := h x.toNat
    rw [valP_odd pa oa, valP_odd pb ob] at h1
    rw [show ((x.toNat : Nat) : Int) = x by omega] at h1
    exact h1
  · rw [List.count_eq_zero.2 fun hm => by have := pa x hm; omega, List.count_eq_zero.2 fun hm => by have := pb x hm; omega]
theorem spl_done {p l : List Int} (hp : posL p) (hl : posL l) (ho : oddL l) (hv : ∀ m, valP m l = valP m p) : fallL l = splR p :=
  fallL_of ((fallL_perm l).trans (odd_same hl (spl_pos hp).1 ho (spl_pos hp).2 fun m => by rw [hv, val_spl hp])) (fallL_falls l)

/-- One that is even is halved, its half comes behind. -/
def splStep (l : List Int) (i : Nat) : List Int := l.set i (l.getD i 0 / 2) ++ [l.getD i 0 / 2]
theorem set_spl {l : List Int} {i : Nat} (h : i < l.length) (v : Int) : l.set i v = l.take i ++ (v :: l.drop (i + 1)) := by
  rw [List.set_eq_take_append_cons_drop, if_pos h]
theorem spl_step {l : List Int} {i : Nat} (hp : posL l) (hi : i < l.length) (he : l.getD i 0 % 2 = 0) : posL (splStep l i) ∧ (splStep l i).sum = l.sum ∧ (splStep l i).length = l.length + 1 ∧ (∀ m, valP m (splStep l i) = valP m l) ∧ ∀ j, j < i → (splStep l i).getD j 0 = l.getD j 0 := by
  have hx : 1 ≤ l.getD i 0 := hp _ (getD_mem 0 hi)
  have hs : l = l.take i ++ (l.getD i 0 :: l.drop (i + 1)) := by
    rw [← drop_pred_getD (0 : Int) hi, List.take_append_drop]
  refine ⟨fun x hx2 => ?_, ?_, ?_, fun m => ?_, fun j hj => ?_⟩
  · unfold splStep at hx2
    rw [set_spl hi] at hx2
    simp only [List.mem_append, List.mem_cons, List.not_mem_nil, or_false] at hx2
    rcases hx2 with (h | h | h) | h
    · exact hp x (List.mem_of_mem_take h)
    · omega
    · exact hp x (List.mem_of_mem_drop h)
    · omega
  · unfold splStep
    rw [set_spl hi]
    conv => rhs; rw [hs]
    simp only [List.sum_append, List.sum_cons, List.sum_nil]
    omega
  · unfold splStep
    rw [List.length_append, List.length_set]
    rfl
  · unfold splStep
    rw [set_spl hi]
    conv => rhs; rw [hs]
    simp only [valP_append, valP_cons, valP_nil]
    rw [show (l.getD i 0).toNat = 2 * (l.getD i 0 / 2).toNat by omega, mulP_two (by omega)]
    omega
  · unfold splStep
    rw [appD, if_pos (by rw [List.length_set]; omega), getD_set_if 0 hi, if_neg (by omega)]
theorem pos_len {l : List Int} (hp : posL l) : (l.length : Int) ≤ l.sum := by
  induction l with
  | nil => simp
  | cons x l ih =>
    have := hp x (.head _)
    have := ih fun y hy => hp y (.tail _ hy)
    simp only [List.length_cons, List.sum_cons]
    omega
theorem pos_le {l : List Int} (hp : posL l) {i : Nat} (hi : i < l.length) : l.getD i 0 ≤ l.sum := by
  have hs : l = l.take i ++ (l.getD i 0 :: l.drop (i + 1)) := by
    rw [← drop_pred_getD (0 : Int) hi, List.take_append_drop]
  have h1 := pos_len (l := l.take i) fun x hx => hp x (List.mem_of_mem_take hx)
  have h2 := pos_len (l := l.drop (i + 1)) fun x hx => hp x (List.mem_of_mem_drop hx)
  have h3 : l.sum = (l.take i).sum + (l.getD i 0 + (l.drop (i + 1)).sum) := by
    conv => lhs; rw [hs]
    rw [List.sum_append, List.sum_cons]
  omega

/-! ### Franklin -/

def addTo (d : Int) (q : List Int) (k : Nat) : List Int := (q.take k).map (· + d) ++ q.drop k
theorem addTo_zero (d : Int) (q : List Int) : addTo d q 0 = q := by simp [addTo]
theorem addTo_len (d : Int) (q : List Int) (k : Nat) : (addTo d q k).length = q.length := by
  simp only [addTo, List.length_append, List.length_map, List.length_take, List.length_drop]; omega
theorem addTo_getD {d : Int} {q : List Int} {k : Nat} (h : k < q.length) : (addTo d q k).getD k 0 = q.getD k 0 := by
  unfold addTo
  have hl : ((q.take k).map (· + d)).length = k := by rw [List.length_map, List.length_take]; omega
  rw [appD, hl, if_neg (by omega), Nat.sub_self, dropD, Nat.add_zero]
theorem addTo_succ {d : Int} {q : List Int} {k : Nat} (h : k < q.length) : addTo d q (k + 1) = (addTo d q k).set k (q.getD k 0 + d) := by
  have hl : ((q.take k).map (· + d)).length = k := by rw [List.length_map, List.length_take]; omega
  unfold addTo
  rw [take_succ_getD 0 h, List.map_append, List.set_append_right _ _ (by omega), hl, Nat.sub_self]
  rw [drop_pred_getD (0 : Int) h]
  simp

def isRun (p : List Int) (r : Nat) : Prop := r ≤ p.length ∧ (∀ i, i < r → p.getD i 0 = p.getD 0 0 - i) ∧ (r < p.length → p.getD r 0 ≠ p.getD 0 0 - r)
def runL (p : List Int) : Nat := ((List.range p.length).takeWhile fun i => decide (p.getD i 0 = p.getD 0 0 - (i : Int))).length
theorem takeWhile_range (f : Nat → Bool) : ∀ n r, r ≤ n → (∀ i, i < r → f i = true) → (r < n → f r = false) → ((List.range n).takeWhile f).length = r := by
  intro n r hr h1 h2
  have e : List.range n = List.range r ++ (List.range' r (n - r)) := by
    have h := List.range'_append_1 (s := 0) (m := r) (n := n - r)
    rw [Nat.zero_add, show r + (n - r) = n by omega] at h
    rw [List.range_eq_range', List.range_eq_range', h]
  have hall : ∀ x ∈ List.range r, f x = true := fun x hx => h1 x (List.mem_range.1 hx)
  rw [e, List.takeWhile_append_of_pos hall, List.length_append, List.length_range]
  by_cases hn : r < n
  · rw [show n - r = (n - r - 1) + 1 by omega, List.range'_succ, List.takeWhile_cons, h2 hn]
    rfl
  · rw [show n - r = 0 by omega]
    rfl
theorem run_eq {p : List Int} {r : Nat} (h : isRun p r) : runL p = r :=
  takeWhile_range _ _ _ h.1 (fun i hi => decide_eq_true (h.2.1 i hi)) fun hr => decide_eq_false (h.2.2 hr)

end Fer

/- Plain facts: a list put in order in place; Franklin's moves. No program in sight. -/
set_option maxHeartbeats 1000000
namespace Fer

def insAt (P : List Int) (x : Int) (k : Nat) (R : List Int) : List Int := P.take k ++ (x :: (P.drop k ++ R))
theorem insAt_len {P R : List Int} {x : Int} {k : Nat} : (insAt P x k R).length = P.length + 1 + R.length := by
  simp only [insAt, List.length_append, List.length_cons, List.length_take, List.length_drop]
  omega
theorem insAt_at {P R : List Int} {x : Int} {k : Nat} (h : k ≤ P.length) : (insAt P x k R).getD k 0 = x := by
  unfold insAt
  rw [appD, if_neg (by rw [List.length_take]; omega), List.length_take, show k - min k P.length = 0 by omega]
  rfl
theorem insAt_pred {P R : List Int} {x : Int} {k : Nat} (h : k ≤ P.length) (h0 : 0 < k) : (insAt P x k R).getD (k - 1) 0 = P.getD (k - 1) 0 := by
  unfold insAt
  rw [appD, if_pos (by rw [List.length_take]; omega)]
  simp only [List.getD_eq_getElem?_getD]
  rw [List.getElem?_take_of_lt (by omega)]
theorem insAt_swap {P R : List Int} {x : Int} {k : Nat} (h : k ≤ P.length) (h0 : 0 < k) : ((insAt P x k R).set k (P.getD (k - 1) 0)).set (k - 1) x = insAt P x (k - 1) R := by
  obtain ⟨j, rfl⟩ : ∃ j, k = j + 1 := ⟨k - 1, by omega⟩
  rw [Nat.add_sub_cancel]
  unfold insAt
  have h1 : (P.take (j + 1)).length = j + 1 := by rw [List.length_take]; omega
  have h2 : (P.take j).length = j := by rw [List.length_take]; omega
  rw [List.set_append_right _ _ (by omega), h1, Nat.sub_self, List.set_cons_zero, take_succ_getD 0 (by omega), List.append_assoc, List.set_append_right _ _ (by omega), h2, Nat.sub_self, List.cons_append, List.nil_append, List.set_cons_zero, drop_pred_getD (0 : Int) (show j < P.length by omega)]
  rfl
theorem insAt_start {l : List Int} {P : List Int} {i : Nat} (hP : P.length = i) (hi : i < l.length) : P ++ l.drop i = insAt P (l.getD i 0) i (l.drop (i + 1)) := by
  unfold insAt
  rw [List.take_of_length_le (show P.length ≤ i by omega), List.drop_eq_nil_of_le (show P.length ≤ i by omega), drop_pred_getD (0 : Int) hi]
  rfl
theorem insAt_end {l P R : List Int} {i k : Nat} (hP : P = fallL (l.take i)) (hi : i < l.length) (hk : k ≤ P.length) (h1 : 0 < k → l.getD i 0 ≤ P.getD (k - 1) 0) (h2 : ∀ y ∈ P.drop k, y < l.getD i 0) : insAt P (l.getD i 0) k R = fallL (l.take (i + 1)) ++ R := by
  have hf : fallS P := hP ▸ fallL_falls _
  have hperm : (P.take k ++ (l.getD i 0 :: P.drop k)).Perm (l.take (i + 1)) := by
    refine List.perm_middle.trans ?_
    rw [List.take_append_drop, take_succ_getD 0 hi]
    refine (List.perm_append_singleton _ _).symm.trans ?_
    rw [hP]
    exact (fallL_perm _).append_right _
  have hlt := fallS P
  have hfall : fallS (P.take k ++ (l.getD i 0 :: P.drop k)) := by
    unfold fallS at hf ⊢
    have hf2 := hf
    rw [← List.take_append_drop k P, List.pairwise_append] at hf2
    rw [List.pairwise_append, List.pairwise_cons]
    refine ⟨hf2.1, ⟨fun y hy => Int.le_of_lt (h2 y hy), hf2.2.1⟩, fun a ha b hb => ?_⟩
    have hk0 : 0 < k := by
      refine Classical.byContradiction fun h => ?_
      rw [show k = 0 by omega] at ha
      exact absurd ha (by simp)
    have hak : l.getD i 0 ≤ a := by
      obtain ⟨j, hj, rfl⟩ := mem_getD 0 ha
      rw [List.length_take] at hj
      have e : (P.take k).getD j 0 = P.getD j 0 := by
        simp only [List.getD_eq_getElem?_getD]
        rw [List.getElem?_take_of_lt (by omega)]
      rw [e]
      refine Int.le_trans (h1 hk0) ?_
      by_cases e2 : j = k - 1
      · subst e2; exact Int.le_refl _
      · exact falls_getD (fallS_getD fun i j hij hj => falls_getD hf hij hj) (by omega) (by omega)
    rcases List.mem_cons.1 hb with rfl | hb
    · exact hak
    · exact hf2.2.2 a ha b hb
  have e := fallL_of hperm hfall
  rw [← e]
  unfold insAt
  simp

/-! ### Franklin -/
def fkUp (p : List Int) : Prop := p.getD (p.length - 1) 0 ≤ runL p ∧ ¬ (runL p = p.length ∧ p.getD (p.length - 1) 0 = p.length)
def fkDn (p : List Int) : Prop := ¬ p.getD (p.length - 1) 0 ≤ runL p ∧ ¬ (runL p = p.length ∧ p.getD (p.length - 1) 0 = p.length + 1)
open Classical in
noncomputable def fkR (p : List Int) : List Int := if p = [] then [] else if fkUp p then addTo 1 (p.take (p.length - 1)) (p.getD (p.length - 1) 0).toNat else if fkDn p then addTo (-1) p (runL p) ++ [(runL p : Int)] else p
open Classical in
noncomputable def fkM (p : List Int) : Bool := if p = [] then false else if fkUp p then true else if fkDn p then true else false
theorem runL_le (p : List Int) : runL p ≤ p.length := by
  unfold runL
  refine Nat.le_trans (List.takeWhile_prefix _).length_le ?_
  rw [List.length_range]
  exact Nat.le_refl _
/-- The code's run: each is one below its neighbour. -/
theorem run_near {p : List Int} {r : Nat} (h0 : 0 < r) (hr : r ≤ p.length) (h1 : ∀ i, 0 < i → i < r → p.getD i 0 = p.getD (i - 1) 0 - 1) (h2 : r < p.length → p.getD r 0 ≠ p.getD (r - 1) 0 - 1) : runL p = r := by
  have key : ∀ i, i < r → p.getD i 0 = p.getD 0 0 - i := by
    intro i
    induction i with
    | zero => intro _; simp
    | succ i ih =>
      intro hi
      have := h1 (i + 1) (by omega) hi
      rw [Nat.add_sub_cancel, ih (by omega)] at this
      omega
  refine run_eq ⟨hr, key, fun h e => h2 h ?_⟩
  rw [e, key (r - 1) (by omega)]
  omega
theorem addTo_bound {d : Int} {q : List Int} {k : Nat} {x : Int} (h : x ∈ addTo d q k) : ∃ y ∈ q, x = y ∨ x = y + d := by
  unfold addTo at h
  rcases List.mem_append.1 h with h | h
  · obtain ⟨y, hy, rfl⟩ := List.mem_map.1 h
    exact ⟨y, List.mem_of_mem_take hy, .inr rfl⟩
  · exact ⟨x, List.mem_of_mem_drop h, .inl rfl⟩

end Fer

/- Plain facts: a text of rows, read letter by letter. No program in sight. -/
set_option maxHeartbeats 1000000
namespace Fer

def addLast (R : List (List Int)) (x : Int) : List (List Int) := R.set (R.length - 1) (R.getD (R.length - 1) [] ++ [x])
def mulLast (R : List (List Int)) (x : Int) : List (List Int) :=
  R.set (R.length - 1) ((R.getD (R.length - 1) []).set ((R.getD (R.length - 1) []).length - 1) (10 * (R.getD (R.length - 1) []).getD ((R.getD (R.length - 1) []).length - 1) 0 + x))
/-- The second reckoning's steps: what is left, the place, the state, the rows. -/
def txA : List UInt8 → Nat → Nat → List (List Int) → Int × List (List Int)
  | [], i, st, R => if st = 0 then ((i : Int), R) else (-1, R)
  | c :: l, i, st, R =>
    if st = 0 ∧ 48 < c.toNat ∧ c.toNat ≤ 57 then txA l (i + 1) 1 (addLast R ((c.toNat : Int) - 48))
    else if st = 1 ∧ 48 ≤ c.toNat ∧ c.toNat ≤ 57 then txA l (i + 1) 2 (mulLast R ((c.toNat : Int) - 48))
    else if 0 < st ∧ c.toNat = 32 then txA l (i + 1) 0 R
    else if 0 < st ∧ c.toNat = 47 then txA l (i + 1) 0 (R ++ [[]])
    else ((i : Int), R)

theorem addLast_len (R : List (List Int)) (x : Int) : (addLast R x).length = R.length := List.length_set
theorem mulLast_len (R : List (List Int)) (x : Int) : (mulLast R x).length = R.length := List.length_set
theorem mul_add {R : List (List Int)} (h : 0 < R.length) (n x : Int) : mulLast (addLast R n) x = addLast R (10 * n + x) := by
  unfold mulLast
  have e : (addLast R n).getD (R.length - 1) [] = R.getD (R.length - 1) [] ++ [n] := by
    unfold addLast
    rw [getD_set_if [] (by omega), if_pos rfl]
  rw [addLast_len, e, List.length_append, List.length_singleton, Nat.add_sub_cancel, appD, if_neg (by omega), Nat.sub_self]
  unfold addLast
  rw [List.set_set, List.set_append_right _ _ (Nat.le_refl _), Nat.sub_self]
  rfl

variable {s : List UInt8} {i : Nat} {R : List (List Int)}
theorem tx_cons (h : i < s.length) : s.drop i = s.getD i 0 :: s.drop (i + 1) := drop_pred_getD (0 : UInt8) h
/-- The first digit. -/
theorem tx_first (h : i < s.length) (h1 : 48 < (s.getD i 0).toNat) (h2 : (s.getD i 0).toNat ≤ 57) : txA (s.drop i) i 0 R = txA (s.drop (i + 1)) (i + 1) 1 (addLast R (((s.getD i 0).toNat : Int) - 48)) := by
  rw [tx_cons h, txA, if_pos ⟨rfl, h1, h2⟩]
/-- The second one. -/
theorem tx_second (h : i < s.length) (h1 : 48 ≤ (s.getD i 0).toNat) (h2 : (s.getD i 0).toNat ≤ 57) : txA (s.drop i) i 1 R = txA (s.drop (i + 1)) (i + 1) 2 (mulLast R (((s.getD i 0).toNat : Int) - 48)) := by
  rw [tx_cons h, txA, if_neg (by omega), if_pos ⟨rfl, h1, h2⟩]
theorem tx_space {st : Nat} (h : i < s.length) (h0 : 0 < st) (h1 : (s.getD i 0).toNat = 32) : txA (s.drop i) i st R = txA (s.drop (i + 1)) (i + 1) 0 R := by
  rw [tx_cons h, txA, if_neg (by omega), if_neg (by omega), if_pos ⟨h0, h1⟩]
theorem tx_slash {st : Nat} (h : i < s.length) (h0 : 0 < st) (h1 : (s.getD i 0).toNat = 47) : txA (s.drop i) i st R = txA (s.drop (i + 1)) (i + 1) 0 (R ++ [[]]) := by
  rw [tx_cons h, txA, if_neg (by omega), if_neg (by omega), if_neg (by omega), if_pos ⟨h0, h1⟩]
theorem tx_end {st : Nat} (h : s.length ≤ i) (h0 : 0 < st) : txA (s.drop i) i st R = (-1, R) := by
  rw [List.drop_eq_nil_of_le h, txA, if_neg (by omega)]
/-- Where no letter can begin. -/
theorem tx_none (h : i < s.length → ¬ (48 < (s.getD i 0).toNat ∧ (s.getD i 0).toNat ≤ 57)) : txA (s.drop i) i 0 R = ((i : Int), R) := by
  by_cases hi : i < s.length
  · have := h hi
    rw [tx_cons hi, txA, if_neg (by omega), if_neg (by omega), if_neg (by omega), if_neg (by omega)]
  · rw [List.drop_eq_nil_of_le (by omega), txA, if_pos rfl]
/-- Where it can't go on. -/
theorem tx_stop {st : Nat} (h : i < s.length) (h0 : 0 < st) (h1 : ¬ (st = 1 ∧ 48 ≤ (s.getD i 0).toNat ∧ (s.getD i 0).toNat ≤ 57)) (h2 : (s.getD i 0).toNat ≠ 32) (h3 : (s.getD i 0).toNat ≠ 47) : txA (s.drop i) i st R = ((i : Int), R) := by
  rw [tx_cons h, txA, if_neg (by omega), if_neg h1, if_neg (by omega), if_neg (by omega)]
/-- Its rows grow no faster than it is read. -/
theorem flat_addLast {R : List (List Int)} (h : 0 < R.length) (x : Int) : (addLast R x).flatten.length = R.flatten.length + 1 := by
  obtain ⟨a, b, rfl⟩ : ∃ a b, R = a ++ [b] := ⟨R.dropLast, R.getLast (List.ne_nil_of_length_pos h), (List.dropLast_concat_getLast _).symm⟩
  unfold addLast
  rw [List.length_append, List.length_singleton, Nat.add_sub_cancel, List.set_append_right _ _ (Nat.le_refl _), Nat.sub_self, List.set_cons_zero, appD, if_neg (by omega), Nat.sub_self]
  simp only [List.flatten_append, List.length_append, List.flatten_cons, List.flatten_nil, List.append_nil, List.getD_cons_zero, List.length_singleton, List.length_nil]
  omega

end Fer

/- Plain facts: rows, written as a text. No program in sight. -/
set_option maxHeartbeats 1000000
namespace Fer

def dgt (n : Int) : List UInt8 := Go.Lib.decDigits n.toNat
theorem dgt_len {n : Int} (h : n ≤ 99) : (dgt n).length ≤ 2 := by
  unfold dgt
  by_cases h1 : n.toNat < 10
  · rw [Go.Lib.decDigits, dif_pos h1]; simp
  · rw [Go.Lib.decDigits, dif_neg h1, Go.Lib.decDigits, dif_pos (by omega)]; simp
def rowTx (r : List Int) (j : Nat) : List UInt8 := (List.range j).flatMap fun b => (if 0 < b then [32] else []) ++ dgt (r.getD b 0)
def txP (t : List (List Int)) (i : Nat) : List UInt8 := (List.range i).flatMap fun a => (if 0 < a then [47] else []) ++ rowTx (t.getD a []) (t.getD a []).length
def txQ (t : List (List Int)) (i : Nat) : List UInt8 := (List.range i).flatMap fun a => rowTx (t.getD a []) (t.getD a []).length ++ (if a + 1 < t.length then [47] else [])
theorem rowTx_succ (r : List Int) (j : Nat) : rowTx r (j + 1) = rowTx r j ++ ((if 0 < j then [32] else []) ++ dgt (r.getD j 0)) := by
  simp [rowTx, List.range_succ, List.flatMap_append]
theorem txP_succ (t : List (List Int)) (i : Nat) : txP t (i + 1) = txP t i ++ ((if 0 < i then [47] else []) ++ rowTx (t.getD i []) (t.getD i []).length) := by
  simp [txP, List.range_succ, List.flatMap_append]
theorem txQ_succ (t : List (List Int)) (i : Nat) : txQ t (i + 1) = txQ t i ++ (rowTx (t.getD i []) (t.getD i []).length ++ (if i + 1 < t.length then [47] else [])) := by
  simp [txQ, List.range_succ, List.flatMap_append]
theorem txQ_eq (t : List (List Int)) : ∀ i, i ≤ t.length → txQ t i = txP t i ++ (if 0 < i ∧ i < t.length then [47] else [])
  | 0, _ => by simp [txQ, txP]
  | i + 1, h => by
    rw [txQ_succ, txQ_eq t i (by omega), txP_succ]
    by_cases h0 : 0 < i
    · rw [if_pos ⟨h0, by omega⟩, if_pos h0]
      by_cases h1 : i + 1 < t.length
      · rw [if_pos h1, if_pos ⟨by omega, h1⟩]; simp
      · rw [if_neg h1, if_neg (by omega)]; simp
    · rw [if_neg (by omega), if_neg h0]
      by_cases h1 : i + 1 < t.length
      · rw [if_pos h1, if_pos ⟨by omega, h1⟩]; simp
      · rw [if_neg h1, if_neg (by omega)]; simp
theorem txQ_all (t : List (List Int)) : txQ t t.length = txP t t.length := by
  rw [txQ_eq t _ (Nat.le_refl _), if_neg (by omega), List.append_nil]
theorem rowTx_len {r : List Int} (h : ∀ x ∈ r, x ≤ 99) : ∀ j, j ≤ r.length → (rowTx r j).length ≤ 3 * j
  | 0, _ => by simp [rowTx]
  | j + 1, hj => by
    have h1 := rowTx_len h j (by omega)
    have h2 := dgt_len (h _ (getD_mem 0 (show j < r.length by omega)))
    rw [rowTx_succ, List.length_append, List.length_append]
    have : (if 0 < j then [(32 : UInt8)] else []).length ≤ 1 := by split <;> simp
    omega
theorem txP_len {t : List (List Int)} (h : ∀ a, a < t.length → ∀ x ∈ t.getD a [], x ≤ 99) : ∀ i, i ≤ t.length → (txP t i).length ≤ i + 3 * (t.take i).flatten.length
  | 0, _ => by simp [txP]
  | i + 1, hi => by
    have h1 := txP_len h i (by omega)
    have h2 := rowTx_len (h i (by omega)) _ (Nat.le_refl _)
    rw [txP_succ, List.length_append, List.length_append, take_succ_getD [] (by omega), List.flatten_append, List.length_append, List.flatten_singleton]
    have : (if 0 < i then [(47 : UInt8)] else []).length ≤ 1 := by split <;> simp
    omega
def bsL (l : List UInt8) : ByteArray := ⟨l.toArray⟩
theorem bsL_append (a b : List UInt8) : bsL a ++ bsL b = bsL (a ++ b) := by
  apply ByteArray.ext
  simp [bsL]
theorem bsL_size (a : List UInt8) : (bsL a).size = a.length := by simp [bsL, ByteArray.size]

theorem bsL_data (l : List UInt8) : (bsL l).data.toList = l := rfl
theorem bsL_toList (l : List UInt8) : (bsL l).toList = l := by rw [Go.Lib.toList_data, bsL_data]
theorem bsL_nil : (⟨#[]⟩ : ByteArray).toList = [] := bsL_toList []
theorem bsL_of (z : ByteArray) : z = bsL z.data.toList := by
  apply ByteArray.ext
  simp [bsL]

/-- What a text read gives: the rows, what is wrong, where. -/
noncomputable def readR (s : List UInt8) : List (List Int) × Int × Int :=
  if s = [] then ([], 0, 0)
  else if 0 ≤ (txA s 0 0 [[]]).1 then ([], 4, (txA s 0 0 [[]]).1)
  else if tabE (txA s 0 0 [[]]).2 = 0 then ((txA s 0 0 [[]]).2, 0, 0)
  else ([], tabE (txA s 0 0 [[]]).2, -1)

end Fer
