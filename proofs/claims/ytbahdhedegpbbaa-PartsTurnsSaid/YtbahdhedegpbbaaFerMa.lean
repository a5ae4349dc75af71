/- Plain facts on lists of numbers. No program in sight. -/
namespace Fer

theorem getD_lt {α : Type} {l : List α} {i : Nat} (d : α) (h : i < l.length) : l.getD i d = l[i] := by
  simp [List.getD_eq_getElem?_getD, h]

theorem take_succ_getD {α : Type} {l : List α} {i : Nat} (d : α) (h : i < l.length) : l.take (i + 1) = l.take i ++ [l.getD i d] := by
  rw [getD_lt d h, List.take_succ_eq_append_getElem h]

theorem foldl_take_succ {α β : Type} (f : β → α → β) (a : β) {l : List α} {i : Nat} (d : α) (h : i < l.length) :
    (l.take (i + 1)).foldl f a = f ((l.take i).foldl f a) (l.getD i d) := by
  rw [take_succ_getD d h, List.foldl_append]; rfl

theorem countP_take_succ {α : Type} (f : α → Bool) {l : List α} {i : Nat} (d : α) (h : i < l.length) :
    (l.take (i + 1)).countP f = (l.take i).countP f + (if f (l.getD i d) then 1 else 0) := by
  rw [take_succ_getD d h, List.countP_append]; simp [List.countP_cons]

theorem mem_take_succ {α : Type} {l : List α} {i : Nat} (d : α) (h : i < l.length) (x : α) : x ∈ l.take (i + 1) ↔ x ∈ l.take i ∨ x = l.getD i d := by
  rw [take_succ_getD d h]; simp

theorem getD_mem {α : Type} {l : List α} {i : Nat} (d : α) (h : i < l.length) : l.getD i d ∈ l := by
  rw [getD_lt d h]; exact List.getElem_mem h

theorem mem_getD {α : Type} {l : List α} {x : α} (d : α) (h : x ∈ l) : ∃ i, i < l.length ∧ l.getD i d = x := by
  obtain ⟨i, hi, rfl⟩ := List.getElem_of_mem h
  exact ⟨i, hi, getD_lt d hi⟩

theorem getD_set_if {α : Type} {l : List α} {i j : Nat} {x : α} (d : α) (h : i < l.length) : (l.set i x).getD j d = if j = i then x else l.getD j d := by
  simp only [List.getD_eq_getElem?_getD, List.getElem?_set]
  by_cases e : i = j
  · subst e; simp [h]
  · simp [e, Ne.symm e]

theorem ext_getD {α : Type} (d : α) {l m : List α} (h : l.length = m.length) (he : ∀ i, i < l.length → l.getD i d = m.getD i d) : l = m := by
  apply List.ext_getElem h
  intro i h1 h2
  have := he i h1
  rwa [getD_lt d h1, getD_lt d h2] at this

theorem replicate_getD {α : Type} (n i : Nat) (x : α) : (List.replicate n x).getD i x = x := by
  simp only [List.getD_eq_getElem?_getD, List.getElem?_replicate]; split <;> rfl

/-- The numbers 1 to n. -/
def iota (n : Nat) : List Int := (List.range n).map fun (i : Nat) => (i : Int) + 1

@[simp] theorem iota_length (n : Nat) : (iota n).length = n := by simp [iota]
theorem iota_succ (n : Nat) : iota (n + 1) = iota n ++ [(n : Int) + 1] := by simp [iota, List.range_succ]
theorem mem_iota {n : Nat} {x : Int} : x ∈ iota n ↔ 1 ≤ x ∧ x ≤ n := by
  simp only [iota, List.mem_map, List.mem_range]
  constructor
  · rintro ⟨i, h, rfl⟩; omega
  · intro h; exact ⟨(x - 1).toNat, by omega, by omega⟩
theorem iota_nodup (n : Nat) : (iota n).Nodup := by
  induction n with
  | zero => simp [iota]
  | succ n ih =>
    rw [iota_succ, List.nodup_append]
    refine ⟨ih, by simp, ?_⟩
    intro a ha b hb e
    subst e
    simp at hb
    have := mem_iota.1 ha
    omega

theorem nodup_len : ∀ (l m : List Int), l.Nodup → (∀ x ∈ l, x ∈ m) → l.length ≤ m.length
  | [], m, _, _ => by simp
  | a :: l, m, hn, hs => by
    have ha := hs a (by simp)
    rw [List.nodup_cons] at hn
    have := nodup_len l (m.erase a) hn.2 fun x hx => (List.mem_erase_of_ne (fun (e : x = a) => hn.1 (by rw [← e]; exact hx))).2 (hs x (by simp [hx]))
    rw [List.length_erase_of_mem ha] at this
    have := List.length_pos_of_mem ha
    simp; omega

/-! ### Is a list a permutation? -/

def isPerm (p : List Int) : Prop := ∀ n : Nat, n < p.length → ((n : Int) + 1) ∈ p
instance (p : List Int) : Decidable (isPerm p) := by unfold isPerm; infer_instance

def permE (p : List Int) : Int := if 40 < p.length then 2 else if isPerm p then 0 else 1

theorem isPerm_iota {p : List Int} (h : isPerm p) {x : Int} (hx : x ∈ iota p.length) : x ∈ p := by
  have := mem_iota.1 hx
  have := h (x - 1).toNat (by omega)
  rwa [show (((x - 1).toNat : Int) + 1) = x by omega] at this

/-- Is the place i the first one that is wrong? -/
def okAt (p : List Int) (i : Nat) : Prop := 1 ≤ p.getD i 0 ∧ p.getD i 0 ≤ p.length ∧ p.getD i 0 ∉ p.take i

theorem erase_dup {p : List Int} {i : Nat} (hi : i < p.length) (h : p.getD i 0 ∈ p.take i) {x : Int} (hx : x ∈ p) : x ∈ p.erase (p.getD i 0) := by
  by_cases e : x = p.getD i 0
  · rw [e]
    have h0 : p = p.take i ++ p.drop i := (List.take_append_drop i p).symm
    have h1 : p.erase (p.getD i 0) = (p.take i).erase (p.getD i 0) ++ p.drop i := by
      generalize p.getD i 0 = y at h ⊢
      rw [← List.erase_append_left _ h, ← h0]
    rw [h1]
    apply List.mem_append_right
    rw [getD_lt 0 hi]
    rw [List.drop_eq_getElem_cons hi]
    exact List.mem_cons_self
  · exact (List.mem_erase_of_ne e).2 hx

theorem permE_bad {p : List Int} {i : Nat} (hi : i < p.length) (hl : p.length ≤ 40) (h : ¬ okAt p i) : permE p = 1 := by
  unfold permE
  rw [if_neg (by omega), if_neg]
  intro hp
  have hx := getD_mem (0 : Int) hi
  have key : (∀ x ∈ iota p.length, x ∈ p.erase (p.getD i 0)) → False := fun hs => by
    have := nodup_len _ _ (iota_nodup p.length) hs
    rw [List.length_erase_of_mem hx, iota_length] at this
    omega
  by_cases h1 : 1 ≤ p.getD i 0 ∧ p.getD i 0 ≤ p.length
  · have hd : p.getD i 0 ∈ p.take i := by
      by_cases hd : p.getD i 0 ∈ p.take i
      · exact hd
      · exact absurd ⟨h1.1, h1.2, hd⟩ h
    exact key fun x hx => erase_dup hi hd (isPerm_iota hp hx)
  · refine key fun x hx => (List.mem_erase_of_ne ?_).2 (isPerm_iota hp hx)
    rintro rfl
    exact h1 (mem_iota.1 hx)

theorem okAt_nodup {p : List Int} : ∀ n, n ≤ p.length → (∀ i, i < n → okAt p i) → (p.take n).Nodup
  | 0, _, _ => by simp
  | n + 1, hn, h => by
    rw [take_succ_getD 0 (by omega), List.nodup_append]
    refine ⟨okAt_nodup n (by omega) fun i hi => h i (by omega), by simp, ?_⟩
    intro a ha b hb e
    subst e
    simp only [List.mem_singleton] at hb
    rw [hb] at ha
    exact (h n (by omega)).2.2 ha

theorem okAt_all {p : List Int} (h : ∀ i, i < p.length → okAt p i) : p.Nodup ∧ ∀ x ∈ p, 1 ≤ x ∧ x ≤ p.length := by
  have := okAt_nodup p.length (Nat.le_refl _) h
  rw [List.take_length] at this
  refine ⟨this, fun x hx => ?_⟩
  obtain ⟨i, hi, rfl⟩ := mem_getD 0 hx
  exact ⟨(h i hi).1, (h i hi).2.1⟩

theorem isPerm_of {p : List Int} (hn : p.Nodup) (hr : ∀ x ∈ p, 1 ≤ x ∧ x ≤ p.length) : isPerm p := by
  intro k hk
  by_cases hm : ((k : Int) + 1) ∈ p
  · exact hm
  · exfalso
    have := nodup_len (((k : Int) + 1) :: p) (iota p.length) (List.nodup_cons.2 ⟨hm, hn⟩) fun x hx => by
      rcases List.mem_cons.1 hx with rfl | hx
      · exact mem_iota.2 (by omega)
      · exact mem_iota.2 (hr x hx)
    simp at this
    omega

theorem permE_ok {p : List Int} (hl : p.length ≤ 40) (h : ∀ i, i < p.length → okAt p i) : permE p = 0 := by
  unfold permE
  rw [if_neg (by omega), if_pos (isPerm_of (okAt_all h).1 (okAt_all h).2)]

theorem permE_zero {p : List Int} (h : permE p = 0) : p.length ≤ 40 ∧ isPerm p ∧ p.Nodup ∧ ∀ x ∈ p, 1 ≤ x ∧ x ≤ p.length := by
  unfold permE at h
  split at h
  · cases h
  · rename_i hl
    split at h
    · rename_i hp
      have hl : p.length ≤ 40 := by omega
      have hall : ∀ i, i < p.length → okAt p i := fun i hi => by
        by_cases hk : okAt p i
        · exact hk
        · have := permE_bad hi hl hk
          unfold permE at this
          rw [if_neg (by omega), if_pos hp] at this
          cases this
      exact ⟨hl, hp, okAt_all hall⟩
    · cases h

theorem permE_cases (p : List Int) : permE p = 0 ∨ permE p = 1 ∨ permE p = 2 := by
  unfold permE; split
  · exact .inr (.inr rfl)
  · split
    · exact .inl rfl
    · exact .inr (.inl rfl)

theorem idxOf_of {n : Int} : ∀ {p : List Int} {i : Nat}, i < p.length → n ∉ p.take i → p.getD i 0 = n → p.idxOf n = i
  | [], _, h, _, _ => by simp at h
  | x :: p, 0, _, _, h => by simp at h; subst h; simp
  | x :: p, i + 1, hi, h1, h2 => by
    simp only [List.take_succ_cons, List.mem_cons, not_or] at h1
    rw [List.idxOf_cons, beq_eq_false_iff_ne.2 (fun e => h1.1 e.symm)]
    simp only [cond_false]
    rw [idxOf_of (by simpa using hi) h1.2 (by simpa using h2)]

theorem sum_take_succ {l : List Int} {i : Nat} (h : i < l.length) : (l.take (i + 1)).sum = (l.take i).sum + l.getD i 0 := by
  rw [take_succ_getD 0 h, List.sum_append]; simp

theorem nodup_getD {l : List Int} (h : l.Nodup) {i j : Nat} (hij : i < j) (hj : j < l.length) : l.getD i 0 ≠ l.getD j 0 := by
  rw [getD_lt 0 hj, getD_lt 0 (by omega)]
  exact List.pairwise_iff_getElem.1 h i j (by omega) hj hij

theorem iota_getD {n j : Nat} (h : j < n) : (iota n).getD j 0 = (j : Int) + 1 := by
  rw [getD_lt 0 (by simpa using h)]; simp [iota]

theorem iota_of {l : List Int} {n : Nat} (hl : l.length = n) (h : ∀ j, j < n → l.getD j 0 = (j : Int) + 1) : l = iota n :=
  ext_getD 0 (by simpa using hl) fun i hi => by rw [h i (by omega), iota_getD (by omega)]

end Fer
