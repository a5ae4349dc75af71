/- Machine and plain facts, over any program (several texts in one). No condition. -/

/- Plain facts on lists of numbers. No program in sight. -/
namespace Fer

theorem getD_lt {α : Type} {l : List α} {i : Nat} (d : α) (h : i < l.length) : l.getD i d = l[i] := by
  simp [List.getD_eq_getElem?_getD, h]

theorem take_succ_getD {α : Type} {l : List α} {i : Nat} (d : α) (h : i < l.length) : l.take (i + 1) = l.take i ++ [l.getD i d] := by
  rw [getD_lt d h, List.take_succ_eq_append_getElem h]

theorem mem_take_succ {α : Type} {l : List α} {i : Nat} (d : α) (h : i < l.length) (x : α) : x ∈ l.take (i + 1) ↔ x ∈ l.take i ∨ x = l.getD i d := by
  rw [take_succ_getD d h]; simp

theorem getD_mem {α : Type} {l : List α} {i : Nat} (d : α) (h : i < l.length) : l.getD i d ∈ l := by
  rw [getD_lt d h]; exact List.getElem_mem h

theorem mem_getD {α : Type} {l : List α} {x : α} (d : α) (h : x ∈ l) : ∃ i, i < l.length ∧ l.getD i d = x := by
  obtain ⟨i, hi, rfl⟩ := List.getElem_of_mem h
  exact ⟨i, hi, getD_lt d hi⟩

theorem getD_set_if {α : Type} {l : List α} {i j : Nat} {x : α} (d : α) (h : i < l.length) : (l.set i x).getD j d = if j = i then x else l.getD j d := by
  simp only [List.getD_eq_getElem?_getD, List.getElem?_set]
  by_cases e : i = j
  · subst e; simp [h]
  · simp [e, Ne.symm e]

theorem ext_getD {α : Type} (d : α) {l m : List α} (h : l.length = m.length) (he : ∀ i, i < l.length → l.getD i d = m.getD i d) : l = m := by
  apply List.ext_getElem h
  intro i h1 h2
  have := he i h1
  rwa [getD_lt d h1, getD_lt d h2] at this

theorem replicate_getD {α : Type} (n i : Nat) (x : α) : (List.replicate n x).getD i x = x := by
  simp only [List.getD_eq_getElem?_getD, List.getElem?_replicate]; split <;> rfl

/-- The numbers 1 to n. -/
def iota (n : Nat) : List Int := (List.range n).map fun (i : Nat) => (i : Int) + 1

@[simp] theorem iota_length (n : Nat) : (iota n).length = n := by simp [iota]
theorem iota_succ (n : Nat) : iota (n + 1) = iota n ++ [(n : Int) + 1] := by simp [iota, List.range_succ]
theorem mem_iota {n : Nat} {x : Int} : x ∈ iota n ↔ 1 ≤ x ∧ x ≤ n := by
  simp only [iota, List.mem_map, List.mem_range]
  constructor
  · rintro ⟨i, h, rfl⟩; omega
  · intro h; exact ⟨(x - 1).toNat, by omega, by omega⟩
theorem iota_nodup (n : Nat) : (iota n).Nodup := by
  induction n with
  | zero => simp [iota]
  | succ n ih =>
    rw [iota_succ, List.nodup_append]
    refine ⟨ih, by simp, ?_⟩
    intro a ha b hb e
    subst e
    simp at hb
    have := mem_iota.1 ha
    omega

theorem nodup_len : ∀ (l m : List Int), l.Nodup → (∀ x ∈ l, x ∈ m) → l.length ≤ m.length
  | [], m, _, _ => by simp
  | a :: l, m, hn, hs => by
    have ha := hs a (by simp)
    rw [List.nodup_cons] at hn
    have := nodup_len l (m.erase a) hn.2 fun x hx => (List.mem_erase_of_ne (fun (e : x = a) => hn.1 (by rw [← e]; exact hx))).2 (hs x (by simp [hx]))
    rw [List.length_erase_of_mem ha] at this
    have := List.length_pos_of_mem ha
    simp; omega

/-! ### Is a list a permutation? -/

def isPerm (p : List Int) : Prop := ∀ n : Nat, n < p.length → ((n : Int) + 1) ∈ p
instance (p : List Int) : Decidable (isPerm p) := by unfold isPerm; infer_instance

def permE (p : List Int) : Int := if 40 < p.length then 2 else if isPerm p then 0 else 1

theorem isPerm_iota {p : List Int} (h : isPerm p) {x : Int} (hx : x ∈ iota p.length) : x ∈ p := by
  have := mem_iota.1 hx
  have := h (x - 1).toNat (by omega)
  rwa [show (((x - 1).toNat : Int) + 1) = x by omega] at this

/-- Is the place i the first one that is wrong? -/
def okAt (p : List Int) (i : Nat) : Prop := 1 ≤ p.getD i 0 ∧ p.getD i 0 ≤ p.length ∧ p.getD i 0 ∉ p.take i

theorem erase_dup {p : List Int} {i : Nat} (hi : i < p.length) (h : p.getD i 0 ∈ p.take i) {x : Int} (hx : x ∈ p) : x ∈ p.erase (p.getD i 0) := by
  by_cases e : x = p.getD i 0
  · rw [e]
    have h0 : p = p.take i ++ p.drop i := (List.take_append_drop i p).symm
    have h1 : p.erase (p.getD i 0) = (p.take i).erase (p.getD i 0) ++ p.drop i := by
      generalize p.getD i 0 = y at h ⊢
      rw [← List.erase_append_left _ h, ← h0]
    rw [h1]
    apply List.mem_append_right
    rw [getD_lt 0 hi]
    rw [List.drop_eq_getElem_cons hi]
    exact List.mem_cons_self
  · exact (List.mem_erase_of_ne e).2 hx

theorem permE_bad {p : List Int} {i : Nat} (hi : i < p.length) (hl : p.length ≤ 40) (h : ¬ okAt p i) : permE p = 1 := by
  unfold permE
  rw [if_neg (by omega), if_neg]
  intro hp
  have hx := getD_mem (0 : Int) hi
  have key : (∀ x ∈ iota p.length, x ∈ p.erase (p.getD i 0)) → False := fun hs => by
    have := nodup_len _ _ (iota_nodup p.length) hs
    rw [List.length_erase_of_mem hx, iota_length] at this
    omega
  by_cases h1 : 1 ≤ p.getD i 0 ∧ p.getD i 0 ≤ p.length
  · have hd : p.getD i 0 ∈ p.take i := by
      by_cases hd : p.getD i 0 ∈ p.take i
      · exact hd
      · exact absurd ⟨h1.1, h1.2, hd⟩ h
    exact key fun x hx => erase_dup hi hd (isPerm_iota hp hx)
  · refine key fun x hx => (List.mem_erase_of_ne ?_).2 (isPerm_iota hp hx)
    rintro rfl
    exact h1 (mem_iota.1 hx)

theorem okAt_nodup {p : List Int} : ∀ n, n ≤ p.length → (∀ i, i < n → okAt p i) → (p.take n).Nodup
  | 0, _, _ => by simp
  | n + 1, hn, h => by
    rw [take_succ_getD 0 (by omega), List.nodup_append]
    refine ⟨okAt_nodup n (by omega) fun i hi => h i (by omega), by simp, ?_⟩
    intro a ha b hb e
    subst e
    simp only [List.mem_singleton] at hb
    rw [hb] at ha
    exact (h n (by omega)).2.2 ha

theorem okAt_all {p : List Int} (h : ∀ i, i < p.length → okAt p i) : p.Nodup ∧ ∀ x ∈ p, 1 ≤ x ∧ x ≤ p.length := by
  have := okAt_nodup p.length (Nat.le_refl _) h
  rw [List.take_length] at this
  refine ⟨this, fun x hx => ?_⟩
  obtain ⟨i, hi, rfl⟩ := mem_getD 0 hx
  exact ⟨(h i hi).1, (h i hi).2.1⟩

theorem isPerm_of {p : List Int} (hn : p.Nodup) (hr : ∀ x ∈ p, 1 ≤ x ∧ x ≤ p.length) : isPerm p := by
  intro k hk
  by_cases hm : ((k : Int) + 1) ∈ p
  · exact hm
  · exfalso
    have := nodup_len (((k : Int) + 1) :: p) (iota p.length) (List.nodup_cons.2 ⟨hm, hn⟩) fun x hx => by
      rcases List.mem_cons.1 hx with rfl | hx
      · exact mem_iota.2 (by omega)
      · exact mem_iota.2 (hr x hx)
    simp at this
    omega

theorem permE_zero {p : List Int} (h : permE p = 0) : p.length ≤ 40 ∧ isPerm p ∧ p.Nodup ∧ ∀ x ∈ p, 1 ≤ x ∧ x ≤ p.length := by
  unfold permE at h
  split at h
  · cases h
  · rename_i hl
    split at h
    · rename_i hp
      have hl : p.length ≤ 40 := by omega
      have hall : ∀ i, i < p.length → okAt p i := fun i hi => by
        by_cases hk : okAt p i
        · exact hk
        · have := permE_bad hi hl hk
          unfold permE at this
          rw [if_neg (by omega), if_pos hp] at this
          cases this
      exact ⟨hl, hp, okAt_all hall⟩
    · cases h

theorem idxOf_of {n : Int} : ∀ {p : List Int} {i : Nat}, i < p.length → n ∉ p.take i → p.getD i 0 = n → p.idxOf n = i
  | [], _, h, _, _ => by simp at h
  | x :: p, 0, _, _, h => by simp at h; subst h; simp
  | x :: p, i + 1, hi, h1, h2 => by
    simp only [List.take_succ_cons, List.mem_cons, not_or] at h1
    rw [List.idxOf_cons, beq_eq_false_iff_ne.2 (fun e => h1.1 e.symm)]
    simp only [cond_false]
    rw [idxOf_of (by simpa using hi) h1.2 (by simpa using h2)]

end Fer

/- Words by which a list is put in order, neighbour by neighbour. No program in sight. -/
namespace Fer

def sws : Nat → List Int → List Int
  | 0, x :: y :: l => y :: x :: l
  | i + 1, x :: l => x :: sws i l
  | _, l => l

def ff : List Int → Option Nat
  | x :: y :: l => if y < x then some 0 else (ff (y :: l)).map (· + 1)
  | _ => none

def inv : List Int → Nat
  | [] => 0
  | x :: l => l.countP (fun y => decide (y < x)) + inv l

theorem sws_perm : ∀ (i : Nat) (l : List Int), (sws i l).Perm l
  | 0, x :: y :: l => List.Perm.swap ..
  | 0, [] => .refl _
  | 0, [_] => .refl _
  | i + 1, [] => .refl _
  | i + 1, x :: l => (sws_perm i l).cons x

@[simp] theorem sws_length (i : Nat) (l : List Int) : (sws i l).length = l.length := (sws_perm i l).length_eq

theorem sws_getD : ∀ (i : Nat) (l : List Int) (j : Nat), i + 1 < l.length → (sws i l).getD j 0 = if j = i then l.getD (i + 1) 0 else if j = i + 1 then l.getD i 0 else l.getD j 0
  | 0, x :: y :: l, j, _ => by
    rcases j with _ | _ | j <;> simp [sws]
  | 0, [], _, h => by simp at h
  | 0, [_], _, h => by simp at h
  | i + 1, [], _, h => by simp at h
  | i + 1, x :: l, j, h => by
    simp only [List.length_cons] at h
    cases j with
    | zero => simp [sws]
    | succ j =>
      simp only [sws, List.getD_cons_succ, sws_getD i l j (by omega), Nat.add_right_cancel_iff]

def nb : Nat → List Int → List Int
  | 0, _ => []
  | f + 1, q => match ff q with
    | none => []
    | some i => ((i : Int) + 1) :: nb f (sws i q)

/-- P7: the word. -/
def word (p : List Int) : List Int := nb (inv p) p

/-! ### Descents -/

/-! ### Products -/

def came (out : List Int) (l : List Int) : List Int := l.foldr (fun i out => sws (i - 1).toNat out) out

@[simp] theorem came_length (out l : List Int) : (came out l).length = out.length := by
  induction l with
  | nil => rfl
  | cons i l ih => simpa [came] using ih

theorem drop_pred_getD {α : Type} {l : List α} {k : Nat} (d : α) (h : k < l.length) : l.drop k = l.getD k d :: l.drop (k + 1) := by
  rw [getD_lt d h, List.drop_eq_getElem_cons h]

end Fer

/- Bruhat's order, by counts and by lists put in order. No program in sight. -/
namespace Fer

/-- Of the first m numbers of l how many are at least k. -/
def atl (l : List Int) (m : Nat) (k : Int) : Int := ((l.take m).countP fun x => decide (k ≤ x) : Nat)

/-- Never fewer of b's than of a's. -/
def under (a b : List Int) : Prop := ∀ i : Nat, i < a.length → ∀ k : Nat, k < a.length → atl a (i + 1) ((k : Int) + 1) ≤ atl b (i + 1) ((k : Int) + 1)
instance (a b : List Int) : Decidable (under a b) := by unfold under; infer_instance

/-- The greatest first. -/
def Desc (l : List Int) : Prop := l.Pairwise fun x y => y ≤ x

/-- A number is put to its place among the greater ones: all is in order up to i, except for what stands at k. -/
def Ins (out : List Int) (i k : Nat) : Prop := ∀ a b, a < b → b ≤ i → b ≠ k → out.getD b 0 ≤ out.getD a 0
def DescTo (out : List Int) (i : Nat) : Prop := ∀ a b, a < b → b < i → out.getD b 0 ≤ out.getD a 0

theorem Ins.swap {out : List Int} {i k : Nat} (h : Ins out i (k + 1)) (hl : k + 1 < out.length) (hi : k + 1 ≤ i) (hk : out.getD k 0 < out.getD (k + 1) 0) : Ins (sws k out) i k := by
  intro a b h1 h2 h3
  rw [sws_getD _ _ _ hl, sws_getD _ _ _ hl, if_neg h3]
  by_cases e1 : b = k + 1
  · rw [if_pos e1]
    by_cases e2 : a = k
    · rw [if_pos e2]; omega
    · rw [if_neg e2, if_neg (by omega)]; exact h a k (by omega) (by omega) (by omega)
  · rw [if_neg e1]
    by_cases e2 : a = k
    · rw [if_pos e2]; exact h (k + 1) b (by omega) h2 e1
    · rw [if_neg e2]
      by_cases e3 : a = k + 1
      · rw [if_pos e3]; exact h k b (by omega) h2 e1
      · rw [if_neg e3]; exact h a b h1 h2 e1
theorem DescTo.all {out : List Int} (h : DescTo out out.length) : Desc out := by
  refine List.pairwise_iff_getElem.2 fun i j hi hj hij => ?_
  have := h i j hij hj
  rwa [getD_lt 0 hi, getD_lt 0 hj] at this

end Fer

/- Inverses, codes, inversions. No program in sight. -/
namespace Fer

/-! ### Sums over places -/

def sumTo (f : Nat → Int) : Nat → Int
  | 0 => 0
  | n + 1 => sumTo f n + f n

/-! ### Of each number how many lesser ones stand behind it -/

def less (l : List Int) (x : Int) : Int := (l.countP fun y => decide (y < x) : Nat)
def more (l : List Int) (x : Int) : Int := (l.countP fun y => decide (x < y) : Nat)

def cd (p : List Int) (i : Nat) : Int := less (p.drop (i + 1)) (p.getD i 0)
def code (p : List Int) : List Int := (List.range p.length).map (cd p)
def wr (p : List Int) (i : Nat) : Int := more (p.take i) (p.getD i 0)
def wrong (p : List Int) : Int := sumTo (wr p) p.length

@[simp] theorem code_length (p : List Int) : (code p).length = p.length := by simp [code]
/-! ### The inverse -/

def invr (p : List Int) : List Int := (iota p.length).map fun n => (p.idxOf n : Int) + 1
@[simp] theorem invr_length (p : List Int) : (invr p).length = p.length := by simp [invr]
/-! ### From codes -/

def upOne (n x : Int) : Int := if n < x then x + 1 else x

def ofCode : List Int → List Int
  | [] => []
  | n :: c => (n + 1) :: (ofCode c).map (upOne n)

@[simp] theorem ofCode_length : ∀ c : List Int, (ofCode c).length = c.length
  | [] => rfl
  | n :: c => by simp [ofCode, ofCode_length c]

def codeOK : List Int → Prop
  | [] => True
  | n :: c => 0 ≤ n ∧ n ≤ c.length ∧ codeOK c

/-- Each time the number at that place is taken away. -/
def taken : List Int → List Int → List Int
  | _, [] => []
  | left, n :: c => left.getD n.toNat 0 :: taken (left.eraseIdx n.toNat) c

instance decCodeOK : (c : List Int) → Decidable (codeOK c)
  | [] => isTrue trivial
  | n :: c => by
    have := decCodeOK c
    unfold codeOK
    infer_instance

end Fer

/- Foata's map, block by block, and back. No program in sight. -/
namespace Fer

def letE (w : List Int) : Int := if 40 < w.length then 2 else if ∀ x ∈ w, 1 ≤ x ∧ x ≤ 99 then 0 else 1

/-- Blocks that end at a letter of the same kind: what is written down so far; the block that is open. -/
def blk (x : Int) (low : Bool) (st : List Int × List Int) (y : Int) : List Int × List Int :=
  if (decide (y ≤ x)) = low then (st.1 ++ y :: st.2, []) else (st.1, st.2 ++ [y])

def lowOf (v : List Int) (x : Int) : Bool := decide (v.getD (v.length - 1) 0 ≤ x)

def foldOne (v : List Int) (x : Int) : List Int := (v.foldl (blk x (lowOf v x)) ([], [])).1 ++ [x]

/-- P8. -/
def folded (w : List Int) : List Int := w.foldl foldOne []

/-! ### And back -/

/-- The first letter of each block goes to its end. -/
def rotb (x : Int) (low : Bool) : Nat → List Int → List Int
  | 0, _ => []
  | _, [] => []
  | f + 1, a :: l => l.takeWhile (fun y => decide (y ≤ x) != low) ++ a :: rotb x low f (l.dropWhile fun y => decide (y ≤ x) != low)

theorem rotb_length (x : Int) (low : Bool) : ∀ (f : Nat) (l : List Int), l.length ≤ f → (rotb x low f l).length = l.length
  | 0, [], _ => rfl
  | 0, _ :: _, h => by simp at h
  | _ + 1, [], _ => rfl
  | f + 1, a :: l, h => by
    have h1 : (l.takeWhile (fun y => decide (y ≤ x) != low)).length + (l.dropWhile (fun y => decide (y ≤ x) != low)).length = l.length := by
      rw [← List.length_append, List.takeWhile_append_dropWhile]
    simp only [List.length_cons] at h
    rw [rotb, List.length_append, List.length_cons, rotb_length x low f _ (by omega), List.length_cons]
    omega

def rot (x : Int) (low : Bool) (l : List Int) : List Int := rotb x low l.length l

@[simp] theorem rot_length (x : Int) (low : Bool) (l : List Int) : (rot x low l).length = l.length := rotb_length x low _ l (Nat.le_refl _)
@[simp] theorem rot_nil (x : Int) (low : Bool) : rot x low [] = [] := rfl

end Fer

/- Plain facts: the cycles of a permutation. No program in sight. -/
namespace Fer

/-- What p makes of y. -/
def sg (p : List Int) (y : Int) : Int := p.getD (y - 1).toNat 0
def it (p : List Int) (y : Int) : Nat → Int
  | 0 => y
  | j + 1 => sg p (it p y j)

def IsRet (p : List Int) (y : Int) (r : Nat) : Prop := 0 < r ∧ it p y r = y ∧ ∀ d, 0 < d → d < r → it p y d ≠ y

noncomputable def ret (p : List Int) (y : Int) : Nat := Classical.epsilon (IsRet p y)

/-! All cycles together are no longer than p. -/

/-! ### Back -/

/-- Where the cycle that holds place i begins. -/
def fi (q : List Int) : Nat → Nat
  | 0 => 0
  | i + 1 => if q.getD (fi q i) 0 < q.getD (i + 1) 0 then i + 1 else fi q i
def nx (q : List Int) (k : Nat) : Int := if k + 1 < q.length ∧ ¬ q.getD (fi q k) 0 < q.getD (k + 1) 0 then q.getD (k + 1) 0 else q.getD (fi q k) 0
def unrO (q : List Int) : Nat → List Int
  | 0 => List.replicate q.length 0
  | k + 1 => (unrO q k).set (q.getD k 0 - 1).toNat (nx q k)

@[simp] theorem unrO_length (q : List Int) : ∀ k, (unrO q k).length = q.length
  | 0 => by simp [unrO]
  | k + 1 => by simp [unrO, unrO_length q k]

end Fer

/- Plain facts: tables, sums, alternating signs. No program in sight. -/
namespace Fer

/-- Rows and columns change places. -/
def across (m : List (List Int)) : List (List Int) := (List.range (m.getD 0 []).length).map fun j => (m.takeWhile fun r => decide (j < r.length)).map fun r => r.getD j 0

theorem while_cutG {α : Type} {p : α → Bool} (d : α) : ∀ {l : List α} {m : Nat}, m ≤ l.length → (∀ j, j < m → p (l.getD j d) = true) → (m = l.length ∨ p (l.getD m d) = false) → l.takeWhile p = l.take m
  | [], m, hm, _, _ => by simp
  | a :: l, 0, _, _, h => by
    rcases h with h | h
    · simp at h
    · have : p a = false := h
      simp [this]
  | a :: l, m + 1, hm, h1, h2 => by
    have h0 : p a = true := h1 0 (by omega)
    rw [List.takeWhile_cons, if_pos h0, List.take_succ_cons]
    congr 1
    refine while_cutG d (by simpa using hm) (fun j hj => h1 (j + 1) (by omega)) ?_
    rcases h2 with h2 | h2
    · exact .inl (by simpa using h2)
    · exact .inr h2

end Fer

/- Plain facts: tableaux; a letter put into one. No program in sight. -/
namespace Fer

def tabRow (t : List (List Int)) (i : Nat) : Prop := 0 < (t.getD i []).length ∧ (0 < i → (t.getD i []).length ≤ (t.getD (i - 1) []).length) ∧
  ∀ j, j < (t.getD i []).length → (1 ≤ (t.getD i []).getD j 0 ∧ (t.getD i []).getD j 0 ≤ 99) ∧ (0 < j → (t.getD i []).getD (j - 1) 0 ≤ (t.getD i []).getD j 0) ∧ (0 < i → (t.getD (i - 1) []).getD j 0 < (t.getD i []).getD j 0)
def tabRows (t : List (List Int)) : Prop := ∀ i, i < t.length → tabRow t i
noncomputable def tabE (t : List (List Int)) : Int := if 40 < t.flatten.length then 2 else @ite _ (tabRows t) (Classical.propDecidable _) 0 1

theorem tabE_big {t : List (List Int)} (h : 40 < t.flatten.length) : tabE t = 2 := if_pos h
theorem tabE_bad {t : List (List Int)} (h : ¬ 40 < t.flatten.length) (h2 : ¬ tabRows t) : tabE t = 1 := (if_neg h).trans (if_neg h2)
theorem tabE_ok {t : List (List Int)} (h : ¬ 40 < t.flatten.length) (h2 : tabRows t) : tabE t = 0 := (if_neg h).trans (if_pos h2)
theorem tabE_zero {t : List (List Int)} (h : tabE t = 0) : t.flatten.length ≤ 40 ∧ tabRows t := by
  by_cases h1 : 40 < t.flatten.length
  · rw [tabE_big h1] at h; cases h
  · by_cases h2 : tabRows t
    · exact ⟨by omega, h2⟩
    · rw [tabE_bad h1 h2] at h; cases h

theorem flatten_take_le (t : List (List Int)) (i : Nat) : (t.take i).flatten.length ≤ t.flatten.length := by
  have e : t.flatten.length = ((t.take i).flatten ++ (t.drop i).flatten).length := by rw [← List.flatten_append, List.take_append_drop]
  rw [List.length_append] at e
  omega
theorem flatten_take_succ {t : List (List Int)} {i : Nat} (h : i < t.length) : (t.take (i + 1)).flatten.length = (t.take i).flatten.length + (t.getD i []).length := by
  rw [take_succ_getD [] h, List.flatten_append, List.flatten_singleton, List.length_append]
theorem row_le_flatten {t : List (List Int)} {i : Nat} (h : i < t.length) : (t.getD i []).length ≤ t.flatten.length := by
  have := flatten_take_succ h
  have := flatten_take_le t (i + 1)
  omega
theorem tab_length {t : List (List Int)} (h : tabRows t) : t.length ≤ t.flatten.length := by
  have key : ∀ i, i ≤ t.length → i ≤ (t.take i).flatten.length := fun i => by
    induction i with
    | zero => intro _; omega
    | succ i ih =>
      intro hi
      have := ih (by omega)
      have := (h i (by omega)).1
      rw [flatten_take_succ (by omega)]
      omega
  have := key t.length (Nat.le_refl _)
  rwa [List.take_length] at this

/-- How many at the front are less. -/
def lb (p : List Int) (n : Int) : Nat := (p.takeWhile fun x => decide (x < n)).length
/-- In order, the least first. -/
def Asc (p : List Int) : Prop := ∀ i j, i ≤ j → j < p.length → p.getD i 0 ≤ p.getD j 0

theorem lb_of {p : List Int} {n : Int} {k : Nat} (hk : k ≤ p.length) (h1 : ∀ a, a < k → p.getD a 0 < n) (h2 : k = p.length ∨ n ≤ p.getD k 0) : lb p n = k := by
  unfold lb
  rw [while_cutG 0 hk (fun j hj => decide_eq_true (h1 j hj)) (h2.imp id fun h => decide_eq_false (by omega)), List.length_take]
  omega
theorem lb_le (p : List Int) (n : Int) : lb p n ≤ p.length := by
  unfold lb
  generalize hq : (fun x : Int => decide (x < n)) = q
  clear hq
  induction p with
  | nil => simp
  | cons a p ih =>
    rw [List.takeWhile_cons]
    split
    · simp only [List.length_cons]; omega
    · simp
theorem asc_of {p : List Int} (h : ∀ j, j + 1 < p.length → p.getD j 0 ≤ p.getD (j + 1) 0) : Asc p := by
  have key : ∀ d i, i + d < p.length → p.getD i 0 ≤ p.getD (i + d) 0 := by
    intro d
    induction d with
    | zero => intro i _; exact Int.le_refl _
    | succ d ih => intro i hi; exact Int.le_trans (ih i (by omega)) (h (i + d) (by omega))
  intro i j hij hj
  have := key (j - i) i (by omega)
  rwa [show i + (j - i) = j by omega] at this
/-! ### Row by row -/

def intoL : List (List Int) → Int → List (List Int)
  | [], x => [[x]]
  | r :: t, x => if lb r (x + 1) = r.length then (r ++ [x]) :: t else (r.set (lb r (x + 1)) x) :: intoL t (r.getD (lb r (x + 1)) 0)
def intoI : List (List Int) → Int → Nat
  | [], _ => 0
  | r :: t, x => if lb r (x + 1) = r.length then 0 else intoI t (r.getD (lb r (x + 1)) 0) + 1

theorem into_nil (x : Int) : intoL [] x = [[x]] := rfl
theorem into_drop {t : List (List Int)} {i : Nat} (h : i < t.length) (x : Int) :
    intoL (t.drop i) x = (if lb (t.getD i []) (x + 1) = (t.getD i []).length then ((t.getD i []) ++ [x]) :: t.drop (i + 1) else ((t.getD i []).set (lb (t.getD i []) (x + 1)) x) :: intoL (t.drop (i + 1)) ((t.getD i []).getD (lb (t.getD i []) (x + 1)) 0)) ∧
    intoI (t.drop i) x = if lb (t.getD i []) (x + 1) = (t.getD i []).length then 0 else intoI (t.drop (i + 1)) ((t.getD i []).getD (lb (t.getD i []) (x + 1)) 0) + 1 := by
  rw [drop_pred_getD [] h]
  exact ⟨rfl, rfl⟩

theorem set_split {α : Type} {l : List α} {i : Nat} (h : i < l.length) (v : α) : l.set i v = l.take i ++ v :: l.drop (i + 1) := by
  rw [List.set_eq_take_append_cons_drop, if_pos h]
theorem set_take {α : Type} {l : List α} {i : Nat} (h : i < l.length) (v : α) : (l.set i v).take (i + 1) = l.take i ++ [v] := by
  rw [set_split h, List.take_append, List.length_take, List.take_take]
  rw [show min (i + 1) i = i by omega, show i + 1 - min i l.length = 1 by omega]
  rfl
theorem set_drop {α : Type} {l : List α} {i : Nat} (v : α) : (l.set i v).drop (i + 1) = l.drop (i + 1) := by
  rw [List.drop_set_of_lt (by omega)]
theorem drop_more {α : Type} {l m : List α} {i : Nat} (h : l.drop i = m.drop i) : l.drop (i + 1) = m.drop (i + 1) := by
  rw [← List.drop_drop, ← List.drop_drop, h]

/-- One row of the way down. -/
theorem into_step {t out : List (List Int)} {i : Nat} {x : Int} {k : Nat} {L : List (List Int)} {I : Nat} (hi : i < t.length) (hol : out.length = t.length) (hod : out.drop i = t.drop i) (hL : L = out.take i ++ intoL (t.drop i) x) (hI : I = i + intoI (t.drop i) x)
    (hk : lb (out.getD i []) (x + 1) = k) : out.getD i [] = t.getD i [] ∧
    (k = (out.getD i []).length → L = out.set i (out.getD i [] ++ [x]) ∧ I = i) ∧
    (k ≠ (out.getD i []).length → L = (out.set i ((out.getD i []).set k x)).take (i + 1) ++ intoL (t.drop (i + 1)) ((out.getD i []).getD k 0) ∧ (out.set i ((out.getD i []).set k x)).drop (i + 1) = t.drop (i + 1) ∧ I = i + 1 + intoI (t.drop (i + 1)) ((out.getD i []).getD k 0)) := by
  have hr : out.getD i [] = t.getD i [] := by
    have := congrArg (fun l => l.getD 0 []) hod
    simpa [List.getD_eq_getElem?_getD, List.getElem?_drop] using this
  obtain ⟨d1, d2⟩ := into_drop hi x
  rw [← hr, hk] at d1 d2
  refine ⟨hr, fun h => ?_, fun h => ?_⟩
  · rw [if_pos h] at d1 d2
    rw [hL, hI, d1, d2, set_split (by omega), drop_more hod]
    exact ⟨rfl, rfl⟩
  · rw [if_neg h] at d1 d2
    rw [hL, hI, d1, d2, set_take (by omega), set_drop, drop_more hod]
    refine ⟨by simp, rfl, by omega⟩

end Fer

/- Plain facts: rows and columns of a tableau; a letter put in column by column. No program in sight. -/
namespace Fer

def Shp (l : List (List Int)) : Prop := (∀ j, j < l.length → 0 < (l.getD j []).length) ∧ ∀ i j, i ≤ j → j < l.length → (l.getD j []).length ≤ (l.getD i []).length

/-- The one turned is the other. -/
def Tr (out cl : List (List Int)) : Prop := Shp cl ∧ out.length = (cl.getD 0 []).length ∧ ∀ i, i < out.length →
  (∀ j, j < (out.getD i []).length ↔ j < cl.length ∧ i < (cl.getD j []).length) ∧ ∀ j, j < (out.getD i []).length → (out.getD i []).getD j 0 = (cl.getD j []).getD i 0

/-! ### Column by column -/

def besL : List (List Int) → Int → List (List Int)
  | [], x => [[x]]
  | r :: t, x => if lb r x = r.length then (r ++ [x]) :: t else (r.set (lb r x) x) :: besL t (r.getD (lb r x) 0)
def besI : List (List Int) → Int → Nat
  | [], _ => 0
  | r :: t, x => if lb r x = r.length then 0 else besI t (r.getD (lb r x) 0) + 1

structure LInv (C : List (List Int)) (x0 : Int) (j : Nat) (x : Int) (out cl : List (List Int)) : Prop where
  tr : Tr out cl
  len : cl.length = C.length
  drop : cl.drop j = C.drop j
  L : besL C x0 = cl.take j ++ besL (C.drop j) x
  I : besI C x0 = j + besI (C.drop j) x
  lens : ∀ k, (cl.getD k []).length = (C.getD k []).length
  jle : j ≤ C.length
  bump : 0 < j → ∃ i0, i0 < (C.getD (j - 1) []).length ∧ x = (C.getD (j - 1) []).getD i0 0

end Fer

/- Plain facts: the two tableaux of a word; letters taken out again. No program in sight. -/
set_option maxHeartbeats 1000000
namespace Fer

/-! ### Two tableaux of a word -/

def qStep (q : List (List Int)) (row : Nat) (a : Int) : List (List Int) :=
  (if row = q.length then q ++ [[]] else q).set row ((if row = q.length then q ++ [[]] else q).getD row [] ++ [a])
def pqP (w : List Int) : Nat → List (List Int)
  | 0 => []
  | k + 1 => intoL (pqP w k) (w.getD k 0)
def pqQ (w a : List Int) : Nat → List (List Int)
  | 0 => []
  | k + 1 => qStep (pqQ w a k) (intoI (pqP w k) (w.getD k 0)) (a.getD k 0)

def RA (n : Nat) (t : List (List Int)) : Prop := t.length ≤ n ∧ ∀ r ∈ t, r.length ≤ n ∧ Asc r ∧ ∀ x ∈ r, 1 ≤ x ∧ x ≤ 99

theorem lb_lt {r : List Int} {x : Int} : ∀ {j : Nat}, j < lb r x → r.getD j 0 < x := by
  induction r with
  | nil => intro j h; simp [lb] at h
  | cons a r ih =>
    intro j h
    unfold lb at h ih
    rw [List.takeWhile_cons] at h
    split at h
    · rename_i ha
      cases j with
      | zero => simpa using ha
      | succ j => exact ih (by simpa using h)
    · simp at h
theorem lb_ge {r : List Int} {x : Int} (h : lb r x < r.length) : x ≤ r.getD (lb r x) 0 := by
  induction r with
  | nil => simp [lb] at h
  | cons a r ih =>
    unfold lb at h ih ⊢
    rw [List.takeWhile_cons] at h ⊢
    split
    · rename_i ha
      rw [if_pos ha] at h
      simp only [List.length_cons] at h ⊢
      have := ih (by omega)
      simpa using this
    · rename_i ha
      simpa using ha
theorem mem_at {r : List Int} {x : Int} (h : x ∈ r) : ∃ j, j < r.length ∧ r.getD j 0 = x := by
  obtain ⟨j, hj, e⟩ := List.mem_iff_getElem.1 h
  exact ⟨j, hj, by rw [List.getD_eq_getElem?_getD, List.getElem?_eq_getElem hj]; exact e⟩
theorem at_mem {α : Type} {r : List α} {d : α} {j : Nat} (h : j < r.length) : r.getD j d ∈ r := by
  rw [List.getD_eq_getElem?_getD, List.getElem?_eq_getElem h]
  exact List.getElem_mem h

theorem asc_snoc {r : List Int} {x : Int} (h : Asc r) (hx : ∀ y ∈ r, y ≤ x) : Asc (r ++ [x]) := by
  refine asc_of fun j hj => ?_
  rw [List.length_append, List.length_singleton] at hj
  simp only [List.getD_eq_getElem?_getD, List.getElem?_append, if_pos (show j < r.length by omega)]
  by_cases e : j + 1 < r.length
  · rw [if_pos e]
    have := h j (j + 1) (by omega) e
    simpa only [List.getD_eq_getElem?_getD] using this
  · rw [if_neg e, show j + 1 - r.length = 0 by omega]
    have := hx _ (at_mem (d := 0) (show j < r.length by omega))
    rw [List.getD_eq_getElem?_getD] at this
    exact this
theorem asc_put {r : List Int} {x : Int} {k : Nat} (h : Asc r) (hk : k < r.length) (h1 : ∀ j, j < k → r.getD j 0 ≤ x) (h2 : ∀ j, k < j → j < r.length → x ≤ r.getD j 0) : Asc (r.set k x) := by
  refine asc_of fun j hj => ?_
  rw [List.length_set] at hj
  rw [getD_set_if 0 hk, getD_set_if 0 hk]
  have := h j (j + 1) (by omega) hj
  split
  · rename_i e
    rw [if_neg (by omega)]
    exact h2 _ (by omega) hj
  · split
    · exact h1 _ (by omega)
    · exact this

theorem ra_into {n : Nat} {x : Int} : ∀ {t : List (List Int)}, (∀ r ∈ t, r.length ≤ n ∧ Asc r ∧ ∀ x ∈ r, 1 ≤ x ∧ x ≤ 99) → 1 ≤ x → x ≤ 99 →
    ∀ r ∈ intoL t x, r.length ≤ n + 1 ∧ Asc r ∧ ∀ x ∈ r, 1 ≤ x ∧ x ≤ 99 := by
  intro t
  induction t generalizing x with
  | nil =>
    intro _ h0 h1 r hr
    simp only [intoL, List.mem_singleton] at hr
    subst hr
    refine ⟨by simp, asc_of fun j hj => by simp at hj, fun y hy => ?_⟩
    simp only [List.mem_singleton] at hy
    omega
  | cons r t ih =>
    intro H h0 h1 r' hr'
    obtain ⟨a1, a2, a3⟩ := H r (by simp)
    have H' := fun r' (h : r' ∈ t) => H r' (List.mem_cons_of_mem _ h)
    simp only [intoL] at hr'
    split at hr'
    · rename_i he
      rcases List.mem_cons.1 hr' with rfl | hr'
      · refine ⟨by simp; omega, asc_snoc a2 fun y hy => ?_, fun y hy => ?_⟩
        · obtain ⟨j, hj, rfl⟩ := mem_at hy
          have := lb_lt (r := r) (x := x + 1) (j := j) (by omega)
          omega
        · rcases List.mem_append.1 hy with hy | hy
          · exact a3 y hy
          · simp only [List.mem_singleton] at hy; omega
      · obtain ⟨b1, b2⟩ := H' r' hr'
        exact ⟨by omega, b2⟩
    · rename_i he
      have hlt : lb r (x + 1) < r.length := by have := lb_le r (x + 1); omega
      rcases List.mem_cons.1 hr' with rfl | hr'
      · refine ⟨by rw [List.length_set]; omega, asc_put a2 hlt (fun j hj => ?_) (fun j hj hj2 => ?_), fun y hy => ?_⟩
        · have := lb_lt hj; omega
        · have h1 := lb_ge hlt
          have := a2 _ _ (Nat.le_of_lt hj) hj2
          omega
        · obtain ⟨j, hj, rfl⟩ := mem_at hy
          rw [List.length_set] at hj
          rw [getD_set_if 0 hlt]
          split
          · exact ⟨h0, h1⟩
          · exact a3 _ (at_mem hj)
      · have hm := a3 _ (at_mem (d := 0) hlt)
        exact ih H' hm.1 hm.2 r' hr'
theorem into_len {x : Int} : ∀ {t : List (List Int)}, intoI t x ≤ t.length ∧ (intoL t x).length = if intoI t x = t.length then t.length + 1 else t.length := by
  intro t
  induction t generalizing x with
  | nil => simp [intoI, intoL]
  | cons r t ih =>
    simp only [intoI, intoL]
    split
    · simp
    · obtain ⟨h1, h2⟩ := ih (x := r.getD (lb r (x + 1)) 0)
      simp only [List.length_cons, h2]
      refine ⟨by omega, ?_⟩
      by_cases e : intoI t (r.getD (lb r (x + 1)) 0) = t.length
      · rw [if_pos e, if_pos (by omega)]
      · rw [if_neg e, if_neg (by omega)]

theorem pqP_ra {w : List Int} (hw : ∀ x ∈ w, 1 ≤ x ∧ x ≤ 99) : ∀ k, k ≤ w.length → RA k (pqP w k)
  | 0, _ => ⟨Nat.le_refl _, fun _ h => by cases h⟩
  | k + 1, hk => by
    obtain ⟨h1, h2⟩ := pqP_ra hw k (by omega)
    have hx := hw _ (at_mem (d := 0) (show k < w.length by omega))
    refine ⟨?_, ra_into (n := k) h2 hx.1 hx.2⟩
    show (intoL (pqP w k) (w.getD k 0)).length ≤ k + 1
    rw [into_len.2]
    split <;> omega

theorem qStep_len {q : List (List Int)} {row : Nat} {a : Int} : (qStep q row a).length = if row = q.length then q.length + 1 else q.length := by
  unfold qStep
  rw [List.length_set]
  split
  · simp
  · rfl
theorem pqQ_len {w a : List Int} : ∀ k, (pqQ w a k).length = (pqP w k).length
  | 0 => rfl
  | k + 1 => by
    show (qStep (pqQ w a k) (intoI (pqP w k) (w.getD k 0)) (a.getD k 0)).length = (intoL (pqP w k) (w.getD k 0)).length
    rw [qStep_len, into_len.2, pqQ_len k]
theorem qStep_row {q : List (List Int)} {row : Nat} {a : Int} {n : Nat} (hr : row ≤ q.length) (h : ∀ i, (q.getD i []).length ≤ n) : ∀ i, ((qStep q row a).getD i []).length ≤ n + 1 := by
  intro i
  unfold qStep
  have key : ∀ q' : List (List Int), row < q'.length → (∀ i, (q'.getD i []).length ≤ n) → ((q'.set row (q'.getD row [] ++ [a])).getD i []).length ≤ n + 1 := by
    intro q' h1 h2
    rw [getD_set_if [] h1]
    split
    · have := h2 row; rw [List.length_append, List.length_singleton]; omega
    · have := h2 i; omega
  split
  · refine key _ (by simp; omega) fun j => ?_
    simp only [List.getD_eq_getElem?_getD, List.getElem?_append]
    split
    · have := h j; simpa only [List.getD_eq_getElem?_getD] using this
    · cases j - q.length <;> simp
  · exact key q (by omega) h
theorem pqQ_row {w a : List Int} : ∀ k i, ((pqQ w a k).getD i []).length ≤ k
  | 0, i => by simp [pqQ]
  | k + 1, i => qStep_row (by rw [pqQ_len]; exact into_len.1) (fun j => pqQ_row k j) i

end Fer

/- Plain facts: letters taken out of two tableaux. No program in sight. -/
set_option maxHeartbeats 2000000
namespace Fer

theorem appD {α : Type} {l m : List α} {d : α} {i : Nat} : (l ++ m).getD i d = if i < l.length then l.getD i d else m.getD (i - l.length) d := by
  simp only [List.getD_eq_getElem?_getD, List.getElem?_append]
  split <;> rfl

end Fer

/- Plain facts: all letters taken out of two tableaux, one by one. No program in sight. -/
set_option maxHeartbeats 2000000
namespace Fer

/-! ### The way up, row by row -/

end Fer

/- Plain facts: how often each letter is there; the first numbers. No program in sight. -/
set_option maxHeartbeats 1000000
namespace Fer

def topN : List Int → Nat
  | [] => 0
  | x :: u => max x.toNat (topN u)
def cntL (u : List Int) : List Int := (List.range (topN u)).map fun (c : Nat) => ((u.count ((c : Int) + 1) : Nat) : Int)

theorem cntL_len (u : List Int) : (cntL u).length = topN u := by simp [cntL]
theorem cntL_getD {u : List Int} {c : Nat} (h : c < topN u) : (cntL u).getD c 0 = (u.count ((c : Int) + 1) : Int) := by
  simp only [cntL, List.getD_eq_getElem?_getD, List.getElem?_map, List.getElem?_range h]
  rfl
theorem topN_mem {u : List Int} {x : Int} (h : x ∈ u) : x.toNat ≤ topN u := by
  induction u with
  | nil => cases h
  | cons y u ih =>
    simp only [topN]
    rcases List.mem_cons.1 h with rfl | h
    · omega
    · have := ih h; omega
theorem topN_snoc (u : List Int) (x : Int) : topN (u ++ [x]) = max (topN u) x.toNat := by
  induction u with
  | nil => simp [topN]
  | cons y u ih => simp only [List.cons_append, topN, ih]; omega
theorem topN_le {u : List Int} {n : Nat} (h : ∀ x ∈ u, x.toNat ≤ n) : topN u ≤ n := by
  induction u with
  | nil => simp [topN]
  | cons y u ih =>
    simp only [topN]
    have h1 := h y (by simp)
    have h2 := ih fun x hx => h x (List.mem_cons_of_mem _ hx)
    omega

theorem cnt_snoc {u : List Int} {n : Int} (hn : 1 ≤ n) : cntL (u ++ [n]) = (cntL u ++ List.replicate (n.toNat - topN u) 0).set (n.toNat - 1) ((cntL u ++ List.replicate (n.toNat - topN u) 0).getD (n.toNat - 1) 0 + 1) := by
  have hl : (cntL u ++ List.replicate (n.toNat - topN u) (0 : Int)).length = max (topN u) n.toNat := by
    rw [List.length_append, cntL_len, List.length_replicate]; omega
  have hz : ∀ c, topN u ≤ c → u.count ((c : Int) + 1) = 0 := fun c hc => by
    refine List.count_eq_zero.2 fun h => ?_
    have := topN_mem h
    omega
  have hg : ∀ c, (cntL u ++ List.replicate (n.toNat - topN u) (0 : Int)).getD c 0 = if c < max (topN u) n.toNat then (u.count ((c : Int) + 1) : Int) else 0 := fun c => by
    rw [appD, cntL_len]
    split
    · rename_i h
      rw [if_pos (by omega), cntL_getD h]
    · rename_i h
      rw [replicate_getD, hz c (by omega)]
      split <;> rfl
  refine ext_getD 0 (by rw [cntL_len, topN_snoc, List.length_set, hl]) fun c hc => ?_
  rw [cntL_len, topN_snoc] at hc
  rw [cntL_getD (by rw [topN_snoc]; exact hc), getD_set_if 0 (by rw [hl]; omega), hg, hg, if_pos hc, List.count_append]
  rw [if_pos (show n.toNat - 1 < max (topN u) n.toNat by omega)]
  split
  · rename_i e
    rw [show (c : Int) + 1 = n by omega, show ((n.toNat - 1 : Nat) : Int) + 1 = n by omega]
    simp
  · rename_i e
    have : ([n] : List Int).count ((c : Int) + 1) = 0 := List.count_eq_zero.2 fun h => by
      simp only [List.mem_singleton] at h
      omega
    rw [this]
    rfl

/-- Are there all of 1 to n, each once? -/
def allOne (l : List Int) : Prop := ∀ i, i < l.length → l.getD i 0 = 1
theorem std_iff {u : List Int} (hl : u.length ≤ 40) (hu : ∀ x ∈ u, 1 ≤ x) : allOne (cntL u) ↔ permE u = 0 := by
  constructor
  · intro h
    have hc : ∀ c, c < topN u → u.count ((c : Int) + 1) = 1 := fun c hc => by
      have := h c (by rw [cntL_len]; exact hc)
      rw [cntL_getD hc] at this
      omega
    have hnd : u.Nodup := by
      rw [List.nodup_iff_count]
      intro x
      by_cases hx : x ∈ u
      · have h1 := hu x hx
        have h2 := topN_mem hx
        have := hc (x.toNat - 1) (by omega)
        rw [show ((x.toNat - 1 : Nat) : Int) + 1 = x by omega] at this
        omega
      · rw [List.count_eq_zero.2 hx]; omega
    have ht : topN u ≤ u.length := by
      have := nodup_len (iota (topN u)) u (iota_nodup _) fun x hx => by
        have hx := mem_iota.1 hx
        have := hc (x.toNat - 1) (by omega)
        rw [show ((x.toNat - 1 : Nat) : Int) + 1 = x by omega] at this
        exact List.count_pos_iff.1 (by omega)
      rwa [iota_length] at this
    unfold permE
    rw [if_neg (by omega), if_pos (isPerm_of hnd fun x hx => ⟨hu x hx, by have := topN_mem hx; omega⟩)]
  · intro h i hi
    obtain ⟨_, h1, h2, h3⟩ := permE_zero h
    rw [cntL_len] at hi
    rw [cntL_getD hi]
    have hlt : topN u ≤ u.length := topN_le fun x hx => by have := h3 x hx; omega
    have hm := h1 i (by omega)
    have := List.nodup_iff_count.1 h2 ((i : Int) + 1)
    have := List.count_pos_iff.2 hm
    omega

end Fer

/- Plain facts: words, their letters put into rows; Knuth's moves. No program in sight. -/
set_option maxHeartbeats 1000000
namespace Fer

/-- A letter into a row: the row, and the letter that gives way. -/
def rinR : List Int → Int → List Int
  | [], x => [x]
  | a :: r, x => if x < a then x :: r else a :: rinR r x
def rinO : List Int → Int → List Int
  | [], _ => []
  | a :: r, x => if x < a then [a] else rinO r x
def rwR : List Int → List Int → List Int
  | r, [] => r
  | r, x :: w => rwR (rinR r x) w
def rwO : List Int → List Int → List Int
  | _, [] => []
  | r, x :: w => rinO r x ++ rwO (rinR r x) w
def Srt (r : List Int) : Prop := r.Pairwise (· ≤ ·)

theorem rinR_lt {a x : Int} (r : List Int) (h : x < a) : rinR (a :: r) x = x :: r := if_pos h
theorem rinR_ge {a x : Int} (r : List Int) (h : a ≤ x) : rinR (a :: r) x = a :: rinR r x := if_neg (by omega)
theorem rinO_lt {a x : Int} (r : List Int) (h : x < a) : rinO (a :: r) x = [a] := if_pos h
theorem rinO_ge {a x : Int} (r : List Int) (h : a ≤ x) : rinO (a :: r) x = rinO r x := if_neg (by omega)
theorem rin_nilR (x : Int) : rinR [] x = [x] := rfl
theorem rin_nilO (x : Int) : rinO [] x = [] := rfl
theorem rwR_app : ∀ (u v r : List Int), rwR r (u ++ v) = rwR (rwR r u) v
  | [], _, _ => rfl
  | x :: u, v, r => rwR_app u v (rinR r x)
theorem rwO_app : ∀ (u v r : List Int), rwO r (u ++ v) = rwO r u ++ rwO (rwR r u) v
  | [], _, _ => rfl
  | x :: u, v, r => by
    show rinO r x ++ rwO (rinR r x) (u ++ v) = (rinO r x ++ rwO (rinR r x) u) ++ rwO (rwR (rinR r x) u) v
    rw [rwO_app u v, List.append_assoc]
/-- Letters that are not less than the first one go past it. -/
theorem rw_pass {a : Int} : ∀ (w r : List Int), (∀ x ∈ w, a ≤ x) → rwR (a :: r) w = a :: rwR r w ∧ rwO (a :: r) w = rwO r w
  | [], r, _ => ⟨rfl, rfl⟩
  | x :: w, r, h => by
    have hx := h x (List.mem_cons_self ..)
    obtain ⟨i1, i2⟩ := rw_pass w (rinR r x) fun y hy => h y (List.mem_cons_of_mem _ hy)
    refine ⟨?_, ?_⟩
    · show rwR (rinR (a :: r) x) w = a :: rwR (rinR r x) w
      rw [rinR_ge r hx, i1]
    · show rinO (a :: r) x ++ rwO (rinR (a :: r) x) w = rinO r x ++ rwO (rinR r x) w
      rw [rinR_ge r hx, rinO_ge r hx, i2]

theorem srt_cons {a : Int} {r : List Int} : Srt (a :: r) ↔ (∀ b ∈ r, a ≤ b) ∧ Srt r := List.pairwise_cons
theorem mem_rin {y x : Int} : ∀ {r : List Int}, y ∈ rinR r x → y = x ∨ y ∈ r
  | [], h => .inl (by simpa [rinR] using h)
  | a :: r, h => by
    by_cases hx : x < a
    · rw [rinR_lt r hx] at h
      rcases List.mem_cons.1 h with h | h
      · exact .inl h
      · exact .inr (List.mem_cons_of_mem _ h)
    · rw [rinR_ge r (by omega)] at h
      rcases List.mem_cons.1 h with h | h
      · exact .inr (h ▸ List.mem_cons_self ..)
      · exact (mem_rin h).imp id fun h => List.mem_cons_of_mem _ h
theorem srt_rin {x : Int} : ∀ {r : List Int}, Srt r → Srt (rinR r x)
  | [], _ => List.pairwise_singleton _ _
  | a :: r, h => by
    obtain ⟨h1, h2⟩ := srt_cons.1 h
    by_cases hx : x < a
    · rw [rinR_lt r hx]
      exact srt_cons.2 ⟨fun b hb => by have := h1 b hb; omega, h2⟩
    · rw [rinR_ge r (by omega)]
      refine srt_cons.2 ⟨fun b hb => ?_, srt_rin h2⟩
      rcases mem_rin hb with rfl | hb
      · omega
      · exact h1 b hb
theorem srt_rw' : ∀ (w : List Int) {r : List Int}, Srt r → Srt (rwR r w)
  | [], _, h => h
  | x :: w, r, h => srt_rw' w (r := rinR r x) (srt_rin h)
theorem srt_rw {w r : List Int} (h : Srt r) : Srt (rwR r w) := srt_rw' w h
theorem rin_len {x : Int} : ∀ {r : List Int}, rinO r x = [] ∨ ∃ b, rinO r x = [b] ∧ b ∈ r ∧ x < b
  | [] => .inl rfl
  | a :: r => by
    by_cases hx : x < a
    · exact .inr ⟨a, rinO_lt r hx, List.mem_cons_self .., hx⟩
    · rw [rinO_ge r (by omega)]
      exact rin_len.imp id fun ⟨b, h1, h2, h3⟩ => ⟨b, h1, List.mem_cons_of_mem _ h2, h3⟩
/-- What comes out is at most what was greater. -/
theorem rin_le {x c : Int} : ∀ {r : List Int}, Srt r → c ∈ r → x < c → ∃ b, rinO r x = [b] ∧ b ≤ c ∧ x < b
  | [], _, h, _ => by simp at h
  | a :: r, hs, h, hc => by
    obtain ⟨h1, h2⟩ := srt_cons.1 hs
    by_cases hx : x < a
    · refine ⟨a, rinO_lt r hx, ?_, hx⟩
      rcases List.mem_cons.1 h with rfl | h
      · exact Int.le_refl _
      · exact h1 c h
    · rw [rinO_ge r (by omega)]
      rcases List.mem_cons.1 h with rfl | h
      · omega
      · exact rin_le h2 h hc
theorem in_rin {x : Int} : ∀ {r : List Int}, x ∈ rinR r x
  | [] => List.mem_cons_self ..
  | a :: r => by
    by_cases hx : x < a
    · rw [rinR_lt r hx]; exact List.mem_cons_self ..
    · rw [rinR_ge r (by omega)]; exact List.mem_cons_of_mem _ in_rin
/-- Where nothing comes out, nothing is greater. -/
theorem rin_none {x : Int} {r : List Int} (hs : Srt r) (h : rinO r x = []) : ∀ c ∈ r, c ≤ x := fun c hc => by
  by_cases hx : x < c
  · obtain ⟨b, hb, _⟩ := rin_le hs hc hx
    rw [h] at hb
    cases hb
  · omega
/-- What came out is no less than anything that stays and is greater. -/
theorem rin_keep {x b : Int} : ∀ {r : List Int}, Srt r → rinO r x = [b] → ∀ c ∈ rinR r x, c ≤ x ∨ b ≤ c
  | [], _, h, _, _ => by simp [rinO] at h
  | a :: r, hs, h, c, hc => by
    obtain ⟨h1, h2⟩ := srt_cons.1 hs
    by_cases hx : x < a
    · rw [rinO_lt r hx] at h
      obtain rfl : a = b := by simpa using h
      rw [rinR_lt r hx] at hc
      rcases List.mem_cons.1 hc with rfl | hc
      · exact .inl (Int.le_refl _)
      · exact .inr (h1 c hc)
    · rw [rinO_ge r (by omega)] at h
      rw [rinR_ge r (by omega)] at hc
      rcases List.mem_cons.1 hc with rfl | hc
      · exact .inl (by omega)
      · exact rin_keep h2 h c hc

/-! ### Knuth's moves -/

inductive KE : List Int → List Int → Prop
  | a {x y z : Int} : x < y → y ≤ z → KE [y, z, x] [y, x, z]
  | b {x y z : Int} : x ≤ y → y < z → KE [x, z, y] [z, x, y]
inductive KN : List Int → List Int → Prop
  | refl (w : List Int) : KN w w
  | step (p s : List Int) {u v : List Int} : KE u v → KN (p ++ u ++ s) (p ++ v ++ s)
  | symm {u v : List Int} : KN u v → KN v u
  | trans {u v w : List Int} : KN u v → KN v w → KN u w
theorem KN.app {u v : List Int} (h : KN u v) (p s : List Int) : KN (p ++ u ++ s) (p ++ v ++ s) := by
  induction h with
  | refl w => exact .refl _
  | step p' s' h =>
    have := KN.step (p ++ p') (s' ++ s) h
    simpa only [List.append_assoc] using this
  | symm _ ih => exact ih.symm
  | trans _ _ i1 i2 => exact i1.trans i2
theorem KN.left {u v : List Int} (h : KN u v) (p : List Int) : KN (p ++ u) (p ++ v) := by simpa using h.app p []
theorem KN.right {u v : List Int} (h : KN u v) (s : List Int) : KN (u ++ s) (v ++ s) := by simpa using h.app [] s
theorem KN.cons {u v : List Int} (h : KN u v) (a : Int) : KN (a :: u) (a :: v) := h.left [a]
theorem KN.of {u v : List Int} (h : KE u v) (s : List Int) : KN (u ++ s) (v ++ s) := KN.step [] s h
theorem KE.len {u v : List Int} (h : KE u v) : u.length = v.length := by cases h <;> rfl
theorem KN.len {u v : List Int} (h : KN u v) : u.length = v.length := by
  induction h with
  | refl w => rfl
  | step p s h => simp only [List.length_append, h.len]
  | symm _ ih => exact ih.symm
  | trans _ _ i1 i2 => exact i1.trans i2

theorem rw3R (r : List Int) (a b c : Int) : rwR r [a, b, c] = rinR (rinR (rinR r a) b) c := rfl
theorem rw3O (r : List Int) (a b c : Int) : rwO r [a, b, c] = rinO r a ++ (rinO (rinR r a) b ++ (rinO (rinR (rinR r a) b) c ++ [])) := rfl

/-- Three letters into a row. -/
theorem ke_row {u v : List Int} (h : KE u v) : ∀ {r : List Int}, Srt r → rwR r u = rwR r v ∧ (rwO r u = rwO r v ∨ KE (rwO r u) (rwO r v))
  | [], _ => by
    cases h with
    | @a x y z h1 h2 =>
      simp only [rw3R, rw3O, rin_nilR, rin_nilO, rinR_ge _ h2, rinO_ge _ h2, rinR_lt _ h1, rinO_lt _ h1, rinR_ge _ (show x ≤ z by omega), rinO_ge _ (show x ≤ z by omega)]
      exact ⟨trivial, .inl rfl⟩
    | @b x y z h1 h2 =>
      simp only [rw3R, rw3O, rin_nilR, rin_nilO, rinR_ge _ (show x ≤ z by omega), rinO_ge _ (show x ≤ z by omega), rinR_ge _ h1, rinO_ge _ h1, rinR_lt _ h2, rinO_lt _ h2, rinR_lt _ (show x < z by omega), rinO_lt _ (show x < z by omega)]
      exact ⟨trivial, .inl rfl⟩
  | a :: r, hs => by
    obtain ⟨g1, g2⟩ := srt_cons.1 hs
    have ih := ke_row h g2
    cases h with
    | @a x y z h1 h2 =>
      by_cases hx : a ≤ x
      · obtain ⟨p1, p2⟩ := rw_pass (a := a) [y, z, x] r (by intro q hq; simp only [List.mem_cons, List.not_mem_nil, or_false] at hq; rcases hq with rfl | rfl | rfl <;> omega)
        obtain ⟨p3, p4⟩ := rw_pass (a := a) [y, x, z] r (by intro q hq; simp only [List.mem_cons, List.not_mem_nil, or_false] at hq; rcases hq with rfl | rfl | rfl <;> omega)
        rw [p1, p2, p3, p4, ih.1]
        exact ⟨rfl, ih.2⟩
      · have hx : x < a := by omega
        rw [rw3R, rw3O, rw3R, rw3O]
        by_cases hy : y < a
        · simp only [rinR_lt _ hy, rinO_lt _ hy, rinR_ge _ h2, rinO_ge _ h2, rinR_lt _ h1, rinO_lt _ h1, rinR_ge _ (show x ≤ z by omega), rinO_ge _ (show x ≤ z by omega)]
          refine ⟨trivial, ?_⟩
          rcases rin_len (r := r) (x := z) with e | ⟨b, e, hb, _⟩ <;> rw [e]
          · exact .inl rfl
          · exact .inr (.a hy (g1 b hb))
        · have hy : a ≤ y := by omega
          simp only [rinR_ge _ hy, rinO_ge _ hy, rinR_ge _ (show a ≤ z by omega), rinO_ge _ (show a ≤ z by omega), rinR_lt _ hx, rinO_lt _ hx, rinR_ge _ (show x ≤ z by omega), rinO_ge _ (show x ≤ z by omega)]
          refine ⟨trivial, ?_⟩
          rcases rin_len (r := r) (x := y) with e | ⟨b, e, hb, hyb⟩ <;> rw [e]
          · have hr : rinO (rinR r y) z = [] := by
              rcases rin_len (r := rinR r y) (x := z) with e' | ⟨c, _, hc, hz⟩
              · exact e'
              · rcases mem_rin hc with rfl | hc
                · omega
                · have := rin_none g2 e c hc; omega
            rw [hr]
            exact .inl rfl
          · rcases rin_len (r := rinR r y) (x := z) with e' | ⟨c, e', hc, hz⟩ <;> rw [e']
            · exact .inl rfl
            · refine .inr (.a (by omega) ?_)
              rcases rin_keep g2 e c hc with h | h <;> omega
    | @b x y z h1 h2 =>
      by_cases hx : a ≤ x
      · obtain ⟨p1, p2⟩ := rw_pass (a := a) [x, z, y] r (by intro q hq; simp only [List.mem_cons, List.not_mem_nil, or_false] at hq; rcases hq with rfl | rfl | rfl <;> omega)
        obtain ⟨p3, p4⟩ := rw_pass (a := a) [z, x, y] r (by intro q hq; simp only [List.mem_cons, List.not_mem_nil, or_false] at hq; rcases hq with rfl | rfl | rfl <;> omega)
        rw [p1, p2, p3, p4, ih.1]
        exact ⟨rfl, ih.2⟩
      · have hx : x < a := by omega
        rw [rw3R, rw3O, rw3R, rw3O]
        by_cases hz : z < a
        · simp only [rinR_lt _ hx, rinO_lt _ hx, rinR_ge _ (show x ≤ z by omega), rinO_ge _ (show x ≤ z by omega), rinR_ge _ h1, rinO_ge _ h1, rinR_lt _ hz, rinO_lt _ hz, rinR_lt _ (show x < z by omega), rinO_lt _ (show x < z by omega)]
          cases r with
          | nil =>
            simp only [rinR, rinO, if_pos h2]
            exact ⟨trivial, .inl rfl⟩
          | cons b r =>
            have hab := g1 b (List.mem_cons_self ..)
            simp only [rinR_lt _ (show z < b by omega), rinO_lt _ (show z < b by omega), rinR_lt _ h2, rinO_lt _ h2, rinR_lt _ (show y < b by omega), rinO_lt _ (show y < b by omega)]
            exact ⟨trivial, .inr (.a hz hab)⟩
        · have hz : a ≤ z := by omega
          simp only [rinR_lt _ hx, rinO_lt _ hx, rinR_ge _ (show x ≤ z by omega), rinO_ge _ (show x ≤ z by omega), rinR_ge _ h1, rinO_ge _ h1, rinR_ge _ hz, rinO_ge _ hz]
          refine ⟨trivial, ?_⟩
          have hs' : Srt (rinR r z) := srt_rin g2
          obtain ⟨d, hd, hdz, hyd⟩ := rin_le hs' (in_rin (r := r) (x := z)) h2
          rw [hd]
          rcases rin_len (r := r) (x := z) with e | ⟨c, e, hc, hzc⟩ <;> rw [e]
          · exact .inl rfl
          · refine .inr (.b ?_ (by omega))
            rcases rin_len (r := rinR r z) (x := y) with e' | ⟨d', e', hd', _⟩
            · rw [hd] at e'; cases e'
            · rw [hd] at e'
              obtain rfl : d = d' := by simpa using e'
              rcases mem_rin hd' with rfl | hd'
              · exact hz
              · exact g1 d hd'

/-- A move does not change a row; what comes out is moved. -/
theorem kn_row {u v : List Int} (h : KN u v) : ∀ {r : List Int}, Srt r → rwR r u = rwR r v ∧ KN (rwO r u) (rwO r v) := by
  induction h with
  | refl w => exact fun _ => ⟨rfl, .refl _⟩
  | @step p s u v h =>
    intro r hr
    have h1 := ke_row h (r := rwR r p) (srt_rw hr)
    simp only [rwR_app, rwO_app]
    rw [h1.1]
    refine ⟨rfl, ?_⟩
    rcases h1.2 with e | e
    · rw [e]; exact .refl _
    · exact .step _ _ e
  | symm _ ih => exact fun hr => ⟨(ih hr).1.symm, (ih hr).2.symm⟩
  | trans _ _ i1 i2 => exact fun hr => ⟨(i1 hr).1.trans (i2 hr).1, (i1 hr).2.trans (i2 hr).2⟩

end Fer

/- Plain facts: tableaux of words, Knuth's moves, a step of a slide. No program in sight. -/
set_option maxHeartbeats 1000000
namespace Fer

theorem rin_lb (x : Int) : ∀ r : List Int, (lb r (x + 1) = r.length → rinR r x = r ++ [x] ∧ rinO r x = []) ∧ (lb r (x + 1) ≠ r.length → rinR r x = r.set (lb r (x + 1)) x ∧ rinO r x = [r.getD (lb r (x + 1)) 0])
  | [] => ⟨fun _ => ⟨rfl, rfl⟩, fun h => absurd rfl h⟩
  | a :: r => by
    obtain ⟨i1, i2⟩ := rin_lb x r
    by_cases hx : x < a
    · have e : lb (a :: r) (x + 1) = 0 := by
        unfold lb
        rw [List.takeWhile_cons, if_neg (by simp; omega)]
        rfl
      rw [e, rinR_lt r hx, rinO_lt r hx]
      exact ⟨fun h => by simp at h, fun _ => ⟨rfl, rfl⟩⟩
    · have e : lb (a :: r) (x + 1) = lb r (x + 1) + 1 := by
        unfold lb
        rw [List.takeWhile_cons, if_pos (by simp; omega)]
        rfl
      rw [e, rinR_ge r (by omega), rinO_ge r (by omega)]
      refine ⟨fun h => ?_, fun h => ?_⟩
      · obtain ⟨j1, j2⟩ := i1 (by simpa using h)
        rw [j1, j2]
        exact ⟨rfl, rfl⟩
      · obtain ⟨j1, j2⟩ := i2 (by simpa using h)
        rw [j1, j2]
        exact ⟨rfl, rfl⟩
def intoW (t : List (List Int)) (w : List Int) : List (List Int) := w.foldl intoL t
theorem into_rin (r : List Int) (t : List (List Int)) (x : Int) : intoL (r :: t) x = rinR r x :: intoW t (rinO r x) := by
  obtain ⟨i1, i2⟩ := rin_lb x r
  show (if lb r (x + 1) = r.length then (r ++ [x]) :: t else (r.set (lb r (x + 1)) x) :: intoL t (r.getD (lb r (x + 1)) 0)) = _
  by_cases h : lb r (x + 1) = r.length
  · rw [if_pos h, (i1 h).1, (i1 h).2]
    rfl
  · rw [if_neg h, (i2 h).1, (i2 h).2]
    rfl
theorem intoW_app (t : List (List Int)) (u v : List Int) : intoW t (u ++ v) = intoW (intoW t u) v := List.foldl_append ..
theorem intoW_cons : ∀ (w r : List Int) (t : List (List Int)), intoW (r :: t) w = rwR r w :: intoW t (rwO r w)
  | [], _, _ => rfl
  | x :: w, r, t => by
    show intoW (intoL (r :: t) x) w = rwR (rinR r x) w :: intoW t (rinO r x ++ rwO (rinR r x) w)
    rw [into_rin, intoW_cons w, intoW_app]
theorem intoW_nil {w : List Int} (h : w ≠ []) : intoW [] w = rwR [] w :: intoW [] (rwO [] w) := by
  cases w with
  | nil => exact absurd rfl h
  | cons x w =>
    show intoW [[x]] w = _
    rw [intoW_cons]
    rfl
theorem pqP_W (w : List Int) : ∀ k, k ≤ w.length → pqP w k = intoW [] (w.take k)
  | 0, _ => by rw [List.take_zero]; rfl
  | k + 1, h => by
    rw [take_succ_getD (0 : Int) (by omega), intoW_app]
    show intoL (pqP w k) (w.getD k 0) = _
    rw [pqP_W w k (by omega)]
    rfl
theorem rin_olen (r : List Int) (x : Int) : (rinO r x).length ≤ 1 := by
  rcases rin_len (r := r) (x := x) with e | ⟨b, e, _⟩ <;> rw [e] <;> simp
theorem rwO_len : ∀ (w r : List Int), (rwO r w).length ≤ w.length
  | [], _ => Nat.le_refl _
  | x :: w, r => by
    have h1 := rin_olen r x
    have h2 := rwO_len w (rinR r x)
    show (rinO r x ++ rwO (rinR r x) w).length ≤ w.length + 1
    rw [List.length_append]
    omega
/-- A move does not change the tableau. -/
theorem P_kn : ∀ (n : Nat) {u v : List Int}, u.length ≤ n → KN u v → intoW [] u = intoW [] v
  | 0, u, v, hn, h => by
    have := h.len
    obtain rfl : u = [] := List.eq_nil_of_length_eq_zero (by omega)
    obtain rfl : v = [] := List.eq_nil_of_length_eq_zero (by rw [← this]; rfl)
    rfl
  | n + 1, u, v, hn, h => by
    have hl := h.len
    by_cases hu : u = []
    · subst hu
      obtain rfl : v = [] := List.eq_nil_of_length_eq_zero (by rw [← hl]; rfl)
      rfl
    have hv : v ≠ [] := fun e => hu (List.eq_nil_of_length_eq_zero (by rw [hl, e]; rfl))
    obtain ⟨h1, h2⟩ := kn_row h (r := []) List.Pairwise.nil
    rw [intoW_nil hu, intoW_nil hv, h1]
    congr 1
    refine P_kn n ?_ h2
    cases u with
    | nil => exact absurd rfl hu
    | cons x u =>
      have := rwO_len u [x]
      show ([] ++ rwO [x] u).length ≤ n
      rw [List.nil_append]
      simp only [List.length_cons] at hn
      omega

/-! ### A word and its tableau's word -/

theorem mv_left {x : Int} : ∀ {r : List Int} {a : Int}, Srt (a :: r) → x < a → KN (a :: (r ++ [x])) (a :: x :: r)
  | [], _, _, _ => .refl _
  | c :: r, a, hs, hx => by
    obtain ⟨h1, h2⟩ := srt_cons.1 hs
    have hac := h1 c (List.mem_cons_self ..)
    exact ((mv_left h2 (by omega)).cons a).trans (KN.of (.a hx hac) r)
theorem kn_rin {x : Int} : ∀ {r : List Int}, Srt r → KN (r ++ [x]) (rinO r x ++ rinR r x)
  | [], _ => .refl _
  | a :: r, hs => by
    obtain ⟨h1, h2⟩ := srt_cons.1 hs
    by_cases hx : x < a
    · rw [rinO_lt r hx, rinR_lt r hx]
      exact mv_left hs hx
    · rw [rinO_ge r (by omega), rinR_ge r (by omega)]
      have ih := (kn_rin (x := x) h2).cons a
      rcases rin_len (r := r) (x := x) with e | ⟨b, e, hb, hxb⟩
      · rw [e] at ih ⊢
        exact ih
      · rw [e] at ih ⊢
        refine ih.trans ?_
        have hin := in_rin (r := r) (x := x)
        have hsr := srt_rin (x := x) h2
        have hm : ∀ q ∈ rinR r x, a ≤ q := fun q hq => by
          rcases mem_rin hq with rfl | hq
          · omega
          · exact h1 q hq
        cases hr : rinR r x with
        | nil => rw [hr] at hin; cases hin
        | cons q r' =>
          rw [hr] at hin hsr hm
          have hq : q ≤ x := by
            rcases List.mem_cons.1 hin with rfl | hin
            · exact Int.le_refl _
            · exact (srt_cons.1 hsr).1 x hin
          exact KN.of (.b (hm q (List.mem_cons_self ..)) (by omega)) r'

def wordR : List (List Int) → List Int
  | [] => []
  | r :: t => wordR t ++ r
theorem kn_into {x : Int} : ∀ {t : List (List Int)}, (∀ r ∈ t, Srt r) → KN (wordR (intoL t x)) (wordR t ++ [x])
  | [], _ => .refl _
  | r :: t, h => by
    have hr := h r (List.mem_cons_self ..)
    have ht : ∀ r ∈ t, Srt r := fun q hq => h q (List.mem_cons_of_mem _ hq)
    have hk := kn_rin (x := x) hr
    rw [into_rin]
    show KN (wordR (intoW t (rinO r x)) ++ rinR r x) ((wordR t ++ r) ++ [x])
    rw [List.append_assoc]
    rcases rin_len (r := r) (x := x) with e | ⟨b, e, _⟩
    · rw [e] at hk ⊢
      exact (hk.left (wordR t)).symm
    · rw [e] at hk ⊢
      have ih := kn_into (x := b) ht
      refine (ih.right (rinR r x)).trans ?_
      rw [List.append_assoc]
      exact (hk.left (wordR t)).symm
theorem srt_into {x : Int} : ∀ {t : List (List Int)}, (∀ r ∈ t, Srt r) → ∀ r ∈ intoL t x, Srt r
  | [], _, r, hr => by
    obtain rfl : r = [x] := by simpa [intoL] using hr
    exact List.pairwise_singleton _ _
  | q :: t, h, r, hr => by
    have hq := h q (List.mem_cons_self ..)
    have ht : ∀ r ∈ t, Srt r := fun q hq => h q (List.mem_cons_of_mem _ hq)
    rw [into_rin] at hr
    rcases List.mem_cons.1 hr with rfl | hr
    · exact srt_rin hq
    · rcases rin_len (r := q) (x := x) with e | ⟨b, e, _⟩ <;> rw [e] at hr
      · exact ht r hr
      · exact srt_into ht r hr
theorem kn_word : ∀ (w : List Int) {t : List (List Int)}, (∀ r ∈ t, Srt r) → KN (wordR (intoW t w)) (wordR t ++ w)
  | [], t, _ => by rw [List.append_nil]; exact .refl _
  | x :: w, t, h => by
    have := kn_word w (srt_into (x := x) h)
    refine this.trans ?_
    have := (kn_into (x := x) h).right w
    rwa [List.append_assoc] at this
/-- Words of one tableau are moved into each other. -/
theorem kn_of_P {u v : List Int} (h : intoW [] u = intoW [] v) : KN u v := by
  have h1 := kn_word u (t := []) (by simp)
  have h2 := kn_word v (t := []) (by simp)
  rw [h] at h1
  exact h1.symm.trans h2

/-! ### A tableau's word makes it -/

def Abv : List Int → List Int → Prop
  | _, [] => True
  | [], _ :: _ => False
  | a :: r, b :: s => a < b ∧ Abv r s
theorem rw_nil : ∀ {r : List Int}, Srt r → rwR [] r = r ∧ rwO [] r = []
  | [], _ => ⟨rfl, rfl⟩
  | a :: r, h => by
    obtain ⟨h1, h2⟩ := srt_cons.1 h
    obtain ⟨i1, i2⟩ := rw_nil h2
    obtain ⟨p1, p2⟩ := rw_pass (a := a) r [] h1
    refine ⟨?_, ?_⟩
    · show rwR [a] r = _
      rw [p1, i1]
    · show [] ++ rwO [a] r = _
      rw [p2, i2]
      rfl
theorem rw_abv : ∀ {s r : List Int}, Srt r → Abv r s → rwR s r = r ∧ rwO s r = s
  | [], r, h, _ => rw_nil h
  | _ :: _, [], _, h => h.elim
  | b :: s, a :: r, h, hab => by
    obtain ⟨h1, h2⟩ := srt_cons.1 h
    obtain ⟨i1, i2⟩ := rw_abv h2 hab.2
    obtain ⟨p1, p2⟩ := rw_pass (a := a) r s h1
    refine ⟨?_, ?_⟩
    · show rwR (rinR (b :: s) a) r = _
      rw [rinR_lt s hab.1, p1, i1]
    · show rinO (b :: s) a ++ rwO (rinR (b :: s) a) r = _
      rw [rinR_lt s hab.1, rinO_lt s hab.1, p2, i2]
      rfl
def TabS : List (List Int) → Prop
  | [] => True
  | r :: t => r ≠ [] ∧ Srt r ∧ Abv r (t.getD 0 []) ∧ TabS t
theorem into_row : ∀ {t : List (List Int)} {r : List Int}, TabS (r :: t) → intoW t r = r :: t
  | [], r, ⟨h0, h1, _, _⟩ => by
    rw [intoW_nil h0, (rw_nil h1).1, (rw_nil h1).2]
    rfl
  | s :: t, r, ⟨h0, h1, h2, h3⟩ => by
    obtain ⟨e1, e2⟩ := rw_abv h1 h2
    rw [intoW_cons, show rwR s r = r from e1, show rwO s r = s from e2, into_row h3]
theorem P_word : ∀ {t : List (List Int)}, TabS t → intoW [] (wordR t) = t
  | [], _ => rfl
  | r :: t, h => by
    show intoW [] (wordR t ++ r) = _
    rw [intoW_app, P_word h.2.2.2, into_row h]

/-! ### A hole that goes down -/

theorem rin_in {x : Int} (C : List Int) : ∀ {X : List Int}, (∃ c ∈ X, x < c) → rinR (X ++ C) x = rinR X x ++ C ∧ rinO (X ++ C) x = rinO X x
  | [], ⟨c, h, _⟩ => by simp at h
  | a :: X, ⟨c, h, hc⟩ => by
    by_cases hx : x < a
    · rw [List.cons_append, rinR_lt _ hx, rinO_lt _ hx, rinR_lt _ hx, rinO_lt _ hx]
      exact ⟨rfl, rfl⟩
    · have hm : c ∈ X := by
        rcases List.mem_cons.1 h with rfl | h
        · omega
        · exact h
      obtain ⟨i1, i2⟩ := rin_in C ⟨c, hm, hc⟩
      rw [List.cons_append, rinR_ge _ (by omega), rinO_ge _ (by omega), rinR_ge _ (by omega), rinO_ge _ (by omega), i1, i2]
      exact ⟨rfl, rfl⟩
/-- Each letter is less than its fellow: they stay at the front. -/
def Ptw : List Int → List Int → Prop
  | [], [] => True
  | a :: A, y :: Y => a < y ∧ Ptw A Y
  | _, _ => False
theorem rw_front (C : List Int) : ∀ {A Y : List Int} (X : List Int), Ptw A Y → rwR (X ++ Y ++ C) A = rwR (X ++ Y) A ++ C ∧ rwO (X ++ Y ++ C) A = rwO (X ++ Y) A
  | [], [], X, _ => ⟨rfl, rfl⟩
  | a :: A, [], _, h => h.elim
  | [], y :: Y, _, h => h.elim
  | a :: A, y :: Y, X, ⟨h, h'⟩ => by
    have hc : ∃ c ∈ X ++ [y], a < c := ⟨y, by simp, h⟩
    obtain ⟨e1, e2⟩ := rin_in (Y ++ C) hc
    obtain ⟨e3, e4⟩ := rin_in Y hc
    have s1 : X ++ (y :: Y) ++ C = X ++ [y] ++ (Y ++ C) := by simp
    have s2 : X ++ (y :: Y) = X ++ [y] ++ Y := by simp
    obtain ⟨i1, i2⟩ := rw_front C (rinR (X ++ [y]) a) h'
    refine ⟨?_, ?_⟩
    · show rwR (rinR (X ++ (y :: Y) ++ C) a) A = rwR (rinR (X ++ (y :: Y)) a) A ++ C
      rw [s1, s2, e1, e3, ← i1, List.append_assoc]
    · show rinO (X ++ (y :: Y) ++ C) a ++ rwO (rinR (X ++ (y :: Y) ++ C) a) A = rinO (X ++ (y :: Y)) a ++ rwO (rinR (X ++ (y :: Y)) a) A
      rw [s1, s2, e1, e2, e3, e4, ← i2, List.append_assoc]
theorem rw_passL : ∀ (D w r : List Int), (∀ a ∈ D, ∀ x ∈ w, a ≤ x) → rwR (D ++ r) w = D ++ rwR r w ∧ rwO (D ++ r) w = rwO r w
  | [], _, _, _ => ⟨rfl, rfl⟩
  | a :: D, w, r, h => by
    obtain ⟨i1, i2⟩ := rw_passL D w r fun b hb => h b (List.mem_cons_of_mem _ hb)
    obtain ⟨p1, p2⟩ := rw_pass (a := a) w (D ++ r) (h a (List.mem_cons_self ..))
    rw [List.cons_append, p1, p2, i1, i2]
    exact ⟨rfl, rfl⟩
theorem mem_rw {y : Int} : ∀ {w r : List Int}, y ∈ rwR r w → y ∈ r ∨ y ∈ w
  | [], _, h => .inl h
  | x :: w, r, h => by
    rcases mem_rw (w := w) (r := rinR r x) h with h | h
    · rcases mem_rin h with rfl | h
      · exact .inr (List.mem_cons_self ..)
      · exact .inl h
    · exact .inr (List.mem_cons_of_mem _ h)
theorem abv_shift : ∀ {B A : List Int} {b : Int}, Srt (b :: A) → Abv A B → Abv (b :: A) B
  | [], _, _, _, _ => trivial
  | _ :: _, [], _, _, h => h.elim
  | c :: B, a :: A, b, hs, ⟨h1, h2⟩ => by
    obtain ⟨g1, g2⟩ := srt_cons.1 hs
    have := g1 a (List.mem_cons_self ..)
    exact ⟨by omega, abv_shift g2 h2⟩
/-- A letter goes up into a hole: words of the two rows. -/
theorem kn_up {A1 A2 X Y B2 : List Int} {b : Int} (hB : Srt (X ++ Y ++ b :: B2)) (hA : Srt (A1 ++ b :: A2)) (hY : Ptw A1 Y) (h2 : Abv A2 B2) :
    KN ((X ++ Y ++ b :: B2) ++ (A1 ++ A2)) ((X ++ Y ++ B2) ++ (A1 ++ b :: A2)) := by
  have hB' := List.pairwise_append.1 hB
  have hA' := List.pairwise_append.1 hA
  obtain ⟨b1, b2⟩ := srt_cons.1 hB'.2.1
  obtain ⟨a1, a2⟩ := srt_cons.1 hA'.2.1
  have hD : ∀ d ∈ rwR (X ++ Y) A1, d ≤ b := fun d hd => by
    rcases mem_rw hd with h | h
    · exact hB'.2.2 d h b (List.mem_cons_self ..)
    · exact hA'.2.2 d h b (List.mem_cons_self ..)
  obtain ⟨n1, n2⟩ := rw_nil hB
  have hBB : Srt (X ++ Y ++ B2) := List.pairwise_append.2 ⟨hB'.1, b2, fun p hp q hq => hB'.2.2 p hp q (List.mem_cons_of_mem _ hq)⟩
  obtain ⟨n3, n4⟩ := rw_nil hBB
  obtain ⟨f1, f2⟩ := rw_front (b :: B2) X hY
  obtain ⟨f3, f4⟩ := rw_front B2 X hY
  have hp1 := rw_passL (rwR (X ++ Y) A1 ++ [b]) A2 B2 fun p hp q hq => by
    have hq' := a1 q hq
    rcases List.mem_append.1 hp with hp | hp
    · have := hD p hp; omega
    · obtain rfl : p = b := by simpa using hp
      exact hq'
  have hp2 := rw_passL (rwR (X ++ Y) A1) (b :: A2) B2 fun p hp q hq => by
    have := hD p hp
    rcases List.mem_cons.1 hq with rfl | hq
    · exact this
    · have := a1 q hq; omega
  obtain ⟨v1, v2⟩ := rw_abv a2 h2
  obtain ⟨v3, v4⟩ := rw_abv hA'.2.1 (abv_shift hA'.2.1 h2)
  have e0 : rwR (X ++ Y) A1 ++ b :: B2 = rwR (X ++ Y) A1 ++ [b] ++ B2 := by simp
  have r1 : rwR [] ((X ++ Y ++ b :: B2) ++ (A1 ++ A2)) = rwR (X ++ Y) A1 ++ b :: A2 := by
    rw [rwR_app, n1, rwR_app, f1, e0, hp1.1, v1, List.append_assoc]
    rfl
  have r2 : rwR [] ((X ++ Y ++ B2) ++ (A1 ++ b :: A2)) = rwR (X ++ Y) A1 ++ b :: A2 := by
    rw [rwR_app, n3, rwR_app, f3, hp2.1, v3]
  have o1 : rwO [] ((X ++ Y ++ b :: B2) ++ (A1 ++ A2)) = rwO (X ++ Y) A1 ++ B2 := by
    rw [rwO_app, n1, n2, rwO_app, f1, f2, e0, hp1.2, v2]
    rfl
  have o2 : rwO [] ((X ++ Y ++ B2) ++ (A1 ++ b :: A2)) = rwO (X ++ Y) A1 ++ B2 := by
    rw [rwO_app, n3, n4, rwO_app, f3, f4, hp2.2, v4]
    rfl
  refine kn_of_P ?_
  rw [intoW_nil (w := (X ++ Y ++ b :: B2) ++ (A1 ++ A2)) (by simp), intoW_nil (w := (X ++ Y ++ B2) ++ (A1 ++ b :: A2)) (by simp), r1, r2, o1, o2]

end Fer

/- Plain facts: rows with holes; a slide. No program in sight. -/
set_option maxHeartbeats 1000000
namespace Fer

abbrev vl (s : List (List Int)) (k l : Nat) : Int := (s.getD k []).getD l 0
abbrev ln (s : List (List Int)) (k : Nat) : Nat := (s.getD k []).length
/-- Rows with holes at their beginnings (hs), and a hole at a place. -/
structure Sk (s : List (List Int)) (hs : Nat → Nat) (i j : Nat) : Prop where
  pos : ∀ k, k < s.length → 0 < ln s k
  dec : ∀ k, ln s (k + 1) ≤ ln s k
  hm : ∀ k, hs (k + 1) ≤ hs k
  hl : ∀ k, hs k ≤ ln s k
  zer : ∀ k l, l < hs k → vl s k l = 0
  lt : ∀ k l, hs k ≤ l → l < ln s k → ¬ (k = i ∧ l = j) → 1 ≤ vl s k l ∧ vl s k l ≤ 99
  ord : ∀ k l k' l', k ≤ k' → l ≤ l' → hs k ≤ l → l' < ln s k' → ¬ (k = i ∧ l = j) → ¬ (k' = i ∧ l' = j) → vl s k l ≤ vl s k' l' ∧ (k < k' → vl s k l < vl s k' l')

theorem anti_le {f : Nat → Nat} (h : ∀ k, f (k + 1) ≤ f k) {a b : Nat} (hab : a ≤ b) : f b ≤ f a := by
  induction b with
  | zero => obtain rfl : a = 0 := by omega
            exact Nat.le_refl _
  | succ b ih =>
    by_cases e : a = b + 1
    · rw [e]; exact Nat.le_refl _
    · exact Nat.le_trans (h b) (ih (by omega))
theorem vl_out {s : List (List Int)} {k l : Nat} (h : ln s k ≤ l) : vl s k l = 0 := by
  unfold vl
  rw [List.getD_eq_getElem?_getD, List.getElem?_eq_none h]
  rfl
theorem ln_out {s : List (List Int)} {k : Nat} (h : s.length ≤ k) : ln s k = 0 := by
  unfold ln
  rw [List.getD_eq_getElem?_getD, List.getElem?_eq_none h]
  rfl
theorem ln_set {s : List (List Int)} {i : Nat} (hi : i < s.length) (r : List Int) (k : Nat) : ln (s.set i r) k = if k = i then r.length else ln s k := by
  unfold ln
  rw [getD_set_if [] hi]
  split <;> rfl
theorem vl_set {s : List (List Int)} {i j : Nat} (hi : i < s.length) (hj : j < ln s i) (v : Int) (k l : Nat) : vl (s.set i ((s.getD i []).set j v)) k l = if k = i ∧ l = j then v else vl s k l := by
  unfold vl
  rw [getD_set_if [] hi]
  by_cases hk : k = i
  · rw [if_pos hk, getD_set_if 0 hj]
    by_cases hl : l = j
    · rw [if_pos hl, if_pos ⟨hk, hl⟩]
    · rw [if_neg hl, if_neg (fun h => hl h.2), hk]
  · rw [if_neg hk, if_neg (fun h => hk h.1)]
theorem ln_set2 {s : List (List Int)} {i j : Nat} (hi : i < s.length) (v : Int) (k : Nat) : ln (s.set i ((s.getD i []).set j v)) k = ln s k := by
  rw [ln_set hi]
  split
  · rename_i h; rw [h, List.length_set]
  · rfl

variable {s : List (List Int)} {hs : Nat → Nat} {i j : Nat}
theorem sk_down (h : Sk s hs i j) (hi : i < s.length) (hj : j < ln s i) (hb : hs i ≤ j) (b0 : 0 < vl s (i + 1) j) (b1 : vl s i (j + 1) = 0 ∨ vl s (i + 1) j ≤ vl s i (j + 1)) :
    j < ln s (i + 1) ∧ Sk (s.set i ((s.getD i []).set j (vl s (i + 1) j))) hs (i + 1) j := by
  have hj1 : j < ln s (i + 1) := by
    by_cases g : j < ln s (i + 1)
    · exact g
    · rw [vl_out (by omega)] at b0; omega
  have hm1 := h.hm i
  have hb99 := (h.lt (i + 1) j (by omega) hj1 (by omega)).2
  have hright : ∀ l', j < l' → l' < ln s i → vl s (i + 1) j ≤ vl s i l' := fun l' h1 h2 => by
    have g1 := (h.lt i (j + 1) (by omega) (by omega) (by omega)).1
    have g2 := (h.ord i (j + 1) i l' (Nat.le_refl _) (by omega) (by omega) h2 (by omega) (by omega)).1
    rcases b1 with b1 | b1 <;> omega
  refine ⟨hj1, ⟨?_, ?_, h.hm, ?_, ?_, ?_, ?_⟩⟩
  · intro k hk
    rw [ln_set2 hi]
    exact h.pos k (by simpa using hk)
  · intro k
    rw [ln_set2 hi, ln_set2 hi]
    exact h.dec k
  · intro k
    rw [ln_set2 hi]
    exact h.hl k
  · intro k l hl
    rw [vl_set hi hj, if_neg (by rintro ⟨rfl, rfl⟩; omega)]
    exact h.zer k l hl
  · intro k l h1 h2 h3
    rw [ln_set2 hi] at h2
    rw [vl_set hi hj]
    by_cases e : k = i ∧ l = j
    · rw [if_pos e]; exact ⟨by omega, hb99⟩
    · rw [if_neg e]; exact h.lt k l h1 h2 e
  · intro k l k' l' h1 h2 h3 h4 h5 h6
    rw [ln_set2 hi] at h4
    rw [vl_set hi hj, vl_set hi hj]
    by_cases e : k = i ∧ l = j
    · obtain ⟨rfl, rfl⟩ := e
      rw [if_pos ⟨rfl, rfl⟩]
      by_cases e' : k' = k ∧ l' = l
      · rw [if_pos e']; exact ⟨Int.le_refl _, fun g => by omega⟩
      · rw [if_neg e']
        by_cases hk : k' = k
        · subst hk
          exact ⟨hright l' (by omega) h4, fun g => by omega⟩
        · have g0 := h.ord (k + 1) l k' l' (by omega) h2 (by omega) h4 (by omega) (by omega)
          refine ⟨g0.1, fun _ => ?_⟩
          by_cases hk1 : k' = k + 1
          · subst hk1
            have hll : l < l' := by omega
            have hd : ln s (k + 1) ≤ ln s k := h.dec k
            have g1 := hright l' hll (by omega)
            have g2 := (h.ord k l' (k + 1) l' (by omega) (Nat.le_refl _) (by omega) h4 (by omega) (by omega)).2 (by omega)
            omega
          · exact g0.2 (by omega)
    · rw [if_neg e]
      by_cases e' : k' = i ∧ l' = j
      · obtain ⟨rfl, rfl⟩ := e'
        rw [if_pos ⟨rfl, rfl⟩]
        have g := h.ord k l (k' + 1) l' (by omega) h2 h3 hj1 e (by omega)
        exact ⟨g.1, fun _ => g.2 (by omega)⟩
      · rw [if_neg e']
        exact h.ord k l k' l' h1 h2 h3 h4 e e'

theorem sk_right (h : Sk s hs i j) (hi : i < s.length) (hj : j < ln s i) (hb : hs i ≤ j) (r0 : 0 < vl s i (j + 1)) (r1 : ¬ (0 < vl s (i + 1) j ∧ (vl s i (j + 1) = 0 ∨ vl s (i + 1) j ≤ vl s i (j + 1)))) :
    j + 1 < ln s i ∧ Sk (s.set i ((s.getD i []).set j (vl s i (j + 1)))) hs i (j + 1) := by
  have hj1 : j + 1 < ln s i := by
    by_cases g : j + 1 < ln s i
    · exact g
    · rw [vl_out (by omega)] at r0; omega
  have hm1 := h.hm i
  have hr99 := (h.lt i (j + 1) (by omega) hj1 (by omega)).2
  have hbel : j < ln s (i + 1) → vl s i (j + 1) < vl s (i + 1) j := fun g => by
    have g1 := (h.lt (i + 1) j (by omega) g (by omega)).1
    omega
  refine ⟨hj1, ⟨?_, ?_, h.hm, ?_, ?_, ?_, ?_⟩⟩
  · intro k hk
    rw [ln_set2 hi]
    exact h.pos k (by simpa using hk)
  · intro k
    rw [ln_set2 hi, ln_set2 hi]
    exact h.dec k
  · intro k
    rw [ln_set2 hi]
    exact h.hl k
  · intro k l hl
    rw [vl_set hi hj, if_neg (by rintro ⟨rfl, rfl⟩; omega)]
    exact h.zer k l hl
  · intro k l h1 h2 h3
    rw [ln_set2 hi] at h2
    rw [vl_set hi hj]
    by_cases e : k = i ∧ l = j
    · rw [if_pos e]; exact ⟨by omega, hr99⟩
    · rw [if_neg e]; exact h.lt k l h1 h2 e
  · intro k l k' l' h1 h2 h3 h4 h5 h6
    rw [ln_set2 hi] at h4
    rw [vl_set hi hj, vl_set hi hj]
    by_cases e : k = i ∧ l = j
    · obtain ⟨rfl, rfl⟩ := e
      rw [if_pos ⟨rfl, rfl⟩]
      by_cases e' : k' = k ∧ l' = l
      · rw [if_pos e']; exact ⟨Int.le_refl _, fun g => by omega⟩
      · rw [if_neg e']
        by_cases hl : l' = l
        · subst hl
          have hk1 : k + 1 ≤ k' := by omega
          have hd : ln s k' ≤ ln s (k + 1) := anti_le h.dec hk1
          have g1 := hbel (by omega)
          have g2 := (h.ord (k + 1) l' k' l' hk1 (Nat.le_refl _) (by omega) h4 (by omega) (by omega)).1
          exact ⟨by omega, fun _ => by omega⟩
        · by_cases e2 : k' = k ∧ l' = l + 1
          · exact absurd e2 h6
          · have g := h.ord k (l + 1) k' l' h1 (by omega) (by omega) h4 (by omega) e'
            exact g
    · rw [if_neg e]
      by_cases e' : k' = i ∧ l' = j
      · obtain ⟨rfl, rfl⟩ := e'
        rw [if_pos ⟨rfl, rfl⟩]
        exact h.ord k l k' (l' + 1) h1 (by omega) h3 hj1 e (by omega)
      · rw [if_neg e']
        exact h.ord k l k' l' h1 h2 h3 h4 e e'

/-- Where it stops, a box goes. -/
theorem sk_cut (h : Sk s hs i j) (hb : hs i ≤ j) (e0 : ln s i = j + 1) (e1 : ln s (i + 1) ≤ j) {t : List (List Int)} (ht : ∀ k, ln t k = if k = i then j else ln s k)
    (hv : ∀ k l, l < ln t k → vl t k l = vl s k l) (hp : ∀ k, k < t.length → 0 < ln t k) : Sk t hs t.length 0 := by
  have hle : ∀ k, hs k ≤ ln t k := fun k => by
    rw [ht]
    split
    · rename_i e; rw [e]; exact hb
    · exact h.hl k
  have hin : ∀ k l, l < ln t k → l < ln s k ∧ ¬ (k = i ∧ l = j) := fun k l g => by
    rw [ht] at g
    split at g
    · rename_i e; rw [e]; omega
    · rename_i e; exact ⟨g, fun q => e q.1⟩
  refine ⟨hp, ?_, h.hm, hle, ?_, ?_, ?_⟩
  · intro k
    rw [ht, ht]
    have := h.dec k
    split
    · rename_i e
      rw [if_neg (by omega)]
      rw [e] at this
      omega
    · split
      · rename_i e; subst e; exact e1
      · exact this
  · intro k l g
    rw [hv k l (by have := hle k; omega)]
    exact h.zer k l g
  · intro k l g1 g2 _
    rw [hv k l g2]
    exact h.lt k l g1 (hin k l g2).1 (hin k l g2).2
  · intro k l k' l' g1 g2 g3 g4 _ _
    have hdec : ln t k' ≤ ln t k := by
      have hd := anti_le h.dec g1
      rw [ht, ht]
      split
      · rename_i e
        split
        · omega
        · rename_i e'
          rw [e] at hd
          omega
      · rename_i e
        split
        · rename_i e'
          have : ln s k' ≤ ln s (i + 1) := anti_le h.dec (by omega)
          omega
        · exact hd
    rw [hv k l (by omega), hv k' l' g4]
    exact h.ord k l k' l' g1 g2 g3 (hin k' l' g4).1 (hin k l (by omega)).2 (hin k' l' g4).2

/-! ### Its word -/

def letsF (s : List (List Int)) (hs : Nat → Nat) (i j k : Nat) : List Int := if k = i then ((s.getD k []).take j).drop (hs k) ++ (s.getD k []).drop (j + 1) else (s.getD k []).drop (hs k)
def wordF (f : Nat → List Int) : Nat → List Int
  | 0 => []
  | n + 1 => f n ++ wordF f n
theorem wordF_ext {f g : Nat → List Int} : ∀ {n : Nat}, (∀ k, k < n → f k = g k) → wordF f n = wordF g n
  | 0, _ => rfl
  | n + 1, h => by
    show f n ++ wordF f n = g n ++ wordF g n
    rw [h n (by omega), wordF_ext fun k hk => h k (by omega)]
theorem wordF_kn {f g : Nat → List Int} {i : Nat} (hk : KN (f (i + 1) ++ f i) (g (i + 1) ++ g i)) : ∀ {n : Nat}, i + 1 < n → (∀ k, k < n → k ≠ i → k ≠ i + 1 → f k = g k) → KN (wordF f n) (wordF g n)
  | 0, h, _ => by omega
  | n + 1, h, he => by
    by_cases e : i + 1 = n
    · subst e
      show KN (f (i + 1) ++ (f i ++ wordF f i)) (g (i + 1) ++ (g i ++ wordF g i))
      rw [wordF_ext (f := f) (g := g) fun k hk => he k (by omega) (by omega) (by omega)]
      have := hk.right (wordF g i)
      simpa only [List.append_assoc] using this
    · show KN (f n ++ wordF f n) (g n ++ wordF g n)
      rw [he n (by omega) (by omega) (by omega)]
      exact (wordF_kn hk (by omega) fun k hk => he k (by omega)).left (g n)

theorem srt_drop {l : List Int} {h : Nat} (hh : ∀ a b, h ≤ a → a ≤ b → b < l.length → l.getD a 0 ≤ l.getD b 0) : Srt (l.drop h) := by
  refine List.pairwise_iff_getElem.2 fun a b ha hb hab => ?_
  rw [List.getElem_drop, List.getElem_drop]
  simp only [List.length_drop] at ha hb
  have := hh (h + a) (h + b) (by omega) (by omega) (by omega)
  rwa [List.getD_eq_getElem?_getD, List.getD_eq_getElem?_getD, List.getElem?_eq_getElem (by omega), List.getElem?_eq_getElem (by omega)] at this
theorem sk_srt (h : Sk s hs i j) {k : Nat} (hk : k ≠ i) : Srt ((s.getD k []).drop (hs k)) :=
  srt_drop fun a b h1 h2 h3 => (h.ord k a k b (Nat.le_refl _) h2 h1 h3 (fun e => hk e.1) (fun e => hk e.1)).1
theorem ptw_of : ∀ {A Y : List Int}, A.length = Y.length → (∀ k, k < A.length → A.getD k 0 < Y.getD k 0) → Ptw A Y
  | [], [], _, _ => trivial
  | [], _ :: _, h, _ => by simp at h
  | _ :: _, [], h, _ => by simp at h
  | a :: A, y :: Y, h, hk => ⟨hk 0 (Nat.zero_lt_succ _), ptw_of (by simpa using h) fun k hk' => hk (k + 1) (by simpa using hk')⟩
theorem abv_of : ∀ {A Y : List Int}, Y.length ≤ A.length → (∀ k, k < Y.length → A.getD k 0 < Y.getD k 0) → Abv A Y
  | A, [], _, _ => by cases A <;> trivial
  | [], _ :: _, h, _ => by simp at h
  | a :: A, y :: Y, h, hk => ⟨hk 0 (Nat.zero_lt_succ _), abv_of (by simpa using h) fun k hk' => hk (k + 1) (by simpa using hk')⟩
theorem getD_dropG (l : List Int) (h k : Nat) : (l.drop h).getD k 0 = l.getD (h + k) 0 := by
  rw [List.getD_eq_getElem?_getD, List.getElem?_drop, ← List.getD_eq_getElem?_getD]
theorem getD_takeG (l : List Int) {h k : Nat} (hk : k < h) : (l.take h).getD k 0 = l.getD k 0 := by
  rw [List.getD_eq_getElem?_getD, List.getElem?_take_of_lt hk, ← List.getD_eq_getElem?_getD]
theorem drop_split {l : List Int} {h j : Nat} (h1 : h ≤ j) (h2 : j < l.length) : l.drop h = (l.take j).drop h ++ l.getD j 0 :: l.drop (j + 1) := by
  conv => lhs; rw [← List.take_append_drop j l]
  rw [List.drop_append_of_le_length (by rw [List.length_take]; omega), drop_pred_getD (0 : Int) h2]
theorem take_split {l : List Int} {a h j : Nat} (h0 : a ≤ h) (h1 : h ≤ j) : (l.take j).drop a = (l.take h).drop a ++ (l.take j).drop h := by
  by_cases hh : h ≤ l.length
  · have e : l.take h = (l.take j).take h := by rw [List.take_take, Nat.min_eq_left h1]
    conv => lhs; rw [← List.take_append_drop h (l.take j)]
    rw [List.drop_append_of_le_length (by simp only [List.length_take]; omega), ← e]
  · rw [List.take_of_length_le (by omega), List.take_of_length_le (by omega), List.drop_eq_nil_of_le (i := h) (by omega), List.append_nil]

theorem kn_down (h : Sk s hs i j) (hi : i < s.length) (hj : j < ln s i) (hb : hs i ≤ j) (b0 : 0 < vl s (i + 1) j) (b1 : vl s i (j + 1) = 0 ∨ vl s (i + 1) j ≤ vl s i (j + 1)) :
    i + 1 < s.length ∧ KN (wordF (letsF s hs i j) s.length) (wordF (letsF (s.set i ((s.getD i []).set j (vl s (i + 1) j))) hs (i + 1) j) s.length) := by
  obtain ⟨hj1, h'⟩ := sk_down h hi hj hb b0 b1
  have hi1 : i + 1 < s.length := by
    by_cases g : i + 1 < s.length
    · exact g
    · rw [ln_out (by omega)] at hj1; omega
  have hm1 := h.hm i
  have hjr : j < (s.getD i []).length := hj
  have hjr1 : j < (s.getD (i + 1) []).length := hj1
  refine ⟨hi1, wordF_kn (i := i) ?_ hi1 ?_⟩
  · have e1 : letsF s hs i j (i + 1) = ((s.getD (i + 1) []).take (hs i)).drop (hs (i + 1)) ++ ((s.getD (i + 1) []).take j).drop (hs i) ++ vl s (i + 1) j :: (s.getD (i + 1) []).drop (j + 1) := by
      unfold letsF
      rw [if_neg (by omega), drop_split (h := hs (i + 1)) (j := j) (by omega) hj1, take_split hm1 hb]
    have e2 : letsF s hs i j i = ((s.getD i []).take j).drop (hs i) ++ (s.getD i []).drop (j + 1) := by
      unfold letsF
      rw [if_pos rfl]
    have er : (s.set i ((s.getD i []).set j (vl s (i + 1) j))).getD i [] = (s.getD i []).set j (vl s (i + 1) j) := by
      rw [getD_set_if [] hi, if_pos rfl]
    have er1 : (s.set i ((s.getD i []).set j (vl s (i + 1) j))).getD (i + 1) [] = s.getD (i + 1) [] := by
      rw [getD_set_if [] hi, if_neg (by omega)]
    have e3 : letsF (s.set i ((s.getD i []).set j (vl s (i + 1) j))) hs (i + 1) j (i + 1) = ((s.getD (i + 1) []).take (hs i)).drop (hs (i + 1)) ++ ((s.getD (i + 1) []).take j).drop (hs i) ++ (s.getD (i + 1) []).drop (j + 1) := by
      unfold letsF
      rw [if_pos rfl, er1, take_split hm1 hb]
    have e4 : letsF (s.set i ((s.getD i []).set j (vl s (i + 1) j))) hs (i + 1) j i = ((s.getD i []).take j).drop (hs i) ++ vl s (i + 1) j :: (s.getD i []).drop (j + 1) := by
      unfold letsF
      rw [if_neg (by omega), er, set_split hj, List.drop_append_of_le_length (by rw [List.length_take]; omega)]
    have sB := sk_srt h (k := i + 1) (by omega)
    have sA := sk_srt h' (k := i) (by omega)
    have e1' := e1
    unfold letsF at e1'
    rw [if_neg (by omega)] at e1'
    rw [e1'] at sB
    have e4' := e4
    unfold letsF at e4'
    rw [if_neg (by omega)] at e4'
    rw [e4'] at sA
    rw [e1, e2, e3, e4]
    refine kn_up sB sA (ptw_of ?_ fun k hk => ?_) (abv_of ?_ fun k hk => ?_)
    · simp only [List.length_drop, List.length_take]
      have : ln s (i + 1) = (s.getD (i + 1) []).length := rfl
      omega
    · simp only [List.length_drop, List.length_take] at hk
      rw [getD_dropG, getD_dropG, getD_takeG _ (by omega), getD_takeG _ (by omega)]
      exact (h.ord i (hs i + k) (i + 1) (hs i + k) (by omega) (Nat.le_refl _) (by omega) (show _ < (s.getD (i + 1) []).length by omega) (by omega) (by omega)).2 (by omega)
    · simp only [List.length_drop]
      have := h.dec i
      simp only [ln] at this
      omega
    · simp only [List.length_drop] at hk
      rw [getD_dropG, getD_dropG]
      exact (h.ord i (j + 1 + k) (i + 1) (j + 1 + k) (by omega) (Nat.le_refl _) (by omega) (show _ < (s.getD (i + 1) []).length by omega) (by omega) (by omega)).2 (by omega)
  · intro k _ h1 h2
    unfold letsF
    rw [if_neg h1, if_neg h2, getD_set_if [] hi, if_neg h1]

theorem kn_right (hi : i < s.length) (hj1 : j + 1 < ln s i) (hb : hs i ≤ j) :
    wordF (letsF s hs i j) s.length = wordF (letsF (s.set i ((s.getD i []).set j (vl s i (j + 1)))) hs i (j + 1)) s.length := by
  refine wordF_ext fun k _ => ?_
  unfold letsF
  by_cases e : k = i
  · subst e
    have hl : j < (s.getD k []).length := Nat.lt_of_succ_lt hj1
    rw [if_pos rfl, if_pos rfl, getD_set_if [] hi, if_pos rfl, set_take hl, List.drop_append_of_le_length (by rw [List.length_take]; omega), List.append_assoc, List.drop_set_of_lt (by omega)]
    congr 1
    exact drop_pred_getD (0 : Int) hj1
  · rw [if_neg e, if_neg e, getD_set_if [] hi, if_neg e]

/-! ### A whole slide -/

def slC (s : List (List Int)) (i j : Nat) : List (List Int) := if j = 0 then s.take i else s.set i ((s.getD i []).take j)
def slN : Nat → List (List Int) → Nat → Nat → List (List Int) × Nat × Nat
  | 0, s, i, j => (s, i, j)
  | f + 1, s, i, j =>
    if 0 < vl s (i + 1) j ∧ (vl s i (j + 1) = 0 ∨ vl s (i + 1) j ≤ vl s i (j + 1)) then slN f (s.set i ((s.getD i []).set j (vl s (i + 1) j))) (i + 1) j
    else if 0 < vl s i (j + 1) then slN f (s.set i ((s.getD i []).set j (vl s i (j + 1)))) i (j + 1)
    else (slC s i j, i, j)

theorem slC_facts (hi : i < s.length) (e0 : ln s i = j + 1) (e1 : ln s (i + 1) ≤ j) (hd : ∀ k, ln s (k + 1) ≤ ln s k) (hp : ∀ k, k < s.length → 0 < ln s k) :
    (∀ k, ln (slC s i j) k = if k = i then j else ln s k) ∧ (∀ k l, l < ln (slC s i j) k → vl (slC s i j) k l = vl s k l) ∧ (∀ k, k < (slC s i j).length → 0 < ln (slC s i j) k) ∧ (slC s i j).length ≤ s.length ∧
    (∀ k, k < s.length → (slC s i j).length ≤ k → k = i ∧ j = 0) := by
  unfold slC
  by_cases hj : j = 0
  · subst hj
    rw [if_pos rfl]
    have hlen : (s.take i).length = i := by rw [List.length_take]; omega
    have hi1 : ¬ i + 1 < s.length := fun g => by have := hp (i + 1) g; omega
    have hg : ∀ k, k < i → (s.take i).getD k [] = s.getD k [] := fun k hk => by
      rw [List.getD_eq_getElem?_getD, List.getElem?_take_of_lt hk, ← List.getD_eq_getElem?_getD]
    refine ⟨fun k => ?_, fun k l hl => ?_, fun k hk => ?_, by omega, fun k h1 h2 => ⟨by omega, rfl⟩⟩
    · by_cases hk : k < i
      · rw [if_neg (by omega)]
        unfold ln
        rw [hg k hk]
      · rw [ln_out (by omega)]
        split
        · rfl
        · rw [ln_out (by omega)]
    · by_cases hk : k < i
      · unfold vl
        rw [hg k hk]
      · rw [ln_out (by omega)] at hl; omega
    · unfold ln
      rw [hg k (by omega)]
      exact hp k (by omega)
  · rw [if_neg hj]
    have hl : ∀ k, ln (s.set i ((s.getD i []).take j)) k = if k = i then j else ln s k := fun k => by
      rw [ln_set hi]
      split
      · rw [List.length_take]
        have : (s.getD i []).length = j + 1 := e0
        omega
      · rfl
    refine ⟨hl, fun k l h => ?_, fun k hk => ?_, by rw [List.length_set]; exact Nat.le_refl _, fun k h1 h2 => ?_⟩
    · rw [hl] at h
      unfold vl
      rw [getD_set_if [] hi]
      split
      · rename_i e
        rw [if_pos e] at h
        rw [getD_takeG _ h, e]
      · rfl
    · rw [hl]
      split
      · omega
      · exact hp k (by simpa using hk)
    · rw [List.length_set] at h2; omega

structure SlOut (s : List (List Int)) (hs : Nat → Nat) (w : List Int) (n : Nat) (t : List (List Int)) : Prop where
  sk : Sk t hs t.length 0
  word : KN w (wordF (fun k => (t.getD k []).drop (hs k)) t.length)
  len : t.length ≤ n
  rows : ∀ k, ln t k ≤ ln s k

theorem sl_stop (h : Sk s hs i j) (hi : i < s.length) (hj : j < ln s i) (hb : hs i ≤ j) (r0 : ¬ (0 < vl s (i + 1) j ∧ (vl s i (j + 1) = 0 ∨ vl s (i + 1) j ≤ vl s i (j + 1)))) (r1 : ¬ 0 < vl s i (j + 1)) :
    ln s i = j + 1 ∧ ln s (i + 1) ≤ j := by
  have e0 : ln s i = j + 1 := by
    by_cases g : j + 1 < ln s i
    · have := (h.lt i (j + 1) (by omega) g (by omega)).1; omega
    · omega
  refine ⟨e0, ?_⟩
  by_cases g : j < ln s (i + 1)
  · have hm1 := h.hm i
    have g1 := (h.lt (i + 1) j (by omega) g (by omega)).1
    exact absurd ⟨by omega, .inl (vl_out (by omega))⟩ r0
  · omega
theorem sl_out : ∀ (f : Nat) {s : List (List Int)} {i j : Nat}, Sk s hs i j → i < s.length → j < ln s i → hs i ≤ j → s.length + ln s 0 < f + i + j →
    SlOut s hs (wordF (letsF s hs i j) s.length) s.length (slN f s i j).1 ∧ (slN f s i j).2.1 < s.length
  | 0, s, i, j, h, hi, hj, hb, hf => by
    have := anti_le h.dec (Nat.zero_le i)
    omega
  | f + 1, s, i, j, h, hi, hj, hb, hf => by
    unfold slN
    by_cases c1 : 0 < vl s (i + 1) j ∧ (vl s i (j + 1) = 0 ∨ vl s (i + 1) j ≤ vl s i (j + 1))
    · rw [if_pos c1]
      obtain ⟨d1, d2⟩ := sk_down h hi hj hb c1.1 c1.2
      obtain ⟨k1, k2⟩ := kn_down h hi hj hb c1.1 c1.2
      have hm1 := h.hm i
      obtain ⟨⟨a1, a2, a3, a4⟩, a5⟩ := sl_out f d2 (by rw [List.length_set]; exact k1) (by rw [ln_set2 hi]; exact d1) (by omega) (by rw [List.length_set, ln_set2 hi]; omega)
      rw [List.length_set] at a2 a3 a5
      exact ⟨⟨a1, k2.trans a2, a3, fun k => by have := a4 k; rwa [ln_set2 hi] at this⟩, a5⟩
    · rw [if_neg c1]
      by_cases c2 : 0 < vl s i (j + 1)
      · rw [if_pos c2]
        obtain ⟨d1, d2⟩ := sk_right h hi hj hb c2 c1
        have k2 := kn_right (hs := hs) hi d1 hb
        obtain ⟨⟨a1, a2, a3, a4⟩, a5⟩ := sl_out f d2 (by rw [List.length_set]; exact hi) (by rw [ln_set2 hi]; exact d1) (by omega) (by rw [List.length_set, ln_set2 hi]; omega)
        rw [List.length_set] at a2 a3 a5
        exact ⟨⟨a1, by rw [k2]; exact a2, a3, fun k => by have := a4 k; rwa [ln_set2 hi] at this⟩, a5⟩
      · rw [if_neg c2]
        obtain ⟨e0, e1⟩ := sl_stop h hi hj hb c1 c2
        obtain ⟨f1, f2, f3, f4, f5⟩ := slC_facts hi e0 e1 h.dec h.pos
        have hk := sk_cut h hb e0 e1 f1 f2 f3
        refine ⟨⟨hk, ?_, f4, fun k => ?_⟩, hi⟩
        · have ew : ∀ k, k < (slC s i j).length → letsF s hs i j k = ((slC s i j).getD k []).drop (hs k) := fun k hk' => by
            unfold letsF slC
            unfold slC at hk'
            by_cases e : k = i
            · subst e
              rw [if_pos rfl, List.drop_eq_nil_of_le (show (s.getD k []).length ≤ j + 1 from Nat.le_of_eq e0), List.append_nil]
              by_cases j0 : j = 0
              · rw [if_pos j0, List.length_take] at hk'; omega
              · rw [if_neg j0, getD_set_if [] hi, if_pos rfl]
            · rw [if_neg e]
              by_cases j0 : j = 0
              · rw [if_pos j0] at hk' ⊢
                rw [List.length_take] at hk'
                rw [List.getD_eq_getElem?_getD (l := s.take i), List.getElem?_take_of_lt (by omega), ← List.getD_eq_getElem?_getD]
              · rw [if_neg j0, getD_set_if [] hi, if_neg e]
          by_cases hlen : (slC s i j).length = s.length
          · have e : wordF (letsF s hs i j) s.length = wordF (fun k => ((slC s i j).getD k []).drop (hs k)) (slC s i j).length := by
              rw [hlen]
              exact wordF_ext fun k hk' => ew k (by omega)
            rw [e]
            exact .refl _
          · obtain ⟨q1, q2⟩ := f5 (slC s i j).length (by omega) (Nat.le_refl _)
            have hn : s.length = i + 1 := by
              by_cases g : i + 1 < s.length
              · have := h.pos (i + 1) g; omega
              · omega
            have e : wordF (letsF s hs i j) s.length = wordF (fun k => ((slC s i j).getD k []).drop (hs k)) (slC s i j).length := by
              rw [hn, q1]
              show letsF s hs i j i ++ wordF (letsF s hs i j) i = _
              have e2 : letsF s hs i j i = [] := by
                unfold letsF
                rw [if_pos rfl, q2, List.take_zero, List.drop_nil, List.drop_eq_nil_of_le (by have : (s.getD i []).length = j + 1 := e0; omega)]
                rfl
              rw [e2, List.nil_append]
              exact wordF_ext fun k hk' => ew k (by omega)
            rw [e]
            exact .refl _
        · rw [f1]
          split
          · rename_i e; rw [e]; omega
          · exact Nat.le_refl _

end Fer

/- Plain facts: rows with holes as they are checked; slides as long as there are holes. No program in sight. -/
set_option maxHeartbeats 1000000
namespace Fer

def holN (r : List Int) : Nat := (r.takeWhile fun x => decide (x = 0)).length
def hsF (s : List (List Int)) (k : Nat) : Nat := holN (s.getD k [])
def skewRow (s : List (List Int)) (i : Nat) : Prop := 0 < (s.getD i []).length ∧ (0 < i → (s.getD i []).length ≤ (s.getD (i - 1) []).length ∧ holN (s.getD i []) ≤ holN (s.getD (i - 1) [])) ∧
  ∀ j, holN (s.getD i []) ≤ j → j < (s.getD i []).length → (1 ≤ (s.getD i []).getD j 0 ∧ (s.getD i []).getD j 0 ≤ 99) ∧ (0 < j → (s.getD i []).getD (j - 1) 0 ≤ (s.getD i []).getD j 0) ∧ (0 < i → (s.getD (i - 1) []).getD j 0 < (s.getD i []).getD j 0)
def skewRows (s : List (List Int)) : Prop := ∀ i, i < s.length → skewRow s i
noncomputable def skewE (s : List (List Int)) : Int := if 40 < s.flatten.length then 2 else @ite _ (skewRows s) (Classical.propDecidable _) 0 1
theorem holN_le (r : List Int) : holN r ≤ r.length := by
  unfold holN
  induction r with
  | nil => simp
  | cons a r ih =>
    rw [List.takeWhile_cons]
    split
    · simp only [List.length_cons]; omega
    · simp
theorem holN_of {r : List Int} {h : Nat} (hl : h ≤ r.length) (h1 : ∀ l, l < h → r.getD l 0 = 0) (h2 : h = r.length ∨ r.getD h 0 ≠ 0) : holN r = h := by
  unfold holN
  rw [while_cutG 0 hl (fun j hj => decide_eq_true (h1 j hj)) (h2.imp id fun h => decide_eq_false h), List.length_take]
  omega
theorem holN_zero : ∀ {r : List Int} {l : Nat}, l < holN r → r.getD l 0 = 0
  | [], l, h => by simp [holN] at h
  | a :: r, l, h => by
    unfold holN at h
    rw [List.takeWhile_cons] at h
    split at h
    · rename_i ha
      cases l with
      | zero => simpa using ha
      | succ l => exact holN_zero (r := r) (l := l) (by unfold holN; simpa using h)
    · simp at h

theorem sk_of {s : List (List Int)} (h : skewRows s) : Sk s (hsF s) s.length 0 := by
  have hin : ∀ k l, l < ln s k → k < s.length := fun k l g => by
    by_cases e : k < s.length
    · exact e
    · rw [ln_out (by omega)] at g; omega
  have hdec : ∀ k, ln s (k + 1) ≤ ln s k := fun k => by
    by_cases e : k + 1 < s.length
    · exact ((h (k + 1) e).2.1 (by omega)).1
    · rw [ln_out (s := s) (k := k + 1) (by omega)]; exact Nat.zero_le _
  have hhm : ∀ k, hsF s (k + 1) ≤ hsF s k := fun k => by
    by_cases e : k + 1 < s.length
    · exact ((h (k + 1) e).2.1 (by omega)).2
    · have : hsF s (k + 1) ≤ ln s (k + 1) := holN_le _
      rw [ln_out (s := s) (k := k + 1) (by omega)] at this
      omega
  have hR : ∀ k l d, hsF s k ≤ l → l + d < ln s k → vl s k l ≤ vl s k (l + d) := fun k l d => by
    induction d with
    | zero => exact fun _ _ => Int.le_refl _
    | succ d ih =>
      intro g1 g2
      have := ((h k (hin k _ g2)).2.2 (l + (d + 1)) (by unfold hsF at g1; omega) g2).2.1 (by omega)
      exact Int.le_trans (ih g1 (by omega)) this
  have hD : ∀ k l d, hsF s k ≤ l → l < ln s (k + d) → vl s k l ≤ vl s (k + d) l ∧ (0 < d → vl s k l < vl s (k + d) l) := fun k l d => by
    induction d with
    | zero => exact fun _ _ => ⟨Int.le_refl _, fun g => by omega⟩
    | succ d ih =>
      intro g1 g2
      have h1 : hsF s (k + (d + 1)) ≤ hsF s k := anti_le hhm (by omega)
      have h2 : l < ln s (k + d) := Nat.lt_of_lt_of_le g2 (hdec (k + d))
      have := ((h (k + (d + 1)) (hin _ _ g2)).2.2 l (by unfold hsF at g1 h1; omega) g2).2.2 (by omega)
      have i1 := (ih g1 h2).1
      have e : vl s (k + (d + 1) - 1) l = vl s (k + d) l := rfl
      exact ⟨by unfold vl at *; rw [show k + (d + 1) - 1 = k + d by omega] at this; omega, fun _ => by unfold vl at *; rw [show k + (d + 1) - 1 = k + d by omega] at this; omega⟩
  refine ⟨fun k hk => (h k hk).1, hdec, hhm, fun k => holN_le _, fun k l hl => holN_zero hl, fun k l g1 g2 _ => ((h k (hin k l g2)).2.2 l g1 g2).1, ?_⟩
  intro k l k' l' g1 g2 g3 g4 _ _
  have hl1 : l' < ln s k := Nat.lt_of_lt_of_le g4 (anti_le hdec g1)
  have q1 := hR k l (l' - l) g3 (by omega)
  rw [show l + (l' - l) = l' by omega] at q1
  have q2 := hD k l' (k' - k) (by omega) (by rw [show k + (k' - k) = k' by omega]; exact g4)
  rw [show k + (k' - k) = k' by omega] at q2
  exact ⟨Int.le_trans q1 q2.1, fun g => by have := q2.2 (by omega); omega⟩

/-! ### Into the last hole of a row -/

theorem flat_rows : ∀ {t s : List (List Int)}, t.length ≤ s.length → (∀ k, ln t k ≤ ln s k) → t.flatten.length ≤ s.flatten.length
  | [], _, _, _ => Nat.zero_le _
  | _ :: _, [], h, _ => by simp at h
  | r :: t, q :: s, h, hk => by
    have h0 : r.length ≤ q.length := hk 0
    have := flat_rows (t := t) (s := s) (by simpa using h) fun k => hk (k + 1)
    simp only [List.flatten_cons, List.length_append]
    omega
theorem len_flat : ∀ (t : List (List Int)), (∀ k, k < t.length → 0 < ln t k) → t.length ≤ t.flatten.length
  | [], _ => Nat.zero_le _
  | r :: t, hp => by
    have h0 : 0 < r.length := hp 0 (Nat.zero_lt_succ _)
    have := len_flat t fun k hk => hp (k + 1) (by simpa using hk)
    simp only [List.length_cons, List.flatten_cons, List.length_append]
    omega
theorem sk_len {s : List (List Int)} {hs : Nat → Nat} {i j : Nat} (h : Sk s hs i j) (hf : s.flatten.length ≤ 40) : s.length + ln s 0 ≤ 41 := by
  cases s with
  | nil => simp [ln]
  | cons r t =>
    have := len_flat t fun k hk => h.pos (k + 1) (by simpa using hk)
    have e : ln (r :: t) 0 = r.length := rfl
    simp only [List.length_cons, List.flatten_cons, List.length_append] at hf ⊢
    omega
/-! ### No holes left -/

theorem wordF_front (f : Nat → List Int) : ∀ n, wordF f (n + 1) = wordF (fun k => f (k + 1)) n ++ f 0
  | 0 => by show f 0 ++ [] = [] ++ f 0; simp
  | n + 1 => by
    show f (n + 1) ++ wordF f (n + 1) = (f (n + 1) ++ wordF (fun k => f (k + 1)) n) ++ f 0
    rw [wordF_front f n, List.append_assoc]
theorem wordR_F : ∀ t : List (List Int), wordR t = wordF (fun k => t.getD k []) t.length
  | [] => rfl
  | r :: t => by
    show wordR t ++ r = wordF _ (t.length + 1)
    rw [wordF_front, wordR_F t]
    rfl
theorem tabS_of : ∀ {t : List (List Int)}, (∀ k, k < t.length → 0 < ln t k) → (∀ k, Srt (t.getD k [])) → (∀ k, Abv (t.getD k []) (t.getD (k + 1) [])) → TabS t
  | [], _, _, _ => trivial
  | r :: t, h1, h2, h3 => by
    refine ⟨?_, h2 0, h3 0, tabS_of (fun k hk => h1 (k + 1) (by simpa using hk)) (fun k => h2 (k + 1)) fun k => h3 (k + 1)⟩
    rintro rfl
    exact absurd (h1 0 (Nat.zero_lt_succ _)) (by simp [ln])
noncomputable def wordS (s : List (List Int)) : List Int := wordF (fun k => (s.getD k []).drop (hsF s k)) s.length
noncomputable def strtL (s : List (List Int)) : List (List Int) := intoW [] (wordS s)
theorem straight_ok {t : List (List Int)} {hs : Nat → Nat} {w : List Int} (h : Sk t hs t.length 0) (h0 : ∀ k, hs k = 0) (hw : KN w (wordF (fun k => (t.getD k []).drop (hs k)) t.length)) : t = intoW [] w := by
  have hin : ∀ k l, l < ln t k → k < t.length := fun k l g => by
    by_cases e : k < t.length
    · exact e
    · rw [ln_out (by omega)] at g; omega
  have e : wordF (fun k => (t.getD k []).drop (hs k)) t.length = wordR t := by
    rw [wordR_F]
    exact wordF_ext fun k _ => by simp only [h0, List.drop_zero]
  rw [e] at hw
  have hT : TabS t := by
    refine tabS_of h.pos (fun k => ?_) fun k => ?_
    · have := srt_drop (l := t.getD k []) (h := 0) fun a b _ h2 h3 => by
        have hk := hin k b h3
        exact (h.ord k a k b (Nat.le_refl _) h2 (by rw [h0]; exact Nat.zero_le _) h3 (by omega) (by omega)).1
      simpa using this
    · refine abv_of (h.dec k) fun l hl => ?_
      have hk := hin (k + 1) l hl
      exact (h.ord k l (k + 1) l (by omega) (Nat.le_refl _) (by rw [h0]; exact Nat.zero_le _) hl (by omega) (by omega)).2 (by omega)
  rw [P_kn _ (Nat.le_refl _) hw, P_word hT]

end Fer

/- Plain facts: slides in an order that a standard tableau tells. No program in sight. -/
set_option maxHeartbeats 1000000
namespace Fer

/-- How many of a row are at most n. -/
def cl (o : List (List Int)) (n : Int) (k : Nat) : Nat := lb (o.getD k []) (n + 1)
theorem getD_row_mem {o : List (List Int)} {k l : Nat} (hl : l < (o.getD k []).length) : (o.getD k []).getD l 0 ∈ o.flatten := by
  have hk : k < o.length := by
    by_cases e : k < o.length
    · exact e
    · rw [List.getD_eq_getElem?_getD (l := o), List.getElem?_eq_none (by omega)] at hl; simp at hl
  exact List.mem_flatten.2 ⟨_, at_mem hk, at_mem hl⟩
theorem nodup_at {r : List Int} (h : r.Nodup) {a b : Nat} (hab : a < b) (hb : b < r.length) : r.getD a 0 ≠ r.getD b 0 := by
  rw [List.getD_eq_getElem?_getD, List.getD_eq_getElem?_getD, List.getElem?_eq_getElem hb, List.getElem?_eq_getElem (by omega)]
  exact (List.pairwise_iff_getElem.1 h) a b (by omega) hb hab
/-! ### The shape of the holes -/

end Fer
