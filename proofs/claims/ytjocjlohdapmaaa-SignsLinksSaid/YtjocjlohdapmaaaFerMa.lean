
namespace Fer

theorem getD_lt {α : Type} {l : List α} {i : Nat} (d : α) (h : i < l.length) : l.getD i d = l[i] := by
  simp [List.getD_eq_getElem?_getD, h]

theorem take_succ_getD {α : Type} {l : List α} {i : Nat} (d : α) (h : i < l.length) : l.take (i + 1) = l.take i ++ [l.getD i d] := by
  rw [getD_lt d h, List.take_succ_eq_append_getElem h]

theorem getD_mem {α : Type} {l : List α} {i : Nat} (d : α) (h : i < l.length) : l.getD i d ∈ l := by
  rw [getD_lt d h]; exact List.getElem_mem h

theorem mem_getD {α : Type} {l : List α} {x : α} (d : α) (h : x ∈ l) : ∃ i, i < l.length ∧ l.getD i d = x := by
  obtain ⟨i, hi, rfl⟩ := List.getElem_of_mem h
  exact ⟨i, hi, getD_lt d hi⟩

theorem getD_set_if {α : Type} {l : List α} {i j : Nat} {x : α} (d : α) (h : i < l.length) : (l.set i x).getD j d = if j = i then x else l.getD j d := by
  simp only [List.getD_eq_getElem?_getD, List.getElem?_set]
  by_cases e : i = j
  · subst e; simp [h]
  · simp [e, Ne.symm e]

theorem ext_getD {α : Type} (d : α) {l m : List α} (h : l.length = m.length) (he : ∀ i, i < l.length → l.getD i d = m.getD i d) : l = m := by
  apply List.ext_getElem h
  intro i h1 h2
  have := he i h1
  rwa [getD_lt d h1, getD_lt d h2] at this

theorem replicate_getD {α : Type} (n i : Nat) (x : α) : (List.replicate n x).getD i x = x := by
  simp only [List.getD_eq_getElem?_getD, List.getElem?_replicate]; split <;> rfl

def iota (n : Nat) : List Int := (List.range n).map fun (i : Nat) => (i : Int) + 1

@[simp] theorem iota_length (n : Nat) : (iota n).length = n := by simp [iota]

def isPerm (p : List Int) : Prop := ∀ n : Nat, n < p.length → ((n : Int) + 1) ∈ p
instance (p : List Int) : Decidable (isPerm p) := by unfold isPerm; infer_instance

theorem sum_take_succ {l : List Int} {i : Nat} (h : i < l.length) : (l.take (i + 1)).sum = (l.take i).sum + l.getD i 0 := by
  rw [take_succ_getD 0 h, List.sum_append]; simp

end Fer

namespace Fer

def sws : Nat → List Int → List Int
  | 0, x :: y :: l => y :: x :: l
  | i + 1, x :: l => x :: sws i l
  | _, l => l

theorem sws_perm : ∀ (i : Nat) (l : List Int), (sws i l).Perm l
  | 0, x :: y :: l => List.Perm.swap ..
  | 0, [] => .refl _
  | 0, [_] => .refl _
  | i + 1, [] => .refl _
  | i + 1, x :: l => (sws_perm i l).cons x

@[simp] theorem sws_length (i : Nat) (l : List Int) : (sws i l).length = l.length := (sws_perm i l).length_eq

theorem sws_getD : ∀ (i : Nat) (l : List Int) (j : Nat), i + 1 < l.length → (sws i l).getD j 0 = if j = i then l.getD (i + 1) 0 else if j = i + 1 then l.getD i 0 else l.getD j 0
  | 0, x :: y :: l, j, _ => by
    rcases j with _ | _ | j <;> simp [sws]
  | 0, [], _, h => by simp at h
  | 0, [_], _, h => by simp at h
  | i + 1, [], _, h => by simp at h
  | i + 1, x :: l, j, h => by
    simp only [List.length_cons] at h
    cases j with
    | zero => simp [sws]
    | succ j =>
      simp only [sws, List.getD_cons_succ, sws_getD i l j (by omega), Nat.add_right_cancel_iff]



def came (out : List Int) (l : List Int) : List Int := l.foldr (fun i out => sws (i - 1).toNat out) out

@[simp] theorem came_length (out l : List Int) : (came out l).length = out.length := by
  induction l with
  | nil => rfl
  | cons i l ih => simpa [came] using ih

end Fer

namespace Fer

def atl (l : List Int) (m : Nat) (k : Int) : Int := ((l.take m).countP fun x => decide (k ≤ x) : Nat)

def under (a b : List Int) : Prop := ∀ i : Nat, i < a.length → ∀ k : Nat, k < a.length → atl a (i + 1) ((k : Int) + 1) ≤ atl b (i + 1) ((k : Int) + 1)
instance (a b : List Int) : Decidable (under a b) := by unfold under; infer_instance

def Desc (l : List Int) : Prop := l.Pairwise fun x y => y ≤ x

def Ins (out : List Int) (i k : Nat) : Prop := ∀ a b, a < b → b ≤ i → b ≠ k → out.getD b 0 ≤ out.getD a 0
def DescTo (out : List Int) (i : Nat) : Prop := ∀ a b, a < b → b < i → out.getD b 0 ≤ out.getD a 0

theorem Ins.swap {out : List Int} {i k : Nat} (h : Ins out i (k + 1)) (hl : k + 1 < out.length) (hi : k + 1 ≤ i) (hk : out.getD k 0 < out.getD (k + 1) 0) : Ins (sws k out) i k := by
  intro a b h1 h2 h3
  rw [sws_getD _ _ _ hl, sws_getD _ _ _ hl, if_neg h3]
  by_cases e1 : b = k + 1
  · rw [if_pos e1]
    by_cases e2 : a = k
    · rw [if_pos e2]; omega
    · rw [if_neg e2, if_neg (by omega)]; exact h a k (by omega) (by omega) (by omega)
  · rw [if_neg e1]
    by_cases e2 : a = k
    · rw [if_pos e2]; exact h (k + 1) b (by omega) h2 e1
    · rw [if_neg e2]
      by_cases e3 : a = k + 1
      · rw [if_pos e3]; exact h k b (by omega) h2 e1
      · rw [if_neg e3]; exact h a b h1 h2 e1
theorem DescTo.all {out : List Int} (h : DescTo out out.length) : Desc out := by
  refine List.pairwise_iff_getElem.2 fun i j hi hj hij => ?_
  have := h i j hij hj
  rwa [getD_lt 0 hi, getD_lt 0 hj] at this

end Fer

namespace Fer


def sumTo (f : Nat → Int) : Nat → Int
  | 0 => 0
  | n + 1 => sumTo f n + f n


def less (l : List Int) (x : Int) : Int := (l.countP fun y => decide (y < x) : Nat)
def more (l : List Int) (x : Int) : Int := (l.countP fun y => decide (x < y) : Nat)

def cd (p : List Int) (i : Nat) : Int := less (p.drop (i + 1)) (p.getD i 0)
def code (p : List Int) : List Int := (List.range p.length).map (cd p)
def wr (p : List Int) (i : Nat) : Int := more (p.take i) (p.getD i 0)
@[simp] theorem code_length (p : List Int) : (code p).length = p.length := by simp [code]

def invr (p : List Int) : List Int := (iota p.length).map fun n => (p.idxOf n : Int) + 1
@[simp] theorem invr_length (p : List Int) : (invr p).length = p.length := by simp [invr]

def upOne (n x : Int) : Int := if n < x then x + 1 else x

def ofCode : List Int → List Int
  | [] => []
  | n :: c => (n + 1) :: (ofCode c).map (upOne n)

@[simp] theorem ofCode_length : ∀ c : List Int, (ofCode c).length = c.length
  | [] => rfl
  | n :: c => by simp [ofCode, ofCode_length c]

def codeOK : List Int → Prop
  | [] => True
  | n :: c => 0 ≤ n ∧ n ≤ c.length ∧ codeOK c

def taken : List Int → List Int → List Int
  | _, [] => []
  | left, n :: c => left.getD n.toNat 0 :: taken (left.eraseIdx n.toNat) c

instance decCodeOK : (c : List Int) → Decidable (codeOK c)
  | [] => isTrue trivial
  | n :: c => by
    have := decCodeOK c
    unfold codeOK
    infer_instance

end Fer

namespace Fer

def blk (x : Int) (low : Bool) (st : List Int × List Int) (y : Int) : List Int × List Int :=
  if (decide (y ≤ x)) = low then (st.1 ++ y :: st.2, []) else (st.1, st.2 ++ [y])


def rotb (x : Int) (low : Bool) : Nat → List Int → List Int
  | 0, _ => []
  | _, [] => []
  | f + 1, a :: l => l.takeWhile (fun y => decide (y ≤ x) != low) ++ a :: rotb x low f (l.dropWhile fun y => decide (y ≤ x) != low)

theorem rotb_length (x : Int) (low : Bool) : ∀ (f : Nat) (l : List Int), l.length ≤ f → (rotb x low f l).length = l.length
  | 0, [], _ => rfl
  | 0, _ :: _, h => by simp at h
  | _ + 1, [], _ => rfl
  | f + 1, a :: l, h => by
    have h1 : (l.takeWhile (fun y => decide (y ≤ x) != low)).length + (l.dropWhile (fun y => decide (y ≤ x) != low)).length = l.length := by
      rw [← List.length_append, List.takeWhile_append_dropWhile]
    simp only [List.length_cons] at h
    rw [rotb, List.length_append, List.length_cons, rotb_length x low f _ (by omega), List.length_cons]
    omega

def rot (x : Int) (low : Bool) (l : List Int) : List Int := rotb x low l.length l

@[simp] theorem rot_length (x : Int) (low : Bool) (l : List Int) : (rot x low l).length = l.length := rotb_length x low _ l (Nat.le_refl _)
@[simp] theorem rot_nil (x : Int) (low : Bool) : rot x low [] = [] := rfl

end Fer

namespace Fer

def sg (p : List Int) (y : Int) : Int := p.getD (y - 1).toNat 0
def it (p : List Int) (y : Int) : Nat → Int
  | 0 => y
  | j + 1 => sg p (it p y j)

def IsRet (p : List Int) (y : Int) (r : Nat) : Prop := 0 < r ∧ it p y r = y ∧ ∀ d, 0 < d → d < r → it p y d ≠ y

noncomputable def ret (p : List Int) (y : Int) : Nat := Classical.epsilon (IsRet p y)



def fi (q : List Int) : Nat → Nat
  | 0 => 0
  | i + 1 => if q.getD (fi q i) 0 < q.getD (i + 1) 0 then i + 1 else fi q i
def nx (q : List Int) (k : Nat) : Int := if k + 1 < q.length ∧ ¬ q.getD (fi q k) 0 < q.getD (k + 1) 0 then q.getD (k + 1) 0 else q.getD (fi q k) 0
def unrO (q : List Int) : Nat → List Int
  | 0 => List.replicate q.length 0
  | k + 1 => (unrO q k).set (q.getD k 0 - 1).toNat (nx q k)

@[simp] theorem unrO_length (q : List Int) : ∀ k, (unrO q k).length = q.length
  | 0 => by simp [unrO]
  | k + 1 => by simp [unrO, unrO_length q k]

end Fer

namespace Fer

theorem sumZ_le (p : List Int) (hb : ∀ x ∈ p, -1000000 ≤ x ∧ x ≤ 1000000) : ∀ i : Nat, -(1000000 * (p.length : Int)) ≤ (p.take i).sum ∧ (p.take i).sum ≤ 1000000 * (p.length : Int) := by
  induction p with
  | nil => intro i; simp
  | cons a p ih =>
    intro i
    have ha := hb a (List.mem_cons_self ..)
    cases i with
    | zero => simp only [List.take_zero, List.sum_nil, List.length_cons]; omega
    | succ i =>
      have := ih (fun x hx => hb x (List.mem_cons_of_mem _ hx)) i
      simp only [List.take_succ_cons, List.sum_cons, List.length_cons]
      omega

def across (m : List (List Int)) : List (List Int) := (List.range (m.getD 0 []).length).map fun j => (m.takeWhile fun r => decide (j < r.length)).map fun r => r.getD j 0

def acol (m : List (List Int)) (j : Nat) : List Int := (m.takeWhile fun r => decide (j < r.length)).map fun r => r.getD j 0

theorem across_getD {m : List (List Int)} {j : Nat} (h : j < (m.getD 0 []).length) : (across m).getD j [] = acol m j := by
  unfold across acol
  rw [getD_lt [] (by simpa using h)]
  simp

theorem while_cutG {α : Type} {p : α → Bool} (d : α) : ∀ {l : List α} {m : Nat}, m ≤ l.length → (∀ j, j < m → p (l.getD j d) = true) → (m = l.length ∨ p (l.getD m d) = false) → l.takeWhile p = l.take m
  | [], m, hm, _, _ => by simp
  | a :: l, 0, _, _, h => by
    rcases h with h | h
    · simp at h
    · have : p a = false := h
      simp [this]
  | a :: l, m + 1, hm, h1, h2 => by
    have h0 : p a = true := h1 0 (by omega)
    rw [List.takeWhile_cons, if_pos h0, List.take_succ_cons]
    congr 1
    refine while_cutG d (by simpa using hm) (fun j hj => h1 (j + 1) (by omega)) ?_
    rcases h2 with h2 | h2
    · exact .inl (by simpa using h2)
    · exact .inr h2

end Fer

namespace Fer

def altOK (l : List Int) : Prop := (∀ j, j ≤ l.length → 0 ≤ (l.take j).sum ∧ (l.take j).sum ≤ 1) ∧ l.sum = 1
def colL (m : List (List Int)) (j : Nat) : List Int := m.map fun r => r.getD j 0
def signOK (m : List (List Int)) : Prop := 1 ≤ m.length ∧ m.length ≤ 7 ∧ (∀ i, i < m.length → (m.getD i []).length = m.length ∧ altOK (m.getD i [])) ∧ ∀ j, j < m.length → altOK (colL m j)
noncomputable def altB (l : List Int) : Bool := @decide (altOK l) (Classical.propDecidable _)
noncomputable def signB (m : List (List Int)) : Bool := @decide (signOK m) (Classical.propDecidable _)
noncomputable def signE (m : List (List Int)) : Int := @ite _ (signOK m) (Classical.propDecidable _) 0 1

theorem altB_true {l : List Int} (h : altOK l) : altB l = true := @decide_eq_true _ (Classical.propDecidable _) h
theorem altB_false {l : List Int} (h : ¬ altOK l) : altB l = false := @decide_eq_false _ (Classical.propDecidable _) h
theorem of_altB {l : List Int} (h : altB l = true) : altOK l := @of_decide_eq_true _ (Classical.propDecidable _) h
theorem not_altB {l : List Int} (h : altB l = false) : ¬ altOK l := @of_decide_eq_false _ (Classical.propDecidable _) h
theorem signB_true {m : List (List Int)} (h : signOK m) : signB m = true := @decide_eq_true _ (Classical.propDecidable _) h
theorem signB_false {m : List (List Int)} (h : ¬ signOK m) : signB m = false := @decide_eq_false _ (Classical.propDecidable _) h
theorem of_signB {m : List (List Int)} (h : signB m = true) : signOK m := @of_decide_eq_true _ (Classical.propDecidable _) h
theorem not_signB {m : List (List Int)} (h : signB m = false) : ¬ signOK m := @of_decide_eq_false _ (Classical.propDecidable _) h
theorem signE_zero {m : List (List Int)} (h : signOK m) : signE m = 0 := if_pos h
theorem signE_one {m : List (List Int)} (h : ¬ signOK m) : signE m = 1 := if_neg h
theorem signE_iff {m : List (List Int)} : signE m = 0 ↔ signOK m := by
  by_cases h : signOK m
  · simp [signE_zero h, h]
  · simp [signE_one h, h]
def cp (m : List (List Int)) (a j : Nat) : Int := ((m.take a).map fun r => r.getD j 0).sum

theorem cp_zero (m : List (List Int)) (j : Nat) : cp m 0 j = 0 := rfl
theorem cp_succ {m : List (List Int)} {a : Nat} (j : Nat) (h : a < m.length) : cp m (a + 1) j = cp m a j + (m.getD a []).getD j 0 := by
  unfold cp
  rw [take_succ_getD [] h, List.map_append, List.sum_append]
  simp
theorem colL_take (m : List (List Int)) (a j : Nat) : ((colL m j).take a).sum = cp m a j := by
  unfold colL cp
  rw [← List.map_take]
theorem colL_sum (m : List (List Int)) (j : Nat) : (colL m j).sum = cp m m.length j := by
  rw [← colL_take, List.take_of_length_le (by simp [colL])]
theorem alt_col {m : List (List Int)} {j : Nat} : altOK (colL m j) ↔ (∀ a, a ≤ m.length → 0 ≤ cp m a j ∧ cp m a j ≤ 1) ∧ cp m m.length j = 1 := by
  unfold altOK
  rw [colL_sum]
  simp only [colL_take]
  rw [show (colL m j).length = m.length by simp [colL]]

theorem acol_eq {m : List (List Int)} {j : Nat} (h : ∀ i, i < m.length → j < (m.getD i []).length) : acol m j = colL m j := by
  unfold acol colL
  rw [while_cutG [] (l := m) (m := m.length) (Nat.le_refl _) (fun a ha => decide_eq_true (h a ha)) (.inl rfl), List.take_length]


def mat (k : Nat) (f : Nat → Nat → Int) : List (List Int) := (List.range k).map fun i => (List.range k).map (f i)

theorem range_map_getD {α : Type} {k i : Nat} (f : Nat → α) (d : α) (h : i < k) : ((List.range k).map f).getD i d = f i := by
  rw [getD_lt d (by simpa using h)]
  simp
@[simp] theorem mat_length (k : Nat) (f : Nat → Nat → Int) : (mat k f).length = k := by simp [mat]
theorem mat_row {k i : Nat} (f : Nat → Nat → Int) (h : i < k) : (mat k f).getD i [] = (List.range k).map (f i) := range_map_getD _ _ h
theorem mat_cell {k i j : Nat} (f : Nat → Nat → Int) (h : i < k) (h' : j < k) : ((mat k f).getD i []).getD j 0 = f i j := by
  rw [mat_row f h, range_map_getD _ _ h']
theorem range_map_succ {α : Type} (f : Nat → α) (k : Nat) : (List.range (k + 1)).map f = (List.range k).map f ++ [f k] := by
  rw [List.range_succ, List.map_append]; rfl

def cs (m : List (List Int)) (i j : Nat) : Int := sumTo (fun a => ((m.getD a []).take j).sum) i
def cornr (m : List (List Int)) : List (List Int) := mat (m.length + 1) (cs m)

theorem cs_succ (m : List (List Int)) (i j : Nat) : cs m (i + 1) j = cs m i j + ((m.getD i []).take j).sum := rfl

theorem cs_le {m : List (List Int)} (h : signOK m) {i j : Nat} (hi : i ≤ m.length) (hj : j ≤ m.length) : 0 ≤ cs m i j ∧ cs m i j ≤ i := by
  induction i with
  | zero => exact ⟨Int.le_refl _, Int.le_refl _⟩
  | succ i ih =>
    have := ih (by omega)
    obtain ⟨h1, h2⟩ := h.2.2.1 i (by omega)
    have := h2.1 j (by omega)
    rw [cs_succ]
    omega

def dd (c : List (List Int)) (a b : Nat) : Int := (c.getD (a + 1) []).getD (b + 1) 0 - (c.getD a []).getD (b + 1) 0 - (c.getD (a + 1) []).getD b 0 + (c.getD a []).getD b 0
def unc (c : List (List Int)) : List (List Int) := mat (c.length - 1) (dd c)
def okC (c : List (List Int)) : Prop := 2 ≤ c.length ∧ c.length ≤ 8 ∧ ∀ i, i < c.length → (c.getD i []).length = c.length ∧ ∀ j, j < c.length → 0 ≤ (c.getD i []).getD j 0 ∧ (c.getD i []).getD j 0 ≤ 7
noncomputable def ofC (c : List (List Int)) : List (List Int) := @ite _ (okC c) (Classical.propDecidable _) (unc c) []

theorem ofC_ok {c : List (List Int)} (h : okC c) : ofC c = unc c := if_pos h
theorem ofC_bad {c : List (List Int)} (h : ¬ okC c) : ofC c = [] := if_neg h

theorem cornr_row {m : List (List Int)} {i : Nat} (h : i ≤ m.length) : (cornr m).getD i [] = (List.range (m.length + 1)).map (cs m i) := mat_row _ (by omega)
theorem cornr_cell {m : List (List Int)} {i j : Nat} (h : i ≤ m.length) (h' : j ≤ m.length) : ((cornr m).getD i []).getD j 0 = cs m i j := mat_cell _ (by omega) (by omega)
@[simp] theorem cornr_length (m : List (List Int)) : (cornr m).length = m.length + 1 := by simp [cornr]

def Upd (n : Nat) (c : List (List Int)) (f : Nat → Nat → Int) : Prop := c.length = n ∧ (∀ i, i < n → (c.getD i []).length = n) ∧ ∀ i, i < n → ∀ j, j < n → (c.getD i []).getD j 0 = f i j

theorem Upd.congr {n : Nat} {c : List (List Int)} {f g : Nat → Nat → Int} (h : Upd n c f) (e : ∀ i, i < n → ∀ j, j < n → f i j = g i j) : Upd n c g := ⟨h.1, h.2.1, fun i hi j hj => (h.2.2 i hi j hj).trans (e i hi j hj)⟩
theorem Upd.cornr (m : List (List Int)) : Upd (m.length + 1) (cornr m) (cs m) := ⟨cornr_length m, fun i hi => by rw [cornr_row (by omega)]; simp, fun i hi j hj => cornr_cell (by omega) (by omega)⟩
theorem Upd.set {n : Nat} {c : List (List Int)} {f : Nat → Nat → Int} (h : Upd n c f) {i j : Nat} (hi : i < n) (hj : j < n) (v : Int) : Upd n (c.set i ((c.getD i []).set j v)) (fun a b => if a = i ∧ b = j then v else f a b) := by
  obtain ⟨h0, h1, h2⟩ := h
  refine ⟨by rw [List.length_set]; exact h0, fun a ha => ?_, fun a ha b hb => ?_⟩
  · rw [getD_set_if [] (by omega)]
    split
    · rw [List.length_set]; exact h1 i hi
    · exact h1 a ha
  · dsimp only
    rw [getD_set_if [] (by omega)]
    by_cases e : a = i
    · subst e
      rw [if_pos rfl, getD_set_if 0 (by rw [h1 a hi]; exact hj)]
      by_cases e2 : b = j
      · rw [if_pos e2, if_pos ⟨rfl, e2⟩]
      · rw [if_neg e2, if_neg (fun h => e2 h.2)]; exact h2 a ha b hb
    · rw [if_neg e, if_neg (fun h => e h.1)]; exact h2 a ha b hb

def geq (c d : List (List Int)) : Prop := ∀ i, i < c.length → ∀ j, j < c.length → (d.getD i []).getD j 0 ≤ (c.getD i []).getD j 0
end Fer
