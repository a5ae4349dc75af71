import Derived.Test.YtcklbhfkeohndaaDoorFerA
namespace Fer

theorem getD_lt {α : Type} {l : List α} {i : Nat} (d : α) (h : i < l.length) : l.getD i d = l[i] := by
  simp [List.getD_eq_getElem?_getD, h]

theorem take_succ_getD {α : Type} {l : List α} {i : Nat} (d : α) (h : i < l.length) : l.take (i + 1) = l.take i ++ [l.getD i d] := by
  rw [getD_lt d h, List.take_succ_eq_append_getElem h]

theorem foldl_take_succ {α β : Type} (f : β → α → β) (a : β) {l : List α} {i : Nat} (d : α) (h : i < l.length) :
    (l.take (i + 1)).foldl f a = f ((l.take i).foldl f a) (l.getD i d) := by
  rw [take_succ_getD d h, List.foldl_append]; rfl

theorem countP_take_succ {α : Type} (f : α → Bool) {l : List α} {i : Nat} (d : α) (h : i < l.length) :
    (l.take (i + 1)).countP f = (l.take i).countP f + (if f (l.getD i d) then 1 else 0) := by
  rw [take_succ_getD d h, List.countP_append]; simp [List.countP_cons]

theorem mem_take_succ {α : Type} {l : List α} {i : Nat} (d : α) (h : i < l.length) (x : α) : x ∈ l.take (i + 1) ↔ x ∈ l.take i ∨ x = l.getD i d := by
  rw [take_succ_getD d h]; simp

theorem getD_mem {α : Type} {l : List α} {i : Nat} (d : α) (h : i < l.length) : l.getD i d ∈ l := by
  rw [getD_lt d h]; exact List.getElem_mem h

theorem mem_getD {α : Type} {l : List α} {x : α} (d : α) (h : x ∈ l) : ∃ i, i < l.length ∧ l.getD i d = x := by
  obtain ⟨i, hi, rfl⟩ := List.getElem_of_mem h
  exact ⟨i, hi, getD_lt d hi⟩

theorem getD_set_if {α : Type} {l : List α} {i j : Nat} {x : α} (d : α) (h : i < l.length) : (l.set i x).getD j d = if j = i then x else l.getD j d := by
  simp only [List.getD_eq_getElem?_getD, List.getElem?_set]
  by_cases e : i = j
  · subst e; simp [h]
  · simp [e, Ne.symm e]

theorem ext_getD {α : Type} (d : α) {l m : List α} (h : l.length = m.length) (he : ∀ i, i < l.length → l.getD i d = m.getD i d) : l = m := by
  apply List.ext_getElem h
  intro i h1 h2
  have := he i h1
  rwa [getD_lt d h1, getD_lt d h2] at this

theorem replicate_getD {α : Type} (n i : Nat) (x : α) : (List.replicate n x).getD i x = x := by
  simp only [List.getD_eq_getElem?_getD, List.getElem?_replicate]; split <;> rfl

def iota (n : Nat) : List Int := (List.range n).map fun (i : Nat) => (i : Int) + 1

@[simp] theorem iota_length (n : Nat) : (iota n).length = n := by simp [iota]

def isPerm (p : List Int) : Prop := ∀ n : Nat, n < p.length → ((n : Int) + 1) ∈ p
instance (p : List Int) : Decidable (isPerm p) := by unfold isPerm; infer_instance

theorem idxOf_of {n : Int} : ∀ {p : List Int} {i : Nat}, i < p.length → n ∉ p.take i → p.getD i 0 = n → p.idxOf n = i
  | [], _, h, _, _ => by simp at h
  | x :: p, 0, _, _, h => by simp at h; subst h; simp
  | x :: p, i + 1, hi, h1, h2 => by
    simp only [List.take_succ_cons, List.mem_cons, not_or] at h1
    rw [List.idxOf_cons, beq_eq_false_iff_ne.2 (fun e => h1.1 e.symm)]
    simp only [cond_false]
    rw [idxOf_of (by simpa using hi) h1.2 (by simpa using h2)]

theorem sum_take_succ {l : List Int} {i : Nat} (h : i < l.length) : (l.take (i + 1)).sum = (l.take i).sum + l.getD i 0 := by
  rw [take_succ_getD 0 h, List.sum_append]; simp

end Fer

namespace Fer

def sws : Nat → List Int → List Int
  | 0, x :: y :: l => y :: x :: l
  | i + 1, x :: l => x :: sws i l
  | _, l => l

def ff : List Int → Option Nat
  | x :: y :: l => if y < x then some 0 else (ff (y :: l)).map (· + 1)
  | _ => none

def inv : List Int → Nat
  | [] => 0
  | x :: l => l.countP (fun y => decide (y < x)) + inv l

theorem sws_perm : ∀ (i : Nat) (l : List Int), (sws i l).Perm l
  | 0, x :: y :: l => List.Perm.swap ..
  | 0, [] => .refl _
  | 0, [_] => .refl _
  | i + 1, [] => .refl _
  | i + 1, x :: l => (sws_perm i l).cons x

@[simp] theorem sws_length (i : Nat) (l : List Int) : (sws i l).length = l.length := (sws_perm i l).length_eq

theorem sws_getD : ∀ (i : Nat) (l : List Int) (j : Nat), i + 1 < l.length → (sws i l).getD j 0 = if j = i then l.getD (i + 1) 0 else if j = i + 1 then l.getD i 0 else l.getD j 0
  | 0, x :: y :: l, j, _ => by
    rcases j with _ | _ | j <;> simp [sws]
  | 0, [], _, h => by simp at h
  | 0, [_], _, h => by simp at h
  | i + 1, [], _, h => by simp at h
  | i + 1, x :: l, j, h => by
    simp only [List.length_cons] at h
    cases j with
    | zero => simp [sws]
    | succ j =>
      simp only [sws, List.getD_cons_succ, sws_getD i l j (by omega), Nat.add_right_cancel_iff]

def nb : Nat → List Int → List Int
  | 0, _ => []
  | f + 1, q => match ff q with
    | none => []
    | some i => ((i : Int) + 1) :: nb f (sws i q)

def word (p : List Int) : List Int := nb (inv p) p



def came (out : List Int) (l : List Int) : List Int := l.foldr (fun i out => sws (i - 1).toNat out) out

@[simp] theorem came_length (out l : List Int) : (came out l).length = out.length := by
  induction l with
  | nil => rfl
  | cons i l ih => simpa [came] using ih

theorem drop_pred_getD {α : Type} {l : List α} {k : Nat} (d : α) (h : k < l.length) : l.drop k = l.getD k d :: l.drop (k + 1) := by
  rw [getD_lt d h, List.drop_eq_getElem_cons h]

end Fer

namespace Fer

def atl (l : List Int) (m : Nat) (k : Int) : Int := ((l.take m).countP fun x => decide (k ≤ x) : Nat)

def under (a b : List Int) : Prop := ∀ i : Nat, i < a.length → ∀ k : Nat, k < a.length → atl a (i + 1) ((k : Int) + 1) ≤ atl b (i + 1) ((k : Int) + 1)
instance (a b : List Int) : Decidable (under a b) := by unfold under; infer_instance

def Desc (l : List Int) : Prop := l.Pairwise fun x y => y ≤ x

def Ins (out : List Int) (i k : Nat) : Prop := ∀ a b, a < b → b ≤ i → b ≠ k → out.getD b 0 ≤ out.getD a 0
def DescTo (out : List Int) (i : Nat) : Prop := ∀ a b, a < b → b < i → out.getD b 0 ≤ out.getD a 0

theorem Ins.swap {out : List Int} {i k : Nat} (h : Ins out i (k + 1)) (hl : k + 1 < out.length) (hi : k + 1 ≤ i) (hk : out.getD k 0 < out.getD (k + 1) 0) : Ins (sws k out) i k := by
  intro a b h1 h2 h3
  rw [sws_getD _ _ _ hl, sws_getD _ _ _ hl, if_neg h3]
  by_cases e1 : b = k + 1
  · rw [if_pos e1]
    by_cases e2 : a = k
    · rw [if_pos e2]; omega
    · rw [if_neg e2, if_neg (by omega)]; exact h a k (by omega) (by omega) (by omega)
  · rw [if_neg e1]
    by_cases e2 : a = k
    · rw [if_pos e2]; exact h (k + 1) b (by omega) h2 e1
    · rw [if_neg e2]
      by_cases e3 : a = k + 1
      · rw [if_pos e3]; exact h k b (by omega) h2 e1
      · rw [if_neg e3]; exact h a b h1 h2 e1
theorem DescTo.all {out : List Int} (h : DescTo out out.length) : Desc out := by
  refine List.pairwise_iff_getElem.2 fun i j hi hj hij => ?_
  have := h i j hij hj
  rwa [getD_lt 0 hi, getD_lt 0 hj] at this

end Fer

namespace Fer


def sumTo (f : Nat → Int) : Nat → Int
  | 0 => 0
  | n + 1 => sumTo f n + f n


def less (l : List Int) (x : Int) : Int := (l.countP fun y => decide (y < x) : Nat)
def more (l : List Int) (x : Int) : Int := (l.countP fun y => decide (x < y) : Nat)

def cd (p : List Int) (i : Nat) : Int := less (p.drop (i + 1)) (p.getD i 0)
def code (p : List Int) : List Int := (List.range p.length).map (cd p)
def wr (p : List Int) (i : Nat) : Int := more (p.take i) (p.getD i 0)
@[simp] theorem code_length (p : List Int) : (code p).length = p.length := by simp [code]
theorem drop_getD {α : Type} {l : List α} {k i : Nat} (d : α) : (l.drop k).getD i d = l.getD (k + i) d := by
  simp [List.getD_eq_getElem?_getD, List.getElem?_drop]


def invr (p : List Int) : List Int := (iota p.length).map fun n => (p.idxOf n : Int) + 1
@[simp] theorem invr_length (p : List Int) : (invr p).length = p.length := by simp [invr]

def upOne (n x : Int) : Int := if n < x then x + 1 else x

def ofCode : List Int → List Int
  | [] => []
  | n :: c => (n + 1) :: (ofCode c).map (upOne n)

@[simp] theorem ofCode_length : ∀ c : List Int, (ofCode c).length = c.length
  | [] => rfl
  | n :: c => by simp [ofCode, ofCode_length c]

def codeOK : List Int → Prop
  | [] => True
  | n :: c => 0 ≤ n ∧ n ≤ c.length ∧ codeOK c

def taken : List Int → List Int → List Int
  | _, [] => []
  | left, n :: c => left.getD n.toNat 0 :: taken (left.eraseIdx n.toNat) c

instance decCodeOK : (c : List Int) → Decidable (codeOK c)
  | [] => isTrue trivial
  | n :: c => by
    have := decCodeOK c
    unfold codeOK
    infer_instance

end Fer

namespace Fer

def blk (x : Int) (low : Bool) (st : List Int × List Int) (y : Int) : List Int × List Int :=
  if (decide (y ≤ x)) = low then (st.1 ++ y :: st.2, []) else (st.1, st.2 ++ [y])


def rotb (x : Int) (low : Bool) : Nat → List Int → List Int
  | 0, _ => []
  | _, [] => []
  | f + 1, a :: l => l.takeWhile (fun y => decide (y ≤ x) != low) ++ a :: rotb x low f (l.dropWhile fun y => decide (y ≤ x) != low)

theorem rotb_length (x : Int) (low : Bool) : ∀ (f : Nat) (l : List Int), l.length ≤ f → (rotb x low f l).length = l.length
  | 0, [], _ => rfl
  | 0, _ :: _, h => by simp at h
  | _ + 1, [], _ => rfl
  | f + 1, a :: l, h => by
    have h1 : (l.takeWhile (fun y => decide (y ≤ x) != low)).length + (l.dropWhile (fun y => decide (y ≤ x) != low)).length = l.length := by
      rw [← List.length_append, List.takeWhile_append_dropWhile]
    simp only [List.length_cons] at h
    rw [rotb, List.length_append, List.length_cons, rotb_length x low f _ (by omega), List.length_cons]
    omega

def rot (x : Int) (low : Bool) (l : List Int) : List Int := rotb x low l.length l

@[simp] theorem rot_length (x : Int) (low : Bool) (l : List Int) : (rot x low l).length = l.length := rotb_length x low _ l (Nat.le_refl _)
@[simp] theorem rot_nil (x : Int) (low : Bool) : rot x low [] = [] := rfl

end Fer

namespace Fer

def sg (p : List Int) (y : Int) : Int := p.getD (y - 1).toNat 0
def it (p : List Int) (y : Int) : Nat → Int
  | 0 => y
  | j + 1 => sg p (it p y j)

def IsRet (p : List Int) (y : Int) (r : Nat) : Prop := 0 < r ∧ it p y r = y ∧ ∀ d, 0 < d → d < r → it p y d ≠ y

theorem leastNat {P : Nat → Prop} : ∀ n, P n → ∃ r, r ≤ n ∧ P r ∧ ∀ d, d < r → ¬ P d := by
  intro n
  induction n using Nat.strongRecOn with
  | _ n ih =>
    intro h
    by_cases c : ∃ d, d < n ∧ P d
    · obtain ⟨d, hd, hp⟩ := c
      obtain ⟨r, h1, h2, h3⟩ := ih d hd hp
      exact ⟨r, by omega, h2, h3⟩
    · exact ⟨n, Nat.le_refl _, h, fun d hd hp => c ⟨d, hd, hp⟩⟩

noncomputable def ret (p : List Int) (y : Int) : Nat := Classical.epsilon (IsRet p y)



def fi (q : List Int) : Nat → Nat
  | 0 => 0
  | i + 1 => if q.getD (fi q i) 0 < q.getD (i + 1) 0 then i + 1 else fi q i
def nx (q : List Int) (k : Nat) : Int := if k + 1 < q.length ∧ ¬ q.getD (fi q k) 0 < q.getD (k + 1) 0 then q.getD (k + 1) 0 else q.getD (fi q k) 0
def unrO (q : List Int) : Nat → List Int
  | 0 => List.replicate q.length 0
  | k + 1 => (unrO q k).set (q.getD k 0 - 1).toNat (nx q k)

@[simp] theorem unrO_length (q : List Int) : ∀ k, (unrO q k).length = q.length
  | 0 => by simp [unrO]
  | k + 1 => by simp [unrO, unrO_length q k]

end Fer

namespace Fer

theorem sumZ_le (p : List Int) (hb : ∀ x ∈ p, -1000000 ≤ x ∧ x ≤ 1000000) : ∀ i : Nat, -(1000000 * (p.length : Int)) ≤ (p.take i).sum ∧ (p.take i).sum ≤ 1000000 * (p.length : Int) := by
  induction p with
  | nil => intro i; simp
  | cons a p ih =>
    intro i
    have ha := hb a (List.mem_cons_self ..)
    cases i with
    | zero => simp only [List.take_zero, List.sum_nil, List.length_cons]; omega
    | succ i =>
      have := ih (fun x hx => hb x (List.mem_cons_of_mem _ hx)) i
      simp only [List.take_succ_cons, List.sum_cons, List.length_cons]
      omega

def across (m : List (List Int)) : List (List Int) := (List.range (m.getD 0 []).length).map fun j => (m.takeWhile fun r => decide (j < r.length)).map fun r => r.getD j 0

theorem while_cutG {α : Type} {p : α → Bool} (d : α) : ∀ {l : List α} {m : Nat}, m ≤ l.length → (∀ j, j < m → p (l.getD j d) = true) → (m = l.length ∨ p (l.getD m d) = false) → l.takeWhile p = l.take m
  | [], m, hm, _, _ => by simp
  | a :: l, 0, _, _, h => by
    rcases h with h | h
    · simp at h
    · have : p a = false := h
      simp [this]
  | a :: l, m + 1, hm, h1, h2 => by
    have h0 : p a = true := h1 0 (by omega)
    rw [List.takeWhile_cons, if_pos h0, List.take_succ_cons]
    congr 1
    refine while_cutG d (by simpa using hm) (fun j hj => h1 (j + 1) (by omega)) ?_
    rcases h2 with h2 | h2
    · exact .inl (by simpa using h2)
    · exact .inr h2

theorem append_getD {l m : List Int} {k : Nat} : (l ++ m).getD k 0 = if k < l.length then l.getD k 0 else m.getD (k - l.length) 0 := by
  simp only [List.getD_eq_getElem?_getD, List.getElem?_append]
  split <;> rfl

end Fer

namespace Fer

def cp (m : List (List Int)) (a j : Nat) : Int := ((m.take a).map fun r => r.getD j 0).sum


def mat (k : Nat) (f : Nat → Nat → Int) : List (List Int) := (List.range k).map fun i => (List.range k).map (f i)

theorem range_map_getD {α : Type} {k i : Nat} (f : Nat → α) (d : α) (h : i < k) : ((List.range k).map f).getD i d = f i := by
  rw [getD_lt d (by simpa using h)]
  simp
@[simp] theorem mat_length (k : Nat) (f : Nat → Nat → Int) : (mat k f).length = k := by simp [mat]
theorem mat_row {k i : Nat} (f : Nat → Nat → Int) (h : i < k) : (mat k f).getD i [] = (List.range k).map (f i) := range_map_getD _ _ h
theorem mat_cell {k i j : Nat} (f : Nat → Nat → Int) (h : i < k) (h' : j < k) : ((mat k f).getD i []).getD j 0 = f i j := by
  rw [mat_row f h, range_map_getD _ _ h']
def cs (m : List (List Int)) (i j : Nat) : Int := sumTo (fun a => ((m.getD a []).take j).sum) i
def cornr (m : List (List Int)) : List (List Int) := mat (m.length + 1) (cs m)

def dd (c : List (List Int)) (a b : Nat) : Int := (c.getD (a + 1) []).getD (b + 1) 0 - (c.getD a []).getD (b + 1) 0 - (c.getD (a + 1) []).getD b 0 + (c.getD a []).getD b 0
theorem cornr_row {m : List (List Int)} {i : Nat} (h : i ≤ m.length) : (cornr m).getD i [] = (List.range (m.length + 1)).map (cs m i) := mat_row _ (by omega)
theorem cornr_cell {m : List (List Int)} {i j : Nat} (h : i ≤ m.length) (h' : j ≤ m.length) : ((cornr m).getD i []).getD j 0 = cs m i j := mat_cell _ (by omega) (by omega)
@[simp] theorem cornr_length (m : List (List Int)) : (cornr m).length = m.length + 1 := by simp [cornr]

def Upd (n : Nat) (c : List (List Int)) (f : Nat → Nat → Int) : Prop := c.length = n ∧ (∀ i, i < n → (c.getD i []).length = n) ∧ ∀ i, i < n → ∀ j, j < n → (c.getD i []).getD j 0 = f i j

theorem Upd.congr {n : Nat} {c : List (List Int)} {f g : Nat → Nat → Int} (h : Upd n c f) (e : ∀ i, i < n → ∀ j, j < n → f i j = g i j) : Upd n c g := ⟨h.1, h.2.1, fun i hi j hj => (h.2.2 i hi j hj).trans (e i hi j hj)⟩
theorem Upd.cornr (m : List (List Int)) : Upd (m.length + 1) (cornr m) (cs m) := ⟨cornr_length m, fun i hi => by rw [cornr_row (by omega)]; simp, fun i hi j hj => cornr_cell (by omega) (by omega)⟩
theorem Upd.set {n : Nat} {c : List (List Int)} {f : Nat → Nat → Int} (h : Upd n c f) {i j : Nat} (hi : i < n) (hj : j < n) (v : Int) : Upd n (c.set i ((c.getD i []).set j v)) (fun a b => if a = i ∧ b = j then v else f a b) := by
  obtain ⟨h0, h1, h2⟩ := h
  refine ⟨by rw [List.length_set]; exact h0, fun a ha => ?_, fun a ha b hb => ?_⟩
  · rw [getD_set_if [] (by omega)]
    split
    · rw [List.length_set]; exact h1 i hi
    · exact h1 a ha
  · dsimp only
    rw [getD_set_if [] (by omega)]
    by_cases e : a = i
    · subst e
      rw [if_pos rfl, getD_set_if 0 (by rw [h1 a hi]; exact hj)]
      by_cases e2 : b = j
      · rw [if_pos e2, if_pos ⟨rfl, e2⟩]
      · rw [if_neg e2, if_neg (fun h => e2 h.2)]; exact h2 a ha b hb
    · rw [if_neg e, if_neg (fun h => e h.1)]; exact h2 a ha b hb

def geq (c d : List (List Int)) : Prop := ∀ i, i < c.length → ∀ j, j < c.length → (d.getD i []).getD j 0 ≤ (c.getD i []).getD j 0
end Fer

namespace Fer

def trow (m : List (List Int)) (a j : Nat) : List Int := ((List.range j).filter fun q => decide (cp m a q = 1)).map fun (q : Nat) => (q : Int) + 1
def tri (m : List (List Int)) : List (List Int) := (List.range m.length).map fun i => trow m (i + 1) m.length

@[simp] theorem tri_length (m : List (List Int)) : (tri m).length = m.length := by simp [tri]


end Fer

namespace Fer

def ind (r : List Int) (x : Int) : Int := if x ∈ r then 1 else 0

def ot (t : List (List Int)) (i q : Nat) : Int := ind (t.getD i []) ((q : Int) + 1) - if i = 0 then 0 else ind (t.getD (i - 1) []) ((q : Int) + 1)
def ofT (t : List (List Int)) : List (List Int) := mat t.length (ot t)

@[simp] theorem ofT_length (t : List (List Int)) : (ofT t).length = t.length := by simp [ofT]
end Fer

namespace Fer

def lb (p : List Int) (n : Int) : Nat := (p.takeWhile fun x => decide (x < n)).length

end Fer

namespace Fer

def Shp (l : List (List Int)) : Prop := (∀ j, j < l.length → 0 < (l.getD j []).length) ∧ ∀ i j, i ≤ j → j < l.length → (l.getD j []).length ≤ (l.getD i []).length

def Tr (out cl : List (List Int)) : Prop := Shp cl ∧ out.length = (cl.getD 0 []).length ∧ ∀ i, i < out.length →
  (∀ j, j < (out.getD i []).length ↔ j < cl.length ∧ i < (cl.getD j []).length) ∧ ∀ j, j < (out.getD i []).length → (out.getD i []).getD j 0 = (cl.getD j []).getD i 0


def besL : List (List Int) → Int → List (List Int)
  | [], x => [[x]]
  | r :: t, x => if lb r x = r.length then (r ++ [x]) :: t else (r.set (lb r x) x) :: besL t (r.getD (lb r x) 0)
def besI : List (List Int) → Int → Nat
  | [], _ => 0
  | r :: t, x => if lb r x = r.length then 0 else besI t (r.getD (lb r x) 0) + 1

structure LInv (C : List (List Int)) (x0 : Int) (j : Nat) (x : Int) (out cl : List (List Int)) : Prop where
  tr : Tr out cl
  len : cl.length = C.length
  drop : cl.drop j = C.drop j
  L : besL C x0 = cl.take j ++ besL (C.drop j) x
  I : besI C x0 = j + besI (C.drop j) x
  lens : ∀ k, (cl.getD k []).length = (C.getD k []).length
  jle : j ≤ C.length
  bump : 0 < j → ∃ i0, i0 < (C.getD (j - 1) []).length ∧ x = (C.getD (j - 1) []).getD i0 0

end Fer

namespace Fer

def rowB (i : Nat) (n : Nat) : List (Int × Int) := (List.range n).map fun (j : Nat) => ((i : Int), (j : Int))
def boxes (p : List Int) : List (Int × Int) := (List.range p.length).flatMap fun i => rowB i (p.getD i 0).toNat
def boxesTo (p : List Int) (i : Nat) : List (Int × Int) := (List.range i).flatMap fun i => rowB i (p.getD i 0).toNat

theorem boxesTo_succ (p : List Int) (i : Nat) : boxesTo p (i + 1) = boxesTo p i ++ rowB i (p.getD i 0).toNat := by
  unfold boxesTo
  rw [List.range_succ, List.flatMap_append]
  simp
theorem rowB_succ (i n : Nat) : rowB i (n + 1) = rowB i n ++ [((i : Int), (n : Int))] := by
  unfold rowB
  rw [List.range_succ, List.map_append]
  rfl
@[simp] theorem rowB_length (i n : Nat) : (rowB i n).length = n := by simp [rowB]
theorem boxesTo_le {p : List Int} {c : Nat} (h : ∀ x ∈ p, 0 ≤ x ∧ x ≤ (c : Int)) : ∀ i, i ≤ p.length → (boxesTo p i).length ≤ i * c
  | 0, _ => by simp [boxesTo]
  | i + 1, hi => by
    have := boxesTo_le h i (by omega)
    have := h _ (getD_mem 0 (show i < p.length by omega))
    rw [boxesTo_succ, List.length_append, rowB_length, Nat.add_mul]
    omega

def fbOne (out : List Int) (b : Int × Int) : List Int := (out ++ List.replicate (b.1.toNat + 1 - out.length) 0).set b.1.toNat ((out ++ List.replicate (b.1.toNat + 1 - out.length) 0).getD b.1.toNat 0 + 1)
def fromB (l : List (Int × Int)) : List Int := l.foldl fbOne []

theorem fromB_take {l : List (Int × Int)} {i : Nat} (h : i < l.length) : fromB (l.take (i + 1)) = fbOne (fromB (l.take i)) (l.getD i (0, 0)) := foldl_take_succ _ _ _ h
theorem fbOne_length (out : List Int) (b : Int × Int) : (fbOne out b).length = max out.length (b.1.toNat + 1) := by
  unfold fbOne
  rw [List.length_set, List.length_append, List.length_replicate]
  omega
theorem fromB_length {c : Nat} : ∀ (l : List (Int × Int)), (∀ b ∈ l, 0 ≤ b.1 ∧ b.1 < (c : Int)) → ∀ i, i ≤ l.length → (fromB (l.take i)).length ≤ c
  | l, h, 0, _ => by simp [fromB]
  | l, h, i + 1, hi => by
    have := fromB_length l h i (by omega)
    have hm : l.getD i (0, 0) ∈ l := getD_mem _ (by omega)
    have := h _ hm
    rw [fromB_take (by omega), fbOne_length]
    omega
theorem fromB_val {l : List (Int × Int)} : ∀ i, i ≤ l.length → ∀ k, 0 ≤ (fromB (l.take i)).getD k 0 ∧ (fromB (l.take i)).getD k 0 ≤ i
  | 0, _, k => by simp [fromB]
  | i + 1, hi, k => by
    have ih := fromB_val (l := l) i (by omega)
    rw [fromB_take (by omega)]
    generalize fromB (l.take i) = out at *
    generalize l.getD i (0, 0) = b at *
    have hap : ∀ k, 0 ≤ (out ++ List.replicate (b.1.toNat + 1 - out.length) (0 : Int)).getD k 0 ∧ (out ++ List.replicate (b.1.toNat + 1 - out.length) (0 : Int)).getD k 0 ≤ (i : Int) := fun k => by
      rw [append_getD]
      split
      · exact ih k
      · rw [replicate_getD]; omega
    unfold fbOne
    rw [getD_set_if 0 (by rw [List.length_append, List.length_replicate]; omega)]
    have := hap k
    have := hap b.1.toNat
    split <;> omega

theorem boxes_mem {p : List Int} {c : Nat} (h : ∀ x ∈ p, 0 ≤ x ∧ x ≤ (c : Int)) : ∀ b ∈ boxes p, 0 ≤ b.2 ∧ b.2 < (c : Int) := fun b hb => by
  unfold boxes at hb
  obtain ⟨i, hi, hb⟩ := List.mem_flatMap.1 hb
  unfold rowB at hb
  obtain ⟨j, hj, rfl⟩ := List.mem_map.1 hb
  rw [List.mem_range] at hi hj
  have := h _ (getD_mem 0 hi)
  dsimp only
  omega

end Fer

namespace Fer

def partRow (p : List Int) (i : Nat) : Prop := 1 ≤ p.getD i 0 ∧ (0 < i → p.getD i 0 ≤ p.getD (i - 1) 0)
def partRows (p : List Int) : Prop := ∀ i, i < p.length → partRow p i
noncomputable def partE (p : List Int) : Int := @ite _ (partRows p) (Classical.propDecidable _) (if 40 < p.sum then 2 else 0) 1

theorem partE_bad {p : List Int} (h : ¬ partRows p) : partE p = 1 := if_neg h
theorem partE_big {p : List Int} (h : partRows p) (h2 : 40 < p.sum) : partE p = 2 := (if_pos h).trans (if_pos h2)
theorem partE_ok {p : List Int} (h : partRows p) (h2 : ¬ 40 < p.sum) : partE p = 0 := (if_pos h).trans (if_neg h2)
theorem partE_zero {p : List Int} (h : partE p = 0) : partRows p ∧ p.sum ≤ 40 := by
  by_cases h1 : partRows p
  · by_cases h2 : 40 < p.sum
    · rw [partE_big h1 h2] at h; cases h
    · exact ⟨h1, by omega⟩
  · rw [partE_bad h1] at h; cases h

theorem part_take {p : List Int} (h : partRows p) : ∀ i, i ≤ p.length → (i : Int) ≤ (p.take i).sum
  | 0, _ => by simp
  | i + 1, hi => by
    have := part_take h i (by omega)
    have := (h i (by omega)).1
    rw [sum_take_succ (by omega)]; omega
theorem part_mono {p : List Int} (h : partRows p) {i : Nat} : ∀ d, i + d ≤ p.length → (p.take i).sum ≤ (p.take (i + d)).sum
  | 0, _ => Int.le_refl _
  | d + 1, hi => by
    have := part_mono h (i := i) d (by omega)
    have := (h (i + d) (by omega)).1
    rw [show i + (d + 1) = (i + d) + 1 by omega, sum_take_succ (by omega)]; omega
theorem part_sum {p : List Int} (h : partRows p) {i : Nat} (hi : i ≤ p.length) : (p.take i).sum ≤ p.sum := by
  have := part_mono h (i := i) (p.length - i) (by omega)
  rwa [show i + (p.length - i) = p.length by omega, List.take_length] at this
theorem part_le {p : List Int} (h : partRows p) {i : Nat} (hi : i < p.length) : p.getD i 0 ≤ p.sum := by
  have h1 := part_sum h (show i + 1 ≤ p.length by omega)
  have h2 := part_take h i (by omega)
  rw [sum_take_succ hi] at h1
  omega
theorem part_length {p : List Int} (h : partRows p) : (p.length : Int) ≤ p.sum := by
  have := part_take h p.length (Nat.le_refl _)
  rwa [List.take_length] at this
theorem part_desc {p : List Int} (h : partRows p) {i j : Nat} (hij : i ≤ j) (hj : j < p.length) : p.getD j 0 ≤ p.getD i 0 := by
  have key : ∀ d i, i + d < p.length → p.getD (i + d) 0 ≤ p.getD i 0 := by
    intro d
    induction d with
    | zero => intro i _; exact Int.le_refl _
    | succ d ih =>
      intro i hi
      have := (h (i + d + 1) (by omega)).2 (by omega)
      rw [Nat.add_sub_cancel] at this
      exact Int.le_trans this (ih i (by omega))
  have := key (j - i) i (by omega)
  rwa [show i + (j - i) = j by omega] at this

def domP (a b : List Int) : Prop := ∀ k, (b.take k).sum ≤ (a.take k).sum
noncomputable def domB (a b : List Int) : Bool := @decide (domP a b) (Classical.propDecidable _)
noncomputable def pbE (a b : List Int) : Int := if partE a ≠ 0 then partE a else if partE b ≠ 0 then partE b else if a.sum ≠ b.sum then 3 else 0
def flipL (p : List Int) : List Int := (List.range (p.getD 0 0).toNat).map fun (j : Nat) => (((p.takeWhile fun x => decide ((j : Int) < x)).length : Nat) : Int)


theorem fbOne_getD {out : List Int} {b : Int × Int} (r : Nat) : (fbOne out b).getD r 0 = out.getD r 0 + if b.1.toNat = r then 1 else 0 := by
  have hap : ∀ k, (out ++ List.replicate (b.1.toNat + 1 - out.length) 0).getD k 0 = out.getD k 0 := fun k => by
    rw [append_getD]
    split
    · rfl
    · rename_i h
      rw [replicate_getD, List.getD_eq_getElem?_getD, List.getElem?_eq_none (by omega)]; rfl
  unfold fbOne
  rw [getD_set_if 0 (by rw [List.length_append, List.length_replicate]; omega), hap]
  by_cases e : r = b.1.toNat
  · rw [if_pos e, if_pos e.symm, e]
  · rw [if_neg e, if_neg (fun h => e h.symm), hap]; omega
theorem fold_getD (r : Nat) : ∀ (l : List (Int × Int)) (out : List Int), (l.foldl fbOne out).getD r 0 = out.getD r 0 + (l.countP fun b => decide (b.1.toNat = r) : Nat)
  | [], out => by simp
  | b :: l, out => by
    rw [List.foldl_cons, fold_getD r l, fbOne_getD, List.countP_cons]
    by_cases e : b.1.toNat = r
    · simp only [e, if_true, decide_true]; omega
    · simp only [e, if_false, decide_false, Bool.false_eq_true]; omega
theorem fold_length (m : Nat) : ∀ (l : List (Int × Int)) (out : List Int), (l.foldl fbOne out).length ≤ m ↔ out.length ≤ m ∧ ∀ b ∈ l, b.1.toNat < m
  | [], out => by simp
  | b :: l, out => by
    rw [List.foldl_cons, fold_length m l, fbOne_length]
    simp only [List.mem_cons, forall_eq_or_imp]
    constructor
    · rintro ⟨h1, h2⟩; exact ⟨by omega, by omega, h2⟩
    · rintro ⟨h1, h2, h3⟩; exact ⟨by omega, h3⟩
theorem fromB_getD (l : List (Int × Int)) (r : Nat) : (fromB l).getD r 0 = (l.countP fun b => decide (b.1.toNat = r) : Nat) := by
  unfold fromB
  rw [fold_getD]; simp
theorem fromB_len (l : List (Int × Int)) (m : Nat) : (fromB l).length ≤ m ↔ ∀ b ∈ l, b.1.toNat < m := by
  unfold fromB
  rw [fold_length]; simp

theorem rowB_col (i n j : Nat) : (rowB i n).countP (fun b => decide (b.2.toNat = j)) = if j < n then 1 else 0 := by
  induction n with
  | zero => rfl
  | succ n ih =>
    rw [rowB_succ, List.countP_append, ih]
    by_cases e : n = j
    · subst e; simp
    · have : ¬ ((n : Int).toNat = j) := by omega
      simp only [List.countP_cons, List.countP_nil, this, decide_false, Bool.false_eq_true, if_false]
      by_cases h : j < n
      · rw [if_pos h, if_pos (by omega)]
      · rw [if_neg h, if_neg (by omega)]
theorem boxes_col {p : List Int} (j : Nat) (hr : partRows p) : ∀ i, i ≤ p.length → (boxesTo p i).countP (fun b => decide (b.2.toNat = j)) = (p.take i).countP fun x => decide ((j : Int) < x)
  | 0, _ => by simp [boxesTo]
  | i + 1, hi => by
    have := (hr i (by omega)).1
    rw [boxesTo_succ, List.countP_append, boxes_col j hr i (by omega), countP_take_succ _ 0 (by omega), rowB_col]
    by_cases h : j < (p.getD i 0).toNat
    · rw [if_pos h, if_pos (decide_eq_true (by omega))]
    · rw [if_neg h, if_neg (by rw [decide_eq_true_eq]; omega)]

theorem while_count {p : List Int} (hr : partRows p) (j : Int) : (p.takeWhile fun x => decide (j < x)).length = p.countP fun x => decide (j < x) := by
  obtain ⟨m, hm, h1, h2⟩ := leastNat (P := fun m => m = p.length ∨ ¬ j < p.getD m 0) p.length (.inl rfl)
  have hlt : ∀ a, a < m → j < p.getD a 0 := fun a ha => by have := h2 a ha; omega
  rw [while_cutG 0 hm (fun a ha => decide_eq_true (hlt a ha)) (h1.imp id fun h => decide_eq_false h), List.length_take]
  have e1 : (p.take m).countP (fun x => decide (j < x)) = (p.take m).length := List.countP_eq_length.2 fun x hx => by
    obtain ⟨a, ha, rfl⟩ := mem_getD 0 hx
    rw [List.length_take] at ha
    have : (p.take m).getD a 0 = p.getD a 0 := by simp only [List.getD_eq_getElem?_getD, List.getElem?_take, if_pos (show a < m by omega)]
    rw [this]
    exact decide_eq_true (hlt a (by omega))
  have e2 : (p.drop m).countP (fun x => decide (j < x)) = 0 := List.countP_eq_zero.2 fun x hx => by
    obtain ⟨a, ha, rfl⟩ := mem_getD 0 hx
    rw [List.length_drop] at ha
    rw [drop_getD]
    have := part_desc hr (show m ≤ m + a by omega) (by omega)
    rw [decide_eq_true_eq]
    rcases h1 with h1 | h1
    · omega
    · omega
  have e3 : p.countP (fun x => decide (j < x)) = (p.take m).countP (fun x => decide (j < x)) + (p.drop m).countP (fun x => decide (j < x)) := by
    rw [← List.countP_append, List.take_append_drop]
  rw [e3, e1, e2, List.length_take]
  omega

theorem flipL_getD {p : List Int} {j : Nat} (h : j < (p.getD 0 0).toNat) : (flipL p).getD j 0 = (p.countP (fun x => decide ((j : Int) < x)) : Nat) ∨ ¬ partRows p := by
  by_cases hr : partRows p
  · left
    unfold flipL
    rw [range_map_getD _ _ h, while_count hr]
  · exact .inr hr

theorem mem_boxes {p : List Int} {b : Int × Int} : b ∈ boxes p ↔ ∃ i j : Nat, i < p.length ∧ j < (p.getD i 0).toNat ∧ b = ((i : Int), (j : Int)) := by
  unfold boxes rowB
  simp only [List.mem_flatMap, List.mem_map, List.mem_range]
  constructor
  · rintro ⟨i, hi, j, hj, rfl⟩; exact ⟨i, j, hi, hj, rfl⟩
  · rintro ⟨i, j, hi, hj, rfl⟩; exact ⟨i, hi, j, hj, rfl⟩

theorem conj_eq {p : List Int} (hr : partRows p) : fromB ((boxes p).map fun b => (b.2, b.1)) = flipL p := by
  have hfl : (flipL p).length = (p.getD 0 0).toNat := by simp [flipL]
  have hlen : ∀ m, (fromB ((boxes p).map fun b => (b.2, b.1))).length ≤ m ↔ (p.getD 0 0).toNat ≤ m := fun m => by
    rw [fromB_len]
    simp only [List.mem_map, forall_exists_index, and_imp, forall_apply_eq_imp_iff₂]
    constructor
    · intro h
      by_cases e : (p.getD 0 0).toNat = 0
      · omega
      · have hp : 0 < p.length := by
          refine Classical.byContradiction fun hn => e ?_
          rw [List.length_eq_zero_iff.1 (show p.length = 0 by omega)]; rfl
        have := h (((0 : Nat) : Int), ((((p.getD 0 0).toNat - 1 : Nat)) : Int)) (mem_boxes.2 ⟨0, _, hp, by omega, rfl⟩)
        dsimp only at this
        omega
    · rintro h b hb
      obtain ⟨i, j, hi, hj, rfl⟩ := mem_boxes.1 hb
      have := part_desc hr (Nat.zero_le i) hi
      dsimp only
      omega
  have hl : (fromB ((boxes p).map fun b => (b.2, b.1))).length = (flipL p).length := by
    have h1 := hlen (fromB ((boxes p).map fun b => (b.2, b.1))).length
    have h2 := hlen (p.getD 0 0).toNat
    omega
  refine ext_getD 0 hl fun j hj => ?_
  rw [fromB_getD, (flipL_getD (by omega)).resolve_right (fun h => h hr), List.countP_map]
  have := boxes_col j hr p.length (Nat.le_refl _)
  rw [List.take_length] at this
  rw [← this]
  rfl


end Fer

set_option maxHeartbeats 1000000
namespace Fer


end Fer

set_option maxHeartbeats 2000000
namespace Fer

def cutB (t : List (List Int)) (row : Nat) : List (List Int) := if (t.getD row []).length = 1 then t.take row else t.set row ((t.getD row []).take ((t.getD row []).length - 1))
theorem appD {α : Type} {l m : List α} {d : α} {i : Nat} : (l ++ m).getD i d = if i < l.length then l.getD i d else m.getD (i - l.length) d := by
  simp only [List.getD_eq_getElem?_getD, List.getElem?_append]
  split <;> rfl

end Fer

set_option maxHeartbeats 1000000
namespace Fer
open Go


def fallS (l : List Int) : Prop := l.Pairwise (fun a b => b ≤ a)
def insF (x : Int) : List Int → List Int
  | [] => [x]
  | y :: l => if y ≤ x then x :: y :: l else y :: insF x l
def fallL : List Int → List Int
  | [] => []
  | x :: l => insF x (fallL l)
theorem insF_perm (x : Int) : ∀ l : List Int, (insF x l).Perm (x :: l)
  | [] => .refl _
  | y :: l => by
    simp only [insF]
    split
    · exact .refl _
    · exact ((insF_perm x l).cons y).trans (.swap _ _ _)
theorem fallL_perm : ∀ l : List Int, (fallL l).Perm l
  | [] => .refl _
  | x :: l => (insF_perm x _).trans ((fallL_perm l).cons x)
theorem insF_falls (x : Int) : ∀ l : List Int, fallS l → fallS (insF x l)
  | [], _ => List.pairwise_singleton _ _
  | y :: l, h => by
    simp only [insF]
    unfold fallS at h ⊢
    rw [List.pairwise_cons] at h
    split
    · rename_i hy
      rw [List.pairwise_cons, List.pairwise_cons]
      refine ⟨fun z hz => ?_, h⟩
      rcases List.mem_cons.1 hz with rfl | hz
      · exact hy
      · exact Int.le_trans (h.1 z hz) hy
    · rename_i hy
      rw [List.pairwise_cons]
      refine ⟨fun z hz => ?_, insF_falls x l h.2⟩
      rcases List.mem_cons.1 ((insF_perm x l).mem_iff.1 hz) with rfl | hz
      · omega
      · exact h.1 z hz
theorem fallL_falls : ∀ l : List Int, fallS (fallL l)
  | [] => .nil
  | x :: l => insF_falls x _ (fallL_falls l)
theorem falls_unique : ∀ {l l' : List Int}, l.Perm l' → fallS l → fallS l' → l = l'
  | [], l', h, _, _ => (List.Perm.nil_eq h)
  | x :: l, l', h, h1, h2 => by
    cases l' with
    | nil => exact absurd h.length_eq (by simp)
    | cons y l' =>
      unfold fallS at h1 h2
      rw [List.pairwise_cons] at h1 h2
      have hxy : x = y := by
        have a : x ∈ y :: l' := h.mem_iff.1 (.head _)
        have b : y ∈ x :: l := h.mem_iff.2 (.head _)
        rcases List.mem_cons.1 a with a | a
        · exact a
        · rcases List.mem_cons.1 b with b | b
          · exact b.symm
          · have := h2.1 x a
            have := h1.1 y b
            omega
      subst hxy
      rw [falls_unique (List.Perm.cons_inv h) h1.2 h2.2]
theorem fallL_of {l l' : List Int} (h : l'.Perm l) (hf : fallS l') : l' = fallL l := falls_unique (h.trans (fallL_perm l).symm) hf (fallL_falls l)
theorem fallL_len (l : List Int) : (fallL l).length = l.length := (fallL_perm l).length_eq
theorem fallS_getD {l : List Int} (h : ∀ i j, i < j → j < l.length → l.getD j 0 ≤ l.getD i 0) : fallS l := by
  unfold fallS
  rw [List.pairwise_iff_getElem]
  intro i j hi hj hij
  have := h i j hij hj
  rwa [getD_lt _ hi, getD_lt _ hj] at this
theorem falls_getD {l : List Int} (h : fallS l) {i j : Nat} (hij : i < j) (hj : j < l.length) : l.getD j 0 ≤ l.getD i 0 := by
  unfold fallS at h
  rw [List.pairwise_iff_getElem] at h
  have := h i j (by omega) hj hij
  rw [getD_lt 0 (show i < l.length by omega), getD_lt 0 hj]
  exact this



end Fer

set_option maxHeartbeats 1000000
namespace Fer





end Fer

set_option maxHeartbeats 1000000
namespace Fer

def insAt (P : List Int) (x : Int) (k : Nat) (R : List Int) : List Int := P.take k ++ (x :: (P.drop k ++ R))
theorem insAt_len {P R : List Int} {x : Int} {k : Nat} : (insAt P x k R).length = P.length + 1 + R.length := by
  simp only [insAt, List.length_append, List.length_cons, List.length_take, List.length_drop]
  omega
theorem insAt_at {P R : List Int} {x : Int} {k : Nat} (h : k ≤ P.length) : (insAt P x k R).getD k 0 = x := by
  unfold insAt
  rw [appD, if_neg (by rw [List.length_take]; omega), List.length_take, show k - min k P.length = 0 by omega]
  rfl
theorem insAt_pred {P R : List Int} {x : Int} {k : Nat} (h : k ≤ P.length) (h0 : 0 < k) : (insAt P x k R).getD (k - 1) 0 = P.getD (k - 1) 0 := by
  unfold insAt
  rw [appD, if_pos (by rw [List.length_take]; omega)]
  simp only [List.getD_eq_getElem?_getD]
  rw [List.getElem?_take_of_lt (by omega)]
theorem insAt_swap {P R : List Int} {x : Int} {k : Nat} (h : k ≤ P.length) (h0 : 0 < k) : ((insAt P x k R).set k (P.getD (k - 1) 0)).set (k - 1) x = insAt P x (k - 1) R := by
  obtain ⟨j, rfl⟩ : ∃ j, k = j + 1 := ⟨k - 1, by omega⟩
  rw [Nat.add_sub_cancel]
  unfold insAt
  have h1 : (P.take (j + 1)).length = j + 1 := by rw [List.length_take]; omega
  have h2 : (P.take j).length = j := by rw [List.length_take]; omega
  rw [List.set_append_right _ _ (by omega), h1, Nat.sub_self, List.set_cons_zero, take_succ_getD 0 (by omega), List.append_assoc, List.set_append_right _ _ (by omega), h2, Nat.sub_self, List.cons_append, List.nil_append, List.set_cons_zero, drop_pred_getD (0 : Int) (show j < P.length by omega)]
  rfl
theorem insAt_start {l : List Int} {P : List Int} {i : Nat} (hP : P.length = i) (hi : i < l.length) : P ++ l.drop i = insAt P (l.getD i 0) i (l.drop (i + 1)) := by
  unfold insAt
  rw [List.take_of_length_le (show P.length ≤ i by omega), List.drop_eq_nil_of_le (show P.length ≤ i by omega), drop_pred_getD (0 : Int) hi]
  rfl
theorem insAt_end {l P R : List Int} {i k : Nat} (hP : P = fallL (l.take i)) (hi : i < l.length) (hk : k ≤ P.length) (h1 : 0 < k → l.getD i 0 ≤ P.getD (k - 1) 0) (h2 : ∀ y ∈ P.drop k, y < l.getD i 0) : insAt P (l.getD i 0) k R = fallL (l.take (i + 1)) ++ R := by
  have hf : fallS P := hP ▸ fallL_falls _
  have hperm : (P.take k ++ (l.getD i 0 :: P.drop k)).Perm (l.take (i + 1)) := by
    refine List.perm_middle.trans ?_
    rw [List.take_append_drop, take_succ_getD 0 hi]
    refine (List.perm_append_singleton _ _).symm.trans ?_
    rw [hP]
    exact (fallL_perm _).append_right _
  have hlt := fallS P
  have hfall : fallS (P.take k ++ (l.getD i 0 :: P.drop k)) := by
    unfold fallS at hf ⊢
    have hf2 := hf
    rw [← List.take_append_drop k P, List.pairwise_append] at hf2
    rw [List.pairwise_append, List.pairwise_cons]
    refine ⟨hf2.1, ⟨fun y hy => Int.le_of_lt (h2 y hy), hf2.2.1⟩, fun a ha b hb => ?_⟩
    have hk0 : 0 < k := by
      refine Classical.byContradiction fun h => ?_
      rw [show k = 0 by omega] at ha
      exact absurd ha (by simp)
    have hak : l.getD i 0 ≤ a := by
      obtain ⟨j, hj, rfl⟩ := mem_getD 0 ha
      rw [List.length_take] at hj
      have e : (P.take k).getD j 0 = P.getD j 0 := by
        simp only [List.getD_eq_getElem?_getD]
        rw [List.getElem?_take_of_lt (by omega)]
      rw [e]
      refine Int.le_trans (h1 hk0) ?_
      by_cases e2 : j = k - 1
      · subst e2; exact Int.le_refl _
      · exact falls_getD (fallS_getD fun i j hij hj => falls_getD hf hij hj) (by omega) (by omega)
    rcases List.mem_cons.1 hb with rfl | hb
    · exact hak
    · exact hf2.2.2 a ha b hb
  have e := fallL_of hperm hfall
  rw [← e]
  unfold insAt
  simp

end Fer
