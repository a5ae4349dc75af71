/- Inverses, codes, inversions. No program in sight. -/
import Derived.Test.YtbahdhedegpbbaaFerMb
namespace Fer

theorem idxOf_spec : ∀ {p : List Int} {n : Int}, n ∈ p → p.idxOf n < p.length ∧ p.getD (p.idxOf n) 0 = n
  | [], _, h => by cases h
  | x :: p, n, h => by
    by_cases e : x = n
    · subst e; simp
    · have hm : n ∈ p := by
        rcases List.mem_cons.1 h with h | h
        · exact absurd h.symm e
        · exact h
      obtain ⟨h1, h2⟩ := idxOf_spec hm
      rw [List.idxOf_cons, beq_eq_false_iff_ne.2 e]
      simp only [cond_false, List.length_cons, List.getD_cons_succ]
      exact ⟨by omega, h2⟩

/-! ### Sums over places -/

def sumTo (f : Nat → Int) : Nat → Int
  | 0 => 0
  | n + 1 => sumTo f n + f n

theorem sumTo_shift (f : Nat → Int) : ∀ n, sumTo f (n + 1) = f 0 + sumTo (fun i => f (i + 1)) n
  | 0 => by simp [sumTo]
  | n + 1 => by rw [sumTo, sumTo_shift f n, sumTo]; omega

theorem sumTo_congr {f g : Nat → Int} : ∀ n, (∀ i, i < n → f i = g i) → sumTo f n = sumTo g n
  | 0, _ => rfl
  | n + 1, h => by rw [sumTo, sumTo, sumTo_congr n fun i hi => h i (by omega), h n (by omega)]

theorem sumTo_add (f g : Nat → Int) : ∀ n, sumTo (fun i => f i + g i) n = sumTo f n + sumTo g n
  | 0 => rfl
  | n + 1 => by rw [sumTo, sumTo, sumTo, sumTo_add f g n]; omega

theorem sum_range (f : Nat → Int) : ∀ n, ((List.range n).map f).sum = sumTo f n
  | 0 => rfl
  | n + 1 => by rw [List.range_succ, List.map_append, List.sum_append, sum_range f n, sumTo]; simp

theorem sumTo_nonneg {f : Nat → Int} : ∀ n, (∀ i, 0 ≤ f i) → 0 ≤ sumTo f n
  | 0, _ => Int.le_refl _
  | n + 1, h => by have := sumTo_nonneg n h; have := h n; rw [sumTo]; omega

theorem sumTo_le {f : Nat → Int} {c : Int} : ∀ n : Nat, (∀ i, i < n → f i ≤ c) → sumTo f n ≤ n * c
  | 0, _ => by simp [sumTo]
  | n + 1, h => by
    have h1 := sumTo_le n fun i hi => h i (by omega)
    have h2 := h n (by omega)
    rw [sumTo]
    have : ((n + 1 : Nat) : Int) * c = n * c + c := by rw [Int.natCast_add, Int.add_mul]; simp
    omega

/-! ### Of each number how many lesser ones stand behind it -/

def less (l : List Int) (x : Int) : Int := (l.countP fun y => decide (y < x) : Nat)
def more (l : List Int) (x : Int) : Int := (l.countP fun y => decide (x < y) : Nat)

def cd (p : List Int) (i : Nat) : Int := less (p.drop (i + 1)) (p.getD i 0)
def code (p : List Int) : List Int := (List.range p.length).map (cd p)
def wr (p : List Int) (i : Nat) : Int := more (p.take i) (p.getD i 0)
def wrong (p : List Int) : Int := sumTo (wr p) p.length

theorem less_nonneg (l : List Int) (x : Int) : 0 ≤ less l x := Int.natCast_nonneg _
theorem less_le (l : List Int) (x : Int) : less l x ≤ l.length := Int.ofNat_le.2 List.countP_le_length
theorem more_nonneg (l : List Int) (x : Int) : 0 ≤ more l x := Int.natCast_nonneg _
theorem more_le (l : List Int) (x : Int) : more l x ≤ l.length := Int.ofNat_le.2 List.countP_le_length
theorem less_nil (x : Int) : less [] x = 0 := rfl
theorem less_cons (a : Int) (l : List Int) (x : Int) : less (a :: l) x = less l x + if a < x then 1 else 0 := by
  unfold less; rw [List.countP_cons]; by_cases h : a < x <;> simp [h]
theorem more_cons (a : Int) (l : List Int) (x : Int) : more (a :: l) x = more l x + if x < a then 1 else 0 := by
  unfold more; rw [List.countP_cons]; by_cases h : x < a <;> simp [h]

theorem less_take_succ {l : List Int} {i : Nat} (x : Int) (h : i < l.length) : less (l.take (i + 1)) x = less (l.take i) x + if l.getD i 0 < x then 1 else 0 := by
  unfold less
  rw [countP_take_succ _ 0 h]
  by_cases hk : l.getD i 0 < x
  · rw [if_pos (decide_eq_true hk), if_pos hk]; rfl
  · rw [if_neg (by rw [decide_eq_false hk]; exact Bool.false_ne_true), if_neg hk]; rfl
theorem more_take_succ {l : List Int} {i : Nat} (x : Int) (h : i < l.length) : more (l.take (i + 1)) x = more (l.take i) x + if x < l.getD i 0 then 1 else 0 := by
  unfold more
  rw [countP_take_succ _ 0 h]
  by_cases hk : x < l.getD i 0
  · rw [if_pos (decide_eq_true hk), if_pos hk]; rfl
  · rw [if_neg (by rw [decide_eq_false hk]; exact Bool.false_ne_true), if_neg hk]; rfl

@[simp] theorem code_length (p : List Int) : (code p).length = p.length := by simp [code]
theorem code_getD {p : List Int} {i : Nat} (h : i < p.length) : (code p).getD i 0 = cd p i := by
  rw [getD_lt 0 (by simpa using h)]; simp [code]
theorem code_of {p l : List Int} (hl : l.length = p.length) (h : ∀ i, i < p.length → l.getD i 0 = cd p i) : l = code p :=
  ext_getD 0 (by simpa using hl) fun i hi => by rw [h i (by omega), code_getD (by omega)]

theorem drop_getD {α : Type} {l : List α} {k i : Nat} (d : α) : (l.drop k).getD i d = l.getD (k + i) d := by
  simp [List.getD_eq_getElem?_getD, List.getElem?_drop]

/-- What stands behind a place, the place itself counted: it is not less than itself. -/
theorem cd_eq {p : List Int} {i : Nat} (h : i < p.length) : less (p.drop i) (p.getD i 0) = cd p i := by
  unfold cd
  rw [drop_pred_getD 0 h, less_cons, if_neg (Int.lt_irrefl _)]
  exact Int.add_zero _

theorem sum_code (p : List Int) : (code p).sum = sumTo (cd p) p.length := sum_range _ _

theorem sum_less : ∀ (x : Int) (l : List Int), sumTo (fun i => if l.getD i 0 < x then 1 else 0) l.length = less l x
  | x, [] => rfl
  | x, a :: l => by
    rw [List.length_cons, sumTo_shift, less_cons]
    simp only [List.getD_cons_zero, List.getD_cons_succ]
    rw [sum_less x l]
    omega

/-- Inversions, counted from the left and from the right. -/
theorem wrong_eq : ∀ p : List Int, wrong p = (code p).sum
  | [] => rfl
  | x :: l => by
    have ih := wrong_eq l
    rw [sum_code] at ih ⊢
    unfold wrong at ih ⊢
    rw [List.length_cons, sumTo_shift, sumTo_shift]
    have h1 : cd (x :: l) 0 = less l x := rfl
    have h2 : sumTo (fun i => cd (x :: l) (i + 1)) l.length = sumTo (cd l) l.length := sumTo_congr _ fun i _ => rfl
    have h3 : wr (x :: l) 0 = 0 := rfl
    have h4 : sumTo (fun i => wr (x :: l) (i + 1)) l.length = sumTo (fun i => wr l i + if l.getD i 0 < x then 1 else 0) l.length := sumTo_congr _ fun i _ => by
      unfold wr
      rw [List.take_succ_cons, List.getD_cons_succ, more_cons]
    rw [h1, h2, h3, h4, sumTo_add, sum_less, ih]
    omega

theorem cd_le {p : List Int} {i : Nat} : 0 ≤ cd p i ∧ cd p i ≤ p.length := by
  refine ⟨less_nonneg _ _, Int.le_trans (less_le _ _) ?_⟩
  rw [List.length_drop]; omega

theorem sum_bound {c : Int} : ∀ {l : List Int}, (∀ x ∈ l, 0 ≤ x ∧ x ≤ c) → 0 ≤ l.sum ∧ l.sum ≤ l.length * c
  | [], _ => by simp
  | a :: l, h => by
    have h1 := sum_bound (c := c) (l := l) fun x hx => h x (by simp [hx])
    have h2 := h a (by simp)
    rw [List.sum_cons, List.length_cons]
    have : ((l.length + 1 : Nat) : Int) * c = l.length * c + c := by rw [Int.natCast_add, Int.add_mul]; simp
    omega

theorem falls_sum {p : List Int} {n : Nat} (h : n ≤ 40) : 0 ≤ (falls p n).sum ∧ (falls p n).sum ≤ 1600 := by
  have h1 := sum_bound (c := 40) (l := falls p n) fun x hx => by have := falls_mem hx; omega
  have h2 := falls_length p n
  omega

/-! ### The inverse -/

def invr (p : List Int) : List Int := (iota p.length).map fun n => (p.idxOf n : Int) + 1
@[simp] theorem invr_length (p : List Int) : (invr p).length = p.length := by simp [invr]
theorem invr_getD {p : List Int} {i : Nat} (h : i < p.length) : (invr p).getD i 0 = (p.idxOf ((i : Int) + 1) : Int) + 1 := by
  rw [getD_lt 0 (by simpa using h)]
  simp [invr, iota]

theorem invr_of {p out : List Int} (hp : isPerm p) (hl : out.length = p.length) (h : ∀ j, j < p.length → out.getD (p.getD j 0 - 1).toNat 0 = (j : Int) + 1) : out = invr p := by
  refine ext_getD 0 (by simpa using hl) fun i hi => ?_
  obtain ⟨h1, h2⟩ := idxOf_spec (hp i (by omega))
  have := h _ h1
  rw [h2, show ((i : Int) + 1 - 1).toNat = i by omega] at this
  rw [this, invr_getD (by omega)]

theorem invr_take {p : List Int} {i : Nat} (h : i < p.length) : (invr p).take (i + 1) = (invr p).take i ++ [(p.idxOf ((i : Int) + 1) : Int) + 1] := by
  rw [take_succ_getD 0 (by simpa using h), invr_getD h]

/-! ### From codes -/

def upOne (n x : Int) : Int := if n < x then x + 1 else x

def ofCode : List Int → List Int
  | [] => []
  | n :: c => (n + 1) :: (ofCode c).map (upOne n)

@[simp] theorem ofCode_length : ∀ c : List Int, (ofCode c).length = c.length
  | [] => rfl
  | n :: c => by simp [ofCode, ofCode_length c]

def codeOK : List Int → Prop
  | [] => True
  | n :: c => 0 ≤ n ∧ n ≤ c.length ∧ codeOK c

theorem ofCode_pos : ∀ c : List Int, codeOK c → ∀ x ∈ ofCode c, 1 ≤ x ∧ x ≤ c.length
  | [], _, x, h => by cases h
  | n :: c, hc, x, h => by
    simp only [ofCode, List.mem_cons, List.mem_map] at h
    obtain ⟨h0, h1, h2⟩ := hc
    rw [List.length_cons]
    rcases h with rfl | ⟨y, hy, rfl⟩
    · omega
    · have := ofCode_pos c h2 y hy
      unfold upOne
      split <;> omega

/-- Each time the number at that place is taken away. -/
def taken : List Int → List Int → List Int
  | _, [] => []
  | left, n :: c => left.getD n.toNat 0 :: taken (left.eraseIdx n.toNat) c

theorem eraseIdx_getD {l : List Int} {n i : Nat} : (l.eraseIdx n).getD i 0 = if i < n then l.getD i 0 else l.getD (i + 1) 0 := by
  simp only [List.getD_eq_getElem?_getD, List.getElem?_eraseIdx]
  split <;> rfl

theorem taken_eq : ∀ (c left : List Int), codeOK c → left.length = c.length → taken left c = (ofCode c).map fun x => left.getD (x - 1).toNat 0
  | [], _, _, _ => rfl
  | n :: c, left, hc, hl => by
    obtain ⟨h0, h1, h2⟩ := hc
    rw [List.length_cons] at hl
    simp only [taken, ofCode, List.map_cons, List.map_map]
    rw [show (n + 1 - 1).toNat = n.toNat by omega, taken_eq c (left.eraseIdx n.toNat) h2 (by rw [List.length_eraseIdx]; split <;> omega)]
    congr 1
    apply List.map_congr_left
    intro x hx
    have hp := ofCode_pos c h2 x hx
    simp only [Function.comp, eraseIdx_getD, upOne]
    by_cases h : n < x
    · rw [if_neg (by omega), if_pos h, show (x - 1).toNat + 1 = (x + 1 - 1).toNat by omega]
    · rw [if_pos (by omega), if_neg h]

theorem taken_iota (c : List Int) (h : codeOK c) : taken (iota c.length) c = ofCode c := by
  rw [taken_eq c _ h (by simp)]
  have : ∀ x ∈ ofCode c, (fun x => (iota c.length).getD (x - 1).toNat 0) x = id x := fun x hx => by
    have := ofCode_pos c h x hx
    simp only [id]
    rw [iota_getD (by omega)]
    omega
  rw [List.map_congr_left this, List.map_id]

theorem codeOK_iff : ∀ c : List Int, codeOK c ↔ ∀ i : Nat, i < c.length → 0 ≤ c.getD i 0 ∧ c.getD i 0 ≤ c.length - 1 - i
  | [] => by simp [codeOK]
  | n :: c => by
    simp only [codeOK, codeOK_iff c, List.length_cons]
    constructor
    · rintro ⟨h0, h1, h2⟩ i hi
      cases i with
      | zero => simp; omega
      | succ i => have := h2 i (by omega); rw [List.getD_cons_succ]; omega
    · intro h
      refine ⟨by have := h 0 (by omega); simp at this; omega, by have := h 0 (by omega); simp at this; omega, fun i hi => ?_⟩
      have := h (i + 1) (by omega)
      rw [List.getD_cons_succ] at this
      omega

instance decCodeOK : (c : List Int) → Decidable (codeOK c)
  | [] => isTrue trivial
  | n :: c => by
    have := decCodeOK c
    unfold codeOK
    infer_instance

theorem codeOK_drop : ∀ {c : List Int} (i : Nat), codeOK c → codeOK (c.drop i)
  | [], i, _ => by simp [codeOK]
  | _ :: _, 0, h => h
  | _ :: c, i + 1, h => codeOK_drop (c := c) i h.2.2

def codeE (c : List Int) : Int := if 40 < c.length then 2 else if codeOK c then 0 else 1

end Fer
