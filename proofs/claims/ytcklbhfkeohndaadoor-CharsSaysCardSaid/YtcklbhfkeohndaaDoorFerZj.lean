import Derived.Test.YtcklbhfkeohndaaDoorFerZd
namespace Fer

def prodR (g : Nat → Int) : Nat → Int
  | 0 => 1
  | m + 1 => prodR g m * g m

theorem prodR_cong {g h : Nat → Int} : ∀ {m : Nat}, (∀ i, i < m → g i = h i) → prodR g m = prodR h m
  | 0, _ => rfl
  | m + 1, e => by rw [prodR, prodR, prodR_cong fun i hi => e i (by omega), e m (by omega)]
theorem prodR_one : ∀ {m : Nat}, prodR (fun _ => 1) m = 1
  | 0 => rfl
  | m + 1 => by rw [prodR, prodR_one]; rfl
theorem prodR_mul {g h : Nat → Int} : ∀ {m : Nat}, prodR (fun i => g i * h i) m = prodR g m * prodR h m
  | 0 => rfl
  | m + 1 => by
    rw [prodR, prodR, prodR, prodR_mul]
    generalize prodR g m = a
    generalize prodR h m = b
    rw [Int.mul_assoc, Int.mul_assoc, ← Int.mul_assoc b, Int.mul_comm b (g m), Int.mul_assoc (g m)]
theorem prodR_swap {f : Nat → Nat → Int} {n : Nat} : ∀ {m : Nat}, prodR (fun k => prodR (f k) n) m = prodR (fun i => prodR (fun k => f k i) m) n
  | 0 => prodR_one.symm
  | m + 1 => by rw [prodR, prodR_swap (m := m), ← prodR_mul]; rfl
theorem prodR_single {c : Nat} {x : Int} : ∀ {m : Nat}, prodR (fun k => if c = k then x else 1) m = if c < m then x else 1
  | 0 => rfl
  | m + 1 => by
    rw [prodR, prodR_single]
    by_cases h1 : c < m
    · rw [if_pos h1, if_neg (by omega), if_pos (by omega), Int.mul_one]
    · rw [if_neg h1]
      by_cases h2 : c = m
      · rw [if_pos h2, if_pos (by omega), Int.one_mul]
      · rw [if_neg h2, if_neg (by omega)]; rfl
theorem prodR_pos {g : Nat → Int} : ∀ {m : Nat}, (∀ i, i < m → 1 ≤ g i) → 1 ≤ prodR g m
  | 0, _ => Int.le_refl 1
  | m + 1, h => by
    have h1 := prodR_pos (g := g) (m := m) fun i hi => h i (by omega)
    have h2 := h m (by omega)
    rw [prodR]
    exact Int.le_trans (by omega) (Int.mul_le_mul h1 h2 (by omega) (by omega))
theorem prodR_mono {g : Nat → Int} {j : Nat} : ∀ {m : Nat}, (∀ i, i < m → 1 ≤ g i) → j ≤ m → prodR g j ≤ prodR g m
  | 0, _, hj => by rw [Nat.le_zero.1 hj]; exact Int.le_refl _
  | m + 1, h, hj => by
    by_cases e : j = m + 1
    · rw [e]; exact Int.le_refl _
    · have h1 := prodR_mono (m := m) (fun i hi => h i (by omega)) (by omega : j ≤ m)
      have h2 := h m (by omega)
      have h3 := prodR_pos (g := g) (m := m) fun i hi => h i (by omega)
      rw [prodR]
      have := Int.mul_le_mul (Int.le_refl (prodR g m)) h2 (by omega) (by omega)
      omega
theorem prodR_le {g : Nat → Int} {b : Nat} : ∀ {m : Nat}, (∀ i, i < m → 1 ≤ g i ∧ g i ≤ (b : Int)) → prodR g m ≤ ((b ^ m : Nat) : Int)
  | 0, _ => by simp [prodR]
  | m + 1, h => by
    have h1 := prodR_le (g := g) (m := m) fun i hi => h i (by omega)
    have h2 := h m (by omega)
    rw [prodR, Nat.pow_succ, Int.natCast_mul]
    exact Int.mul_le_mul h1 h2.2 (by omega) (by omega)

def cntP (p : List Int) (k : Int) (j : Nat) : Int := (((p.take j).filter fun x => x = k).length : Int)
theorem cntP_succ {p : List Int} {k : Int} {j : Nat} (h : j < p.length) : cntP p k (j + 1) = cntP p k j + if p.getD j 0 = k then 1 else 0 := by
  unfold cntP
  have e : p[j]?.toList = [p.getD j 0] := by
    rw [List.getD_eq_getElem?_getD, List.getElem?_eq_getElem h]; rfl
  rw [List.take_add_one, List.filter_append, List.length_append, e, List.filter_cons]
  split
  · rename_i hk
    rw [if_pos (by simpa using hk)]; simp
  · rename_i hk
    rw [if_neg (by simpa using hk)]; simp
theorem cntP_mono {p : List Int} {k : Int} {j : Nat} : 0 ≤ cntP p k j := Int.natCast_nonneg _
theorem filter_sum : ∀ {l : List Int} {k : Int}, (∀ a, a ∈ l → 1 ≤ a) → k * ((l.filter fun x => x = k).length : Int) ≤ sumL l
  | [], _, _ => by simp [sumL]
  | a :: l, k, h => by
    have h1 := filter_sum (l := l) (k := k) fun x hx => h x (List.mem_cons_of_mem _ hx)
    have h2 := h a List.mem_cons_self
    have e : sumL (a :: l) = a + sumL l := by simp [sumL]
    rw [e, List.filter_cons]
    split
    · rename_i hk
      have hk : a = k := by simpa using hk
      subst hk
      rw [List.length_cons, Int.natCast_add, Int.mul_add]
      omega
    · omega
theorem sumL_take {l : List Int} (h : ∀ a, a ∈ l → 1 ≤ a) (j : Nat) : sumL (l.take j) ≤ sumL l := by
  have e : sumL l = sumL (l.take j) + sumL (l.drop j) := by
    show l.sum = (l.take j).sum + (l.drop j).sum
    rw [← List.sum_append, List.take_append_drop]
  have := sumL_pos (l := l.drop j) fun a ha => h a (List.mem_of_mem_drop ha)
  omega
theorem cntP_le {p : List Int} {k : Int} {j : Nat} (h : ∀ a, a ∈ p → 1 ≤ a) : k * cntP p k j ≤ sumL p := by
  have h1 := filter_sum (l := p.take j) (k := k) fun a ha => h a (List.mem_of_mem_take ha)
  have h2 := sumL_take h j
  unfold cntP
  omega

def zf (p : List Int) (i : Nat) : Int := p.getD i 0 * cntP p (p.getD i 0) (i + 1)
def zden (p : List Int) (j : Nat) : Int := prodR (zf p) j
def zrow (p : List Int) (k : Int) (i : Nat) : Int := if p.getD i 0 = k then k * cntP p k (i + 1) else 1
def zall (p : List Int) (k : Nat) : Int := prodR (fun k => prodR (zrow p ((k : Int) + 1)) p.length) k

theorem zf_bound {p : List Int} (h : ∀ a, a ∈ p → 1 ≤ a) (hs : sumL p ≤ 12) {i : Nat} (hi : i < p.length) : 1 ≤ zf p i ∧ zf p i ≤ 12 := by
  have h1 := h _ (getD_mem 0 hi)
  have h2 := cntP_le (k := p.getD i 0) (j := i + 1) h
  have h3 : 1 ≤ cntP p (p.getD i 0) (i + 1) := by
    rw [cntP_succ hi, if_pos rfl]
    have := cntP_mono (p := p) (k := p.getD i 0) (j := i)
    omega
  unfold zf
  refine ⟨?_, by omega⟩
  exact Int.le_trans (by omega) (Int.mul_le_mul h1 h3 (by omega) (by omega))
theorem zrow_bound {p : List Int} (h : ∀ a, a ∈ p → 1 ≤ a) (hs : sumL p ≤ 12) {k : Int} {i : Nat} (hi : i < p.length) : 1 ≤ zrow p k i ∧ zrow p k i ≤ 12 := by
  unfold zrow
  split
  · rename_i e
    subst e
    exact zf_bound h hs hi
  · omega
theorem zall_eq {p : List Int} (h : ∀ a, a ∈ p → 1 ≤ a) (hs : sumL p ≤ 12) : zall p 12 = zden p p.length := by
  unfold zall zden
  rw [prodR_swap (f := fun k => zrow p ((k : Int) + 1))]
  refine prodR_cong fun i hi => ?_
  have h1 := h _ (getD_mem 0 hi)
  have h3 : 1 ≤ cntP p (p.getD i 0) (i + 1) := by
    rw [cntP_succ hi, if_pos rfl]
    have := cntP_mono (p := p) (k := p.getD i 0) (j := i)
    omega
  have h2 : p.getD i 0 ≤ sumL p := by
    have a1 := cntP_le (k := p.getD i 0) (j := i + 1) h
    have a2 := Int.mul_le_mul (Int.le_refl (p.getD i 0)) h3 (by omega) (by omega)
    omega
  obtain ⟨c, hc⟩ : ∃ c : Nat, p.getD i 0 = (c : Int) + 1 := ⟨(p.getD i 0 - 1).toNat, by omega⟩
  have e : (fun k : Nat => zrow p ((k : Int) + 1) i) = fun k => if c = k then zf p i else 1 := by
    funext k
    unfold zrow zf
    rw [hc]
    by_cases e : c = k
    · subst e; rw [if_pos rfl, if_pos rfl]
    · rw [if_neg (by omega), if_neg e]
  rw [e, prodR_single, if_pos (by omega)]
theorem zden_bound {p : List Int} (h : ∀ a, a ∈ p → 1 ≤ a) (hs : sumL p ≤ 12) {j : Nat} (hj : j ≤ p.length) : 1 ≤ zden p j ∧ zden p j ≤ 8916100448256 := by
  have hl := sumL_pos h
  have h1 := prodR_le (g := zf p) (b := 12) (m := j) fun i hi => zf_bound h hs (by omega)
  have h2 : 12 ^ j ≤ 12 ^ 12 := Nat.pow_le_pow_right (by decide) (by omega)
  have h3 : (12 ^ 12 : Nat) = 8916100448256 := by decide
  have h4 := prodR_pos (g := zf p) (m := j) fun i hi => (zf_bound h hs (by omega)).1
  unfold zden
  omega
theorem zall_bound {p : List Int} (h : ∀ a, a ∈ p → 1 ≤ a) (hs : sumL p ≤ 12) {k j : Nat} (hk : k < 12) (hj : j ≤ p.length) :
    1 ≤ zall p k * prodR (zrow p ((k : Int) + 1)) j ∧ zall p k * prodR (zrow p ((k : Int) + 1)) j ≤ 8916100448256 := by
  have a1 := prodR_mono (g := zrow p ((k : Int) + 1)) (j := j) (m := p.length) (fun i hi => (zrow_bound h hs hi).1) hj
  have a2 := prodR_pos (g := zrow p ((k : Int) + 1)) (m := j) fun i hi => (zrow_bound h hs (by omega)).1
  have a3 := prodR_pos (g := fun k => prodR (zrow p ((k : Int) + 1)) p.length) (m := k) fun k' _ => prodR_pos fun i hi => (zrow_bound h hs hi).1
  have a4 := prodR_mono (g := fun k => prodR (zrow p ((k : Int) + 1)) p.length) (j := k + 1) (m := 12) (fun k' _ => prodR_pos fun i hi => (zrow_bound h hs hi).1) (by omega)
  have a5 := zall_eq h hs
  have a6 := (zden_bound h hs (Nat.le_refl _)).2
  have e : zall p k = prodR (fun k => prodR (zrow p ((k : Int) + 1)) p.length) k := rfl
  rw [← e] at a3
  rw [prodR] at a4
  rw [← e] at a4
  have e12 : zall p 12 = prodR (fun k => prodR (zrow p ((k : Int) + 1)) p.length) 12 := rfl
  have b1 := Int.mul_le_mul (Int.le_refl (zall p k)) a1 (by omega) (by omega)
  have b2 := Int.mul_le_mul a3 a2 (by omega) (by omega)
  constructor <;> omega

theorem run_same {p : List Int} {j : Nat} (h : j + 1 < p.length) (e : p.getD j 0 = p.getD (j + 1) 0) : cntP p (p.getD (j + 1) 0) (j + 2) = cntP p (p.getD j 0) (j + 1) + 1 := by
  rw [cntP_succ h, if_pos rfl, e]
theorem run_new {p : List Int} {j : Nat} (h : j + 1 < p.length) (hd : ∀ i, i < j + 1 → p.getD (j + 1) 0 < p.getD i 0) : cntP p (p.getD (j + 1) 0) (j + 2) = 1 := by
  rw [cntP_succ h, if_pos rfl]
  have : ∀ i, i ≤ j + 1 → cntP p (p.getD (j + 1) 0) i = 0 := by
    intro i
    induction i with
    | zero => intro _; rfl
    | succ i ih =>
      intro hi
      have := hd i (by omega)
      rw [cntP_succ (by omega), ih (by omega), if_neg (by omega)]
      rfl
  rw [this _ (Nat.le_refl _)]; rfl
theorem run_first {p : List Int} (h : 0 < p.length) : cntP p (p.getD 0 0) 1 = 1 := by
  rw [cntP_succ h, if_pos rfl]; rfl

def facs : List Int := [1, 1, 2, 6, 24, 120, 720, 5040, 40320, 362880, 3628800, 39916800, 479001600]
def facR (n : Nat) : Int := prodR (fun i => (i : Int) + 2) (n - 1)
theorem facs_eq : ∀ n, n ≤ 12 → facs.getD n 0 = facR n := by decide
theorem facR_bound {m : Nat} (h : m ≤ 11) : 1 ≤ prodR (fun i => (i : Int) + 2) m ∧ prodR (fun i => (i : Int) + 2) m ≤ 479001600 := by
  have : ∀ m, m ≤ 11 → 1 ≤ prodR (fun i => (i : Int) + 2) m ∧ prodR (fun i => (i : Int) + 2) m ≤ 479001600 := by decide
  exact this m h
def clsV (p : List Int) : Int := facs.getD (sumL p).toNat 0 / zden p p.length
theorem cls_step {a : Int} {p : List Int} {j : Nat} (hp : ∀ a, a ∈ p → 1 ≤ a) (hj : j < p.length) (hz : 0 ≤ zden p j) :
    a / zden p j / p.getD j 0 / cntP p (p.getD j 0) (j + 1) = a / zden p (j + 1) := by
  have h1 := hp _ (getD_mem 0 hj)
  have h2 : 0 ≤ zden p j * p.getD j 0 := Int.mul_nonneg hz (by omega)
  rw [Int.ediv_ediv_of_nonneg hz, Int.ediv_ediv_of_nonneg h2, Int.mul_assoc]
  rfl
end Fer
