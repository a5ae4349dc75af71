/- Bruhat's order, by counts and by lists put in order. No program in sight. -/
import Derived.Test.YtbahdhedegpbbaaFerMb
namespace Fer

/-- Of the first m numbers of l how many are at least k. -/
def atl (l : List Int) (m : Nat) (k : Int) : Int := ((l.take m).countP fun x => decide (k ≤ x) : Nat)

theorem atl_zero (l : List Int) (k : Int) : atl l 0 k = 0 := by simp [atl]
theorem atl_succ {l : List Int} {m : Nat} (k : Int) (h : m < l.length) : atl l (m + 1) k = atl l m k + (if k ≤ l.getD m 0 then 1 else 0) := by
  unfold atl
  rw [countP_take_succ _ 0 h]
  by_cases hk : k ≤ l.getD m 0
  · rw [if_pos (decide_eq_true hk), if_pos hk]; rfl
  · rw [if_neg (by rw [decide_eq_false hk]; exact Bool.false_ne_true), if_neg hk]; rfl

/-- Never fewer of b's than of a's. -/
def under (a b : List Int) : Prop := ∀ i : Nat, i < a.length → ∀ k : Nat, k < a.length → atl a (i + 1) ((k : Int) + 1) ≤ atl b (i + 1) ((k : Int) + 1)
instance (a b : List Int) : Decidable (under a b) := by unfold under; infer_instance

/-- The greatest first. -/
def Desc (l : List Int) : Prop := l.Pairwise fun x y => y ≤ x

theorem desc_getD {l : List Int} (h : Desc l) {i j : Nat} (hij : i ≤ j) (hj : j < l.length) : l.getD j 0 ≤ l.getD i 0 := by
  rcases Nat.lt_or_ge i j with hlt | hge
  · rw [getD_lt 0 hj, getD_lt 0 (by omega)]
    exact List.pairwise_iff_getElem.1 h i j (by omega) hj hlt
  · rw [show i = j by omega]; exact Int.le_refl _

theorem countP_mono_zip {t : Int} : ∀ (x y : List Int), x.length = y.length → (∀ k, k < x.length → x.getD k 0 ≤ y.getD k 0) → x.countP (fun u => decide (t ≤ u)) ≤ y.countP (fun u => decide (t ≤ u))
  | [], [], _, _ => Nat.le_refl _
  | [], _ :: _, h, _ => by simp at h
  | _ :: _, [], h, _ => by simp at h
  | u :: x, v :: y, h, hk => by
    have h0 := hk 0 (by simp)
    simp at h0
    have := countP_mono_zip (t := t) x y (by simpa using h) fun k hk' => by simpa using hk (k + 1) (by simpa using hk')
    simp only [List.countP_cons]
    by_cases hu : t ≤ u
    · have hv : t ≤ v := by omega
      simp only [hu, hv, decide_true, if_true]; omega
    · simp only [hu, decide_false, if_false, Bool.false_eq_true]
      omega

/-- The first ones of an ordered list, counted. -/
theorem countP_ge {t : Int} : ∀ (x : List Int) (k : Nat), k < x.length → (∀ j, j ≤ k → t ≤ x.getD j 0) → k + 1 ≤ x.countP (fun u => decide (t ≤ u))
  | [], _, h, _ => by simp at h
  | u :: x, 0, _, h => by
    have := h 0 (Nat.le_refl _)
    simp at this
    simp [List.countP_cons, this]
  | u :: x, k + 1, hk, h => by
    have h0 := h 0 (Nat.zero_le _)
    simp at h0
    have := countP_ge (t := t) x k (by simpa using hk) fun j hj => by simpa using h (j + 1) (by omega)
    simp only [List.countP_cons, h0, decide_true, if_true]
    omega

theorem countP_le {t : Int} : ∀ (x : List Int) (k : Nat), (∀ j, k ≤ j → j < x.length → x.getD j 0 < t) → x.countP (fun u => decide (t ≤ u)) ≤ k
  | [], _, _ => by simp
  | u :: x, 0, h => by
    have h0 := h 0 (Nat.le_refl _) (by simp)
    simp at h0
    have := countP_le (t := t) x 0 fun j _ hj => by simpa using h (j + 1) (by omega) (by simpa using hj)
    simp only [List.countP_cons, show ¬ t ≤ u by omega, decide_false, Bool.false_eq_true, if_false]
    omega
  | u :: x, k + 1, h => by
    have := countP_le (t := t) x k fun j hj hj' => by simpa using h (j + 1) (by omega) (by simpa using hj')
    simp only [List.countP_cons]
    split <;> omega

theorem atl_nonneg (l : List Int) (m : Nat) (k : Int) : 0 ≤ atl l m k := Int.natCast_nonneg _
theorem atl_le (l : List Int) (m : Nat) (k : Int) : atl l m k ≤ m := by
  unfold atl
  have h1 := List.countP_le_length (p := fun x => decide (k ≤ x)) (l := l.take m)
  have h2 := List.length_take_le m l
  omega

/-- A number is put to its place among the greater ones: all is in order up to i, except for what stands at k. -/
def Ins (out : List Int) (i k : Nat) : Prop := ∀ a b, a < b → b ≤ i → b ≠ k → out.getD b 0 ≤ out.getD a 0
def DescTo (out : List Int) (i : Nat) : Prop := ∀ a b, a < b → b < i → out.getD b 0 ≤ out.getD a 0

theorem Ins.start {out : List Int} {i : Nat} (h : DescTo out i) : Ins out i i := fun a b h1 h2 h3 => h a b h1 (by omega)
theorem Ins.stop {out : List Int} {i k : Nat} (h : Ins out i k) (hk : k = 0 ∨ out.getD k 0 ≤ out.getD (k - 1) 0) : DescTo out (i + 1) := by
  intro a b h1 h2
  by_cases e : b = k
  · subst e
    have hk : out.getD b 0 ≤ out.getD (b - 1) 0 := by rcases hk with h | h
                                                      · omega
                                                      · exact h
    by_cases e2 : a = b - 1
    · rw [e2]; exact hk
    · exact Int.le_trans hk (h a (b - 1) (by omega) (by omega) (by omega))
  · exact h a b h1 (by omega) e
theorem Ins.swap {out : List Int} {i k : Nat} (h : Ins out i (k + 1)) (hl : k + 1 < out.length) (hi : k + 1 ≤ i) (hk : out.getD k 0 < out.getD (k + 1) 0) : Ins (sws k out) i k := by
  intro a b h1 h2 h3
  rw [sws_getD _ _ _ hl, sws_getD _ _ _ hl, if_neg h3]
  by_cases e1 : b = k + 1
  · rw [if_pos e1]
    by_cases e2 : a = k
    · rw [if_pos e2]; omega
    · rw [if_neg e2, if_neg (by omega)]; exact h a k (by omega) (by omega) (by omega)
  · rw [if_neg e1]
    by_cases e2 : a = k
    · rw [if_pos e2]; exact h (k + 1) b (by omega) h2 e1
    · rw [if_neg e2]
      by_cases e3 : a = k + 1
      · rw [if_pos e3]; exact h k b (by omega) h2 e1
      · rw [if_neg e3]; exact h a b h1 h2 e1
theorem DescTo.all {out : List Int} (h : DescTo out out.length) : Desc out := by
  refine List.pairwise_iff_getElem.2 fun i j hi hj hij => ?_
  have := h i j hij hj
  rwa [getD_lt 0 hi, getD_lt 0 hj] at this

/-- One step of the order: the first i + 1 numbers, put in order, place by place; and by counts. -/
theorem place_iff {a b x y : List Int} {i n : Nat} (hi : i < a.length) (hab : a.length = b.length) (hn : ∀ u ∈ a, 1 ≤ u ∧ u ≤ n)
    (hx : x.Perm (a.take (i + 1))) (hy : y.Perm (b.take (i + 1))) (dx : Desc x) (dy : Desc y) :
    (∀ k, k < i + 1 → x.getD k 0 ≤ y.getD k 0) ↔ ∀ k : Nat, k < n → atl a (i + 1) ((k : Int) + 1) ≤ atl b (i + 1) ((k : Int) + 1) := by
  have lx : x.length = i + 1 := by rw [hx.length_eq, List.length_take]; omega
  have ly : y.length = i + 1 := by rw [hy.length_eq, List.length_take]; omega
  have cx : ∀ t, atl a (i + 1) t = (x.countP fun u => decide (t ≤ u) : Nat) := fun t => by unfold atl; rw [hx.countP_eq]
  have cy : ∀ t, atl b (i + 1) t = (y.countP fun u => decide (t ≤ u) : Nat) := fun t => by unfold atl; rw [hy.countP_eq]
  constructor
  · intro h k _
    rw [cx, cy]
    exact Int.ofNat_le.2 (countP_mono_zip x y (by omega) fun k hk => h k (by omega))
  · intro h k hk
    by_cases hle : x.getD k 0 ≤ y.getD k 0
    · exact hle
    · exfalso
      have hm : x.getD k 0 ∈ a := List.mem_of_mem_take (hx.mem_iff.1 (getD_mem 0 (by omega)))
      have hr := hn _ hm
      have := h (x.getD k 0 - 1).toNat (by omega)
      rw [show (((x.getD k 0 - 1).toNat : Int) + 1) = x.getD k 0 by omega, cx, cy] at this
      have h1 := countP_ge (t := x.getD k 0) x k (by omega) fun j hj => desc_getD dx hj (by omega)
      have h2 := countP_le (t := x.getD k 0) y k fun j hj hj' => by
        have := desc_getD dy hj hj'
        omega
      omega

end Fer
