import Derived.Test.YtcklbhfkeohndaaDoorFerMa
namespace Fer

def sumR (g : Nat → Int) : Nat → Int
  | 0 => 0
  | n + 1 => sumR g n + g n
theorem sumR_congr {g h : Nat → Int} : ∀ {n : Nat}, (∀ i, i < n → g i = h i) → sumR g n = sumR h n
  | 0, _ => rfl
  | n + 1, e => by
    unfold sumR
    rw [sumR_congr fun i hi => e i (by omega), e n (by omega)]
theorem sumR_add (g h : Nat → Int) : ∀ n, sumR (fun i => g i + h i) n = sumR g n + sumR h n
  | 0 => rfl
  | n + 1 => by
    simp only [sumR]
    rw [sumR_add g h n]
    omega
theorem sumR_zero : ∀ n, sumR (fun _ => 0) n = 0
  | 0 => rfl
  | n + 1 => by simp only [sumR]; rw [sumR_zero n]; rfl
theorem sumR_neg (g : Nat → Int) : ∀ n, sumR (fun i => - g i) n = - sumR g n
  | 0 => rfl
  | n + 1 => by
    simp only [sumR]
    rw [sumR_neg g n]
    omega
theorem sumR_comm (g : Nat → Nat → Int) (m : Nat) : ∀ n, sumR (fun i => sumR (g i) m) n = sumR (fun j => sumR (fun i => g i j) n) m
  | 0 => (sumR_zero m).symm
  | n + 1 => by
    show sumR (fun i => sumR (g i) m) n + sumR (g n) m = sumR (fun j => sumR (fun i => g i j) n + g n j) m
    rw [sumR_comm g m n, sumR_add]
theorem sumR_swap (g : Nat → Int) (j : Nat) : ∀ n, j + 1 < n → sumR (fun i => g (if i = j then j + 1 else if i = j + 1 then j else i)) n = sumR g n
  | 0, h => by omega
  | 1, h => by omega
  | n + 2, h => by
    by_cases e : j = n
    · subst e
      simp only [sumR]
      rw [sumR_congr (g := fun i => g (if i = j then j + 1 else if i = j + 1 then j else i)) (h := g) fun i hi => by rw [if_neg (by omega), if_neg (by omega)]]
      simp only [if_true, show ¬ (j + 1 = j) by omega, if_false]
      omega
    · show sumR (fun i => g (if i = j then j + 1 else if i = j + 1 then j else i)) (n + 1) + _ = sumR g (n + 1) + g (n + 1)
      rw [sumR_swap g j (n + 1) (by omega)]
      simp only []
      rw [if_neg (by omega), if_neg (by omega)]


def sgn (n : Nat) : Int := if n % 2 = 0 then 1 else -1
theorem sgn_succ (n : Nat) : sgn (n + 1) = - sgn n := by
  unfold sgn
  by_cases h : n % 2 = 0
  · rw [if_pos h, if_neg (by omega)]
  · rw [if_neg h, if_pos (by omega)]; rfl
def cntGt (a : Int) (l : List Int) : Nat := (l.filter fun b => decide (a < b)).length
def invN : List Int → Nat
  | [] => 0
  | a :: l => cntGt a l + invN l
theorem cntGt_perm {a : Int} {l l' : List Int} (h : l.Perm l') : cntGt a l = cntGt a l' := (h.filter _).length_eq
theorem inv_swap : ∀ (u : List Int) {a b : Int} (v : List Int), a < b → invN (u ++ a :: b :: v) = invN (u ++ b :: a :: v) + 1
  | [], a, b, v, h => by
    simp only [List.nil_append, invN, cntGt, List.filter_cons]
    rw [if_pos (by simpa using h), if_neg (by simp; omega)]
    simp only [List.length_cons]
    omega
  | c :: u, a, b, v, h => by
    simp only [List.cons_append, invN]
    rw [inv_swap u v h, cntGt_perm (a := c) (List.Perm.append_left u (List.Perm.swap b a v))]
    omega

def idx (n : Nat) : List Int := (List.range n).map fun i : Nat => (i : Int)
theorem idx_nodup (n : Nat) : (idx n).Nodup := by
  unfold idx
  rw [List.nodup_iff_pairwise_ne, List.pairwise_map]
  exact (List.nodup_iff_pairwise_ne.1 List.nodup_range).imp fun hab e => hab (by omega)
open Classical in
noncomputable def base (x : List Int) : Int := if x.Perm (idx x.length) then sgn (invN x) else 0

def Alt (f : List Int → Int) : Prop := ∀ (u : List Int) (a b : Int) (v : List Int), f (u ++ a :: b :: v) = - f (u ++ b :: a :: v)

theorem alt_base : Alt base := fun u a b v => by
  have hp : (u ++ a :: b :: v).Perm (u ++ b :: a :: v) := List.Perm.append_left u (List.Perm.swap b a v)
  have hl := hp.length_eq
  unfold base
  rw [hl]
  by_cases h : (u ++ b :: a :: v).Perm (idx (u ++ b :: a :: v).length)
  · rw [if_pos h, if_pos (hp.trans h)]
    have hn := h.nodup_iff.2 (idx_nodup _)
    have hne : a ≠ b := fun e => by
      subst e
      have := (List.nodup_append.1 hn).2.1
      simp at this
    rcases Int.lt_or_gt_of_ne hne with h1 | h1
    · rw [inv_swap u v h1, sgn_succ]
    · rw [inv_swap u v h1, sgn_succ, Int.neg_neg]
  · rw [if_neg h, if_neg fun q => h (hp.symm.trans q)]
    rfl


def upd (x : List Int) (i : Nat) (k : Int) : List Int := x.set i (x.getD i 0 - k)
theorem upd_len (x : List Int) (i : Nat) (k : Int) : (upd x i k).length = x.length := by simp [upd]
def opT (k : Int) (f : List Int → Int) (x : List Int) : Int := sumR (fun i => f (upd x i k)) x.length

theorem upd_comm (x : List Int) {i j : Nat} (a b : Int) (hi : i < x.length) (hj : j < x.length) : upd (upd x i a) j b = upd (upd x j b) i a := by
  unfold upd
  by_cases e : i = j
  · subst e
    rw [List.set_set, List.set_set]
    congr 1
    simp only [List.getD_eq_getElem?_getD, List.getElem?_set, if_pos hi, if_true, Option.getD_some]
    omega
  · rw [List.set_comm _ _ e]
    congr 2
    · simp [List.getD_eq_getElem?_getD, List.getElem?_set, e]
    · simp [List.getD_eq_getElem?_getD, List.getElem?_set, Ne.symm e]

theorem opT_comm (a b : Int) (f : List Int → Int) (x : List Int) : opT a (opT b f) x = opT b (opT a f) x := by
  unfold opT
  rw [sumR_congr (h := fun i => sumR (fun j => f (upd (upd x i a) j b)) x.length) fun i _ => by rw [upd_len]]
  rw [sumR_congr (g := fun i => sumR (fun j => f (upd (upd x i b) j a)) (upd x i b).length) (h := fun i => sumR (fun j => f (upd (upd x j a) i b)) x.length) fun i hi => by
    rw [upd_len]
    exact sumR_congr fun j hj => by rw [upd_comm x b a hi hj]]
  exact sumR_comm (fun i j => f (upd (upd x i a) j b)) x.length x.length

theorem upd_at0 (u v : List Int) (a b k : Int) : upd (u ++ a :: b :: v) u.length k = u ++ (a - k) :: b :: v := by
  unfold upd
  rw [List.set_append_right _ _ (Nat.le_refl _), Nat.sub_self, List.getD_eq_getElem?_getD, List.getElem?_append_right (Nat.le_refl _), Nat.sub_self]
  rfl
theorem upd_at1 (u v : List Int) (a b k : Int) : upd (u ++ a :: b :: v) (u.length + 1) k = u ++ a :: (b - k) :: v := by
  unfold upd
  rw [List.set_append_right _ _ (by omega), show u.length + 1 - u.length = 1 by omega, List.getD_eq_getElem?_getD, List.getElem?_append_right (by omega), show u.length + 1 - u.length = 1 by omega]
  rfl

theorem alt_T {k : Int} {f : List Int → Int} (hf : Alt f) : Alt (opT k f) := fun u a b v => by
  unfold opT
  have hl : (u ++ a :: b :: v).length = (u ++ b :: a :: v).length := by simp
  rw [← hl, ← sumR_neg, ← sumR_swap (fun i => - f (upd (u ++ b :: a :: v) i k)) u.length _ (by simp)]
  refine sumR_congr fun i hi => ?_
  by_cases h0 : i = u.length
  · subst h0
    rw [if_pos rfl, upd_at0, upd_at1]
    exact hf _ _ _ _
  · rw [if_neg h0]
    by_cases h1 : i = u.length + 1
    · subst h1
      rw [if_pos rfl, upd_at1, upd_at0]
      exact hf _ _ _ _
    · rw [if_neg h1]
      unfold upd
      by_cases h2 : i < u.length
      · rw [List.set_append_left _ _ h2, List.set_append_left _ _ h2]
        have e : (u ++ b :: a :: v).getD i 0 = (u ++ a :: b :: v).getD i 0 := by
          simp only [List.getD_eq_getElem?_getD, List.getElem?_append_left h2]
        rw [e]
        exact hf _ _ _ _
      · obtain ⟨j, rfl⟩ : ∃ j, i = u.length + (j + 2) := ⟨i - u.length - 2, by omega⟩
        rw [List.set_append_right _ _ (by omega), List.set_append_right _ _ (by omega), show u.length + (j + 2) - u.length = j + 2 by omega]
        have e : (u ++ b :: a :: v).getD (u.length + (j + 2)) 0 = (u ++ a :: b :: v).getD (u.length + (j + 2)) 0 := by
          simp only [List.getD_eq_getElem?_getD, List.getElem?_append_right (show u.length ≤ u.length + (j + 2) by omega), show u.length + (j + 2) - u.length = j + 2 by omega]
          rfl
        rw [e]
        exact hf _ _ _ _


theorem alt_pass {f : List Int → Int} (hf : Alt f) (a : Int) : ∀ (w u v : List Int), f (u ++ a :: (w ++ v)) = sgn w.length * f (u ++ w ++ a :: v)
  | [], u, v => by simp [sgn]
  | b :: w, u, v => by
    rw [List.cons_append, hf u a b (w ++ v)]
    have := alt_pass hf a w (u ++ [b]) v
    rw [List.append_assoc, List.append_assoc] at this
    simp only [List.singleton_append, List.cons_append, List.nil_append] at this
    rw [this, List.length_cons, sgn_succ, Int.neg_mul]
    simp
theorem alt_dup {f : List Int → Int} (hf : Alt f) (a : Int) (u w v : List Int) : f (u ++ a :: (w ++ a :: v)) = 0 := by
  rw [alt_pass hf a w u (a :: v)]
  have := hf (u ++ w) a a v
  rw [show f (u ++ w ++ a :: a :: v) = 0 by omega, Int.mul_zero]

def Neg0 (f : List Int → Int) : Prop := ∀ x : List Int, (∃ a ∈ x, a < 0) → f x = 0
theorem neg_base : Neg0 base := fun x ⟨a, ha, h⟩ => by
  unfold base
  rw [if_neg fun hp => ?_]
  have := hp.mem_iff.1 ha
  unfold idx at this
  obtain ⟨i, _, rfl⟩ := List.mem_map.1 this
  omega
theorem neg_T {k : Int} (hk : 0 ≤ k) {f : List Int → Int} (hf : Neg0 f) : Neg0 (opT k f) := fun x ⟨a, ha, h⟩ => by
  unfold opT
  rw [sumR_congr (h := fun _ => 0) fun i hi => hf _ ?_, sumR_zero]
  obtain ⟨j, hj⟩ := List.getElem?_of_mem ha
  have hjl := (List.getElem?_eq_some_iff.1 hj).1
  by_cases e : i = j
  · subst e
    refine ⟨x.getD i 0 - k, ?_, ?_⟩
    · unfold upd; exact List.mem_set hjl _
    · rw [List.getD_eq_getElem?_getD, hj, Option.getD_some]; omega
  · refine ⟨a, ?_, h⟩
    unfold upd
    refine List.mem_of_getElem? (i := j) ?_
    rw [List.getElem?_set, if_neg e, hj]

noncomputable def fA : List Int → List Int → Int
  | [] => base
  | k :: m => opT k (fA m)
theorem alt_A : ∀ m, Alt (fA m)
  | [] => alt_base
  | _ :: m => alt_T (alt_A m)
theorem neg_A : ∀ m : List Int, (∀ k ∈ m, 0 ≤ k) → Neg0 (fA m)
  | [], _ => neg_base
  | k :: m, h => neg_T (h k (List.mem_cons_self)) (neg_A m fun j hj => h j (List.mem_cons_of_mem _ hj))
theorem A_perm {m m' : List Int} (h : m.Perm m') : ∀ x, fA m x = fA m' x := by
  induction h with
  | nil => exact fun _ => rfl
  | cons k _ ih => exact fun x => by unfold fA opT; exact sumR_congr fun i _ => ih _
  | swap a b l => exact fun x => opT_comm _ _ _ x
  | trans _ _ i1 i2 => exact fun x => (i1 x).trans (i2 x)


def lift (x : List Int) : List Int := x.map (· + 1) ++ [0]
theorem lift_len (x : List Int) : (lift x).length = x.length + 1 := by simp [lift]
theorem base_lift (x : List Int) : base (lift x) = base x := by
  have hidx : ∀ n, (idx (n + 1)).Perm (lift (idx n)) := fun n => by
    unfold idx lift
    rw [List.range_succ_eq_map, List.map_cons, List.map_map, List.map_map]
    refine List.Perm.trans ?_ (List.perm_append_comm (l₁ := [(0 : Int)]))
    refine List.Perm.of_eq ?_
    rw [List.singleton_append]
    congr 1
  by_cases h : x.Perm (idx x.length)
  · have h2 : (lift x).Perm (idx (lift x).length) := by
      rw [lift_len]
      exact ((h.map (· + 1)).append_right [0]).trans (hidx _).symm
    unfold base
    rw [if_pos h, if_pos h2]
    congr 1
    have hpos : ∀ a ∈ x, 0 ≤ a := fun a ha => by
      have := h.mem_iff.1 ha
      unfold idx at this
      obtain ⟨i, _, rfl⟩ := List.mem_map.1 this
      omega
    have key : ∀ y : List Int, (∀ a ∈ y, 0 ≤ a) → invN (lift y) = invN y := by
      intro y
      induction y with
      | nil => intro _; simp [lift, invN, cntGt]
      | cons a y ih =>
        intro hy
        have : lift (a :: y) = (a + 1) :: lift y := rfl
        rw [this]
        unfold invN
        rw [ih fun b hb => hy b (List.mem_cons_of_mem _ hb)]
        congr 1
        have ha := hy a List.mem_cons_self
        unfold cntGt lift
        rw [List.filter_append, List.length_append, List.filter_map, List.length_map]
        have e1 : ([0] : List Int).filter (fun b => decide (a + 1 < b)) = [] := by
          rw [List.filter_cons, if_neg (by simp; omega)]; rfl
        rw [e1, List.length_nil, Nat.add_zero]
        congr 1
        refine List.filter_congr fun b _ => ?_
        simp only [Function.comp]
        exact decide_eq_decide.2 (by omega)
    exact key x hpos
  · unfold base
    rw [if_neg h, if_neg fun h2 => h ?_]
    rw [lift_len] at h2
    have h3 := h2.trans (hidx _)
    unfold lift at h3
    have h4 := (List.perm_append_right_iff [0]).1 h3
    have h5 := h4.map (· - 1)
    rw [List.map_map, List.map_map] at h5
    have e : ∀ l : List Int, l.map ((· - 1) ∘ (· + 1)) = l := fun l => by
      rw [List.map_congr_left (g := id) fun a _ => by simp [Function.comp], List.map_id]
    rwa [e, e] at h5
theorem A_lift : ∀ (m : List Int), (∀ k ∈ m, 1 ≤ k) → ∀ x, fA m (lift x) = fA m x
  | [], _, x => base_lift x
  | k :: m, h, x => by
    have hk := h k List.mem_cons_self
    have hm : ∀ j ∈ m, 1 ≤ j := fun j hj => h j (List.mem_cons_of_mem _ hj)
    show sumR _ (lift x).length = sumR _ x.length
    rw [lift_len]
    show sumR (fun i => fA m (upd (lift x) i k)) x.length + fA m (upd (lift x) x.length k) = _
    have e1 : fA m (upd (lift x) x.length k) = 0 := neg_A m (fun j hj => by have := hm j hj; omega) _ ⟨0 - k, by
      unfold upd
      have : (lift x).getD x.length 0 = 0 := by
        unfold lift
        rw [List.getD_eq_getElem?_getD, List.getElem?_append_right (by simp)]
        simp
      rw [this]
      exact List.mem_set (by rw [lift_len]; exact Nat.lt_succ_self _) _, by omega⟩
    rw [e1, Int.add_zero]
    refine sumR_congr fun i hi => ?_
    rw [← A_lift m hm (upd x i k)]
    congr 1
    unfold upd lift
    rw [List.set_append_left _ _ (by simpa using hi), List.map_set]
    congr 2
    simp only [List.getD_eq_getElem?_getD, List.getElem?_append_left (show i < (x.map (· + 1)).length by simpa using hi), List.getElem?_map, List.getElem?_eq_getElem hi, Option.map_some, Option.getD_some]
    omega

end Fer

namespace Fer

def beads : List Int → List Int
  | [] => []
  | a :: p => (a + p.length) :: beads p
def unb : List Int → List Int
  | [] => []
  | b :: l => (b - l.length) :: unb l
theorem beads_len : ∀ p, (beads p).length = p.length
  | [] => rfl
  | a :: p => by simp [beads, beads_len p]
theorem unb_len : ∀ l, (unb l).length = l.length
  | [] => rfl
  | a :: l => by simp [unb, unb_len l]
theorem beads_unb : ∀ l, beads (unb l) = l
  | [] => rfl
  | b :: l => by
    simp only [unb, beads, unb_len, beads_unb l]
    congr 1
    omega
theorem beads_lift : ∀ p, beads (p ++ [0]) = lift (beads p)
  | [] => rfl
  | a :: p => by
    rw [List.cons_append]
    unfold beads
    rw [beads_lift p]
    unfold lift
    rw [List.map_cons, List.cons_append, List.length_append, List.length_singleton]
    congr 1
    omega

structure PartL (p : List Int) : Prop where
  pos : ∀ a ∈ p, 1 ≤ a
  fall : p.Pairwise (fun a b => b ≤ a)

def Down (l : List Int) : Prop := l.Pairwise (fun a b => b < a)
theorem down_beads : ∀ {p : List Int}, p.Pairwise (fun a b => b ≤ a) → Down (beads p)
  | [], _ => List.Pairwise.nil
  | a :: p, h => by
    obtain ⟨h1, h2⟩ := List.pairwise_cons.1 h
    refine List.pairwise_cons.2 ⟨?_, down_beads h2⟩
    have key : ∀ (q : List Int) (c : Int), (∀ b ∈ q, b ≤ c) → ∀ b ∈ beads q, b < c + q.length := by
      intro q
      induction q with
      | nil => intro c _ b hb; cases hb
      | cons d q ih =>
        intro c hc b hb
        rcases List.mem_cons.1 hb with rfl | hb
        · have := hc d List.mem_cons_self
          simp only [List.length_cons]
          omega
        · have := ih c (fun x hx => hc x (List.mem_cons_of_mem _ hx)) b hb
          simp only [List.length_cons]
          omega
    exact key p a h1
theorem beads_nonneg : ∀ {p : List Int}, (∀ a ∈ p, 0 ≤ a) → ∀ b ∈ beads p, 0 ≤ b
  | [], _, b, hb => by cases hb
  | a :: p, h, b, hb => by
    rcases List.mem_cons.1 hb with rfl | hb
    · have := h a List.mem_cons_self; omega
    · exact beads_nonneg (fun x hx => h x (List.mem_cons_of_mem _ hx)) b hb
theorem unb_fall : ∀ {l : List Int}, Down l → (unb l).Pairwise (fun a b => b ≤ a)
  | [], _ => List.Pairwise.nil
  | b :: l, h => by
    obtain ⟨h1, h2⟩ := List.pairwise_cons.1 h
    refine List.pairwise_cons.2 ⟨?_, unb_fall h2⟩
    have key : ∀ (q : List Int) (c : Int), (∀ b ∈ q, b < c) → Down q → ∀ a ∈ unb q, a ≤ c - q.length := by
      intro q
      induction q with
      | nil => intro c _ _ a ha; cases ha
      | cons d q ih =>
        intro c hc hd a ha
        obtain ⟨e1, e2⟩ := List.pairwise_cons.1 hd
        have hdc := hc d List.mem_cons_self
        rcases List.mem_cons.1 ha with rfl | ha
        · simp only [List.length_cons]
          omega
        · have := ih d e1 e2 a ha
          simp only [List.length_cons]
          omega
    exact key l b h1 h2
theorem unb_nonneg : ∀ {l : List Int}, Down l → (∀ b ∈ l, 0 ≤ b) → ∀ a ∈ unb l, 0 ≤ a
  | [], _, _, a, ha => by cases ha
  | b :: l, h, h0, a, ha => by
    obtain ⟨h1, h2⟩ := List.pairwise_cons.1 h
    rcases List.mem_cons.1 ha with rfl | ha
    · have key : ∀ (q : List Int) (c : Int), (∀ b ∈ q, b < c) → Down q → (∀ b ∈ q, 0 ≤ b) → 0 ≤ c → (q.length : Int) ≤ c := by
        intro q
        induction q with
        | nil => intro c _ _ _ h; simpa using h
        | cons d q ih =>
          intro c hc hd hn _
          obtain ⟨e1, e2⟩ := List.pairwise_cons.1 hd
          have := ih d e1 e2 (fun x hx => hn x (List.mem_cons_of_mem _ hx)) (hn d List.mem_cons_self)
          have := hc d List.mem_cons_self
          simp only [List.length_cons]
          omega
      have := key l b h1 h2 (fun x hx => h0 x (List.mem_cons_of_mem _ hx)) (h0 b List.mem_cons_self)
      omega
    · exact unb_nonneg h2 (fun x hx => h0 x (List.mem_cons_of_mem _ hx)) a ha

theorem pos_zero : ∀ {q : List Int}, q.Pairwise (fun a b => b ≤ a) → (∀ a ∈ q, 0 ≤ a) → ∃ z, q = q.filter (fun a => decide (0 < a)) ++ List.replicate z 0
  | [], _, _ => ⟨0, rfl⟩
  | a :: q, h, h0 => by
    obtain ⟨h1, h2⟩ := List.pairwise_cons.1 h
    obtain ⟨z, hz⟩ := pos_zero h2 fun x hx => h0 x (List.mem_cons_of_mem _ hx)
    by_cases ha : 0 < a
    · refine ⟨z, ?_⟩
      rw [List.filter_cons, if_pos (by simpa using ha), List.cons_append, ← hz]
    · have ha0 : a = 0 := by have := h0 a List.mem_cons_self; omega
      subst ha0
      have hall : ∀ b ∈ q, b = 0 := fun b hb => by
        have := h1 b hb
        have := h0 b (List.mem_cons_of_mem _ hb)
        omega
      refine ⟨q.length + 1, ?_⟩
      have hf : ((0 : Int) :: q).filter (fun a => decide (0 < a)) = [] := by
        refine List.filter_eq_nil_iff.2 fun b hb => ?_
        rcases List.mem_cons.1 hb with rfl | hb
        · simp
        · rw [hall b hb]; simp
      rw [hf, List.nil_append]
      refine List.eq_replicate_iff.2 ⟨by simp, fun b hb => ?_⟩
      rcases List.mem_cons.1 hb with rfl | hb
      · rfl
      · exact hall b hb
theorem part_filter {q : List Int} (h : q.Pairwise (fun a b => b ≤ a)) : PartL (q.filter fun a => decide (0 < a)) :=
  ⟨fun a ha => by have := (List.mem_filter.1 ha).2; simp at this; omega, h.filter _⟩

def sumL (l : List Int) : Int := l.foldr (· + ·) 0
theorem sumL_append : ∀ (a b : List Int), sumL (a ++ b) = sumL a + sumL b
  | [], b => by simp [sumL]
  | x :: a, b => by
    have := sumL_append a b
    unfold sumL at *
    simp only [List.cons_append, List.foldr_cons, this]
    omega
theorem sumL_cons (a : Int) (l : List Int) : sumL (a :: l) = a + sumL l := rfl
theorem sumL_zero (z : Nat) : sumL (List.replicate z 0) = 0 := by
  induction z with
  | zero => rfl
  | succ z ih => rw [List.replicate_succ, sumL_cons, ih]; rfl
theorem sumL_pos : ∀ {l : List Int}, (∀ a ∈ l, 1 ≤ a) → (l.length : Int) ≤ sumL l
  | [], _ => by simp [sumL]
  | a :: l, h => by
    have := sumL_pos fun x hx => h x (List.mem_cons_of_mem _ hx)
    have := h a List.mem_cons_self
    rw [sumL_cons]
    simp only [List.length_cons]
    omega
def triB : Nat → Int
  | 0 => 0
  | n + 1 => n + triB n
theorem sum_beads : ∀ p, sumL (beads p) = sumL p + triB p.length
  | [] => rfl
  | a :: p => by
    have := sum_beads p
    simp only [beads, sumL_cons, List.length_cons, triB, this]
    omega


def stepL (p : List Int) (k : Int) (i : Nat) : Option (List Int × Int) :=
  if (beads p).getD i 0 - k < 0 ∨ (beads p).getD i 0 - k ∈ beads p then none else
  some ((unb ((beads p).take i ++ ((beads p).drop (i + 1)).takeWhile (fun b => decide ((beads p).getD i 0 - k < b)) ++ ((beads p).getD i 0 - k) :: ((beads p).drop (i + 1)).dropWhile (fun b => decide ((beads p).getD i 0 - k < b)))).filter (fun a => decide (0 < a)),
    ((((beads p).drop (i + 1)).takeWhile (fun b => decide ((beads p).getD i 0 - k < b))).length : Nat))
def strips (p : List Int) (k : Int) : List (List Int × Int) := (List.range p.length).reverse.filterMap (stepL p k)
def sgB (h x : Int) : Int := if h % 2 = 1 then -x else x
def chi : List Int → List Int → Int
  | _, [] => 1
  | p, k :: m => sumL ((strips p k).map fun s => sgB s.2 (chi s.1 m))

theorem sumL_range {β : Type} (g : Nat → Option β) (f : β → Int) : ∀ n, sumL (((List.range n).reverse.filterMap g).map f) = sumR (fun i => match g i with | none => 0 | some b => f b) n
  | 0 => rfl
  | n + 1 => by
    rw [List.range_succ, List.reverse_append, List.reverse_singleton, List.singleton_append]
    unfold sumR
    rw [← sumL_range g f n, List.filterMap_cons]
    cases g n with
    | none => simp
    | some b => simp only [List.map_cons, sumL_cons]; omega

theorem sgB_sgn (h : Nat) (x : Int) : sgB h x = sgn h * x := by
  unfold sgB sgn
  by_cases e : h % 2 = 0
  · rw [if_neg (by omega), if_pos e, Int.one_mul]
  · rw [if_pos (by omega), if_neg e]; omega

theorem upd_split {x : List Int} {i : Nat} (k : Int) (h : i < x.length) : upd x i k = x.take i ++ (x.getD i 0 - k) :: x.drop (i + 1) := by
  unfold upd
  rw [List.set_eq_take_append_cons_drop, if_pos h]

theorem step_some {p : List Int} {k : Int} {i : Nat} {q : List Int} {h : Int} (hp : PartL p) (hk : 1 ≤ k) (hi : i < p.length) (hs : stepL p k i = some (q, h)) :
    PartL q ∧ sumL q = sumL p - k ∧ 0 ≤ h ∧ ∀ m : List Int, (∀ j ∈ m, 1 ≤ j) → fA m (upd (beads p) i k) = sgB h (fA m (beads q)) := by
  have hbl := beads_len p
  have hdn := down_beads hp.fall
  have hnn := beads_nonneg fun a ha => by have := hp.pos a ha; omega
  have hib : i < (beads p).length := by omega
  unfold stepL at hs
  generalize hto : (beads p).getD i 0 - k = to at hs
  have hbi : (beads p).getD i 0 = (beads p)[i] := by rw [List.getD_eq_getElem?_getD, List.getElem?_eq_getElem hib]; rfl
  split at hs
  · cases hs
  rename_i hc
  simp only [Option.some.injEq, Prod.mk.injEq] at hs
  obtain ⟨rfl, rfl⟩ := hs
  generalize hw : ((beads p).drop (i + 1)).takeWhile (fun b => decide (to < b)) = w
  generalize hv : ((beads p).drop (i + 1)).dropWhile (fun b => decide (to < b)) = v
  have hwv : (beads p).drop (i + 1) = w ++ v := by rw [← hw, ← hv, List.takeWhile_append_dropWhile]
  have hsp : beads p = (beads p).take i ++ (beads p)[i] :: (w ++ v) := by
    rw [← hwv, ← List.drop_eq_getElem_cons hib, List.take_append_drop]
  have hw1 : ∀ b ∈ w, to < b := fun b hb => by
    have := List.all_takeWhile (p := fun b => decide (to < b)) (l := (beads p).drop (i + 1))
    rw [hw] at this
    have := List.all_eq_true.1 this b hb
    simpa using this
  have hdn' := hdn
  rw [hsp] at hdn'
  obtain ⟨d1, d2, d3⟩ := List.pairwise_append.1 hdn'
  obtain ⟨d4, d5⟩ := List.pairwise_cons.1 d2
  obtain ⟨d6, d7, d8⟩ := List.pairwise_append.1 d5
  have hv1 : ∀ b ∈ v, b < to := by
    cases v with
    | nil => intro b hb; cases hb
    | cons c v =>
      have hcto : ¬ to < c := fun h => by
        have := List.head?_dropWhile_not (p := fun b => decide (to < b)) (l := (beads p).drop (i + 1))
        rw [hv] at this
        simp at this
        omega
      have hcm : c ≠ to := fun e => hc (.inr (by rw [hsp, ← e]; simp))
      intro b hb
      rcases List.mem_cons.1 hb with rfl | hb
      · omega
      · have := (List.pairwise_cons.1 d7).1 b hb
        omega
  have hlast : to < (beads p)[i] := by omega
  have hdl : Down ((beads p).take i ++ w ++ to :: v) := by
    rw [List.append_assoc]
    refine List.pairwise_append.2 ⟨d1, List.pairwise_append.2 ⟨d6, List.pairwise_cons.2 ⟨hv1, d7⟩, fun a ha b hb => ?_⟩, fun a ha b hb => ?_⟩
    · rcases List.mem_cons.1 hb with rfl | hb
      · exact hw1 a ha
      · exact d8 a ha b hb
    · have hai := d3 a ha (beads p)[i] List.mem_cons_self
      rcases List.mem_append.1 hb with hb | hb
      · exact d3 a ha b (List.mem_cons_of_mem _ (List.mem_append_left _ hb))
      · rcases List.mem_cons.1 hb with rfl | hb
        · omega
        · exact d3 a ha b (List.mem_cons_of_mem _ (List.mem_append_right _ hb))
  have hto0 : 0 ≤ to := by omega
  have hnl : ∀ b ∈ (beads p).take i ++ w ++ to :: v, 0 ≤ b := fun b hb => by
    rcases List.mem_append.1 hb with hb | hb
    · refine hnn b ?_
      rw [hsp]
      rcases List.mem_append.1 hb with hb | hb
      · exact List.mem_append_left _ hb
      · exact List.mem_append_right _ (List.mem_cons_of_mem _ (List.mem_append_left _ hb))
    · rcases List.mem_cons.1 hb with rfl | hb
      · exact hto0
      · refine hnn b ?_
        rw [hsp]
        exact List.mem_append_right _ (List.mem_cons_of_mem _ (List.mem_append_right _ hb))
  have hlen : ((beads p).take i ++ w ++ to :: v).length = p.length := by
    have h1 := congrArg List.length hsp
    simp only [List.length_append, List.length_cons, List.length_take] at h1 ⊢
    omega
  obtain ⟨z, hz⟩ := pos_zero (unb_fall hdl) (unb_nonneg hdl hnl)
  have hsum : sumL ((unb ((beads p).take i ++ w ++ to :: v)).filter fun a => decide (0 < a)) = sumL p - k := by
    have h1 := sum_beads (unb ((beads p).take i ++ w ++ to :: v))
    rw [beads_unb, unb_len, hlen] at h1
    have h2 := sum_beads p
    have h3 := congrArg sumL hsp
    simp only [sumL_append, sumL_cons] at h1 h3
    have h4 := congrArg sumL hz
    rw [sumL_append, sumL_zero] at h4
    omega
  refine ⟨part_filter (unb_fall hdl), hsum, by omega, fun m hm => ?_⟩
  rw [upd_split k hib, hto, hwv, alt_pass (alt_A m), sgB_sgn]
  congr 1
  have key : ∀ (z : Nat) (r : List Int), fA m (beads (r ++ List.replicate z 0)) = fA m (beads r) := by
    intro z
    induction z with
    | zero => intro r; simp
    | succ z ih =>
      intro r
      rw [List.replicate_succ', ← List.append_assoc, beads_lift, A_lift m hm, ih]
  have := key z ((unb ((beads p).take i ++ w ++ to :: v)).filter fun a => decide (0 < a))
  rw [← hz, beads_unb] at this
  exact this

theorem step_none {p : List Int} {k : Int} {i : Nat} (hp : PartL p) (hk : 1 ≤ k) (hi : i < p.length) (hs : stepL p k i = none) (m : List Int) (hm : ∀ j ∈ m, 1 ≤ j) : fA m (upd (beads p) i k) = 0 := by
  have hbl := beads_len p
  have hib : i < (beads p).length := by omega
  have hbi : (beads p).getD i 0 = (beads p)[i] := by rw [List.getD_eq_getElem?_getD, List.getElem?_eq_getElem hib]; rfl
  unfold stepL at hs
  split at hs
  · rename_i hc
    rw [upd_split k hib]
    rcases hc with hc | hc
    · exact neg_A m (fun j hj => by have := hm j hj; omega) _ ⟨_, List.mem_append_right _ List.mem_cons_self, hc⟩
    · have hdn := down_beads hp.fall
      have hsp : beads p = (beads p).take i ++ (beads p)[i] :: (beads p).drop (i + 1) := by
        rw [← List.drop_eq_getElem_cons hib, List.take_append_drop]
      obtain ⟨to, hto⟩ : ∃ to, (beads p).getD i 0 - k = to := ⟨_, rfl⟩
      rw [hto] at hc ⊢
      have hdn' := hdn
      rw [hsp] at hdn' hc
      obtain ⟨d1, d2, d3⟩ := List.pairwise_append.1 hdn'
      have hlt : to < (beads p)[i] := by omega
      have hm2 : to ∈ (beads p).drop (i + 1) := by
        rcases List.mem_append.1 hc with h | h
        · have := d3 to h (beads p)[i] List.mem_cons_self
          omega
        · rcases List.mem_cons.1 h with h | h
          · omega
          · exact h
      obtain ⟨w, v, hwv⟩ := List.append_of_mem hm2
      rw [hwv]
      exact alt_dup (alt_A m) to _ w v
  · cases hs

theorem chi_A : ∀ (m : List Int) (p : List Int), PartL p → (∀ j ∈ m, 1 ≤ j) → sumL p = sumL m → chi p m = fA m (beads p)
  | [], p, hp, _, hs => by
    have h1 := sumL_pos hp.pos
    have h2 : sumL [] = 0 := rfl
    have : p = [] := List.length_eq_zero_iff.1 (by omega)
    subst this
    unfold chi fA base
    simp [beads, idx, invN, sgn]
  | k :: m, p, hp, hm, hs => by
    have hk := hm k List.mem_cons_self
    have hm' : ∀ j ∈ m, 1 ≤ j := fun j hj => hm j (List.mem_cons_of_mem _ hj)
    unfold chi strips fA opT
    rw [sumL_range, beads_len]
    refine sumR_congr fun i hi => ?_
    cases hst : stepL p k i with
    | none => exact (step_none hp hk hi hst m hm').symm
    | some s =>
      obtain ⟨q, h⟩ := s
      obtain ⟨e1, e2, _, e3⟩ := step_some hp hk hi hst
      simp only
      rw [e3 m hm', chi_A m q e1 hm' (by rw [sumL_cons] at hs; omega)]
theorem sumL_perm {a b : List Int} (h : a.Perm b) : sumL a = sumL b := by
  induction h with
  | nil => rfl
  | cons _ _ ih => simp only [sumL_cons, ih]
  | swap _ _ _ => simp only [sumL_cons]; omega
  | trans _ _ i1 i2 => exact i1.trans i2
theorem chi_perm {p m m' : List Int} (hp : PartL p) (hm : ∀ j ∈ m, 1 ≤ j) (hs : sumL p = sumL m) (h : m.Perm m') : chi p m = chi p m' := by
  rw [chi_A m p hp hm hs, chi_A m' p hp (fun j hj => hm j (h.mem_iff.2 hj)) (by rw [hs, sumL_perm h]), A_perm h]

theorem strips_mem {p : List Int} {k : Int} {s : List Int × Int} (h : s ∈ strips p k) : ∃ i, i < p.length ∧ stepL p k i = some s := by
  obtain ⟨i, hi, hs⟩ := List.mem_filterMap.1 h
  exact ⟨i, by simpa using hi, hs⟩
theorem strips_len (p : List Int) (k : Int) : (strips p k).length ≤ p.length := by
  have := List.length_filterMap_le (stepL p k) (List.range p.length).reverse
  simpa [strips] using this

theorem sumL_bound {B : Int} : ∀ (l : List Int), (∀ x ∈ l, -B ≤ x ∧ x ≤ B) → -(l.length * B) ≤ sumL l ∧ sumL l ≤ l.length * B
  | [], _ => by simp [sumL]
  | a :: l, h => by
    obtain ⟨h1, h2⟩ := sumL_bound l fun x hx => h x (List.mem_cons_of_mem _ hx)
    obtain ⟨h3, h4⟩ := h a List.mem_cons_self
    rw [sumL_cons, List.length_cons, Int.natCast_succ, Int.add_mul, Int.one_mul]
    omega
theorem sgB_bound {h x B : Int} (hx : -B ≤ x ∧ x ≤ B) : -B ≤ sgB h x ∧ sgB h x ≤ B := by
  unfold sgB
  split <;> omega
def pow12 (n : Nat) : Int := 12 ^ n
theorem pow12_pos (n : Nat) : 1 ≤ pow12 n := by
  unfold pow12
  have : (0 : Int) < 12 ^ n := Int.pow_pos (by decide)
  omega
theorem pow12_succ (n : Nat) : pow12 (n + 1) = 12 * pow12 n := by
  unfold pow12; rw [Int.pow_succ, Int.mul_comm]
theorem pow12_mono {a b : Nat} (h : a ≤ b) : pow12 a ≤ pow12 b := by
  induction h with
  | refl => exact Int.le_refl _
  | step h ih => rw [pow12_succ]; have := pow12_pos a; omega
theorem chi_bound : ∀ (m p : List Int), PartL p → sumL p ≤ 12 → (∀ j ∈ m, 1 ≤ j) → -(pow12 m.length) ≤ chi p m ∧ chi p m ≤ pow12 m.length
  | [], p, _, _, _ => by unfold chi; decide
  | k :: m, p, hp, hs, hm => by
    have hk := hm k List.mem_cons_self
    have hm' : ∀ j ∈ m, 1 ≤ j := fun j hj => hm j (List.mem_cons_of_mem _ hj)
    have hb := sumL_bound (B := pow12 m.length) ((strips p k).map fun s => sgB s.2 (chi s.1 m)) fun x hx => by
      obtain ⟨s, hs1, rfl⟩ := List.mem_map.1 hx
      obtain ⟨i, hi, hst⟩ := strips_mem hs1
      obtain ⟨q, h⟩ := s
      obtain ⟨e1, e2, _, _⟩ := step_some hp hk hi hst
      exact sgB_bound (chi_bound m q e1 (by omega) hm')
    rw [List.length_map] at hb
    have h1 := strips_len p k
    have h2 := sumL_pos hp.pos
    have h3 := pow12_pos m.length
    have h4 : ((strips p k).length : Int) * pow12 m.length ≤ 12 * pow12 m.length := Int.mul_le_mul_of_nonneg_right (by omega) (by omega)
    unfold chi
    rw [List.length_cons, pow12_succ]
    omega

end Fer

namespace Fer

theorem part_of {p : List Int} (h : partRows p) : PartL p := by
  refine ⟨fun a ha => ?_, ?_⟩
  · obtain ⟨i, hi⟩ := List.getElem?_of_mem ha
    have hl := (List.getElem?_eq_some_iff.1 hi).1
    have := (h i hl).1
    rw [List.getD_eq_getElem?_getD, hi, Option.getD_some] at this
    exact this
  · rw [List.pairwise_iff_getElem]
    intro i j hi hj hij
    have := part_desc h (Nat.le_of_lt hij) hj
    rw [List.getD_eq_getElem?_getD, List.getD_eq_getElem?_getD, List.getElem?_eq_getElem hi, List.getElem?_eq_getElem hj] at this
    exact this

theorem beads_getD : ∀ (p : List Int) (r : Nat), r < p.length → (beads p).getD r 0 = p.getD r 0 + ((p.length : Int) - 1 - r)
  | [], r, h => by simp at h
  | a :: p, 0, _ => by simp [beads]
  | a :: p, r + 1, h => by
    have := beads_getD p r (by simpa using h)
    simp only [beads, List.getD_cons_succ, this, List.length_cons]
    omega
theorem unb_getD : ∀ (l : List Int) (r : Nat), r < l.length → (unb l).getD r 0 = l.getD r 0 - ((l.length : Int) - 1 - r)
  | [], r, h => by simp at h
  | a :: l, 0, _ => by simp [unb]
  | a :: l, r + 1, h => by
    have := unb_getD l r (by simpa using h)
    simp only [unb, List.getD_cons_succ, this, List.length_cons]
    omega

theorem while_take {α : Type} {f : α → Bool} : ∀ {l : List α} {m : Nat}, m ≤ l.length → (∀ (i : Nat) (h : i < l.length), i < m → f l[i] = true) → (∀ h : m < l.length, f l[m] = false) → l.takeWhile f = l.take m ∧ l.dropWhile f = l.drop m
  | [], m, _, _, _ => by simp
  | a :: l, 0, _, _, h => by
    have := h (by simp)
    simp only [List.getElem_cons_zero] at this
    simp [this]
  | a :: l, m + 1, hm, h1, h2 => by
    have h0 := h1 0 (by simp) (by omega)
    simp only [List.getElem_cons_zero] at h0
    obtain ⟨e1, e2⟩ := while_take (f := f) (l := l) (m := m) (by simpa using hm) (fun i hi him => by have := h1 (i + 1) (by simpa using hi) (by omega); simpa using this) (fun h => by have := h2 (by simpa using h); simpa using this)
    simp [h0, e1, e2]

def refL (p : List Int) (i last : Nat) (j : Int) : List Int := (List.range p.length).map fun r => if r < i then p.getD r 0 else if r < last then p.getD (r + 1) 0 - 1 else if r = last then j else p.getD r 0
theorem refL_len (p : List Int) (i last : Nat) (j : Int) : (refL p i last j).length = p.length := by simp [refL]

theorem down_get {l : List Int} (h : Down l) {a b : Nat} (hab : a < b) (hb : b < l.length) : l.getD b 0 < l.getD a 0 := by
  have := List.pairwise_iff_getElem.1 h a b (by omega) hb hab
  rw [List.getD_eq_getElem?_getD, List.getD_eq_getElem?_getD, List.getElem?_eq_getElem hb, List.getElem?_eq_getElem (by omega)]
  exact this

theorem step_at {p : List Int} {k : Int} {i c : Nat} {to : Int} (hp : PartL p) (hi : i < p.length) (hic : i < c) (hcn : c ≤ p.length) (hto : (beads p).getD i 0 - k = to)
    (h1 : ∀ r, r < c → to < (beads p).getD r 0) (h2 : ∀ r, c ≤ r → r < p.length → (beads p).getD r 0 < to) (h3 : 0 ≤ to) :
    stepL p k i = some ((refL p i (c - 1) (to - ((p.length : Int) - c))).filter (fun a => decide (0 < a)), ((c - 1 - i : Nat) : Int)) := by
  have hbl := beads_len p
  have hnot : ¬ (to < 0 ∨ to ∈ beads p) := by
    rintro (h | h)
    · omega
    · obtain ⟨r, hr⟩ := List.getElem?_of_mem h
      have hrl := (List.getElem?_eq_some_iff.1 hr).1
      have e : (beads p).getD r 0 = to := by rw [List.getD_eq_getElem?_getD, hr]; rfl
      by_cases hrc : r < c
      · have := h1 r hrc; omega
      · have := h2 r (by omega) (by omega); omega
  have hgd : ∀ (r : Nat) (h : r < (beads p).length), (beads p)[r] = (beads p).getD r 0 := fun r h => by
    rw [List.getD_eq_getElem?_getD, List.getElem?_eq_getElem h]; rfl
  obtain ⟨e1, e2⟩ := while_take (f := fun b => decide (to < b)) (l := (beads p).drop (i + 1)) (m := c - 1 - i) (by rw [List.length_drop]; omega)
    (fun r hr hrm => by
      rw [List.getElem_drop, hgd]
      exact decide_eq_true (h1 _ (by omega)))
    (fun h => by
      rw [List.length_drop] at h
      rw [List.getElem_drop, hgd]
      exact decide_eq_false (by have := h2 (i + 1 + (c - 1 - i)) (by omega) (by omega); omega))
  unfold stepL
  rw [hto, if_neg hnot, e1, e2, List.drop_drop, show i + 1 + (c - 1 - i) = c by omega]
  have hwl : (((beads p).drop (i + 1)).take (c - 1 - i)).length = c - 1 - i := by rw [List.length_take, List.length_drop]; omega
  rw [hwl]
  congr 2
  congr 1
  have htl : ((beads p).take i).length = i := by rw [List.length_take]; omega
  have hll : ((beads p).take i ++ ((beads p).drop (i + 1)).take (c - 1 - i) ++ to :: (beads p).drop c).length = p.length := by
    simp only [List.length_append, List.length_cons, htl, hwl, List.length_drop]
    omega
  apply ext_getD 0 (by rw [unb_len, hll, refL_len])
  intro r hr
  rw [unb_len, hll] at hr
  rw [unb_getD _ _ (by rw [hll]; exact hr), hll]
  have href : (refL p i (c - 1) (to - ((p.length : Int) - c))).getD r 0 = if r < i then p.getD r 0 else if r < c - 1 then p.getD (r + 1) 0 - 1 else if r = c - 1 then to - ((p.length : Int) - c) else p.getD r 0 := by
    unfold refL
    rw [List.getD_eq_getElem?_getD, List.getElem?_map, List.getElem?_range hr]
    rfl
  rw [href]
  have hb := beads_getD p r hr
  by_cases a1 : r < i
  · rw [if_pos a1]
    rw [show ((beads p).take i ++ ((beads p).drop (i + 1)).take (c - 1 - i) ++ to :: (beads p).drop c).getD r 0 = (beads p).getD r 0 by
      rw [List.getD_eq_getElem?_getD, List.append_assoc, List.getElem?_append_left (by omega), List.getElem?_take, if_pos a1, ← List.getD_eq_getElem?_getD]]
    omega
  · rw [if_neg a1]
    by_cases a2 : r < c - 1
    · rw [if_pos a2]
      have hb1 := beads_getD p (r + 1) (by omega)
      rw [show ((beads p).take i ++ ((beads p).drop (i + 1)).take (c - 1 - i) ++ to :: (beads p).drop c).getD r 0 = (beads p).getD (r + 1) 0 by
        rw [List.getD_eq_getElem?_getD, List.append_assoc, List.getElem?_append_right (by omega), List.getElem?_append_left (by omega), htl, List.getElem?_take, if_pos (by omega), List.getElem?_drop, show i + 1 + (r - i) = r + 1 by omega, ← List.getD_eq_getElem?_getD]]
      omega
    · rw [if_neg a2]
      by_cases a3 : r = c - 1
      · rw [if_pos a3]
        rw [show ((beads p).take i ++ ((beads p).drop (i + 1)).take (c - 1 - i) ++ to :: (beads p).drop c).getD r 0 = to by
          rw [List.getD_eq_getElem?_getD, List.getElem?_append_right (by rw [List.length_append, htl, hwl]; omega), List.length_append, htl, hwl, show r - (i + (c - 1 - i)) = 0 by omega]
          rfl]
        omega
      · rw [if_neg a3]
        rw [show ((beads p).take i ++ ((beads p).drop (i + 1)).take (c - 1 - i) ++ to :: (beads p).drop c).getD r 0 = (beads p).getD r 0 by
          rw [List.getD_eq_getElem?_getD, List.getElem?_append_right (by rw [List.length_append, htl, hwl]; omega), List.length_append, htl, hwl, show r - (i + (c - 1 - i)) = (r - c) + 1 by omega, List.getElem?_cons_succ, List.getElem?_drop, show c + (r - c) = r by omega, ← List.getD_eq_getElem?_getD]]
        omega

def colN (p : List Int) (j : Int) : Nat := p.countP fun x => decide (j < x)
theorem colN_iff : ∀ {p : List Int}, p.Pairwise (fun a b => b ≤ a) → ∀ (j : Int) (r : Nat), r < colN p j ↔ r < p.length ∧ j < p.getD r 0
  | [], _, j, r => by simp [colN]
  | a :: p, h, j, r => by
    obtain ⟨h1, h2⟩ := List.pairwise_cons.1 h
    have ih := colN_iff h2 j
    unfold colN at *
    rw [List.countP_cons]
    by_cases ha : j < a
    · rw [if_pos (by simpa using ha)]
      cases r with
      | zero => simp [ha]
      | succ r => rw [List.getD_cons_succ, List.length_cons, Nat.add_lt_add_iff_right, Nat.add_lt_add_iff_right]; exact ih r
    · rw [if_neg (by simpa using ha)]
      have h0 : p.countP (fun x => decide (j < x)) = 0 := by
        rw [List.countP_eq_zero]
        intro b hb
        have := h1 b hb
        simp; omega
      rw [h0]
      refine ⟨fun h => absurd h (Nat.not_lt_zero _), fun ⟨h3, h4⟩ => ?_⟩
      cases r with
      | zero => exact absurd h4 ha
      | succ r =>
        rw [List.getD_cons_succ] at h4
        have := h1 _ (getD_mem 0 (show r < p.length by simpa using h3))
        omega
theorem colN_le {p : List Int} (j : Int) : colN p j ≤ p.length := List.countP_le_length
def hookV (p : List Int) (i j : Nat) : Int := p.getD i 0 - j + ((colN p j : Int) - i - 1)
def refS (p : List Int) (i j : Nat) : List Int × Int := ((refL p i (colN p j - 1) j).filter (fun a => decide (0 < a)), ((colN p j - 1 - i : Nat) : Int))

theorem fall_get {p : List Int} (h : p.Pairwise (fun a b => b ≤ a)) {a b : Nat} (hab : a ≤ b) (hb : b < p.length) : p.getD b 0 ≤ p.getD a 0 := by
  rcases Nat.lt_or_eq_of_le hab with h1 | rfl
  · have := List.pairwise_iff_getElem.1 h a b (by omega) hb h1
    rw [List.getD_eq_getElem?_getD, List.getD_eq_getElem?_getD, List.getElem?_eq_getElem hb, List.getElem?_eq_getElem (by omega)]
    exact this
  · exact Int.le_refl _

theorem hook_step {p : List Int} (hp : PartL p) {k : Int} {i j : Nat} (hi : i < p.length) (hj : (j : Int) < p.getD i 0) (hh : hookV p i j = k) : stepL p k i = some (refS p i j) := by
  have hc := colN_iff hp.fall (j : Int)
  have hle := colN_le (p := p) (j : Int)
  have hic : i < colN p j := (hc i).2 ⟨hi, hj⟩
  have hbi := beads_getD p i hi
  unfold hookV at hh
  have := step_at (k := k) (i := i) (c := colN p j) (to := (j : Int) + ((p.length : Int) - colN p j)) hp hi hic hle (by omega)
    (fun r hr => by
      have hrl : r < p.length := by omega
      rw [beads_getD p r hrl]
      have := ((hc r).1 hr).2
      omega)
    (fun r hr hrl => by
      rw [beads_getD p r hrl]
      have : ¬ (j : Int) < p.getD r 0 := fun h => by have := (hc r).2 ⟨hrl, h⟩; omega
      omega) (by omega)
  rw [this]
  unfold refS
  rw [show (j : Int) + ((p.length : Int) - colN p j) - ((p.length : Int) - colN p j) = j by omega]

theorem step_hook {p : List Int} (hp : PartL p) {k : Int} {i : Nat} (hk : 1 ≤ k) (hi : i < p.length) {s : List Int × Int} (hs : stepL p k i = some s) : ∃ j : Nat, (j : Int) < p.getD i 0 ∧ hookV p i j = k := by
  have hbl := beads_len p
  have hdn := down_beads hp.fall
  obtain ⟨to, hto⟩ : ∃ to, (beads p).getD i 0 - k = to := ⟨_, rfl⟩
  have hno : ¬ (to < 0 ∨ to ∈ beads p) := by
    intro h
    unfold stepL at hs
    rw [hto, if_pos h] at hs
    cases hs
  have hcnt : ∀ n, n ≤ p.length → ∃ c, c ≤ n ∧ (∀ r, r < c → to < (beads p).getD r 0) ∧ (∀ r, c ≤ r → r < n → (beads p).getD r 0 < to) := by
    intro n
    induction n with
    | zero => exact fun _ => ⟨0, Nat.le_refl _, fun r h => absurd h (Nat.not_lt_zero _), fun r _ h => absurd h (Nat.not_lt_zero _)⟩
    | succ n ih =>
      intro hn
      obtain ⟨c, c1, c2, c3⟩ := ih (by omega)
      have hne : (beads p).getD n 0 ≠ to := fun e => hno (.inr (e ▸ getD_mem 0 (by omega)))
      rcases Int.lt_or_gt_of_ne hne with h | h
      · refine ⟨c, by omega, c2, fun r hr hrn => ?_⟩
        by_cases e : r = n
        · subst e; exact h
        · exact c3 r hr (by omega)
      · refine ⟨n + 1, Nat.le_refl _, fun r hr => ?_, fun r hr hrn => by omega⟩
        by_cases e : r = n
        · subst e; exact h
        · have := down_get hdn (show r < n by omega) (by omega); omega
  obtain ⟨c, c1, c2, c3⟩ := hcnt p.length (Nat.le_refl _)
  have hic : i < c := by
    rcases Nat.lt_or_ge i c with h | h
    · exact h
    · have := c3 i h hi; omega
  have hbi := beads_getD p i hi
  have hb1 := beads_getD p (c - 1) (by omega)
  have h1 := c2 (c - 1) (by omega)
  have hnn : 0 ≤ to := by omega
  have hj0 : 0 ≤ to - ((p.length : Int) - c) := by
    by_cases e : c = p.length
    · omega
    · have h2 := c3 c (Nat.le_refl _) (by omega)
      have hb2 := beads_getD p c (by omega)
      have := hp.pos _ (getD_mem 0 (show c < p.length by omega))
      omega
  obtain ⟨j, hj⟩ : ∃ j : Nat, (j : Int) = to - ((p.length : Int) - c) := ⟨(to - ((p.length : Int) - c)).toNat, by omega⟩
  have hcol : colN p j = c := by
    have hc := colN_iff hp.fall (j : Int)
    have hle := colN_le (p := p) (j : Int)
    refine Nat.le_antisymm ?_ ?_
    · rcases Nat.lt_or_ge c (colN p j) with h | h
      · have h2 := ((hc c).1 h)
        have h3 := c3 c (Nat.le_refl _) h2.1
        have hb2 := beads_getD p c h2.1
        omega
      · exact h
    · have : c - 1 < colN p j := (hc (c - 1)).2 ⟨by omega, by omega⟩
      omega
  refine ⟨j, ?_, ?_⟩
  · have := fall_get hp.fall (show i ≤ c - 1 by omega) (by omega)
    omega
  · unfold hookV
    rw [hcol]
    omega

theorem hook_anti {p : List Int} (hp : PartL p) {i j j' : Nat} (hjj : j < j') : hookV p i j' < hookV p i j := by
  unfold hookV
  have : colN p j' ≤ colN p j := by
    unfold colN
    refine List.countP_mono_left fun x _ h => ?_
    simp only [decide_eq_true_eq] at h ⊢
    omega
  omega

def rowS (p : List Int) (k : Int) (i n : Nat) : List (List Int × Int) := (List.range n).filterMap fun j => if hookV p i j = k then some (refS p i j) else none
theorem rowS_none {p : List Int} {k : Int} {i : Nat} : ∀ {n : Nat}, (∀ j, j < n → hookV p i j ≠ k) → rowS p k i n = []
  | 0, _ => rfl
  | n + 1, h => by
    unfold rowS
    rw [List.range_succ, List.filterMap_append]
    have := rowS_none (n := n) fun j hj => h j (by omega)
    unfold rowS at this
    rw [this, List.nil_append, List.filterMap_cons, if_neg (h n (by omega))]
    rfl
theorem rowS_one {p : List Int} (hp : PartL p) {k : Int} {i j : Nat} : ∀ {n : Nat}, j < n → hookV p i j = k → rowS p k i n = [refS p i j]
  | 0, h, _ => absurd h (Nat.not_lt_zero _)
  | n + 1, h, hh => by
    unfold rowS
    rw [List.range_succ, List.filterMap_append]
    by_cases e : j = n
    · subst e
      have := rowS_none (p := p) (k := k) (i := i) (n := j) fun j' hj' => by have := hook_anti hp (i := i) hj'; omega
      unfold rowS at this
      rw [this, List.nil_append, List.filterMap_cons, if_pos hh]
      rfl
    · have := rowS_one hp (n := n) (by omega) hh
      unfold rowS at this
      rw [this, List.filterMap_cons, if_neg (by have := hook_anti hp (i := i) (show j < n by omega); omega)]
      rfl
theorem rowS_step {p : List Int} (hp : PartL p) {k : Int} (hk : 1 ≤ k) {i : Nat} (hi : i < p.length) : rowS p k i (p.getD i 0).toNat = (stepL p k i).toList := by
  cases hs : stepL p k i with
  | none =>
    refine rowS_none fun j hj hh => ?_
    rw [hook_step hp hi (by omega) hh] at hs
    cases hs
  | some s =>
    obtain ⟨j, hj, hh⟩ := step_hook hp hk hi hs
    rw [hook_step hp hi hj hh] at hs
    rw [rowS_one hp (by omega) hh]
    simpa using hs
def hookS (p : List Int) (k : Int) (n : Nat) : List (List Int × Int) := (List.range n).flatMap fun i => rowS p k i (p.getD i 0).toNat
theorem hookS_strips {p : List Int} (hp : PartL p) {k : Int} (hk : 1 ≤ k) : hookS p k p.length = (strips p k).reverse := by
  unfold hookS strips
  rw [← List.filterMap_reverse, List.reverse_reverse]
  have key : ∀ n, n ≤ p.length → (List.range n).flatMap (fun i => rowS p k i (p.getD i 0).toNat) = (List.range n).filterMap (stepL p k) := by
    intro n
    induction n with
    | zero => intro _; rfl
    | succ n ih =>
      intro hn
      rw [List.range_succ, List.flatMap_append, List.filterMap_append, ih (by omega), List.flatMap_cons, List.flatMap_nil, List.append_nil, rowS_step hp hk (by omega), List.filterMap_cons]
      cases stepL p k n <;> rfl
  exact key p.length (Nat.le_refl _)

end Fer

namespace Fer

def cmpL : List Int → List Int → Int
  | [], [] => 0
  | [], _ :: _ => -1
  | _ :: _, [] => 1
  | a :: x, b :: y => if a < b then -1 else if b < a then 1 else cmpL x y
theorem cmpL_self : ∀ x, cmpL x x = 0
  | [] => rfl
  | a :: x => by simp [cmpL, cmpL_self x]
theorem cmpL_neg : ∀ x y, cmpL y x = - cmpL x y
  | [], [] => rfl
  | [], _ :: _ => rfl
  | _ :: _, [] => rfl
  | a :: x, b :: y => by
    unfold cmpL
    by_cases h1 : a < b
    · rw [if_neg (by omega), if_pos h1, if_pos h1]; rfl
    · by_cases h2 : b < a
      · rw [if_pos h2, if_neg h1, if_pos h2]
      · rw [if_neg h2, if_neg h1, if_neg h1, if_neg h2, cmpL_neg x y]
theorem cmpL_trans : ∀ {x y z}, cmpL x y ≤ 0 → cmpL y z ≤ 0 → cmpL x z ≤ 0 ∧ (cmpL x z = 0 → cmpL x y = 0 ∧ cmpL y z = 0)
  | [], [], [], _, _ => by simp [cmpL]
  | [], [], _ :: _, _, _ => by simp [cmpL]
  | [], _ :: _, [], _, h => by simp [cmpL] at h
  | [], _ :: _, _ :: _, _, _ => by simp [cmpL]
  | _ :: _, [], _, h, _ => by simp [cmpL] at h
  | _ :: _, _ :: _, [], _, h => by simp [cmpL] at h
  | a :: x, b :: y, c :: z, h1, h2 => by
    have ih := @cmpL_trans x y z
    unfold cmpL at h1 h2 ⊢
    by_cases a1 : a < b
    · by_cases b1 : b < c
      · rw [if_pos (by omega)]; omega
      · by_cases b2 : c < b
        · rw [if_neg b1, if_pos b2] at h2; omega
        · rw [if_pos (by omega)]; omega
    · by_cases a2 : b < a
      · rw [if_neg a1, if_pos a2] at h1; omega
      · rw [if_neg a1, if_neg a2] at h1 ⊢
        by_cases b1 : b < c
        · rw [if_pos (by omega)]; omega
        · by_cases b2 : c < b
          · rw [if_neg b1, if_pos b2] at h2; omega
          · rw [if_neg b1, if_neg b2] at h2 ⊢
            rw [if_neg (by omega), if_neg (by omega)]
            exact ih h1 h2
theorem cmpL_lt {x y z : List Int} (h1 : cmpL x y < 0) (h2 : cmpL y z ≤ 0) : cmpL x z < 0 := by
  obtain ⟨h3, h4⟩ := cmpL_trans (Int.le_of_lt h1) h2
  rcases Int.lt_or_eq_of_le h3 with h | h
  · exact h
  · have := (h4 h).1; omega

theorem cmp_filter : ∀ (i : Nat) {x y : List Int}, x.Pairwise (fun a b => b ≤ a) → y.Pairwise (fun a b => b ≤ a) → (∀ a ∈ x, 0 ≤ a) → i < x.length → i < y.length → (∀ r, r < i → x.getD r 0 = y.getD r 0) → x.getD i 0 < y.getD i 0 →
    cmpL (x.filter fun a => decide (0 < a)) (y.filter fun a => decide (0 < a)) < 0
  | 0, a :: x, b :: y, hx, hy, h0, _, _, _, hlt => by
    simp only [List.getD_cons_zero] at hlt
    have ha := h0 a List.mem_cons_self
    rw [List.filter_cons (x := b), if_pos (by simp; omega)]
    by_cases h : 0 < a
    · rw [List.filter_cons, if_pos (by simpa using h)]
      unfold cmpL
      rw [if_pos hlt]; decide
    · have e : (a :: x).filter (fun a => decide (0 < a)) = [] := by
        refine List.filter_eq_nil_iff.2 fun c hc => ?_
        rcases List.mem_cons.1 hc with rfl | hc
        · simpa using h
        · have := (List.pairwise_cons.1 hx).1 c hc
          simp; omega
      rw [e]
      unfold cmpL; decide
  | i + 1, a :: x, b :: y, hx, hy, h0, h1, h2, hag, hlt => by
    have e := hag 0 (Nat.succ_pos _)
    simp only [List.getD_cons_zero] at e
    subst e
    simp only [List.getD_cons_succ] at hlt
    have hi := getD_mem 0 (show i < y.length by simpa using h2)
    have hi2 := h0 _ (List.mem_cons_of_mem _ (getD_mem 0 (show i < x.length by simpa using h1)))
    have ha := (List.pairwise_cons.1 hy).1 _ hi
    rw [List.filter_cons, if_pos (by simp; omega), List.filter_cons, if_pos (by simp; omega)]
    unfold cmpL
    rw [if_neg (by omega), if_neg (by omega)]
    exact cmp_filter i (List.pairwise_cons.1 hx).2 (List.pairwise_cons.1 hy).2 (fun c hc => h0 c (List.mem_cons_of_mem _ hc)) (by simpa using h1) (by simpa using h2) (fun r hr => by
      have := hag (r + 1) (by omega)
      simpa using this) hlt
  | 0, [], _, _, _, _, h, _, _, _ => by simp at h
  | 0, _ :: _, [], _, _, _, _, h, _, _ => by simp at h
  | _ + 1, [], _, _, _, _, h, _, _, _ => by simp at h
  | _ + 1, _ :: _, [], _, _, _, _, h, _, _ => by simp at h

theorem refL_get {p : List Int} {i last : Nat} {j : Int} {r : Nat} (hr : r < p.length) : (refL p i last j).getD r 0 = if r < i then p.getD r 0 else if r < last then p.getD (r + 1) 0 - 1 else if r = last then j else p.getD r 0 := by
  unfold refL
  rw [List.getD_eq_getElem?_getD, List.getElem?_map, List.getElem?_range hr]
  rfl
theorem refL_fall {p : List Int} (hp : PartL p) {i last : Nat} {j : Int} (hil : i ≤ last) (hl : last < p.length) (hj : j < p.getD last 0) (hj0 : 0 ≤ j) (hj1 : last + 1 < p.length → p.getD (last + 1) 0 ≤ j) :
    (refL p i last j).Pairwise (fun a b => b ≤ a) ∧ ∀ a ∈ refL p i last j, 0 ≤ a := by
  have hpos : ∀ r, r < p.length → 1 ≤ p.getD r 0 := fun r hr => hp.pos _ (getD_mem 0 hr)
  constructor
  · rw [List.pairwise_iff_getElem]
    intro r s hr hs hrs
    rw [refL_len] at hr hs
    have e1 := refL_get (i := i) (last := last) (j := j) hr
    have e2 := refL_get (i := i) (last := last) (j := j) hs
    rw [List.getD_eq_getElem?_getD, List.getElem?_eq_getElem (by rw [refL_len]; exact hr), Option.getD_some] at e1
    rw [List.getD_eq_getElem?_getD, List.getElem?_eq_getElem (by rw [refL_len]; exact hs), Option.getD_some] at e2
    rw [e1, e2]
    have f := fun {a b : Nat} (hab : a ≤ b) (hb : b < p.length) => fall_get hp.fall hab hb
    by_cases a1 : s < i
    · rw [if_pos a1, if_pos (by omega)]; exact f (by omega) hs
    · rw [if_neg a1]
      by_cases b1 : r < i
      · rw [if_pos b1]
        by_cases a2 : s < last
        · rw [if_pos a2]; have := f (show r ≤ s + 1 by omega) (by omega); omega
        · rw [if_neg a2]
          by_cases a3 : s = last
          · rw [if_pos a3]; have := f (show r ≤ last by omega) hl; omega
          · rw [if_neg a3]; exact f (by omega) hs
      · rw [if_neg b1]
        by_cases b2 : r < last
        · rw [if_pos b2]
          by_cases a2 : s < last
          · rw [if_pos a2]; have := f (show r + 1 ≤ s + 1 by omega) (by omega); omega
          · rw [if_neg a2]
            by_cases a3 : s = last
            · rw [if_pos a3]; have := f (show r + 1 ≤ last by omega) hl; omega
            · rw [if_neg a3]; have := f (show r + 1 ≤ last by omega) hl; have := f (show last + 1 ≤ s by omega) hs; have := hj1 (by omega); omega
        · rw [if_neg b2, if_neg (by omega), if_neg (by omega)]
          by_cases b3 : r = last
          · rw [if_pos b3]; have := f (show last + 1 ≤ s by omega) hs; have := hj1 (by omega); omega
          · rw [if_neg b3]; exact f (by omega) hs
  · intro a ha
    obtain ⟨r, hr⟩ := List.getElem?_of_mem ha
    have hrl := (List.getElem?_eq_some_iff.1 hr).1
    rw [refL_len] at hrl
    have e1 := refL_get (i := i) (last := last) (j := j) hrl
    rw [List.getD_eq_getElem?_getD, hr, Option.getD_some] at e1
    rw [e1]
    have h1 := hpos r hrl
    split
    · omega
    · split
      · have := hpos (r + 1) (by omega); omega
      · split
        · exact hj0
        · omega

theorem col_facts {p : List Int} (hp : PartL p) {i j : Nat} (hi : i < p.length) (hj : (j : Int) < p.getD i 0) :
    i ≤ colN p j - 1 ∧ colN p j - 1 < p.length ∧ (j : Int) < p.getD (colN p j - 1) 0 ∧ (colN p j - 1 + 1 < p.length → p.getD (colN p j - 1 + 1) 0 ≤ j) ∧ 1 ≤ colN p j := by
  have hc := colN_iff hp.fall (j : Int)
  have hle := colN_le (p := p) (j : Int)
  have hic : i < colN p j := (hc i).2 ⟨hi, hj⟩
  have h1 := (hc (colN p j - 1)).1 (by omega)
  refine ⟨by omega, h1.1, h1.2, fun h => ?_, by omega⟩
  have : ¬ (j : Int) < p.getD (colN p j - 1 + 1) 0 := fun h2 => by
    have := (hc (colN p j - 1 + 1)).2 ⟨h, h2⟩
    omega
  omega
theorem ref_fall {p : List Int} (hp : PartL p) {i j : Nat} (hi : i < p.length) (hj : (j : Int) < p.getD i 0) :
    (refL p i (colN p j - 1) j).Pairwise (fun a b => b ≤ a) ∧ ∀ a ∈ refL p i (colN p j - 1) j, 0 ≤ a := by
  obtain ⟨h1, h2, h3, h4, _⟩ := col_facts hp hi hj
  exact refL_fall hp h1 h2 h3 (by omega) h4

theorem strips_desc {p : List Int} (hp : PartL p) {k : Int} (hk : 1 ≤ k) : (strips p k).Pairwise fun a b => cmpL b.1 a.1 < 0 := by
  unfold strips
  rw [List.pairwise_filterMap, List.pairwise_reverse]
  refine List.pairwise_iff_getElem.2 fun a b ha hb hab s hs s' hs' => ?_
  simp only [List.getElem_range] at hs hs'
  rw [List.length_range] at ha hb
  obtain ⟨j, hj, hh⟩ := step_hook hp hk hb hs
  obtain ⟨j', hj', hh'⟩ := step_hook hp hk ha hs'
  rw [hook_step hp hb hj hh] at hs
  rw [hook_step hp ha hj' hh'] at hs'
  obtain rfl := Option.some.inj hs
  obtain rfl := Option.some.inj hs'
  obtain ⟨f1, f2⟩ := ref_fall hp hb hj
  obtain ⟨f3, f4⟩ := ref_fall hp ha hj'
  obtain ⟨c1, c2, c3, c4, c5⟩ := col_facts hp ha hj'
  refine cmp_filter a f3 f1 f4 (by rw [refL_len]; exact ha) (by rw [refL_len]; exact ha) (fun r hr => ?_) ?_
  · rw [refL_get (by omega), refL_get (by omega), if_pos hr, if_pos (by omega)]
  · rw [refL_get ha, refL_get ha, if_neg (Nat.lt_irrefl _), if_pos hab]
    have f := fun {x y : Nat} (hxy : x ≤ y) (hy : y < p.length) => fall_get hp.fall hxy hy
    split
    · have := f (show a ≤ a + 1 by omega) (by omega); omega
    · split
      · rename_i e
        have := f c1 c2
        omega
      · omega

end Fer

namespace Fer

def downW (g : Nat → List (List Int)) : Nat → List (List Int)
  | 0 => []
  | k + 1 => (g (k + 1)).map (((k + 1 : Nat) : Int) :: ·) ++ downW g k
def upW (g : Nat → List (List Int)) : Nat → Nat → List (List Int)
  | _, 0 => []
  | k, n + 1 => (g k).map ((k : Int) :: ·) ++ upW g (k + 1) n
def allP : Nat → Nat → Nat → List (List Int)
  | 0, _, _ => []
  | f + 1, left, most => if left = 0 then [[]] else downW (fun k => allP f (left - k) k) (min left most)
def allA : Nat → Nat → Nat → List (List Int)
  | 0, _, _ => []
  | f + 1, least, left => if left = 0 then [[]] else upW (fun k => allA f k (left - k)) least (left + 1 - least)

theorem mem_downW {g : Nat → List (List Int)} {x : List Int} : ∀ {k : Nat}, x ∈ downW g k ↔ ∃ j y, 1 ≤ j ∧ j ≤ k ∧ y ∈ g j ∧ x = (j : Int) :: y
  | 0 => by
    refine ⟨fun h => (by cases h), ?_⟩
    rintro ⟨j, y, h1, h2, _⟩
    omega
  | k + 1 => by
    unfold downW
    rw [List.mem_append, List.mem_map, mem_downW (k := k)]
    constructor
    · rintro (⟨y, h1, h2⟩ | ⟨j, y, h1, h2, h3, h4⟩)
      · exact ⟨k + 1, y, by omega, Nat.le_refl _, h1, h2.symm⟩
      · exact ⟨j, y, h1, by omega, h3, h4⟩
    · rintro ⟨j, y, h1, h2, h3, h4⟩
      by_cases e : j = k + 1
      · subst e; exact .inl ⟨y, h3, h4.symm⟩
      · exact .inr ⟨j, y, h1, by omega, h3, h4⟩
theorem mem_upW {g : Nat → List (List Int)} {x : List Int} : ∀ {n k : Nat}, x ∈ upW g k n ↔ ∃ j y, k ≤ j ∧ j < k + n ∧ y ∈ g j ∧ x = (j : Int) :: y
  | 0, k => by
    refine ⟨fun h => (by cases h), ?_⟩
    rintro ⟨j, y, h1, h2, _⟩
    omega
  | n + 1, k => by
    unfold upW
    rw [List.mem_append, List.mem_map, mem_upW (n := n)]
    constructor
    · rintro (⟨y, h1, h2⟩ | ⟨j, y, h1, h2, h3, h4⟩)
      · exact ⟨k, y, by omega, by omega, h1, h2.symm⟩
      · exact ⟨j, y, by omega, by omega, h3, h4⟩
    · rintro ⟨j, y, h1, h2, h3, h4⟩
      by_cases e : j = k
      · subst e; exact .inl ⟨y, h3, h4.symm⟩
      · exact .inr ⟨j, y, by omega, by omega, h3, h4⟩

def FallO (left most : Nat) (x : List Int) : Prop := (∀ a ∈ x, 1 ≤ a ∧ a ≤ (most : Int)) ∧ x.Pairwise (fun a b => b ≤ a) ∧ sumL x = (left : Int)
def RiseO (least left : Nat) (x : List Int) : Prop := (∀ a ∈ x, (least : Int) ≤ a) ∧ x.Pairwise (fun a b => a ≤ b) ∧ sumL x = (left : Int)

theorem sum_nil {x : List Int} (h : ∀ a ∈ x, 1 ≤ a) (hs : sumL x = 0) : x = [] := by
  have := sumL_pos h
  exact List.length_eq_zero_iff.1 (by omega)
theorem mem_allP : ∀ {f left most : Nat} {x : List Int}, left < f → (x ∈ allP f left most ↔ FallO left most x)
  | 0, _, _, _, h => by omega
  | f + 1, left, most, x, h => by
    unfold allP
    by_cases h0 : left = 0
    · subst h0
      rw [if_pos rfl, List.mem_singleton]
      refine ⟨fun e => by subst e; exact ⟨fun a ha => (by cases ha), List.Pairwise.nil, rfl⟩, fun ⟨h1, _, h3⟩ => sum_nil (fun a ha => (h1 a ha).1) h3⟩
    · rw [if_neg h0, mem_downW]
      constructor
      · rintro ⟨j, y, h1, h2, h3, rfl⟩
        obtain ⟨g1, g2, g3⟩ := (mem_allP (by omega)).1 h3
        refine ⟨fun a ha => ?_, List.pairwise_cons.2 ⟨fun a ha => (g1 a ha).2, g2⟩, by rw [sumL_cons, g3]; omega⟩
        rcases List.mem_cons.1 ha with rfl | ha
        · omega
        · have := g1 a ha; omega
      · rintro ⟨g1, g2, g3⟩
        cases x with
        | nil => have : (0 : Int) = left := g3; omega
        | cons a y =>
          obtain ⟨p1, p2⟩ := List.pairwise_cons.1 g2
          have ha := g1 a List.mem_cons_self
          have hy := sumL_pos (l := y) fun b hb => (g1 b (List.mem_cons_of_mem _ hb)).1
          rw [sumL_cons] at g3
          refine ⟨a.toNat, y, by omega, by omega, (mem_allP (by omega)).2 ⟨fun b hb => ⟨(g1 b (List.mem_cons_of_mem _ hb)).1, by have := p1 b hb; omega⟩, p2, by omega⟩, by rw [Int.toNat_of_nonneg (by omega)]⟩
theorem mem_allA : ∀ {f least left : Nat} {x : List Int}, left < f → 1 ≤ least → (x ∈ allA f least left ↔ RiseO least left x)
  | 0, _, _, _, h, _ => by omega
  | f + 1, least, left, x, h, hl => by
    unfold allA
    by_cases h0 : left = 0
    · subst h0
      rw [if_pos rfl, List.mem_singleton]
      refine ⟨fun e => by subst e; exact ⟨fun a ha => (by cases ha), List.Pairwise.nil, rfl⟩, fun ⟨h1, _, h3⟩ => sum_nil (fun a ha => by have := h1 a ha; omega) h3⟩
    · rw [if_neg h0, mem_upW]
      constructor
      · rintro ⟨j, y, h1, h2, h3, rfl⟩
        obtain ⟨g1, g2, g3⟩ := (mem_allA (by omega) (by omega)).1 h3
        refine ⟨fun a ha => ?_, List.pairwise_cons.2 ⟨fun a ha => g1 a ha, g2⟩, by rw [sumL_cons, g3]; omega⟩
        rcases List.mem_cons.1 ha with rfl | ha
        · omega
        · have := g1 a ha; omega
      · rintro ⟨g1, g2, g3⟩
        cases x with
        | nil => have : (0 : Int) = left := g3; omega
        | cons a y =>
          obtain ⟨p1, p2⟩ := List.pairwise_cons.1 g2
          have ha := g1 a List.mem_cons_self
          have hy := sumL_pos (l := y) fun b hb => by have := g1 b (List.mem_cons_of_mem _ hb); omega
          rw [sumL_cons] at g3
          refine ⟨a.toNat, y, by omega, by omega, (mem_allA (by omega) (by omega)).2 ⟨fun b hb => by have := p1 b hb; omega, p2, by omega⟩, by rw [Int.toNat_of_nonneg (by omega)]⟩


theorem cmpL_cons (a : Int) (x y : List Int) : cmpL (a :: x) (a :: y) = cmpL x y := by
  conv => lhs; unfold cmpL
  rw [if_neg (by omega), if_neg (by omega)]
theorem cmpL_head {a b : Int} (x y : List Int) (h : a < b) : cmpL (a :: x) (b :: y) < 0 := by
  unfold cmpL
  rw [if_pos h]; decide
theorem desc_downW {g : Nat → List (List Int)} : ∀ {k : Nat}, (∀ j, 1 ≤ j → j ≤ k → (g j).Pairwise fun a b => cmpL b a < 0) → (downW g k).Pairwise fun a b => cmpL b a < 0
  | 0, _ => List.Pairwise.nil
  | k + 1, h => by
    unfold downW
    refine List.pairwise_append.2 ⟨List.pairwise_map.2 ((h (k + 1) (by omega) (Nat.le_refl _)).imp fun h => by rw [cmpL_cons]; exact h), desc_downW fun j h1 h2 => h j h1 (by omega), fun a ha b hb => ?_⟩
    obtain ⟨y, _, rfl⟩ := List.mem_map.1 ha
    obtain ⟨j, z, h1, h2, _, rfl⟩ := mem_downW.1 hb
    exact cmpL_head _ _ (by omega)
theorem asc_upW {g : Nat → List (List Int)} : ∀ {n k : Nat}, (∀ j, k ≤ j → j < k + n → (g j).Pairwise fun a b => cmpL a b < 0) → (upW g k n).Pairwise fun a b => cmpL a b < 0
  | 0, _, _ => List.Pairwise.nil
  | n + 1, k, h => by
    unfold upW
    refine List.pairwise_append.2 ⟨List.pairwise_map.2 ((h k (Nat.le_refl _) (by omega)).imp fun h => by rw [cmpL_cons]; exact h), asc_upW fun j h1 h2 => h j (by omega) (by omega), fun a ha b hb => ?_⟩
    obtain ⟨y, _, rfl⟩ := List.mem_map.1 ha
    obtain ⟨j, z, h1, h2, _, rfl⟩ := mem_upW.1 hb
    exact cmpL_head _ _ (by omega)
theorem desc_allP : ∀ (f left most : Nat), (allP f left most).Pairwise fun a b => cmpL b a < 0
  | 0, _, _ => List.Pairwise.nil
  | f + 1, left, most => by
    unfold allP
    split
    · exact List.pairwise_singleton _ _
    · exact desc_downW fun j _ _ => desc_allP f _ _
theorem asc_allA : ∀ (f least left : Nat), (allA f least left).Pairwise fun a b => cmpL a b < 0
  | 0, _, _ => List.Pairwise.nil
  | f + 1, least, left => by
    unfold allA
    split
    · exact List.pairwise_singleton _ _
    · exact asc_upW fun j _ _ => asc_allA f _ _
theorem nodup_of_lt {l : List (List Int)} (h : l.Pairwise fun a b => cmpL a b < 0) : l.Nodup :=
  List.nodup_iff_pairwise_ne.2 (h.imp fun {a b} h e => by subst e; rw [cmpL_self] at h; omega)
theorem nodup_of_gt {l : List (List Int)} (h : l.Pairwise fun a b => cmpL b a < 0) : l.Nodup :=
  List.nodup_iff_pairwise_ne.2 (h.imp fun {a b} h e => by subst e; rw [cmpL_self] at h; omega)

theorem all_perm {f n : Nat} (hf : n < f) : ((allA f 1 n).map List.reverse).Perm (allP f n n) := by
  refine (List.perm_ext_iff_of_nodup ?_ (nodup_of_gt (desc_allP _ _ _))).2 fun x => ?_
  · have h := nodup_of_lt (asc_allA f 1 n)
    rw [List.nodup_iff_pairwise_ne] at h ⊢
    exact List.pairwise_map.2 (h.imp fun {a b} h e => h (List.reverse_inj.1 e))
  · rw [List.mem_map, mem_allP (by omega)]
    have hs : ∀ y : List Int, sumL y.reverse = sumL y := fun y => sumL_perm (List.reverse_perm y)
    constructor
    · rintro ⟨y, hy, rfl⟩
      obtain ⟨h1, h2, h3⟩ := (mem_allA (by omega) (by omega)).1 hy
      have h1' : ∀ a ∈ y, 1 ≤ a := fun a ha => by have := h1 a ha; omega
      refine ⟨fun a ha => ?_, List.pairwise_reverse.2 h2, by rw [hs, h3]⟩
      have ha := List.mem_reverse.1 ha
      have := h1' a ha
      refine ⟨this, ?_⟩
      have hle : ∀ (l : List Int), (∀ a ∈ l, 1 ≤ a) → ∀ a ∈ l, a ≤ sumL l := by
        intro l
        induction l with
        | nil => intro _ a ha; cases ha
        | cons b l ih =>
          intro hl a ha
          have q := sumL_pos fun x hx => hl x (List.mem_cons_of_mem _ hx)
          have q2 := hl b List.mem_cons_self
          rw [sumL_cons]
          rcases List.mem_cons.1 ha with rfl | ha
          · omega
          · have := ih (fun x hx => hl x (List.mem_cons_of_mem _ hx)) a ha; omega
      have := hle y h1' a ha
      omega
    · rintro ⟨h1, h2, h3⟩
      refine ⟨x.reverse, (mem_allA (by omega) (by omega)).2 ⟨fun a ha => ?_, List.pairwise_reverse.2 h2, by rw [hs, h3]⟩, List.reverse_reverse _⟩
      have := (h1 a (List.mem_reverse.1 ha)).1
      exact this


theorem len_downW {g : Nat → List (List Int)} {left : Nat} : ∀ {k : Nat}, k ≤ left → (∀ j, 1 ≤ j → j ≤ k → (g j).length ≤ 2 ^ (left - j)) → (downW g k).length + 2 ^ (left - k) ≤ 2 ^ left
  | 0, _, _ => by simp [downW]
  | k + 1, hk, h => by
    have ih := len_downW (g := g) (left := left) (k := k) (by omega) fun j h1 h2 => h j h1 (by omega)
    have h1 := h (k + 1) (by omega) (Nat.le_refl _)
    have e : 2 ^ (left - k) = 2 ^ (left - (k + 1)) + 2 ^ (left - (k + 1)) := by
      rw [show left - k = (left - (k + 1)) + 1 by omega, Nat.pow_succ]; omega
    unfold downW
    rw [List.length_append, List.length_map]
    omega
theorem len_allP : ∀ (f left most : Nat), (allP f left most).length ≤ 2 ^ left
  | 0, _, _ => Nat.zero_le _
  | f + 1, left, most => by
    unfold allP
    split
    · rw [List.length_singleton]; exact Nat.one_le_two_pow
    · have := len_downW (g := fun k => allP f (left - k) k) (left := left) (k := min left most) (by omega) fun j _ _ => len_allP f (left - j) j
      exact Nat.le_trans (Nat.le_add_right _ _) this
theorem len_upW {g : Nat → List (List Int)} {left : Nat} : ∀ {n k : Nat}, 1 ≤ k → k + n = left + 1 → (∀ j, k ≤ j → j < k + n → (g j).length ≤ 2 ^ (left - j)) → (upW g k n).length ≤ 2 ^ (left + 1 - k)
  | 0, k, _, _, _ => Nat.zero_le _
  | n + 1, k, hk, hn, h => by
    have ih := len_upW (g := g) (left := left) (n := n) (k := k + 1) (by omega) (by omega) fun j h1 h2 => h j (by omega) (by omega)
    have h1 := h k (Nat.le_refl _) (by omega)
    have e : 2 ^ (left + 1 - k) = 2 ^ (left - k) + 2 ^ (left - k) := by
      rw [show left + 1 - k = (left - k) + 1 by omega, Nat.pow_succ]; omega
    rw [show left + 1 - (k + 1) = left - k by omega] at ih
    unfold upW
    rw [List.length_append, List.length_map]
    omega
theorem len_allA : ∀ (f least left : Nat), 1 ≤ least → (allA f least left).length ≤ 2 ^ left
  | 0, _, _, _ => Nat.zero_le _
  | f + 1, least, left, hl => by
    unfold allA
    split
    · rw [List.length_singleton]; exact Nat.one_le_two_pow
    · by_cases h : least ≤ left
      · have := len_upW (g := fun k => allA f k (left - k)) (left := left) (n := left + 1 - least) (k := least) hl (by omega) fun j h1 h2 => len_allA f j (left - j) (by omega)
        have h2 : 2 ^ (left + 1 - least) ≤ 2 ^ left := Nat.pow_le_pow_right (by omega) (by omega)
        omega
      · rw [show left + 1 - least = 0 by omega]
        exact Nat.zero_le _

end Fer

namespace Fer

theorem rows_of {p : List Int} (h : PartL p) : partRows p := fun i hi => by
  refine ⟨h.pos _ (getD_mem 0 hi), fun h0 => ?_⟩
  exact fall_get h.fall (show i - 1 ≤ i by omega) hi
theorem flip_col {p : List Int} (h : PartL p) {i j : Nat} (hi : i < p.length) (hj : (j : Int) < p.getD i 0) : (flipL p).getD j 0 = (colN p j : Int) := by
  have h0 : (j : Int) < p.getD 0 0 := by
    have := fall_get h.fall (Nat.zero_le i) hi
    omega
  rcases flipL_getD (p := p) (j := j) (by omega) with h1 | h1
  · exact h1
  · exact absurd (rows_of h) h1

def inHook (i j : Nat) (b : Int × Int) : Bool := (decide (b.1 = (i : Int)) && decide ((j : Int) ≤ b.2)) || (decide (b.2 = (j : Int)) && decide ((i : Int) < b.1))
theorem count_ge (j : Nat) : ∀ n, (List.range n).countP (fun x => decide (j ≤ x)) = n - j
  | 0 => by simp
  | n + 1 => by
    rw [List.range_succ, List.countP_append, count_ge j n, List.countP_singleton]
    by_cases h : j ≤ n
    · rw [if_pos (by simpa using h)]; omega
    · rw [if_neg (by simpa using h)]; omega
theorem count_eq (j : Nat) : ∀ n, (List.range n).countP (fun x => decide (x = j)) = if j < n then 1 else 0
  | 0 => by simp
  | n + 1 => by
    rw [List.range_succ, List.countP_append, count_eq j n, List.countP_singleton]
    by_cases h : n = j
    · subst h
      rw [if_neg (by omega), if_pos (by simp), if_pos (by omega)]
    · rw [if_neg (c := decide (n = j) = true) (by simpa using h)]
      by_cases h2 : j < n
      · rw [if_pos h2, if_pos (by omega)]
      · rw [if_neg h2, if_neg (by omega)]
theorem row_hook (i j m n : Nat) : (rowB m n).countP (inHook i j) = if m = i then n - j else if i < m then (if j < n then 1 else 0) else 0 := by
  unfold rowB
  rw [List.countP_map]
  by_cases h : m = i
  · subst h
    rw [if_pos rfl, ← count_ge j n]
    refine List.countP_congr fun x _ => ?_
    simp [inHook, Function.comp]
  · rw [if_neg h]
    by_cases h2 : i < m
    · rw [if_pos h2, ← count_eq j n]
      refine List.countP_congr fun x _ => ?_
      simp only [inHook, Function.comp, Bool.or_eq_true, Bool.and_eq_true, decide_eq_true_eq]
      omega
    · rw [if_neg h2, List.countP_eq_zero]
      intro x _
      simp only [inHook, Function.comp, Bool.or_eq_true, Bool.and_eq_true, decide_eq_true_eq]
      omega
theorem hook_to {p : List Int} (hp : PartL p) {i j : Nat} (hi : i < p.length) (hj : (j : Int) < p.getD i 0) : ∀ m, m ≤ p.length → ((boxesTo p m).countP (inHook i j) : Int) = if i < m then p.getD i 0 - j + ((min m (colN p j) : Nat) - i - 1 : Int) else 0
  | 0, _ => by simp [boxesTo]
  | m + 1, hm => by
    have hc := colN_iff hp.fall (j : Int)
    have hic : i < colN p j := (hc i).2 ⟨hi, hj⟩
    rw [boxesTo_succ, List.countP_append, row_hook]
    have ih := hook_to hp hi hj m (by omega)
    by_cases h1 : m = i
    · subst h1
      rw [if_pos rfl, if_pos (show m < m + 1 by omega)]
      rw [if_neg (Nat.lt_irrefl _)] at ih
      have : min (m + 1) (colN p j) = m + 1 := by omega
      rw [this]
      omega
    · rw [if_neg h1]
      by_cases h2 : i < m
      · rw [if_pos h2] at ih ⊢
        rw [if_pos (show i < m + 1 by omega)]
        by_cases h3 : m < colN p j
        · have := ((hc m).1 h3).2
          rw [if_pos (show j < (p.getD m 0).toNat by omega)]
          have e1 : min (m + 1) (colN p j) = m + 1 := by omega
          have e2 : min m (colN p j) = m := by omega
          rw [e1]
          rw [e2] at ih
          omega
        · have : ¬ (j : Int) < p.getD m 0 := fun h => h3 ((hc m).2 ⟨by omega, h⟩)
          rw [if_neg (show ¬ j < (p.getD m 0).toNat by omega)]
          have e1 : min (m + 1) (colN p j) = colN p j := by omega
          have e2 : min m (colN p j) = colN p j := by omega
          rw [e1]
          rw [e2] at ih
          omega
      · rw [if_neg h2] at ih ⊢
        rw [if_neg (show ¬ i < m + 1 by omega)]
        omega
theorem hook_count {p : List Int} (hp : PartL p) {i j : Nat} (hi : i < p.length) (hj : (j : Int) < p.getD i 0) : ((boxes p).countP (inHook i j) : Int) = hookV p i j := by
  have h := hook_to hp hi hj p.length (Nat.le_refl _)
  rw [if_pos hi, Nat.min_eq_right (colN_le _)] at h
  exact h
def hookT (p : List Int) : List (List Int) := (List.range p.length).map fun i => (List.range (p.getD i 0).toNat).map fun (j : Nat) => hookV p i j


def shR (p : List Int) (i r : Nat) : List Int := (List.range p.length).map fun s => if s < i then p.getD s 0 else if s < r then p.getD (s + 1) 0 - 1 else p.getD s 0
theorem shR_len (p : List Int) (i r : Nat) : (shR p i r).length = p.length := by simp [shR]
theorem shR_get {p : List Int} {i r s : Nat} (hs : s < p.length) : (shR p i r).getD s 0 = if s < i then p.getD s 0 else if s < r then p.getD (s + 1) 0 - 1 else p.getD s 0 := by
  unfold shR
  rw [List.getD_eq_getElem?_getD, List.getElem?_map, List.getElem?_range hs]
  rfl
theorem shR_start (p : List Int) (i : Nat) : shR p i i = p := by
  apply ext_getD 0 (shR_len p i i)
  intro s hs
  rw [shR_len] at hs
  rw [shR_get hs]
  split
  · rfl
  · first | rfl | (split <;> first | omega | rfl)
theorem shR_step {p : List Int} {i r : Nat} (hir : i ≤ r) (hr : r + 1 < p.length) : (shR p i r).set r (p.getD (r + 1) 0 - 1) = shR p i (r + 1) := by
  apply ext_getD 0 (by rw [List.length_set, shR_len, shR_len])
  intro s hs
  rw [List.length_set, shR_len] at hs
  rw [getD_set_if _ (by rw [shR_len]; omega), shR_get hs, shR_get hs]
  by_cases e : s = r
  · subst e
    rw [if_pos rfl, if_neg (by omega), if_pos (by omega)]
  · rw [if_neg e]
    by_cases h1 : s < i
    · rw [if_pos h1, if_pos h1]
    · rw [if_neg h1, if_neg h1]
      by_cases h2 : s < r
      · rw [if_pos h2, if_pos (by omega)]
      · rw [if_neg h2, if_neg (by omega)]
theorem shR_end {p : List Int} {i last : Nat} (hil : i ≤ last) (hl : last < p.length) (j : Int) : (shR p i last).set last j = refL p i last j := by
  apply ext_getD 0 (by rw [List.length_set, shR_len, refL_len])
  intro s hs
  rw [List.length_set, shR_len] at hs
  rw [getD_set_if _ (by rw [shR_len]; omega), shR_get hs, refL_get hs]
  by_cases e : s = last
  · subst e
    rw [if_pos rfl, if_neg (by omega), if_neg (by omega), if_pos rfl]
  · rw [if_neg e]
    by_cases h1 : s < i
    · rw [if_pos h1, if_pos h1]
    · rw [if_neg h1, if_neg h1]
      by_cases h2 : s < last
      · rw [if_pos h2, if_pos h2]
      · rw [if_neg h2, if_neg h2, if_neg e]
theorem trim_end {q : List Int} (hf : q.Pairwise (fun a b => b ≤ a)) (h0 : ∀ a ∈ q, 0 ≤ a) {m : Nat} (hm : m ≤ q.length) (hz : ∀ r, m ≤ r → r < q.length → q.getD r 0 = 0) (he : m = 0 ∨ q.getD (m - 1) 0 ≠ 0) : q.take m = q.filter fun a => decide (0 < a) := by
  obtain ⟨z, e⟩ := pos_zero hf h0
  generalize hF : q.filter (fun a => decide (0 < a)) = F at e
  have hpos : ∀ a ∈ F, 0 < a := fun a ha => by
    rw [← hF] at ha
    simpa using (List.mem_filter.1 ha).2
  have hlen : q.length = F.length + z := by rw [e]; simp
  have hlow : ∀ r, r < F.length → 0 < q.getD r 0 := fun r hr => by
    rw [e, List.getD_eq_getElem?_getD, List.getElem?_append_left hr, List.getElem?_eq_getElem hr]
    exact hpos _ (List.getElem_mem hr)
  have hhigh : ∀ r, F.length ≤ r → q.getD r 0 = 0 := fun r hr => by
    rw [e, List.getD_eq_getElem?_getD, List.getElem?_append_right hr, List.getElem?_replicate]
    split <;> rfl
  have hmF : m = F.length := by
    rcases Nat.lt_trichotomy m F.length with h | h | h
    · have h1 := hz m (Nat.le_refl _) (by omega)
      have h2 := hlow m h
      omega
    · exact h
    · rcases he with he | he
      · omega
      · exact absurd (hhigh (m - 1) (by omega)) he
  rw [hmF, e, List.take_left']
  rfl

theorem rowS_succ (p : List Int) (k : Int) (i j : Nat) : rowS p k i (j + 1) = rowS p k i j ++ (if hookV p i j = k then [refS p i j] else []) := by
  unfold rowS
  rw [List.range_succ, List.filterMap_append, List.filterMap_cons]
  by_cases h : hookV p i j = k
  · rw [if_pos h, if_pos h]; rfl
  · rw [if_neg h, if_neg h]; rfl
theorem hookS_succ (p : List Int) (k : Int) (i : Nat) : hookS p k (i + 1) = hookS p k i ++ rowS p k i (p.getD i 0).toNat := by
  unfold hookS
  rw [List.range_succ, List.flatMap_append]
  simp

end Fer
