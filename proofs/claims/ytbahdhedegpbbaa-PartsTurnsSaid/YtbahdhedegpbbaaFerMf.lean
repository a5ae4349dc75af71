import Derived.Test.YtbahdhedegpbbaaFerMe
/- Plain facts: the cycles of a permutation. No program in sight. -/
namespace Fer

/-- What p makes of y. -/
def sg (p : List Int) (y : Int) : Int := p.getD (y - 1).toNat 0
def it (p : List Int) (y : Int) : Nat → Int
  | 0 => y
  | j + 1 => sg p (it p y j)

def IsRet (p : List Int) (y : Int) (r : Nat) : Prop := 0 < r ∧ it p y r = y ∧ ∀ d, 0 < d → d < r → it p y d ≠ y

theorem leastNat {P : Nat → Prop} : ∀ n, P n → ∃ r, r ≤ n ∧ P r ∧ ∀ d, d < r → ¬ P d := by
  intro n
  induction n using Nat.strongRecOn with
  | _ n ih =>
    intro h
    by_cases c : ∃ d, d < n ∧ P d
    · obtain ⟨d, hd, hp⟩ := c
      obtain ⟨r, h1, h2, h3⟩ := ih d hd hp
      exact ⟨r, by omega, h2, h3⟩
    · exact ⟨n, Nat.le_refl _, h, fun d hd hp => c ⟨d, hd, hp⟩⟩

theorem sg_rng {p : List Int} (h : permE p = 0) {y : Int} (h1 : 1 ≤ y) (h2 : y ≤ p.length) : 1 ≤ sg p y ∧ sg p y ≤ p.length :=
  (permE_zero h).2.2.2 _ (getD_mem 0 (by omega))

theorem sg_inj {p : List Int} (h : permE p = 0) {y z : Int} (h1 : 1 ≤ y) (h2 : y ≤ p.length) (h3 : 1 ≤ z) (h4 : z ≤ p.length) (e : sg p y = sg p z) : y = z := by
  have hn := (permE_zero h).2.2.1
  unfold sg at e
  by_cases c : (y - 1).toNat < (z - 1).toNat
  · exact absurd e (nodup_getD hn c (by omega))
  · by_cases c' : (z - 1).toNat < (y - 1).toNat
    · exact absurd e.symm (nodup_getD hn c' (by omega))
    · omega

theorem it_rng {p : List Int} (h : permE p = 0) {y : Int} (h1 : 1 ≤ y) (h2 : y ≤ p.length) : ∀ j, 1 ≤ it p y j ∧ it p y j ≤ p.length
  | 0 => ⟨h1, h2⟩
  | j + 1 => sg_rng h (it_rng h h1 h2 j).1 (it_rng h h1 h2 j).2

theorem it_add (p : List Int) (y : Int) (a : Nat) : ∀ b, it p (it p y a) b = it p y (a + b)
  | 0 => rfl
  | b + 1 => by show sg p _ = sg p (it p y (a + b)); rw [it_add p y a b]

theorem it_back {p : List Int} (h : permE p = 0) {y : Int} (h1 : 1 ≤ y) (h2 : y ≤ p.length) (d : Nat) : ∀ a, it p y a = it p y (a + d) → y = it p y d
  | 0, e => by rw [Nat.zero_add] at e; exact e
  | a + 1, e => by
    rw [show a + 1 + d = (a + d) + 1 by omega] at e
    exact it_back h h1 h2 d a (sg_inj h (it_rng h h1 h2 _).1 (it_rng h h1 h2 _).2 (it_rng h h1 h2 _).1 (it_rng h h1 h2 _).2 e)

theorem it_returns {p : List Int} (h : permE p = 0) {y : Int} (h1 : 1 ≤ y) (h2 : y ≤ p.length) : ∃ d, 0 < d ∧ d ≤ p.length ∧ it p y d = y := by
  refine Classical.byContradiction fun hc => ?_
  have hd : ∀ d, 0 < d → d ≤ p.length → it p y d ≠ y := fun d a b e => hc ⟨d, a, b, e⟩
  have hn : ((List.range (p.length + 1)).map (it p y)).Nodup := by
    refine List.pairwise_map.2 (List.Pairwise.imp_of_mem ?_ (List.pairwise_lt_range (n := p.length + 1)))
    intro a b ha hb hab e
    rw [List.mem_range] at ha hb
    rw [show b = a + (b - a) by omega] at e
    exact hd (b - a) (by omega) (by omega) (it_back h h1 h2 _ _ e).symm
  have := nodup_len _ (iota p.length) hn fun x hx => by
    obtain ⟨j, _, rfl⟩ := List.mem_map.1 hx
    exact mem_iota.2 (it_rng h h1 h2 j)
  simp at this
  omega

noncomputable def ret (p : List Int) (y : Int) : Nat := Classical.epsilon (IsRet p y)

theorem ret_spec {p : List Int} (h : permE p = 0) {y : Int} (h1 : 1 ≤ y) (h2 : y ≤ p.length) : IsRet p y (ret p y) ∧ ret p y ≤ p.length := by
  obtain ⟨d, d0, d1, d2⟩ := it_returns h h1 h2
  obtain ⟨r, r1, r2, r3⟩ := leastNat (P := fun d => 0 < d ∧ it p y d = y) d ⟨d0, d2⟩
  have hr : IsRet p y r := ⟨r2.1, r2.2, fun d a b e => r3 d b ⟨a, e⟩⟩
  have hs : IsRet p y (ret p y) := Classical.epsilon_spec ⟨r, hr⟩
  refine ⟨hs, ?_⟩
  by_cases c : ret p y ≤ r
  · omega
  · exact absurd hr.2.1 (hs.2.2 r hr.1 (by omega))

theorem ret_of {p : List Int} (h : permE p = 0) {y : Int} (h1 : 1 ≤ y) (h2 : y ≤ p.length) {r : Nat} (hr : IsRet p y r) : ret p y = r := by
  have hs := (ret_spec h h1 h2).1
  by_cases c : ret p y < r
  · exact absurd hs.2.1 (hr.2.2 _ hs.1 c)
  · by_cases c' : r < ret p y
    · exact absurd hr.2.1 (hs.2.2 _ hr.1 c')
    · omega

noncomputable def cyc (p : List Int) (y : Int) : List Int := (List.range (ret p y)).map (it p y)

theorem it_mod {p : List Int} (h : permE p = 0) {y : Int} (h1 : 1 ≤ y) (h2 : y ≤ p.length) : ∀ j, ∃ i, i < ret p y ∧ it p y j = it p y i := by
  intro j
  have hs := (ret_spec h h1 h2).1
  induction j using Nat.strongRecOn with
  | _ j ih =>
    by_cases c : j < ret p y
    · exact ⟨j, c, rfl⟩
    · have hp := hs.1
      obtain ⟨i, hi, e⟩ := ih (j - ret p y) (by omega)
      refine ⟨i, hi, ?_⟩
      rw [← e, show j = ret p y + (j - ret p y) by omega, ← it_add, hs.2.1, show ret p y + (j - ret p y) - ret p y = j - ret p y by omega]

theorem mem_cyc {p : List Int} (h : permE p = 0) {y : Int} (h1 : 1 ≤ y) (h2 : y ≤ p.length) {x : Int} : x ∈ cyc p y ↔ ∃ j, it p y j = x := by
  unfold cyc
  rw [List.mem_map]
  constructor
  · rintro ⟨j, _, e⟩; exact ⟨j, e⟩
  · rintro ⟨j, e⟩
    obtain ⟨i, hi, e'⟩ := it_mod h h1 h2 j
    exact ⟨i, List.mem_range.2 hi, e'.symm.trans e⟩

theorem cyc_rng {p : List Int} (h : permE p = 0) {y : Int} (h1 : 1 ≤ y) (h2 : y ≤ p.length) {x : Int} (hx : x ∈ cyc p y) : 1 ≤ x ∧ x ≤ p.length := by
  obtain ⟨j, rfl⟩ := (mem_cyc h h1 h2).1 hx
  exact it_rng h h1 h2 j

theorem cyc_symm {p : List Int} (h : permE p = 0) {y : Int} (h1 : 1 ≤ y) (h2 : y ≤ p.length) {x : Int} (hx : x ∈ cyc p y) : y ∈ cyc p x := by
  have hr := cyc_rng h h1 h2 hx
  obtain ⟨j, e⟩ := (mem_cyc h h1 h2).1 hx
  obtain ⟨i, hi, e'⟩ := it_mod h h1 h2 j
  refine (mem_cyc h hr.1 hr.2).2 ⟨ret p y - i, ?_⟩
  rw [← e, e', it_add, show i + (ret p y - i) = ret p y by omega]
  exact (ret_spec h h1 h2).1.2.1

theorem cyc_trans {p : List Int} (h : permE p = 0) {y : Int} (h1 : 1 ≤ y) (h2 : y ≤ p.length) {x z : Int} (hx : x ∈ cyc p y) (hz : z ∈ cyc p x) : z ∈ cyc p y := by
  have hr := cyc_rng h h1 h2 hx
  obtain ⟨j, e⟩ := (mem_cyc h h1 h2).1 hx
  obtain ⟨i, e'⟩ := (mem_cyc h hr.1 hr.2).1 hz
  exact (mem_cyc h h1 h2).2 ⟨j + i, by rw [← it_add, e, e']⟩

theorem it_ne {p : List Int} (h : permE p = 0) {y : Int} (h1 : 1 ≤ y) (h2 : y ≤ p.length) {i j : Nat} (hij : i < j) (hj : j < ret p y) : it p y i ≠ it p y j := by
  intro e
  rw [show j = i + (j - i) by omega] at e
  exact (ret_spec h h1 h2).1.2.2 (j - i) (by omega) (by omega) (it_back h h1 h2 _ _ e).symm

/-- The first of a cycle as Rounds writes it: its greatest. -/
noncomputable def isTop (p : List Int) (y : Int) : Bool := decide (∀ x ∈ cyc p y, x ≤ y)

noncomputable def tops (p l : List Int) : List (List Int) := (l.filter (isTop p)).map (cyc p)
noncomputable def rounds (p : List Int) : List Int := (tops p (iota p.length)).flatten

theorem tops_append (p l m : List Int) : tops p (l ++ m) = tops p l ++ tops p m := by simp [tops]
theorem tops_one (p : List Int) (y : Int) : tops p [y] = if isTop p y then [cyc p y] else [] := by
  unfold tops
  cases h : isTop p y <;> simp [h]

theorem cyc_length {p : List Int} (h : permE p = 0) {y : Int} (h1 : 1 ≤ y) (h2 : y ≤ p.length) : (cyc p y).length = ret p y := by simp [cyc]

theorem iota_drop {m : Nat} {n : Nat} (h : n < m) : (iota m).drop n = ((n : Int) + 1) :: (iota m).drop (n + 1) := by
  rw [drop_pred_getD 0 (by simpa using h), iota_getD h]

/-! All cycles together are no longer than p. -/

theorem flat_le (p : List Int) (h : permE p = 0) : ∀ l : List Int, l.Nodup → (∀ y ∈ l, 1 ≤ y ∧ y ≤ p.length) → ((tops p l).flatten).length ≤ p.length := by
  have key : ∀ l : List Int, l.Nodup → (∀ y ∈ l, 1 ≤ y ∧ y ≤ p.length) → (tops p l).flatten.Nodup ∧ ∀ x ∈ (tops p l).flatten, ∃ y ∈ l, isTop p y = true ∧ x ∈ cyc p y := by
    intro l
    induction l with
    | nil => intro _ _; simp [tops]
    | cons a l ih =>
      intro hn hr
      rw [List.nodup_cons] at hn
      obtain ⟨i1, i2⟩ := ih hn.2 fun y hy => hr y (List.mem_cons_of_mem _ hy)
      have ha := hr a (List.mem_cons_self ..)
      rw [show a :: l = [a] ++ l from rfl, tops_append, tops_one]
      by_cases c : isTop p a = true
      · rw [if_pos c, List.flatten_append, List.flatten_singleton]
        constructor
        · refine List.nodup_append.2 ⟨?_, i1, ?_⟩
          · refine List.pairwise_map.2 (List.Pairwise.imp_of_mem ?_ List.pairwise_lt_range)
            intro i j hi hj hij
            exact it_ne h ha.1 ha.2 hij (List.mem_range.1 hj)
          · intro x hx x' hx' e
            subst e
            obtain ⟨y, hy, ty, hxy⟩ := i2 x hx'
            have hyr := hr y (List.mem_cons_of_mem _ hy)
            have e1 : a ∈ cyc p y := cyc_trans h hyr.1 hyr.2 hxy (cyc_symm h ha.1 ha.2 hx)
            have e2 : y ∈ cyc p a := cyc_symm h hyr.1 hyr.2 e1
            simp only [isTop, decide_eq_true_eq] at c ty
            have := c y e2
            have := ty a e1
            exact hn.1 (by rw [show a = y by omega]; exact hy)
        · intro x hx
          rcases List.mem_append.1 hx with hx | hx
          · exact ⟨a, List.mem_cons_self .., c, hx⟩
          · obtain ⟨y, hy, r⟩ := i2 x hx
            exact ⟨y, List.mem_cons_of_mem _ hy, r⟩
      · rw [if_neg c]
        refine ⟨i1, fun x hx => ?_⟩
        obtain ⟨y, hy, r⟩ := i2 x hx
        exact ⟨y, List.mem_cons_of_mem _ hy, r⟩
  intro l hn hr
  obtain ⟨k1, k2⟩ := key l hn hr
  have := nodup_len _ (iota p.length) k1 fun x hx => by
    obtain ⟨y, hy, _, hxy⟩ := k2 x hx
    exact mem_iota.2 (cyc_rng h (hr y hy).1 (hr y hy).2 hxy)
  simpa using this

/-! ### Back -/

/-- Where the cycle that holds place i begins. -/
def fi (q : List Int) : Nat → Nat
  | 0 => 0
  | i + 1 => if q.getD (fi q i) 0 < q.getD (i + 1) 0 then i + 1 else fi q i
def nx (q : List Int) (k : Nat) : Int := if k + 1 < q.length ∧ ¬ q.getD (fi q k) 0 < q.getD (k + 1) 0 then q.getD (k + 1) 0 else q.getD (fi q k) 0
def unrO (q : List Int) : Nat → List Int
  | 0 => List.replicate q.length 0
  | k + 1 => (unrO q k).set (q.getD k 0 - 1).toNat (nx q k)

@[simp] theorem unrO_length (q : List Int) : ∀ k, (unrO q k).length = q.length
  | 0 => by simp [unrO]
  | k + 1 => by simp [unrO, unrO_length q k]

theorem fi_le (q : List Int) : ∀ i, fi q i ≤ i
  | 0 => Nat.le_refl _
  | i + 1 => by
    have := fi_le q i
    simp only [fi]; split <;> omega

theorem fi_run {q : List Int} {i : Nat} (h : fi q i = i) : ∀ d, (∀ k, i < k → k ≤ i + d → q.getD k 0 < q.getD i 0) → fi q (i + d) = i
  | 0, _ => h
  | d + 1, hk => by
    have e := fi_run h d fun k a b => hk k a (by omega)
    have := hk (i + d + 1) (by omega) (by omega)
    show (if q.getD (fi q (i + d)) 0 < q.getD (i + d + 1) 0 then i + d + 1 else fi q (i + d)) = i
    rw [e, if_neg (by omega)]

end Fer
