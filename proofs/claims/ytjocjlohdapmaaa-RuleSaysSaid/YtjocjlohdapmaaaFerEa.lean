import Derived.Test.YtjocjlohdapmaaaFerMa
import Derived.Test.YtjocjlohdapmaaaFerZd
namespace Fer

abbrev Tb := List (List Int)
def rg (T : Tb) (p : Nat × Nat) : Int := (T.getD p.1 []).getD p.2 0
def setR (T : Tb) (i j : Nat) (v : Int) : Tb := T.set i ((T.getD i []).set j v)
def rwB (i lo : Nat) : Nat → List (Nat × Nat)
  | 0 => []
  | n + 1 => (i, lo + n) :: rwB i lo n
def allB (a : List Int) : Nat → List Int → List (Nat × Nat)
  | _, [] => []
  | i, n :: cs => rwB i (a.getD i 0).toNat (n - a.getD i 0).toNat ++ allB a (i + 1) cs
def fitX (T : Tb) (left used : List Int) (i j x : Nat) : Prop :=
  left.getD x 0 ≠ 0 ∧ (x = 0 ∨ used.getD x 0 ≠ used.getD (x - 1) 0) ∧ (j + 1 < (T.getD i []).length → (x : Int) + 1 ≤ rg T (i, j + 1)) ∧ (0 < i → rg T (i - 1, j) < (x : Int) + 1)
instance (T : Tb) (left used : List Int) (i j x : Nat) : Decidable (fitX T left used i j x) := by unfold fitX; infer_instance
def lrS : List (Nat × Nat) → Tb → List Int → List Int → List Tb
  | [], T, _, _ => [T]
  | (i, j) :: bs, T, left, used => (List.range left.length).flatMap fun x =>
    if fitX T left used i j x then lrS bs (setR T i j ((x : Int) + 1)) (left.set x (left.getD x 0 - 1)) (used.set x (used.getD x 0 + 1)) else []


theorem getD_set_ne {α : Type} (l : List α) {i k : Nat} (v d : α) (h : k ≠ i) : (l.set i v).getD k d = l.getD k d := by
  simp only [List.getD_eq_getElem?_getD, List.getElem?_set]
  rw [if_neg (Ne.symm h)]
theorem getD_set_eq {α : Type} (l : List α) {i : Nat} (v d : α) (h : i < l.length) : (l.set i v).getD i d = v := by
  simp only [List.getD_eq_getElem?_getD, List.getElem?_set]
  simp [h]
theorem len_setR (T : Tb) (i j : Nat) (v : Int) : (setR T i j v).length = T.length := List.length_set
theorem row_setR (T : Tb) {i j : Nat} (v : Int) (hi : i < T.length) (k : Nat) : (setR T i j v).getD k [] = if k = i then (T.getD i []).set j v else T.getD k [] := by
  unfold setR
  by_cases h : k = i
  · subst h; rw [if_pos rfl, getD_set_eq _ _ _ hi]
  · rw [if_neg h, getD_set_ne _ _ _ h]
theorem rowlen_setR (T : Tb) {i j : Nat} (v : Int) (hi : i < T.length) (k : Nat) : ((setR T i j v).getD k []).length = (T.getD k []).length := by
  rw [row_setR T v hi]
  by_cases h : k = i
  · subst h; rw [if_pos rfl, List.length_set]
  · rw [if_neg h]
theorem rg_setR (T : Tb) {i j : Nat} (v : Int) (hi : i < T.length) (hj : j < (T.getD i []).length) (q : Nat × Nat) : rg (setR T i j v) q = if q = (i, j) then v else rg T q := by
  obtain ⟨k, m⟩ := q
  unfold rg
  simp only
  rw [row_setR T v hi]
  by_cases h : k = i
  · subst h
    rw [if_pos rfl]
    by_cases h2 : m = j
    · subst h2; rw [if_pos rfl, getD_set_eq _ _ _ hj]
    · rw [if_neg (fun e => h2 (Prod.mk.inj e).2), getD_set_ne _ _ _ h2]
  · rw [if_neg h, if_neg (fun e => h (Prod.mk.inj e).1)]
theorem tb_ext {S T : Tb} (h1 : S.length = T.length) (h2 : ∀ i, (S.getD i []).length = (T.getD i []).length) (h3 : ∀ p, rg S p = rg T p) : S = T := by
  apply List.ext_getElem h1
  intro i hi hi'
  have e1 : S.getD i [] = S[i] := by simp [List.getD_eq_getElem?_getD, hi]
  have e2 : T.getD i [] = T[i] := by simp [List.getD_eq_getElem?_getD, hi']
  have h4 := h2 i
  rw [e1, e2] at h4
  apply List.ext_getElem h4
  intro j hj hj'
  have h5 := h3 (i, j)
  unfold rg at h5
  simp only [e1, e2] at h5
  simpa [List.getD_eq_getElem?_getD, hj, hj'] using h5
theorem setR_back (T : Tb) {i j : Nat} (v : Int) (hi : i < T.length) (hj : j < (T.getD i []).length) (h0 : rg T (i, j) = 0) : setR (setR T i j v) i j 0 = T := by
  have hi' : i < (setR T i j v).length := by rw [len_setR]; exact hi
  have hj' : j < ((setR T i j v).getD i []).length := by rw [rowlen_setR T v hi]; exact hj
  refine tb_ext (by rw [len_setR, len_setR]) (fun k => by rw [rowlen_setR _ _ hi', rowlen_setR _ _ hi]) fun p => ?_
  rw [rg_setR _ _ hi' hj', rg_setR _ _ hi hj]
  by_cases h : p = (i, j)
  · rw [if_pos h, h, h0]
  · rw [if_neg h, if_neg h]


def bef (p q : Nat × Nat) : Prop := p.1 < q.1 ∨ (p.1 = q.1 ∧ q.2 < p.2)
theorem mem_rwB {i lo : Nat} {p : Nat × Nat} : ∀ {n : Nat}, p ∈ rwB i lo n ↔ p.1 = i ∧ lo ≤ p.2 ∧ p.2 < lo + n
  | 0 => ⟨fun h => by simp [rwB] at h, fun h => by omega⟩
  | n + 1 => by
    simp only [rwB, List.mem_cons, mem_rwB (n := n)]
    constructor
    · rintro (h | h)
      · subst h; exact ⟨rfl, Nat.le_add_right _ _, by show lo + n < _; omega⟩
      · omega
    · rintro ⟨h1, h2, h3⟩
      by_cases h : p.2 = lo + n
      · exact .inl (Prod.ext h1 h)
      · exact .inr ⟨h1, h2, by omega⟩
theorem rwB_bef {i lo : Nat} : ∀ n : Nat, (rwB i lo n).Pairwise bef
  | 0 => .nil
  | n + 1 => .cons (fun q hq => by
      have := mem_rwB.1 hq
      exact .inr ⟨this.1.symm, this.2.2⟩) (rwB_bef n)
theorem mem_allB {a : List Int} {p : Nat × Nat} : ∀ {cs : List Int} {i : Nat}, p ∈ allB a i cs ↔ i ≤ p.1 ∧ p.1 < i + cs.length ∧ (a.getD p.1 0).toNat ≤ p.2 ∧ p.2 < (a.getD p.1 0).toNat + (cs.getD (p.1 - i) 0 - a.getD p.1 0).toNat
  | [], i => by simp [allB]; omega
  | n :: cs, i => by
    rw [allB, List.mem_append, mem_rwB, mem_allB (cs := cs)]
    constructor
    · rintro (⟨h1, h2, h3⟩ | ⟨h1, h2, h3, h4⟩)
      · refine ⟨by omega, by rw [h1, List.length_cons]; omega, ?_⟩
        rw [h1, Nat.sub_self, List.getD_cons_zero]
        exact ⟨h2, h3⟩
      · refine ⟨by omega, by rw [List.length_cons]; omega, h3, ?_⟩
        rw [show p.1 - i = (p.1 - (i + 1)) + 1 by omega, List.getD_cons_succ]
        exact h4
    · rintro ⟨h1, h2, h3, h4⟩
      rw [List.length_cons] at h2
      by_cases h : p.1 = i
      · rw [h, Nat.sub_self, List.getD_cons_zero] at h4
        rw [h] at h3
        exact .inl ⟨h, h3, h4⟩
      · rw [show p.1 - i = (p.1 - (i + 1)) + 1 by omega, List.getD_cons_succ] at h4
        exact .inr ⟨by omega, by omega, h3, h4⟩
theorem allB_bef {a : List Int} : ∀ (cs : List Int) (i : Nat), (allB a i cs).Pairwise bef
  | [], _ => .nil
  | n :: cs, i => by
    rw [allB]
    refine List.pairwise_append.2 ⟨rwB_bef _, allB_bef cs (i + 1), fun p hp q hq => .inl ?_⟩
    have h1 := mem_rwB.1 hp
    have h2 := (mem_allB.1 hq).1
    omega
theorem bef_irrefl {p : Nat × Nat} : ¬ bef p p := fun h => by rcases h with h | h <;> omega

def condS (T : Tb) : List (Nat × Nat) → List Int → List Int → Prop
  | [], _, _ => True
  | (i, j) :: bs, left, used => ∃ x : Nat, x < left.length ∧ rg T (i, j) = (x : Int) + 1 ∧ fitX T left used i j x ∧ condS T bs (left.set x (left.getD x 0 - 1)) (used.set x (used.getD x 0 + 1))

theorem head_apart {i j : Nat} {bs : List (Nat × Nat)} (h : ((i, j) :: bs).Pairwise bef) : (i, j) ∉ bs ∧ (i, j + 1) ∉ bs ∧ (0 < i → (i - 1, j) ∉ bs) := by
  have h1 := (List.pairwise_cons.1 h).1
  refine ⟨fun hm => bef_irrefl (h1 _ hm), fun hm => ?_, fun hi hm => ?_⟩
  · rcases h1 _ hm with h | h
    · exact absurd h (Nat.lt_irrefl _)
    · have : j + 1 < j := h.2
      omega
  · rcases h1 _ hm with h | h
    · have : i < i - 1 := h
      omega
    · have : i = i - 1 := h.1
      omega
theorem fitX_same {S T : Tb} {left used : List Int} {i j x : Nat} (hl : (S.getD i []).length = (T.getD i []).length) (h1 : rg S (i, j + 1) = rg T (i, j + 1)) (h2 : 0 < i → rg S (i - 1, j) = rg T (i - 1, j)) : fitX S left used i j x ↔ fitX T left used i j x := by
  unfold fitX
  rw [hl, h1]
  constructor
  · rintro ⟨a, b, c, d⟩
    exact ⟨a, b, c, fun h => by rw [← h2 h]; exact d h⟩
  · rintro ⟨a, b, c, d⟩
    exact ⟨a, b, c, fun h => by rw [h2 h]; exact d h⟩

theorem mem_lrS : ∀ (bs : List (Nat × Nat)) (R : Tb) (left used : List Int), bs.Pairwise bef → (∀ p ∈ bs, p.1 < R.length ∧ p.2 < (R.getD p.1 []).length) → ∀ T : Tb,
    T ∈ lrS bs R left used ↔ T.length = R.length ∧ (∀ i, (T.getD i []).length = (R.getD i []).length) ∧ (∀ p, p ∉ bs → rg T p = rg R p) ∧ condS T bs left used
  | [], R, left, used, _, _, T => by
    simp only [lrS, List.mem_singleton, condS, and_true]
    constructor
    · rintro rfl; exact ⟨rfl, fun _ => rfl, fun _ _ => rfl⟩
    · rintro ⟨h1, h2, h3⟩
      exact tb_ext h1 h2 fun p => h3 p (by simp)
  | (i, j) :: bs, R, left, used, hb, hin, T => by
    obtain ⟨a1, a2, a3⟩ := head_apart hb
    obtain ⟨hi, hj⟩ := hin (i, j) List.mem_cons_self
    have hi : i < R.length := hi
    have hj : j < (R.getD i []).length := hj
    have hb2 := (List.pairwise_cons.1 hb).2
    have ih := fun (x : Nat) => mem_lrS bs (setR R i j ((x : Int) + 1)) (left.set x (left.getD x 0 - 1)) (used.set x (used.getD x 0 + 1)) hb2 (fun p hp => by
      rw [len_setR, rowlen_setR _ _ hi]
      exact hin p (List.mem_cons_of_mem _ hp)) T
    simp only [lrS, List.mem_flatMap, List.mem_range, condS]
    constructor
    · rintro ⟨x, hx, hm⟩
      by_cases hf : fitX R left used i j x
      · rw [if_pos hf, ih x] at hm
        obtain ⟨q1, q2, q3, q4⟩ := hm
        have e0 : rg T (i, j) = (x : Int) + 1 := by rw [q3 _ a1, rg_setR _ _ hi hj, if_pos rfl]
        have e1 : ∀ p, p ∉ (i, j) :: bs → rg T p = rg R p := fun p hp => by
          rw [q3 p fun h => hp (List.mem_cons_of_mem _ h), rg_setR _ _ hi hj, if_neg fun h : p = (i, j) => hp (by rw [h]; exact List.mem_cons_self)]
        have q2' : ∀ k, (T.getD k []).length = (R.getD k []).length := fun k => by rw [q2 k, rowlen_setR _ _ hi]
        refine ⟨by rw [q1, len_setR], q2', e1, x, hx, e0, (fitX_same (q2' i) (e1 _ ?_) fun h0 => e1 _ ?_).2 hf, q4⟩
        · rw [List.mem_cons, not_or]; exact ⟨fun e => by simp at e, a2⟩
        · rw [List.mem_cons, not_or]; exact ⟨fun e => by simp at e; omega, a3 h0⟩
      · rw [if_neg hf] at hm; cases hm
    · rintro ⟨q1, q2, q3, x, hx, e0, hf, q4⟩
      have hf' : fitX R left used i j x := (fitX_same (q2 i) (q3 _ (by rw [List.mem_cons, not_or]; exact ⟨fun e => by simp at e, a2⟩)) fun h0 => q3 _ (by rw [List.mem_cons, not_or]; exact ⟨fun e => by simp at e; omega, a3 h0⟩)).1 hf
      refine ⟨x, hx, ?_⟩
      rw [if_pos hf', ih x]
      refine ⟨by rw [q1, len_setR], fun k => by rw [q2 k, rowlen_setR _ _ hi], fun p hp => ?_, q4⟩
      rw [rg_setR _ _ hi hj]
      by_cases h : p = (i, j)
      · rw [if_pos h, h, e0]
      · rw [if_neg h]; exact q3 p fun hm => (List.mem_cons.1 hm).elim h hp

theorem nodup_flatMap' {α β : Type} {f : α → List β} : ∀ {l : List α}, l.Nodup → (∀ x ∈ l, (f x).Nodup) → (∀ x ∈ l, ∀ y ∈ l, ∀ z, z ∈ f x → z ∈ f y → x = y) → (l.flatMap f).Nodup
  | [], _, _, _ => by simp
  | x :: l, hn, h1, h2 => by
    rw [List.flatMap_cons]
    obtain ⟨hx, hl⟩ := List.nodup_cons.1 hn
    refine List.nodup_append.2 ⟨h1 x List.mem_cons_self, nodup_flatMap' hl (fun y hy => h1 y (List.mem_cons_of_mem _ hy)) (fun y hy z hz => h2 y (List.mem_cons_of_mem _ hy) z (List.mem_cons_of_mem _ hz)), fun z hz w hw e => ?_⟩
    subst e
    obtain ⟨y, hy, hzy⟩ := List.mem_flatMap.1 hw
    have := h2 x List.mem_cons_self y (List.mem_cons_of_mem _ hy) z hz hzy
    subst this
    exact hx hy
theorem nodup_lrS : ∀ (bs : List (Nat × Nat)) (R : Tb) (left used : List Int), bs.Pairwise bef → (∀ p ∈ bs, p.1 < R.length ∧ p.2 < (R.getD p.1 []).length) → (lrS bs R left used).Nodup
  | [], R, left, used, _, _ => by simp [lrS]
  | (i, j) :: bs, R, left, used, hb, hin => by
    obtain ⟨a1, a2, a3⟩ := head_apart hb
    obtain ⟨hi, hj⟩ := hin (i, j) List.mem_cons_self
    have hi : i < R.length := hi
    have hj : j < (R.getD i []).length := hj
    have hb2 := (List.pairwise_cons.1 hb).2
    have hin2 : ∀ x : Nat, ∀ p ∈ bs, p.1 < (setR R i j ((x : Int) + 1)).length ∧ p.2 < ((setR R i j ((x : Int) + 1)).getD p.1 []).length := fun x p hp => by
      rw [len_setR, rowlen_setR _ _ hi]
      exact hin p (List.mem_cons_of_mem _ hp)
    rw [lrS]
    have val : ∀ (x : Nat) (T : Tb), T ∈ (if fitX R left used i j x then lrS bs (setR R i j ((x : Int) + 1)) (left.set x (left.getD x 0 - 1)) (used.set x (used.getD x 0 + 1)) else []) → rg T (i, j) = (x : Int) + 1 := fun x T h => by
      split at h
      · have := ((mem_lrS bs _ _ _ hb2 (hin2 x) T).1 h).2.2.1 _ a1
        rw [this, rg_setR _ _ hi hj, if_pos rfl]
      · cases h
    refine nodup_flatMap' List.nodup_range (fun x _ => ?_) fun x _ y _ T hx hy => ?_
    · split
      · exact nodup_lrS bs _ _ _ hb2 (hin2 x)
      · simp
    · have h1 := val x T hx
      have h2 := val y T hy
      omega


def geoP (T : Tb) (p : Nat × Nat) : Prop := (p.2 + 1 < (T.getD p.1 []).length → rg T p ≤ rg T (p.1, p.2 + 1)) ∧ (0 < p.1 → rg T (p.1 - 1, p.2) < rg T p)
def latP (L : Nat) (W : List Int) (left used : List Int) : Prop :=
  ∀ n : Nat, ∀ x : Nat, x < L → ((W.take n).count ((x : Int) + 1) : Int) ≤ left.getD x 0 ∧ (0 < x → used.getD x 0 + ((W.take n).count ((x : Int) + 1) : Int) ≤ used.getD (x - 1) 0 + ((W.take n).count (x : Int) : Int))

theorem getD_upd {l : List Int} {x y : Nat} {d : Int} (hx : x < l.length) : (l.set x (l.getD x 0 + d)).getD y 0 = l.getD y 0 + if y = x then d else 0 := by
  by_cases h : y = x
  · subst h; rw [getD_set_eq _ _ _ hx, if_pos rfl]
  · rw [getD_set_ne _ _ _ h, if_neg h]; omega
theorem count_take_cons (v y : Int) (W : List Int) (n : Nat) : (((v :: W).take (n + 1)).count y : Int) = ((W.take n).count y : Int) + if y = v then 1 else 0 := by
  rw [List.take_succ_cons, List.count_cons]
  by_cases h : y = v
  · subst h; simp
  · rw [if_neg h, if_neg (by simpa using fun e => h e.symm)]; simp

theorem condS_iff {T : Tb} {L : Nat} : ∀ (bs : List (Nat × Nat)) (left used : List Int), left.length = L → used.length = L → (∀ x, x < L → 0 ≤ left.getD x 0) → (∀ x, 0 < x → x < L → used.getD x 0 ≤ used.getD (x - 1) 0) →
    (condS T bs left used ↔ (∀ p ∈ bs, ∃ x : Nat, x < L ∧ rg T p = (x : Int) + 1) ∧ (∀ p ∈ bs, geoP T p) ∧ latP L (bs.map (rg T)) left used)
  | [], left, used, hl, hu, h0, hd => by
    simp only [condS, true_iff]
    refine ⟨fun p hp => by simp at hp, fun p hp => (by simp at hp), fun n x hx => ⟨?_, fun h => ?_⟩⟩
    · simpa using h0 x hx
    · simpa using hd x h hx
  | (i, j) :: bs, left, used, hl, hu, h0, hd => by
    have ih := fun (x : Nat) (hx : x < L) (hf : fitX T left used i j x) => condS_iff (T := T) (L := L) bs (left.set x (left.getD x 0 + -1)) (used.set x (used.getD x 0 + 1)) (by rw [List.length_set]; exact hl) (by rw [List.length_set]; exact hu)
      (fun y hy => by
        rw [getD_upd (by omega)]
        have := h0 y hy
        have := hf.1
        by_cases e : y = x
        · subst e; rw [if_pos rfl]; omega
        · rw [if_neg e]; omega)
      (fun y hy0 hy => by
        rw [getD_upd (by omega), getD_upd (by omega)]
        have h1 := hd y hy0 hy
        by_cases e : y = x
        · subst e
          rw [if_pos rfl, if_neg (by omega)]
          have := hf.2.1
          omega
        · rw [if_neg e]; split <;> omega)
    simp only [condS]
    constructor
    · rintro ⟨x, hx, e0, hf, hc⟩
      rw [hl] at hx
      obtain ⟨g1, g2, g3⟩ := (ih x hx hf).1 hc
      refine ⟨fun p hp => ?_, fun p hp => ?_, fun n y hy => ?_⟩
      · rcases List.mem_cons.1 hp with rfl | hp
        · exact ⟨x, hx, e0⟩
        · exact g1 p hp
      · rcases List.mem_cons.1 hp with rfl | hp
        · obtain ⟨_, _, f3, f4⟩ := hf
          unfold geoP
          simp only [e0]
          exact ⟨f3, f4⟩
        · exact g2 p hp
      · cases n with
        | zero => simpa using ⟨h0 y hy, fun h => hd y h hy⟩
        | succ n =>
          obtain ⟨k1, k2⟩ := g3 n y hy
          rw [getD_upd (by omega)] at k1 k2
          rw [List.map_cons, e0, count_take_cons, count_take_cons]
          refine ⟨?_, fun h => ?_⟩
          · by_cases e : y = x
            · subst e; rw [if_pos rfl] at k1 ⊢; omega
            · rw [if_neg e] at k1; rw [if_neg (by omega)]; omega
          · have k2 := k2 h
            rw [getD_upd (by omega)] at k2
            by_cases e : y = x
            · subst e
              rw [if_pos rfl, if_neg (by omega)] at k2
              rw [if_pos rfl, if_neg (by omega)]
              omega
            · rw [if_neg e] at k2
              rw [if_neg (by omega)]
              by_cases e2 : y = x + 1
              · subst e2
                rw [if_pos (by omega)] at k2
                rw [if_pos (by omega)]
                omega
              · rw [if_neg (by omega)] at k2
                rw [if_neg (by omega)]
                omega
    · rintro ⟨g1, g2, g3⟩
      obtain ⟨x, hx, e0⟩ := g1 _ List.mem_cons_self
      have gx := g2 _ List.mem_cons_self
      unfold geoP at gx
      simp only [e0] at gx
      have hf : fitX T left used i j x := by
        obtain ⟨k1, k2⟩ := g3 1 x hx
        rw [List.map_cons, e0, count_take_cons] at k1 k2
        rw [count_take_cons] at k2
        simp only [List.take_zero, List.count_nil, if_true] at k1 k2
        refine ⟨by omega, ?_, gx.1, gx.2⟩
        by_cases h : x = 0
        · exact .inl h
        · have k2 := k2 (by omega)
          rw [if_neg (by omega)] at k2
          exact .inr (by omega)
      refine ⟨x, by omega, e0, hf, (ih x hx hf).2 ⟨fun p hp => g1 p (List.mem_cons_of_mem _ hp), fun p hp => g2 p (List.mem_cons_of_mem _ hp), fun n y hy => ?_⟩⟩
      obtain ⟨k1, k2⟩ := g3 (n + 1) y hy
      rw [List.map_cons, e0, count_take_cons] at k1 k2
      rw [count_take_cons] at k2
      rw [getD_upd (by omega), getD_upd (by omega)]
      refine ⟨?_, fun h => ?_⟩
      · by_cases e : y = x
        · subst e; rw [if_pos rfl] at k1 ⊢; omega
        · rw [if_neg (by omega)] at k1; rw [if_neg e]; omega
      · have k2 := k2 h
        rw [getD_upd (by omega)]
        by_cases e : y = x
        · subst e
          rw [if_pos rfl, if_neg (by omega)] at k2
          rw [if_pos rfl, if_neg (by omega)]
          omega
        · rw [if_neg (by omega)] at k2
          rw [if_neg e]
          by_cases e2 : y = x + 1
          · subst e2
            rw [if_pos (by omega)] at k2
            rw [if_pos (by omega)]
            omega
          · rw [if_neg (by omega)] at k2
            rw [if_neg (by omega)]
            omega

end Fer

namespace Fer


theorem snocI {α : Type} {P : List α → Prop} (h0 : P []) (h1 : ∀ l v, P l → P (l ++ [v])) (l : List α) : P l := by
  rw [← List.reverse_reverse l]
  induction l.reverse with
  | nil => exact h0
  | cons v m ih => rw [List.reverse_cons]; exact h1 _ _ ih

def trimD {α : Type} [DecidableEq α] (d : α) (l : List α) : List α := (l.reverse.dropWhile (fun v => decide (v = d))).reverse
section
variable {α : Type} [DecidableEq α] {d : α}
theorem trimD_snoc (l : List α) : trimD d (l ++ [d]) = trimD d l := by unfold trimD; simp
theorem trimD_keep {l : List α} {v : α} (h : v ≠ d) : trimD d (l ++ [v]) = l ++ [v] := by unfold trimD; simp [h]
theorem trimD_split (l : List α) : ∃ n, l = trimD d l ++ List.replicate n d := by
  induction l using snocI with
  | h0 => exact ⟨0, rfl⟩
  | h1 l v ih =>
    by_cases h : v = d
    · subst h
      obtain ⟨n, hn⟩ := ih
      refine ⟨n + 1, ?_⟩
      rw [trimD_snoc, List.replicate_succ', ← List.append_assoc, ← hn]
    · exact ⟨0, by rw [trimD_keep h]; simp⟩
theorem trimD_last (l : List α) : trimD d l = [] ∨ ∃ m v, trimD d l = m ++ [v] ∧ v ≠ d := by
  induction l using snocI with
  | h0 => exact .inl rfl
  | h1 l v ih =>
    by_cases h : v = d
    · subst h; rw [trimD_snoc]; exact ih
    · exact .inr ⟨l, v, trimD_keep h, h⟩
theorem trimD_repl (l : List α) (n : Nat) : trimD d (l ++ List.replicate n d) = trimD d l := by
  induction n with
  | zero => simp
  | succ n ih => rw [List.replicate_succ', ← List.append_assoc, trimD_snoc, ih]
omit [DecidableEq α] in
theorem getD_repl (l : List α) (n i : Nat) : (l ++ List.replicate n d).getD i d = l.getD i d := by
  simp only [List.getD_eq_getElem?_getD]
  by_cases h : i < l.length
  · rw [List.getElem?_append_left h]
  · rw [List.getElem?_append_right (by omega), List.getElem?_eq_none (l := l) (by omega), List.getElem?_replicate]
    split <;> rfl
theorem getD_trimD (l : List α) (i : Nat) : (trimD d l).getD i d = l.getD i d := by
  obtain ⟨n, hn⟩ := trimD_split (d := d) l
  conv => rhs; rw [hn]
  rw [getD_repl]
theorem trimD_len (l : List α) : (trimD d l).length ≤ l.length := by
  obtain ⟨n, hn⟩ := trimD_split (d := d) l
  conv => rhs; rw [hn]
  simp
theorem trimD_top (l : List α) (h : trimD d l ≠ []) : l.getD ((trimD d l).length - 1) d ≠ d := by
  rcases trimD_last (d := d) l with h1 | ⟨m, v, h1, h2⟩
  · exact absurd h1 h
  · rw [← getD_trimD, h1]
    simpa [List.getD_eq_getElem?_getD] using h2
end

theorem list_ext {α : Type} {d : α} {S T : List α} (h1 : S.length = T.length) (h2 : ∀ i, S.getD i d = T.getD i d) : S = T := by
  apply List.ext_getElem h1
  intro i hi hi'
  have := h2 i
  simpa [List.getD_eq_getElem?_getD, hi, hi'] using this
theorem row_mem {T : Tb} {i : Nat} (h : i < T.length) : T.getD i [] ∈ T := by
  rw [show T.getD i [] = T[i] by simp [List.getD_eq_getElem?_getD, h]]
  exact List.getElem_mem h
theorem row_none {T : Tb} {i : Nat} (h : T.length ≤ i) : T.getD i [] = [] := by simp [List.getD_eq_getElem?_getD, List.getElem?_eq_none h]


def cle (y : Int) (r : List Int) : Nat := r.countP (fun v => decide (v ≤ y))
theorem cle_le (y : Int) (r : List Int) : cle y r ≤ r.length := List.countP_le_length
theorem cle_all {y : Int} {r : List Int} (h : ∀ v ∈ r, v ≤ y) : cle y r = r.length := by
  unfold cle
  rw [List.countP_eq_length]
  simpa using h
theorem cle_mono {y z : Int} (h : y ≤ z) (r : List Int) : cle y r ≤ cle z r := by
  unfold cle
  refine List.countP_mono_left fun v _ hv => ?_
  have : v ≤ y := by simpa using hv
  simp; omega
theorem cle_filter {x y : Int} (h : y < x) (r : List Int) : cle y (r.filter fun v => decide (v < x)) = cle y r := by
  unfold cle
  rw [List.countP_filter]
  refine List.countP_congr fun v _ => ?_
  simp; omega
theorem split_top {x : Int} : ∀ {r : List Int}, r.Pairwise (· ≤ ·) → (∀ v ∈ r, v ≤ x) → r = r.filter (fun v => decide (v < x)) ++ List.replicate (r.length - (r.filter fun v => decide (v < x)).length) x
  | [], _, _ => rfl
  | v :: r, hs, hx => by
    obtain ⟨h1, h2⟩ := List.pairwise_cons.1 hs
    have hv := hx v List.mem_cons_self
    have ih := split_top h2 fun u hu => hx u (List.mem_cons_of_mem _ hu)
    by_cases h : v < x
    · rw [List.filter_cons_of_pos (by simpa using h), List.length_cons, List.length_cons, Nat.add_sub_add_right, List.cons_append, ← ih]
    · have e : ∀ u ∈ v :: r, u = x := fun u hu => by
        have := hx u hu
        rcases List.mem_cons.1 hu with rfl | hu
        · omega
        · have := h1 u hu; omega
      rw [List.filter_eq_nil_iff.2 fun u hu => by have := e u hu; simp; omega, List.nil_append, List.length_nil, Nat.sub_zero]
      exact List.eq_replicate_iff.2 ⟨rfl, e⟩
theorem sorted_filter {r : List Int} (h : r.Pairwise (· ≤ ·)) (p : Int → Bool) : (r.filter p).Pairwise (· ≤ ·) := h.filter _


def wd (T : Tb) : List Int := T.flatMap List.reverse
def lens (T : Tb) : List Int := T.map fun r => (r.length : Int)
theorem getD_lens (T : Tb) (i : Nat) : (lens T).getD i 0 = ((T.getD i []).length : Int) := by
  simp only [lens, List.getD_eq_getElem?_getD, List.getElem?_map]
  cases T[i]? <;> rfl
theorem len_wd : ∀ T : Tb, ((wd T).length : Int) = (lens T).sum
  | [] => rfl
  | r :: T => by
    have := len_wd T
    simp only [wd, lens, List.flatMap_cons, List.length_append, List.length_reverse, List.map_cons, List.sum_cons] at *
    omega
theorem wd_repl (T : Tb) (n : Nat) : wd (T ++ List.replicate n []) = wd T := by
  unfold wd
  rw [List.flatMap_append]
  have : ∀ n : Nat, (List.replicate n ([] : List Int)).flatMap List.reverse = [] := fun n => by
    induction n with
    | zero => rfl
    | succ n ih => rw [List.replicate_succ, List.flatMap_cons, ih]; rfl
  rw [this, List.append_nil]
theorem wd_filter (p : Int → Bool) : ∀ T : Tb, wd (T.map fun r => r.filter p) = (wd T).filter p
  | [] => rfl
  | r :: T => by
    have := wd_filter p T
    simp only [wd, List.map_cons, List.flatMap_cons, List.filter_append, List.filter_reverse] at *
    rw [this]
theorem wd_trim (T : Tb) : wd (trimD [] T) = wd T := by
  obtain ⟨n, hn⟩ := trimD_split (d := ([] : List Int)) T
  conv => rhs; rw [hn]
  rw [wd_repl]
theorem take_filter (p : Int → Bool) : ∀ (l : List Int) (n : Nat), ∃ m, (l.take n).filter p = (l.filter p).take m
  | [], n => ⟨0, by simp⟩
  | v :: l, 0 => ⟨0, by simp⟩
  | v :: l, n + 1 => by
    obtain ⟨m, hm⟩ := take_filter p l n
    by_cases h : p v = true
    · exact ⟨m + 1, by rw [List.take_succ_cons, List.filter_cons_of_pos h, List.filter_cons_of_pos h, List.take_succ_cons, hm]⟩
    · exact ⟨m, by rw [List.take_succ_cons, List.filter_cons_of_neg h, List.filter_cons_of_neg h, hm]⟩
theorem filter_take (p : Int → Bool) : ∀ (l : List Int) (m : Nat), ∃ n, (l.filter p).take m = (l.take n).filter p
  | [], m => ⟨0, by simp⟩
  | v :: l, m => by
    by_cases h : p v = true
    · cases m with
      | zero => exact ⟨0, by simp⟩
      | succ m =>
        obtain ⟨n, hn⟩ := filter_take p l m
        exact ⟨n + 1, by rw [List.take_succ_cons, List.filter_cons_of_pos h, List.filter_cons_of_pos h, List.take_succ_cons, hn]⟩
    · obtain ⟨n, hn⟩ := filter_take p l m
      exact ⟨n + 1, by rw [List.take_succ_cons, List.filter_cons_of_neg h, List.filter_cons_of_neg h, hn]⟩
theorem count_filt {p : Int → Bool} {y : Int} (h : p y = true) (l : List Int) : (l.filter p).count y = l.count y := by
  rw [List.count_filter h]


def grw (p : List Int) : Nat → List Int → Int → List (List Int)
  | _, [], left => if left = 0 then [[]] else []
  | i, c :: cs, left => (List.range ((min (if i = 0 then c else min (p.getD (i - 1) 0) c) (p.getD i 0 + left)) + 1 - p.getD i 0).toNat).flatMap fun k : Nat =>
    (grw p (i + 1) cs (left - (k : Int))).map ((p.getD i 0 + (k : Int)) :: ·)
def sumD (p : List Int) : Nat → List Int → Int
  | _, [] => 0
  | i, n :: q => (n - p.getD i 0) + sumD p (i + 1) q
theorem sumD_nonneg {p : List Int} : ∀ {q : List Int} {i : Nat}, (∀ k, k < q.length → p.getD (i + k) 0 ≤ q.getD k 0) → 0 ≤ sumD p i q
  | [], _, _ => Int.le_refl _
  | n :: q, i, h => by
    have h0 := h 0 (by simp)
    simp only [Nat.add_zero, List.getD_cons_zero] at h0
    have := sumD_nonneg (p := p) (q := q) (i := i + 1) fun k hk => by
      have := h (k + 1) (by simpa using hk)
      rwa [List.getD_cons_succ, show i + (k + 1) = i + 1 + k by omega] at this
    simp only [sumD]
    omega
theorem mem_grw {p : List Int} : ∀ {cs : List Int} {i : Nat} {left : Int} {q : List Int},
    q ∈ grw p i cs left ↔ q.length = cs.length ∧ (∀ k, k < cs.length → p.getD (i + k) 0 ≤ q.getD k 0 ∧ q.getD k 0 ≤ cs.getD k 0 ∧ (i + k = 0 ∨ q.getD k 0 ≤ p.getD (i + k - 1) 0)) ∧ sumD p i q = left
  | [], i, left, q => by
    simp only [grw]
    constructor
    · intro h
      split at h
      · rename_i hl
        simp only [List.mem_singleton] at h
        subst h
        exact ⟨rfl, fun k hk => by simp at hk, hl.symm⟩
      · cases h
    · rintro ⟨h1, _, h3⟩
      obtain rfl := List.eq_nil_of_length_eq_zero h1
      rw [if_pos (by simpa [sumD] using h3.symm)]
      simp
  | c :: cs, i, left, q => by
    simp only [grw, List.mem_flatMap, List.mem_range, List.mem_map]
    constructor
    · rintro ⟨k, hk, q', hq', rfl⟩
      obtain ⟨g1, g2, g3⟩ := (mem_grw (cs := cs) (i := i + 1)).1 hq'
      refine ⟨by simp [g1], fun m hm => ?_, by simp only [sumD]; omega⟩
      cases m with
      | zero =>
        simp only [Nat.add_zero, List.getD_cons_zero]
        refine ⟨by omega, ?_, ?_⟩
        · split at hk <;> omega
        · by_cases h : i = 0
          · exact .inl h
          · rw [if_neg h] at hk; exact .inr (by omega)
      | succ m =>
        have := g2 m (by simpa using hm)
        rw [show i + 1 + m = i + (m + 1) by omega] at this
        simpa only [List.getD_cons_succ] using this
    · rintro ⟨g1, g2, g3⟩
      cases q with
      | nil => simp at g1
      | cons n q =>
        have h0 := g2 0 (by simp)
        simp only [Nat.add_zero, List.getD_cons_zero] at h0
        have h1 : ∀ m, m < cs.length → p.getD (i + 1 + m) 0 ≤ q.getD m 0 ∧ q.getD m 0 ≤ cs.getD m 0 ∧ (i + 1 + m = 0 ∨ q.getD m 0 ≤ p.getD (i + 1 + m - 1) 0) := fun m hm => by
          have := g2 (m + 1) (by simpa using hm)
          rw [show i + (m + 1) = i + 1 + m by omega] at this
          simpa only [List.getD_cons_succ] using this
        have gl : q.length = cs.length := by simpa using g1
        have hnn := sumD_nonneg (p := p) (q := q) (i := i + 1) fun k hk => (h1 k (by omega)).1
        simp only [sumD] at g3
        refine ⟨(n - p.getD i 0).toNat, ?_, q, mem_grw.2 ⟨gl, h1, by omega⟩, by congr 1; omega⟩
        split <;> omega
theorem nodup_grw {p : List Int} : ∀ (cs : List Int) (i : Nat) (left : Int), (grw p i cs left).Nodup
  | [], i, left => by simp only [grw]; split <;> simp
  | c :: cs, i, left => by
    simp only [grw]
    refine nodup_flatMap' List.nodup_range (fun k _ => ?_) fun k _ m _ z hz hz' => ?_
    · exact List.pairwise_map.2 ((nodup_grw cs (i + 1) _).imp fun {a b} hne e => hne (List.cons.inj e).2)
    · obtain ⟨q, _, rfl⟩ := List.mem_map.1 hz
      obtain ⟨q', _, e⟩ := List.mem_map.1 hz'
      have := (List.cons.inj e).1
      omega
theorem sumD_eq {p : List Int} : ∀ {q : List Int} {i : Nat}, p.length ≤ i + q.length → sumD p i q = q.sum - (p.drop i).sum
  | [], i, h => by
    rw [List.drop_eq_nil_of_le (by simpa using h)]
    rfl
  | n :: q, i, h => by
    have ih := sumD_eq (p := p) (q := q) (i := i + 1) (by simp at h; omega)
    simp only [sumD, List.sum_cons, ih]
    by_cases hi : i < p.length
    · rw [List.drop_eq_getElem_cons hi, List.sum_cons, show p.getD i 0 = p[i] by simp [List.getD_eq_getElem?_getD, hi]]
      omega
    · rw [List.drop_eq_nil_of_le (by omega), List.drop_eq_nil_of_le (by omega), show p.getD i 0 = 0 by simp [List.getD_eq_getElem?_getD, List.getElem?_eq_none (Nat.le_of_not_lt hi)]]
      simp


def extT (x : Int) : Tb → List Int → Tb
  | T, [] => T
  | [], n :: l => List.replicate n.toNat x :: extT x [] l
  | r :: T, n :: l => (r ++ List.replicate (n.toNat - r.length) x) :: extT x T l
theorem getD_extT (x : Int) : ∀ (l : List Int) (T : Tb) (i : Nat), (extT x T l).getD i [] = T.getD i [] ++ List.replicate ((l.getD i 0).toNat - (T.getD i []).length) x
  | [], T, i => by cases T <;> simp [extT]
  | n :: l, [], 0 => by simp [extT]
  | n :: l, [], i + 1 => by
    have := getD_extT x l [] i
    simp only [extT, List.getD_cons_succ, this]
    simp
  | n :: l, r :: T, 0 => by simp [extT]
  | n :: l, r :: T, i + 1 => by
    have := getD_extT x l T i
    simp only [extT, List.getD_cons_succ, this]
theorem len_extT (x : Int) : ∀ (l : List Int) (T : Tb), (extT x T l).length = max T.length l.length
  | [], T => by cases T <;> simp [extT]
  | n :: l, [] => by
    have := len_extT x l []
    simp only [extT, List.length_cons, this, List.length_nil]
    omega
  | n :: l, r :: T => by
    have := len_extT x l T
    simp only [extT, List.length_cons, this]
    omega
theorem sum_extT (x : Int) : ∀ (l : List Int) (T : Tb), (∀ i, ((T.getD i []).length : Int) ≤ l.getD i 0) → (lens (extT x T l)).sum = l.sum
  | [], T, h => by
    have : ∀ T : Tb, (∀ i, ((T.getD i []).length : Int) ≤ 0) → (lens T).sum = 0 := fun T => by
      induction T with
      | nil => intro _; rfl
      | cons r T ih =>
        intro h
        have h0 := h 0
        simp only [List.getD_cons_zero] at h0
        have := ih fun i => by simpa only [List.getD_cons_succ] using h (i + 1)
        simp only [lens, List.map_cons, List.sum_cons] at *
        omega
    have e : extT x T [] = T := by cases T <;> rfl
    rw [e, this T (fun i => by simpa using h i)]
    rfl
  | n :: l, [], h => by
    have ih := sum_extT x l [] fun i => by simpa only [List.getD_cons_succ, List.getD_nil] using h (i + 1)
    have h0 := h 0
    simp only [List.getD_cons_zero, List.getD_nil, List.length_nil] at h0
    simp only [extT, lens, List.map_cons, List.sum_cons, List.length_replicate] at *
    omega
  | n :: l, r :: T, h => by
    have ih := sum_extT x l T fun i => by simpa only [List.getD_cons_succ] using h (i + 1)
    have h0 := h 0
    simp only [List.getD_cons_zero] at h0
    simp only [extT, lens, List.map_cons, List.sum_cons, List.length_append, List.length_replicate] at *
    omega

end Fer

namespace Fer

structure ACok (a c : List Int) : Prop where
  al : a.length ≤ c.length
  le : ∀ i, a.getD i 0 ≤ c.getD i 0
  a1 : ∀ i, i < a.length → 1 ≤ a.getD i 0
  ad : ∀ i, a.getD (i + 1) 0 ≤ a.getD i 0
  cd : ∀ i, c.getD (i + 1) 0 ≤ c.getD i 0
theorem getD_ge {l : List Int} {i : Nat} (h : l.length ≤ i) : l.getD i 0 = 0 := by simp [List.getD_eq_getElem?_getD, List.getElem?_eq_none h]
theorem ACok.a0 {a c : List Int} (h : ACok a c) (i : Nat) : 0 ≤ a.getD i 0 := by
  by_cases hi : i < a.length
  · have := h.a1 i hi; omega
  · rw [getD_ge (by omega)]; exact Int.le_refl _

structure PT (a c b : List Int) (x : Int) (T : Tb) : Prop where
  len : T.length ≤ c.length
  ne : ∀ r ∈ T, r ≠ []
  le : ∀ i, ((T.getD i []).length : Int) ≤ c.getD i 0
  so : ∀ i, (T.getD i []).Pairwise (· ≤ ·)
  z : ∀ i, ((T.getD i []).count 0 : Int) = a.getD i 0
  rg : ∀ i, ∀ v ∈ T.getD i [], 0 ≤ v ∧ v ≤ x
  cl : ∀ i y, 1 ≤ y → y ≤ x → cle y (T.getD (i + 1) []) ≤ cle (y - 1) (T.getD i [])
  ct : ∀ y : Int, 1 ≤ y → y ≤ x → ((wd T).count y : Int) = b.getD (y - 1).toNat 0
  lt : ∀ (n : Nat) (y : Int), 2 ≤ y → y ≤ x → ((wd T).take n).count y ≤ ((wd T).take n).count (y - 1)

theorem mem_row {T : Tb} {r : List Int} (h : r ∈ T) : ∃ i, i < T.length ∧ T.getD i [] = r := by
  obtain ⟨i, hi, e⟩ := List.mem_iff_getElem.1 h
  exact ⟨i, hi, by simp [List.getD_eq_getElem?_getD, hi, e]⟩
theorem rows_extN {S T : Tb} (h1 : ∀ r ∈ S, r ≠ []) (h2 : ∀ r ∈ T, r ≠ []) (h3 : ∀ i, S.getD i [] = T.getD i []) : S = T := by
  refine list_ext (d := []) ?_ h3
  refine Nat.le_antisymm (Nat.le_of_not_lt fun h => ?_) (Nat.le_of_not_lt fun h => ?_)
  · exact h1 _ (row_mem h) (by rw [h3, row_none (Nat.le_refl _)])
  · exact h2 _ (row_mem h) (by rw [← h3, row_none (Nat.le_refl _)])
theorem getD_map_filter (T : Tb) (p : Int → Bool) (i : Nat) : (T.map fun r => r.filter p).getD i [] = (T.getD i []).filter p := by
  simp only [List.getD_eq_getElem?_getD, List.getElem?_map]
  cases T[i]? <;> rfl
theorem wd_getD : ∀ {S T : Tb}, (∀ i, S.getD i [] = T.getD i []) → wd S = wd T
  | [], [], _ => rfl
  | [], r :: T, h => by
    have h0 := h 0
    simp only [List.getD_nil, List.getD_cons_zero] at h0
    have := wd_getD (S := []) (T := T) fun i => by simpa using h (i + 1)
    simp only [wd, List.flatMap_cons, ← h0, List.reverse_nil, List.nil_append] at *
    exact this
  | r :: S, [], h => by
    have h0 := h 0
    simp only [List.getD_nil, List.getD_cons_zero] at h0
    have := wd_getD (S := S) (T := []) fun i => by simpa using h (i + 1)
    simp only [wd, List.flatMap_cons, h0, List.reverse_nil, List.nil_append] at *
    exact this
  | r :: S, r' :: T, h => by
    have h0 := h 0
    simp only [List.getD_cons_zero] at h0
    have := wd_getD (S := S) (T := T) fun i => by simpa only [List.getD_cons_succ] using h (i + 1)
    simp only [wd, List.flatMap_cons, h0] at *
    rw [this]
theorem len_split {x : Int} : ∀ {l : List Int}, (∀ v ∈ l, v ≤ x) → l.length = (l.filter fun v => decide (v < x)).length + l.count x
  | [], _ => rfl
  | v :: l, h => by
    have ih := len_split (l := l) fun u hu => h u (List.mem_cons_of_mem _ hu)
    have hv := h v List.mem_cons_self
    by_cases e : v < x
    · rw [List.filter_cons_of_pos (by simpa using e), List.count_cons_of_ne (by omega), List.length_cons, List.length_cons]; omega
    · obtain rfl : v = x := by omega
      rw [List.filter_cons_of_neg (by simp), List.count_cons_self, List.length_cons]; omega
theorem mem_wd {T : Tb} {v : Int} (h : v ∈ wd T) : ∃ i, v ∈ T.getD i [] := by
  obtain ⟨r, hr, hv⟩ := List.mem_flatMap.1 h
  obtain ⟨i, _, e⟩ := mem_row hr
  exact ⟨i, by rw [e]; simpa using hv⟩
theorem PT.wle {a c b : List Int} {x : Int} {T : Tb} (h : PT a c b x T) : ∀ v ∈ wd T, v ≤ x := fun v hv => by
  obtain ⟨i, hi⟩ := mem_wd hv
  exact (h.rg i v hi).2
theorem len_filter_cle (x : Int) (r : List Int) : (r.filter fun v => decide (v < x)).length = cle (x - 1) r := by
  unfold cle
  rw [List.countP_eq_length_filter]
  congr 1
  refine List.filter_congr fun v _ => ?_
  simp; omega
theorem sum_zeros (n : Nat) : (List.replicate n (0 : Int)).sum = 0 := by
  induction n with
  | zero => rfl
  | succ n ih => rw [List.replicate_succ, List.sum_cons, ih]; rfl
theorem sum_trim (q : List Int) : (trimD 0 q).sum = q.sum := by
  obtain ⟨n, hn⟩ := trimD_split (d := (0 : Int)) q
  conv => rhs; rw [hn]
  rw [List.sum_append, sum_zeros]; omega
theorem trim_lens {T : Tb} (h : ∀ r ∈ T, r ≠ []) : trimD 0 (lens T) = lens T := by
  revert h
  refine snocI (P := fun T => (∀ r ∈ T, r ≠ []) → trimD 0 (lens T) = lens T) (fun _ => rfl) (fun S r _ h => ?_) T
  have hr := h r (by simp)
  have hr2 : 0 < r.length := List.length_pos_iff.2 hr
  have hr3 : ((r.length : Int)) ≠ 0 := by omega
  unfold lens
  rw [List.map_append]
  exact trimD_keep (l := S.map fun r => (r.length : Int)) hr3

def enoughP (x : Int) (T : Tb) : Prop := 2 ≤ x → ∀ n : Nat, ((wd T).take n).count x ≤ ((wd T).take n).count (x - 1)
def startT (a : List Int) : Tb := a.map fun n => List.replicate n.toNat 0

section
variable {a c b : List Int}

theorem getD_start (i : Nat) : (startT a).getD i [] = List.replicate (a.getD i 0).toNat 0 := by
  simp only [startT, List.getD_eq_getElem?_getD, List.getElem?_map]
  cases a[i]? <;> rfl
theorem PT_zero (H : ACok a c) {T : Tb} : PT a c b 0 T ↔ T = startT a := by
  constructor
  · intro h
    have hz : ∀ i, T.getD i [] = List.replicate (a.getD i 0).toNat 0 := fun i => by
      have e : ∀ v ∈ T.getD i [], v = 0 := fun v hv => by have := h.rg i v hv; omega
      have e1 : (T.getD i []).count 0 = (T.getD i []).length := List.count_eq_length.2 fun v hv => (e v hv).symm
      have e2 := h.z i
      rw [e1] at e2
      exact List.eq_replicate_iff.2 ⟨by omega, e⟩
    refine rows_extN h.ne (fun r hr => ?_) fun i => by rw [hz, getD_start]
    obtain ⟨n, hn, rfl⟩ := List.mem_map.1 hr
    obtain ⟨i, hi, rfl⟩ := List.mem_iff_getElem.1 hn
    have := H.a1 i hi
    rw [show a.getD i 0 = a[i] by simp [List.getD_eq_getElem?_getD, hi]] at this
    intro e
    have := congrArg List.length e
    simp only [List.length_replicate, List.length_nil] at this
    omega
  · rintro rfl
    have hl : (startT a).length = a.length := List.length_map _
    have hv : ∀ i, ∀ v ∈ (startT a).getD i [], v = 0 := fun i v hv => by
      rw [getD_start] at hv
      exact (List.mem_replicate.1 hv).2
    refine ⟨by rw [hl]; exact H.al, fun r hr => ?_, fun i => ?_, fun i => ?_, fun i => ?_, fun i v h => by rw [hv i v h]; exact ⟨Int.le_refl _, Int.le_refl _⟩, fun i y h1 h2 => by omega, fun y h1 h2 => by omega, fun n y h1 h2 => by omega⟩
    · obtain ⟨n, hn, rfl⟩ := List.mem_map.1 hr
      obtain ⟨i, hi, rfl⟩ := List.mem_iff_getElem.1 hn
      have := H.a1 i hi
      rw [show a.getD i 0 = a[i] by simp [List.getD_eq_getElem?_getD, hi]] at this
      intro e
      have := congrArg List.length e
      simp only [List.length_replicate, List.length_nil] at this
      omega
    · rw [getD_start, List.length_replicate]
      have := H.le i
      have := H.a0 i
      omega
    · rw [getD_start]
      exact List.pairwise_replicate.2 (.inr (Int.le_refl _))
    · rw [getD_start, List.count_replicate_self]
      have := H.a0 i
      omega

theorem PT_down (H : ACok a c) {x : Int} (hx : 1 ≤ x) {T : Tb} (h : PT a c b x T) : PT a c b (x - 1) (trimD [] (T.map fun r => r.filter fun v => decide (v < x))) := by
  have hrow : ∀ i, (trimD [] (T.map fun r => r.filter fun v => decide (v < x))).getD i [] = (T.getD i []).filter fun v => decide (v < x) := fun i => by
    rw [getD_trimD, getD_map_filter]
  have hw : wd (trimD [] (T.map fun r => r.filter fun v => decide (v < x))) = (wd T).filter fun v => decide (v < x) := by rw [wd_trim, wd_filter]
  have hlen := trimD_len (d := ([] : List Int)) (T.map fun r => r.filter fun v => decide (v < x))
  rw [List.length_map] at hlen
  have cnt : ∀ (l : List Int) (y : Int), y ≤ x - 1 → (l.filter fun v => decide (v < x)).count y = l.count y := fun l y hy => count_filt (by simp; omega) l
  have down : ∀ i, (T.getD (i + 1) []).filter (fun v => decide (v < x)) ≠ [] → (T.getD i []).filter (fun v => decide (v < x)) ≠ [] := fun i hi => by
    have h1 : 0 < ((T.getD (i + 1) []).filter fun v => decide (v < x)).length := List.length_pos_iff.2 hi
    refine List.length_pos_iff.1 ?_
    rw [len_filter_cle] at h1 ⊢
    by_cases hx1 : 1 ≤ x - 1
    · have h2 := h.cl i (x - 1) hx1 (by omega)
      have h3 := cle_mono (show x - 1 - 1 ≤ x - 1 by omega) (T.getD i [])
      omega
    · obtain ⟨v, hv, hv2⟩ := List.countP_pos_iff.1 h1
      have hv2 : v ≤ x - 1 := by simpa using hv2
      have hv3 := h.rg (i + 1) v hv
      obtain rfl : v = 0 := by omega
      have h4 : 0 < (T.getD (i + 1) []).count 0 := List.count_pos_iff.2 hv
      have h5 := h.z (i + 1)
      have h6 := h.z i
      have h7 := H.ad i
      have h8 : 0 < (T.getD i []).count 0 := by omega
      exact List.countP_pos_iff.2 ⟨0, List.count_pos_iff.1 h8, by simp; omega⟩
  refine ⟨by have := h.len; omega, fun r hr => ?_, fun i => ?_, fun i => ?_, fun i => ?_, fun i v hv => ?_, fun i y h1 h2 => ?_, fun y h1 h2 => ?_, fun n y h1 h2 => ?_⟩
  · obtain ⟨i, hi, rfl⟩ := mem_row hr
    have ht := trimD_top (d := ([] : List Int)) (T.map fun r => r.filter fun v => decide (v < x)) (fun e => by rw [e] at hi; simp at hi)
    rw [getD_map_filter] at ht
    rw [hrow]
    have key : ∀ k, i + k < (trimD [] (T.map fun r => r.filter fun v => decide (v < x))).length → (T.getD (i + k) []).filter (fun v => decide (v < x)) ≠ [] → (T.getD i []).filter (fun v => decide (v < x)) ≠ [] := fun k => by
      induction k with
      | zero => exact fun _ h => h
      | succ k ih => exact fun h1 h2 => ih (by omega) (down _ h2)
    refine key ((trimD [] (T.map fun r => r.filter fun v => decide (v < x))).length - 1 - i) (by omega) ?_
    rw [show i + ((trimD [] (T.map fun r => r.filter fun v => decide (v < x))).length - 1 - i) = (trimD [] (T.map fun r => r.filter fun v => decide (v < x))).length - 1 by omega]
    exact ht
  · rw [hrow]
    have := List.length_filter_le (fun v => decide (v < x)) (T.getD i [])
    have := h.le i
    omega
  · rw [hrow]; exact sorted_filter (h.so i) _
  · rw [hrow, cnt _ _ (by omega)]; exact h.z i
  · rw [hrow] at hv
    have h1 := List.mem_filter.1 hv
    have h2 := h.rg i v h1.1
    have h3 : v < x := by simpa using h1.2
    omega
  · rw [hrow, hrow, cle_filter (by omega), cle_filter (by omega)]
    exact h.cl i y h1 (by omega)
  · rw [hw, cnt _ _ (by omega)]; exact h.ct y h1 (by omega)
  · obtain ⟨m, hm⟩ := filter_take (fun v => decide (v < x)) (wd T) n
    rw [hw, hm, cnt _ _ (by omega), cnt _ _ (by omega)]
    exact h.lt m y h1 (by omega)

theorem PT_rows {x : Int} {T : Tb} (h : PT a c b x T) (i : Nat) : ((T.getD i []).filter fun v => decide (v < x)) ++ List.replicate ((T.getD i []).length - ((T.getD i []).filter fun v => decide (v < x)).length) x = T.getD i [] :=
  (split_top (h.so i) fun v hv => (h.rg i v hv).2).symm

theorem PT_up (H : ACok a c) {x : Int} (hx : 1 ≤ x) {T : Tb} (h : PT a c b x T) : ∃ T0, PT a c b (x - 1) T0 ∧ ∃ q ∈ grw (lens T0) 0 c (b.getD (x - 1).toNat 0), T = extT x T0 (trimD 0 q) ∧ enoughP x T := by
  have hd := PT_down H hx h
  have hrow : ∀ i, (trimD [] (T.map fun r => r.filter fun v => decide (v < x))).getD i [] = (T.getD i []).filter fun v => decide (v < x) := fun i => by
    rw [getD_trimD, getD_map_filter]
  have hw : wd (trimD [] (T.map fun r => r.filter fun v => decide (v < x))) = (wd T).filter fun v => decide (v < x) := by rw [wd_trim, wd_filter]
  have hlen := trimD_len (d := ([] : List Int)) (T.map fun r => r.filter fun v => decide (v < x))
  rw [List.length_map] at hlen
  have hTl := h.len
  have hq : ∀ k, (lens T ++ List.replicate (c.length - T.length) 0).getD k 0 = ((T.getD k []).length : Int) := fun k => by rw [getD_repl, getD_lens]
  have hll : (lens T).length = T.length := List.length_map _
  refine ⟨_, hd, lens T ++ List.replicate (c.length - T.length) 0, mem_grw.2 ⟨by rw [List.length_append, List.length_replicate, hll]; omega, fun k hk => ?_, ?_⟩, ?_, fun h2 n => h.lt n x h2 (Int.le_refl _)⟩
  · rw [hq, getD_lens, Nat.zero_add, hrow]
    refine ⟨by have := List.length_filter_le (fun v => decide (v < x)) (T.getD k []); omega, h.le k, ?_⟩
    cases k with
    | zero => exact .inl rfl
    | succ k =>
      refine .inr ?_
      rw [Nat.add_sub_cancel, getD_lens, hrow, len_filter_cle]
      have h1 := h.cl k x hx (Int.le_refl _)
      rw [cle_all fun v hv => (h.rg (k + 1) v hv).2] at h1
      omega
  · rw [sumD_eq (by simp only [lens, List.length_map, List.length_append, List.length_replicate]; omega), List.drop_zero, List.sum_append, sum_zeros, ← len_wd, ← len_wd, hw]
    have h1 := len_split h.wle
    have h2 := h.ct x hx (Int.le_refl _)
    omega
  · rw [trimD_repl, trim_lens h.ne]
    refine list_ext (d := []) (by rw [len_extT, hll]; omega) fun i => ?_
    rw [getD_extT, hrow, getD_lens, Int.toNat_natCast]
    exact (PT_rows h i).symm

theorem PT_of (H : ACok a c) {x : Int} (hx : 1 ≤ x) {T0 : Tb} (h : PT a c b (x - 1) T0) {q : List Int} (hq : q ∈ grw (lens T0) 0 c (b.getD (x - 1).toNat 0)) :
    (∀ i, (T0.getD i []).length ≤ (q.getD i 0).toNat ∧ 0 ≤ q.getD i 0) ∧ (∀ i, (extT x T0 (trimD 0 q)).getD i [] = T0.getD i [] ++ List.replicate ((q.getD i 0).toNat - (T0.getD i []).length) x) ∧ (enoughP x (extT x T0 (trimD 0 q)) → PT a c b x (extT x T0 (trimD 0 q))) := by
  obtain ⟨q1, q2, q3⟩ := mem_grw.1 hq
  have hTl := h.len
  have q2' : ∀ k, ((T0.getD k []).length : Int) ≤ q.getD k 0 ∧ q.getD k 0 ≤ c.getD k 0 := fun k => by
    by_cases hk : k < c.length
    · have := q2 k hk
      rw [Nat.zero_add, getD_lens] at this
      exact ⟨this.1, this.2.1⟩
    · rw [getD_ge (l := q) (by omega), getD_ge (l := c) (by omega), row_none (by omega)]
      exact ⟨Int.le_refl _, Int.le_refl _⟩
  have q4 : ∀ k, q.getD (k + 1) 0 ≤ ((T0.getD k []).length : Int) := fun k => by
    by_cases hk : k + 1 < c.length
    · have := (q2 (k + 1) hk).2.2
      rw [Nat.zero_add, Nat.add_sub_cancel, getD_lens] at this
      omega
    · rw [getD_ge (l := q) (by omega)]; omega
  have hrow : ∀ i, (extT x T0 (trimD 0 q)).getD i [] = T0.getD i [] ++ List.replicate ((q.getD i 0).toNat - (T0.getD i []).length) x := fun i => by rw [getD_extT, getD_trimD]
  refine ⟨fun i => ⟨by have := q2' i; omega, by have := q2' i; omega⟩, hrow, fun he => ?_⟩
  have hfl : ∀ i, ((extT x T0 (trimD 0 q)).getD i []).length = (q.getD i 0).toNat := fun i => by
    rw [hrow, List.length_append, List.length_replicate]; have := q2' i; omega
  have h0x : ∀ i, ∀ v ∈ T0.getD i [], v < x := fun i v hv => by have := (h.rg i v hv).2; omega
  have hfil : ∀ i, ((extT x T0 (trimD 0 q)).getD i []).filter (fun v => decide (v < x)) = T0.getD i [] := fun i => by
    rw [hrow, List.filter_append, List.filter_eq_self.2 fun v hv => by simpa using h0x i v hv, List.filter_eq_nil_iff.2 fun v hv => by rw [(List.mem_replicate.1 hv).2]; simp, List.append_nil]
  have hwf : (wd (extT x T0 (trimD 0 q))).filter (fun v => decide (v < x)) = wd T0 := by
    rw [← wd_filter]
    exact wd_getD fun i => by rw [getD_map_filter, hfil]
  have cnt : ∀ (l : List Int) (y : Int), y ≤ x - 1 → (l.filter fun v => decide (v < x)).count y = l.count y := fun l y hy => count_filt (by simp; omega) l
  have hrg : ∀ i, ∀ v ∈ (extT x T0 (trimD 0 q)).getD i [], 0 ≤ v ∧ v ≤ x := fun i v hv => by
    rw [hrow] at hv
    rcases List.mem_append.1 hv with hv | hv
    · have := h.rg i v hv; omega
    · rw [(List.mem_replicate.1 hv).2]; omega
  have hwle : ∀ v ∈ wd (extT x T0 (trimD 0 q)), v ≤ x := fun v hv => by
    obtain ⟨i, hi⟩ := mem_wd hv
    exact (hrg i v hi).2
  refine ⟨?_, fun r hr => ?_, fun i => ?_, fun i => ?_, fun i => ?_, hrg, fun i y h1 h2 => ?_, fun y h1 h2 => ?_, fun n y h1 h2 => ?_⟩
  · rw [len_extT]
    have := trimD_len (d := (0 : Int)) q
    omega
  · obtain ⟨i, hi, rfl⟩ := mem_row hr
    rw [len_extT] at hi
    have hpos : 0 < q.getD i 0 := by
      by_cases h1 : i < T0.length
      · have h2 := List.length_pos_iff.2 (h.ne _ (row_mem h1))
        have := q2' i
        omega
      · have h2 : i < (trimD 0 q).length := by omega
        have h3 := trimD_top (d := (0 : Int)) q (fun e => by rw [e] at h2; simp at h2)
        have h5 := (q2' ((trimD 0 q).length - 1)).1
        by_cases h4 : i = (trimD 0 q).length - 1
        · rw [h4]; omega
        · have h6 := q4 ((trimD 0 q).length - 1 - 1)
          rw [show (trimD 0 q).length - 1 - 1 + 1 = (trimD 0 q).length - 1 by omega, row_none (by omega)] at h6
          simp only [List.length_nil] at h6
          omega
    exact List.length_pos_iff.1 (by rw [hfl]; omega)
  · rw [hfl]; have := q2' i; omega
  · rw [hrow]
    refine List.pairwise_append.2 ⟨h.so i, List.pairwise_replicate.2 (.inr (Int.le_refl _)), fun u hu v hv => ?_⟩
    rw [(List.mem_replicate.1 hv).2]
    exact Int.le_of_lt (h0x i u hu)
  · rw [← cnt _ 0 (by omega), hfil]; exact h.z i
  · by_cases hy : y ≤ x - 1
    · rw [← cle_filter (x := x) (by omega), hfil, ← cle_filter (x := x) (y := y - 1) (by omega), hfil]
      exact h.cl i y h1 hy
    · obtain rfl : y = x := by omega
      rw [cle_all fun v hv => (hrg (i + 1) v hv).2, hfl, ← len_filter_cle, hfil]
      have := q4 i
      omega
  · by_cases hy : y ≤ x - 1
    · rw [← cnt _ _ hy, hwf]; exact h.ct y h1 hy
    · obtain rfl : y = x := by omega
      have g1 := len_split hwle
      rw [hwf] at g1
      have g2 := len_wd (extT y T0 (trimD 0 q))
      rw [sum_extT _ _ _ (fun i => by rw [getD_trimD]; exact (q2' i).1), sum_trim] at g2
      have g3 := len_wd T0
      rw [sumD_eq (by simp only [lens, List.length_map]; omega), List.drop_zero] at q3
      omega
  · by_cases hy : y ≤ x - 1
    · obtain ⟨m, hm⟩ := take_filter (fun v => decide (v < x)) (wd (extT x T0 (trimD 0 q))) n
      rw [← cnt _ y hy, ← cnt _ (y - 1) (by omega), hm, hwf]
      exact h.lt m y h1 hy
    · obtain rfl : y = x := by omega
      exact he h1 n

open Classical in
noncomputable def stpT (c : List Int) (bx x : Int) (T0 : Tb) : List Tb := ((grw (lens T0) 0 c bx).map fun q => extT x T0 (trimD 0 q)).filter fun T => decide (enoughP x T)
noncomputable def stgT (a c b : List Int) : Nat → List Tb
  | 0 => [startT a]
  | k + 1 => (stgT a c b k).flatMap (stpT c (b.getD k 0) ((k : Int) + 1))

theorem mem_stgT (H : ACok a c) : ∀ {k : Nat} {T : Tb}, T ∈ stgT a c b k ↔ PT a c b k T
  | 0, T => by
    rw [stgT, List.mem_singleton]
    exact (PT_zero H).symm
  | k + 1, T => by
    have e : ((k : Int) + 1 - 1).toNat = k := by omega
    have e2 : (k : Int) + 1 - 1 = k := by omega
    rw [stgT, List.mem_flatMap]
    simp only [stpT, List.mem_filter, List.mem_map, decide_eq_true_eq]
    constructor
    · rintro ⟨T0, h0, ⟨q, hq, rfl⟩, he⟩
      have h0 := (mem_stgT H).1 h0
      exact (PT_of H (x := (k : Int) + 1) (by omega) (by rw [e2]; exact h0) (by rw [e]; exact hq)).2.2 he
    · intro h
      obtain ⟨T0, h0, q, hq, e3, he⟩ := PT_up H (x := (k : Int) + 1) (by omega) h
      rw [e2] at h0
      rw [e] at hq
      exact ⟨T0, (mem_stgT H).2 h0, ⟨q, hq, e3.symm⟩, he⟩
theorem nodup_stgT (H : ACok a c) : ∀ k : Nat, (stgT a c b k).Nodup
  | 0 => by simp [stgT]
  | k + 1 => by
    have e : ((k : Int) + 1 - 1).toNat = k := by omega
    have e2 : (k : Int) + 1 - 1 = k := by omega
    have fil : ∀ {T0 : Tb}, T0 ∈ stgT a c b k → ∀ {q : List Int}, q ∈ grw (lens T0) 0 c (b.getD k 0) → (∀ i, ((extT ((k : Int) + 1) T0 (trimD 0 q)).getD i []).length = (q.getD i 0).toNat ∧ 0 ≤ q.getD i 0) ∧ ∀ i, ((extT ((k : Int) + 1) T0 (trimD 0 q)).getD i []).filter (fun v => decide (v < (k : Int) + 1)) = T0.getD i [] := fun {T0} h0 {q} hq => by
      have h0 := (mem_stgT H).1 h0
      obtain ⟨g1, g2, _⟩ := PT_of H (x := (k : Int) + 1) (by omega) (by rw [e2]; exact h0) (by rw [e]; exact hq)
      refine ⟨fun i => ⟨by rw [g2, List.length_append, List.length_replicate]; have := (g1 i).1; omega, (g1 i).2⟩, fun i => ?_⟩
      rw [g2, List.filter_append, List.filter_eq_self.2 fun v hv => by have := (h0.rg i v hv).2; simp; omega, List.filter_eq_nil_iff.2 fun v hv => by rw [(List.mem_replicate.1 hv).2]; simp, List.append_nil]
    rw [stgT]
    refine nodup_flatMap' (nodup_stgT H k) (fun T0 h0 => ?_) fun T0 h0 T1 h1 T hT hT' => ?_
    · unfold stpT
      refine List.Pairwise.filter _ ?_
      have : ((grw (lens T0) 0 c (b.getD k 0)).map fun q => extT ((k : Int) + 1) T0 (trimD 0 q)) = (grw (lens T0) 0 c (b.getD k 0)).flatMap fun q => [extT ((k : Int) + 1) T0 (trimD 0 q)] := by
        rw [List.map_eq_flatMap]
      rw [this]
      refine nodup_flatMap' (nodup_grw _ _ _) (fun _ _ => by simp) fun q hq q' hq' T hT hT' => ?_
      rw [List.mem_singleton] at hT hT'
      have l1 := (mem_grw.1 hq).1
      have l2 := (mem_grw.1 hq').1
      refine list_ext (d := (0 : Int)) (by omega) fun i => ?_
      have g1 := (fil h0 hq).1 i
      have g2 := (fil h0 hq').1 i
      rw [← hT] at g1
      rw [← hT'] at g2
      omega
    · unfold stpT at hT hT'
      obtain ⟨q, hq, rfl⟩ := List.mem_map.1 (List.mem_filter.1 hT).1
      obtain ⟨q', hq', e3⟩ := List.mem_map.1 (List.mem_filter.1 hT').1
      refine rows_extN ((mem_stgT H).1 h0).ne ((mem_stgT H).1 h1).ne fun i => ?_
      have g1 := (fil h0 hq).2 i
      have g2 := (fil h1 hq').2 i
      rw [e3] at g2
      exact g1.symm.trans g2
end
end Fer

namespace Fer

structure ABCok (a b c : List Int) : Prop where
  H : ACok a c
  c1 : ∀ i, i < c.length → 1 ≤ c.getD i 0
  b1 : ∀ i, i < b.length → 1 ≤ b.getD i 0
  bd : ∀ i, b.getD (i + 1) 0 ≤ b.getD i 0
  sz : a.sum + b.sum = c.sum

theorem getD_gE {r : List Int} {j : Nat} (h : j < r.length) : r.getD j 0 = r[j] := by
  rw [List.getD_eq_getElem?_getD, List.getElem?_eq_getElem h, Option.getD_some]
theorem cle_iff {y : Int} : ∀ {r : List Int}, r.Pairwise (· ≤ ·) → ∀ j, j < cle y r ↔ j < r.length ∧ r.getD j 0 ≤ y
  | [], _, j => by simp [cle]
  | v :: r, h, j => by
    obtain ⟨h1, h2⟩ := List.pairwise_cons.1 h
    have ih := cle_iff (y := y) h2
    unfold cle at *
    by_cases hv : v ≤ y
    · rw [List.countP_cons_of_pos (by simpa using hv)]
      cases j with
      | zero => simp [hv]
      | succ j =>
        rw [List.getD_cons_succ, List.length_cons, Nat.add_lt_add_iff_right, Nat.add_lt_add_iff_right]
        exact ih j
    · have e : ∀ u ∈ v :: r, ¬ u ≤ y := fun u hu => by
        rcases List.mem_cons.1 hu with rfl | hu
        · exact hv
        · have := h1 u hu; omega
      rw [List.countP_eq_zero.2 fun u hu => by simpa using e u hu]
      refine ⟨fun h => absurd h (Nat.not_lt_zero _), fun ⟨g1, g2⟩ => ?_⟩
      have := e ((v :: r).getD j 0) (by rw [getD_gE g1]; exact List.getElem_mem g1)
      exact absurd g2 this
theorem cle_count {r : List Int} (h : ∀ v ∈ r, 0 ≤ v) : cle 0 r = r.count 0 := by
  unfold cle
  rw [List.count]
  refine List.countP_congr fun v hv => ?_
  have := h v hv
  simp; omega
theorem getD_mem' {r : List Int} {j : Nat} (h : j < r.length) : r.getD j 0 ∈ r := by
  rw [getD_gE h]
  exact List.getElem_mem h
theorem sorted_adj {r : List Int} (h : ∀ j, j + 1 < r.length → r.getD j 0 ≤ r.getD (j + 1) 0) : r.Pairwise (· ≤ ·) := by
  rw [List.pairwise_iff_getElem]
  have g : ∀ (i : Nat) (hi : i < r.length), r.getD i 0 = r[i] := fun i hi => by simp [List.getD_eq_getElem?_getD, hi]
  intro i j hi hj hij
  rw [← g i hi, ← g j hj]
  obtain ⟨d, rfl⟩ : ∃ d, j = i + 1 + d := ⟨j - i - 1, by omega⟩
  clear hij hi
  induction d with
  | zero => exact h i hj
  | succ d ih =>
    have h1 := ih (by omega)
    have h2 := h (i + 1 + d) (by omega)
    rw [show i + 1 + (d + 1) = i + 1 + d + 1 by omega]
    omega
theorem count_zero : ∀ {r : List Int} {n : Nat}, n ≤ r.length → (∀ j, j < n → r.getD j 0 = 0) → (∀ j, n ≤ j → j < r.length → 1 ≤ r.getD j 0) → r.count 0 = n
  | [], n, h, _, _ => by simp at h; simp [h]
  | v :: r, 0, _, _, h2 => by
    have hv := h2 0 (Nat.le_refl _) (by simp)
    rw [List.getD_cons_zero] at hv
    have := count_zero (r := r) (n := 0) (Nat.zero_le _) (fun j hj => by omega) fun j _ hj => by simpa only [List.getD_cons_succ] using h2 (j + 1) (Nat.zero_le _) (by simpa using hj)
    rw [List.count_cons_of_ne (by omega), this]
  | v :: r, n + 1, h, h1, h2 => by
    have hv := h1 0 (by omega)
    rw [List.getD_cons_zero] at hv
    subst hv
    rw [List.count_cons_self, count_zero (r := r) (n := n) (by simpa using h) (fun j hj => by simpa only [List.getD_cons_succ] using h1 (j + 1) (by omega)) fun j hj hj2 => by simpa only [List.getD_cons_succ] using h2 (j + 1) (by omega) (by simpa using hj2)]


theorem map_rwB {T : Tb} {i lo : Nat} : ∀ {n : Nat}, lo + n ≤ (T.getD i []).length → (rwB i lo n).map (rg T) = (((T.getD i []).drop lo).take n).reverse
  | 0, _ => by simp [rwB]
  | n + 1, h => by
    have hl : lo + n < (T.getD i []).length := by omega
    rw [rwB, List.map_cons, map_rwB (n := n) (by omega), List.take_add_one, List.getElem?_drop, List.getElem?_eq_getElem hl]
    simp only [Option.toList_some, List.reverse_append, List.reverse_cons, List.reverse_nil, List.nil_append, List.singleton_append]
    congr 1
    unfold rg
    simp only [List.getD_eq_getElem?_getD (l := T.getD i []), List.getElem?_eq_getElem hl, Option.getD_some]
theorem map_allB {T : Tb} {a : List Int} (h0 : ∀ i j, j < (a.getD i 0).toNat → (T.getD i []).getD j 0 = 0) (h1 : ∀ i j, (a.getD i 0).toNat ≤ j → j < (T.getD i []).length → 1 ≤ (T.getD i []).getD j 0) :
    ∀ (cs : List Int) (i : Nat), (∀ k, ((T.getD (i + k) []).length : Int) = cs.getD k 0) → (∀ k, k < cs.length → a.getD (i + k) 0 ≤ cs.getD k 0 ∧ 0 ≤ a.getD (i + k) 0) → i + cs.length = T.length →
      (allB a i cs).map (rg T) = (wd (T.drop i)).filter fun v => decide (1 ≤ v)
  | [], i, _, _, hl => by
    rw [List.drop_eq_nil_of_le (by simp at hl; omega)]
    rfl
  | n :: cs, i, hc, ha, hl => by
    have hi : i < T.length := by simp at hl; omega
    have ih := map_allB h0 h1 cs (i + 1) (fun k => by have := hc (k + 1); rwa [List.getD_cons_succ, show i + (k + 1) = i + 1 + k by omega] at this) (fun k hk => by have := ha (k + 1) (by simpa using hk); rwa [List.getD_cons_succ, show i + (k + 1) = i + 1 + k by omega] at this) (by simp at hl; omega)
    have hn := hc 0
    have han := ha 0 (by simp)
    rw [Nat.add_zero, List.getD_cons_zero] at hn
    rw [Nat.add_zero, List.getD_cons_zero] at han
    rw [allB, List.map_append, ih, map_rwB (by omega), List.drop_eq_getElem_cons hi]
    simp only [wd, List.flatMap_cons, List.filter_append]
    congr 1
    have er : T[i] = T.getD i [] := by simp [List.getD_eq_getElem?_getD, hi]
    rw [er]
    generalize hr : T.getD i [] = r at *
    rw [List.filter_reverse]
    congr 1
    rw [List.take_of_length_le (by rw [List.length_drop]; omega)]
    conv => rhs; rw [← List.take_append_drop (a.getD i 0).toNat r]
    rw [List.filter_append, List.filter_eq_nil_iff.2, List.filter_eq_self.2, List.nil_append]
    · intro v hv
      obtain ⟨j, hj, e⟩ := List.mem_iff_getElem.1 hv
      rw [List.getElem_drop] at e
      rw [List.length_drop] at hj
      have := h1 i ((a.getD i 0).toNat + j) (by omega) (by rw [hr]; omega)
      rw [hr, getD_gE (show (a.getD i 0).toNat + j < r.length by omega), e] at this
      simpa using this
    · intro v hv
      obtain ⟨j, hj, e⟩ := List.mem_iff_getElem.1 hv
      rw [List.getElem_take] at e
      rw [List.length_take] at hj
      have := h0 i j (by omega)
      rw [hr, getD_gE (show j < r.length by omega), e] at this
      simp; omega


theorem sumD_zero {p : List Int} : ∀ {q : List Int} {i : Nat}, (∀ k, k < q.length → p.getD (i + k) 0 ≤ q.getD k 0) → sumD p i q = 0 → ∀ k, k < q.length → q.getD k 0 = p.getD (i + k) 0
  | [], _, _, _, k, hk => by simp at hk
  | n :: q, i, h, hs, k, hk => by
    have h0 := h 0 (by simp)
    simp only [Nat.add_zero, List.getD_cons_zero] at h0
    have h1 : ∀ k, k < q.length → p.getD (i + 1 + k) 0 ≤ q.getD k 0 := fun k hk => by
      have := h (k + 1) (by simpa using hk)
      rwa [List.getD_cons_succ, show i + (k + 1) = i + 1 + k by omega] at this
    have h2 := sumD_nonneg h1
    simp only [sumD] at hs
    cases k with
    | zero => rw [List.getD_cons_zero, Nat.add_zero]; omega
    | succ k =>
      have := sumD_zero h1 (by omega) k (by simpa using hk)
      rw [List.getD_cons_succ, this, show i + (k + 1) = i + 1 + k by omega]
theorem same_of_sum {p q : List Int} (hl : p.length ≤ q.length) (h : ∀ k, p.getD k 0 ≤ q.getD k 0) (hs : p.sum = q.sum) : ∀ k, q.getD k 0 = p.getD k 0 := fun k => by
  by_cases hk : k < q.length
  · have := sumD_zero (p := p) (q := q) (i := 0) (fun k _ => by rw [Nat.zero_add]; exact h k) (by rw [sumD_eq (by omega), List.drop_zero]; omega) k hk
    rwa [Nat.zero_add] at this
  · rw [getD_ge (l := q) (by omega), getD_ge (l := p) (by omega)]
theorem sum_getD : ∀ {p q : List Int}, (∀ k, p.getD k 0 = q.getD k 0) → p.sum = q.sum
  | [], [], _ => rfl
  | [], n :: q, h => by
    have h0 := h 0
    rw [List.getD_nil, List.getD_cons_zero] at h0
    have := sum_getD (p := []) (q := q) fun k => by simpa using h (k + 1)
    rw [List.sum_cons, ← this, ← h0]; rfl
  | n :: p, [], h => by
    have h0 := h 0
    rw [List.getD_nil, List.getD_cons_zero] at h0
    have := sum_getD (p := p) (q := []) fun k => by simpa using h (k + 1)
    rw [List.sum_cons, this, h0]; rfl
  | n :: p, m :: q, h => by
    have h0 := h 0
    rw [List.getD_cons_zero, List.getD_cons_zero] at h0
    have := sum_getD (p := p) (q := q) fun k => by simpa only [List.getD_cons_succ] using h (k + 1)
    rw [List.sum_cons, List.sum_cons, this, h0]
theorem count_wd (y : Int) : ∀ T : Tb, ((wd T).count y : Int) = (T.map fun r => (r.count y : Int)).sum
  | [] => rfl
  | r :: T => by
    have := count_wd y T
    simp only [wd, List.flatMap_cons, List.count_append, List.count_reverse, List.map_cons, List.sum_cons] at *
    omega
def cnts (W : List Int) (L : Nat) : List Int := (List.range L).map fun x : Nat => (W.count ((x : Int) + 1) : Int)
theorem getD_cnts (W : List Int) {L x : Nat} (h : x < L) : (cnts W L).getD x 0 = (W.count ((x : Int) + 1) : Int) := by
  simp [cnts, List.getD_eq_getElem?_getD, h]
theorem sum_cnts (W : List Int) : ∀ L : Nat, (cnts W L).sum = ((W.filter fun v => decide (1 ≤ v ∧ v ≤ (L : Int))).length : Int)
  | 0 => by
    rw [List.filter_eq_nil_iff.2 fun v _ => by simp; omega]
    rfl
  | L + 1 => by
    have ih := sum_cnts W L
    unfold cnts at *
    rw [List.range_succ, List.map_append, List.sum_append, ih]
    simp only [List.map_cons, List.map_nil, List.sum_cons, List.sum_nil]
    clear ih
    induction W with
    | nil => rfl
    | cons v W ih =>
      simp only [List.filter_cons, List.count_cons]
      push_cast at *
      by_cases h1 : 1 ≤ v ∧ v ≤ (L : Int)
      · have a1 : decide (1 ≤ v ∧ v ≤ (L : Int)) = true := decide_eq_true h1
        have a2 : decide (1 ≤ v ∧ v ≤ (L : Int) + 1) = true := decide_eq_true ⟨h1.1, by omega⟩
        have a3 : (v == (L : Int) + 1) = false := beq_false_of_ne (by omega)
        simp only [a1, a2, a3, if_true, Bool.false_eq_true, if_false, List.length_cons]
        push_cast
        omega
      · have a1 : decide (1 ≤ v ∧ v ≤ (L : Int)) = false := decide_eq_false h1
        by_cases h2 : v = (L : Int) + 1
        · have a2 : decide (1 ≤ v ∧ v ≤ (L : Int) + 1) = true := decide_eq_true ⟨by omega, by omega⟩
          have a3 : (v == (L : Int) + 1) = true := by simpa using h2
          simp only [a1, a2, a3, if_true, Bool.false_eq_true, if_false, List.length_cons]
          push_cast
          omega
        · have a2 : decide (1 ≤ v ∧ v ≤ (L : Int) + 1) = false := decide_eq_false fun g => by omega
          have a3 : (v == (L : Int) + 1) = false := beq_false_of_ne h2
          simp only [a1, a2, a3, Bool.false_eq_true, if_false]
          omega
theorem len_allB {a : List Int} : ∀ {cs : List Int} {i : Nat}, (∀ k, k < cs.length → a.getD (i + k) 0 ≤ cs.getD k 0 ∧ 0 ≤ a.getD (i + k) 0) → ((allB a i cs).length : Int) = sumD a i cs
  | [], i, _ => rfl
  | n :: cs, i, h => by
    have h0 := h 0 (by simp)
    simp only [Nat.add_zero, List.getD_cons_zero] at h0
    have ih := len_allB (a := a) (cs := cs) (i := i + 1) fun k hk => by
      have := h (k + 1) (by simpa using hk)
      rwa [List.getD_cons_succ, show i + (k + 1) = i + 1 + k by omega] at this
    have : ∀ n : Nat, (rwB i (a.getD i 0).toNat n).length = n := fun n => by
      induction n with
      | zero => rfl
      | succ n ih => rw [rwB, List.length_cons, ih]
    simp only [allB, List.length_append, this, sumD]
    omega

section
variable {a b c : List Int}

theorem PT_full (h : ABCok a b c) {T : Tb} (hT : PT a c b b.length T) : T.length = c.length ∧ ∀ i, ((T.getD i []).length : Int) = c.getD i 0 := by
  have hs : (lens T).sum = c.sum := by
    have h1 : (wd T).length = ((wd T).filter fun v => decide (1 ≤ v ∧ v ≤ (b.length : Int))).length + (wd T).count 0 := by
      have : ∀ l : List Int, (∀ v ∈ l, 0 ≤ v ∧ v ≤ (b.length : Int)) → l.length = (l.filter fun v => decide (1 ≤ v ∧ v ≤ (b.length : Int))).length + l.count 0 := fun l => by
        induction l with
        | nil => intro _; rfl
        | cons v l ih =>
          intro hl
          have := ih fun u hu => hl u (List.mem_cons_of_mem _ hu)
          have hv := hl v List.mem_cons_self
          by_cases e : v = 0
          · subst e
            rw [List.filter_cons_of_neg (by simp), List.count_cons_self, List.length_cons]; omega
          · rw [List.filter_cons_of_pos (by simp; omega), List.count_cons_of_ne e, List.length_cons, List.length_cons]; omega
      refine this _ fun v hv => ?_
      obtain ⟨i, hi⟩ := mem_wd hv
      exact hT.rg i v hi
    have h2 := sum_cnts (wd T) b.length
    have h3 : (cnts (wd T) b.length).sum = b.sum := sum_getD fun k => by
      by_cases hk : k < b.length
      · rw [getD_cnts _ hk, hT.ct _ (by omega) (by omega)]
        congr 1
        omega
      · rw [getD_ge (by unfold cnts; rw [List.length_map, List.length_range]; omega), getD_ge (by omega)]
    have h4 : ((wd T).count 0 : Int) = a.sum := by
      rw [count_wd]
      refine sum_getD fun k => ?_
      rw [← hT.z k]
      simp only [List.getD_eq_getElem?_getD, List.getElem?_map]
      cases T[k]? <;> simp
    have h5 := len_wd T
    have := h.sz
    omega
  have hall := same_of_sum (p := lens T) (q := c) (by unfold lens; rw [List.length_map]; exact hT.len) (fun k => by rw [getD_lens]; exact hT.le k) hs
  refine ⟨Nat.le_antisymm hT.len (Nat.le_of_not_lt fun hlt => ?_), fun i => by rw [hall i, getD_lens]⟩
  have h1 := h.c1 _ hlt
  rw [hall, getD_lens, row_none (Nat.le_refl _)] at h1
  simp at h1

theorem mem_both (h : ABCok a b c) {T : Tb} : T ∈ lrS (allB a 0 c) (startT c) b (List.replicate b.length 0) ↔ PT a c b b.length T := by
  have hin : ∀ p ∈ allB a 0 c, p.1 < (startT c).length ∧ p.2 < ((startT c).getD p.1 []).length := fun p hp => by
    have := mem_allB.1 hp
    rw [Nat.sub_zero] at this
    rw [show (startT c).length = c.length from List.length_map _, getD_start, List.length_replicate]
    have := h.H.a0 p.1
    have := h.H.le p.1
    omega
  have hget0 : ∀ x, (List.replicate b.length (0 : Int)).getD x 0 = 0 := fun x => by
    simp only [List.getD_eq_getElem?_getD, List.getElem?_replicate]
    split <;> rfl
  have hb0 : ∀ x, 0 ≤ b.getD x 0 := fun x => by
    by_cases hx : x < b.length
    · have := h.b1 x hx; omega
    · rw [getD_ge (by omega)]; exact Int.le_refl _
  have hc0 : ∀ x, 0 ≤ c.getD x 0 := fun x => by
    by_cases hx : x < c.length
    · have := h.c1 x hx; omega
    · rw [getD_ge (by omega)]; exact Int.le_refl _
  rw [mem_lrS _ _ _ _ (allB_bef _ _) hin, condS_iff (L := b.length) _ _ _ rfl (by simp) (fun x _ => hb0 x) (fun x _ _ => by rw [hget0, hget0]; exact Int.le_refl _)]
  have hsl : (startT c).length = c.length := List.length_map _
  constructor
  · rintro ⟨q1, q2, q3, q4, q5, q6⟩
    rw [hsl] at q1
    have q2 : ∀ i, ((T.getD i []).length : Int) = c.getD i 0 := fun i => by
      rw [q2, getD_start, List.length_replicate]; have := hc0 i; omega
    have hbox : ∀ i j, (a.getD i 0).toNat ≤ j → j < (T.getD i []).length → (i, j) ∈ allB a 0 c := fun i j h1 h2 => by
      have h3 := q2 i
      have h4 := h.H.a0 i
      have h5 := h.H.le i
      refine mem_allB.2 ⟨Nat.zero_le _, ?_, h1, ?_⟩
      · show i < 0 + c.length
        by_cases hi : i < c.length
        · omega
        · rw [getD_ge (l := c) (by omega)] at h3; omega
      · show j < (a.getD i 0).toNat + (c.getD (i - 0) 0 - a.getD i 0).toNat
        rw [Nat.sub_zero]; omega
    have h0 : ∀ i j, j < (a.getD i 0).toNat → (T.getD i []).getD j 0 = 0 := fun i j hj => by
      have : rg T (i, j) = rg (startT c) (i, j) := q3 (i, j) fun hm => by
        have h3 : (a.getD i 0).toNat ≤ j := (mem_allB.1 hm).2.2.1
        omega
      have this : (T.getD i []).getD j 0 = ((startT c).getD i []).getD j 0 := this
      rw [this, getD_start]
      simp only [List.getD_eq_getElem?_getD, List.getElem?_replicate]
      split <;> rfl
    have h1 : ∀ i j, (a.getD i 0).toNat ≤ j → j < (T.getD i []).length → 1 ≤ (T.getD i []).getD j 0 ∧ (T.getD i []).getD j 0 ≤ b.length := fun i j hj hj2 => by
      obtain ⟨x, hx, e⟩ := q4 _ (hbox i j hj hj2)
      have e : (T.getD i []).getD j 0 = (x : Int) + 1 := e
      omega
    have hal : ∀ i, (a.getD i 0).toNat ≤ (T.getD i []).length := fun i => by
      have := q2 i; have := h.H.le i; have := h.H.a0 i; omega
    have hW := map_allB h0 (fun i j hj hj2 => (h1 i j hj hj2).1) c 0 (fun k => by rw [Nat.zero_add]; exact q2 k) (fun k _ => by rw [Nat.zero_add]; exact ⟨h.H.le k, h.H.a0 k⟩) (by omega)
    rw [List.drop_zero] at hW
    rw [hW] at q6
    have hv : ∀ i, ∀ v ∈ T.getD i [], 0 ≤ v ∧ v ≤ b.length := fun i v hv => by
      obtain ⟨j, hj, e⟩ := List.mem_iff_getElem.1 hv
      have e : (T.getD i []).getD j 0 = v := by rw [← e]; simp only [List.getD_eq_getElem?_getD (l := T.getD i []), List.getElem?_eq_getElem hj, Option.getD_some]
      by_cases hja : j < (a.getD i 0).toNat
      · rw [h0 i j hja] at e; omega
      · have := h1 i j (by omega) hj; omega
    have hso : ∀ i, (T.getD i []).Pairwise (· ≤ ·) := fun i => sorted_adj fun j hj => by
      by_cases hja : j < (a.getD i 0).toNat
      · rw [h0 i j hja]; exact (hv i _ (getD_mem' hj)).1
      · exact (q5 _ (hbox i j (by omega) (by omega))).1 hj
    have hz : ∀ i, ((T.getD i []).count 0 : Int) = a.getD i 0 := fun i => by
      rw [count_zero (hal i) (h0 i) fun j hj hj2 => (h1 i j hj hj2).1]
      have := h.H.a0 i; omega
    have cnt : ∀ (l : List Int) (y : Int), 1 ≤ y → (l.filter fun v => decide (1 ≤ v)).count y = l.count y := fun l y hy => count_filt (by simpa using hy) l
    refine ⟨by omega, fun r hr => ?_, fun i => by rw [q2]; exact Int.le_refl _, hso, hz, hv, fun i y hy hy2 => Nat.le_of_not_lt fun hlt => ?_, fun y hy hy2 => ?_, fun n y hy hy2 => ?_⟩
    · obtain ⟨i, hi, rfl⟩ := mem_row hr
      have := q2 i
      have := h.c1 i (by omega)
      exact List.length_pos_iff.1 (by omega)
    · obtain ⟨g1, g2⟩ := (cle_iff (hso (i + 1)) _).1 hlt
      have g3 : ¬ cle (y - 1) (T.getD i []) < cle (y - 1) (T.getD i []) := Nat.lt_irrefl _
      by_cases hja : cle (y - 1) (T.getD i []) < (a.getD (i + 1) 0).toNat
      · have e1 := cle_count fun v hv' => (hv i v hv').1
        have e2 := hz i
        have e3 := h.H.ad i
        have e4 := cle_mono (show (0 : Int) ≤ y - 1 by omega) (T.getD i [])
        omega
      · have hb := hbox (i + 1) _ (by omega) g1
        have g4 := (q5 _ hb).2 (Nat.succ_pos _)
        have g4 : rg T (i, cle (y - 1) (T.getD i [])) < rg T (i + 1, cle (y - 1) (T.getD i [])) := g4
        have g5 : rg T (i + 1, cle (y - 1) (T.getD i [])) ≤ y := g2
        have g6 : cle (y - 1) (T.getD i []) < (T.getD i []).length := by
          have := q2 i; have := q2 (i + 1); have := h.H.cd i; omega
        have g7 : (T.getD i []).getD (cle (y - 1) (T.getD i [])) 0 ≤ y - 1 := by
          have : rg T (i, cle (y - 1) (T.getD i [])) ≤ y - 1 := by omega
          exact this
        exact g3 ((cle_iff (hso i) _).2 ⟨g6, g7⟩)
    · have hl : (cnts ((wd T).filter fun v => decide (1 ≤ v)) b.length).length = b.length := by unfold cnts; rw [List.length_map, List.length_range]
      have hsum : (cnts ((wd T).filter fun v => decide (1 ≤ v)) b.length).sum = b.sum := by
        rw [sum_cnts, List.filter_eq_self.2, ← hW, List.length_map, len_allB fun k _ => by rw [Nat.zero_add]; exact ⟨h.H.le k, h.H.a0 k⟩, sumD_eq (by have := h.H.al; omega), List.drop_zero]
        · have := h.sz; omega
        · intro v hv'
          obtain ⟨hv1, hv2⟩ := List.mem_filter.1 hv'
          obtain ⟨i, hi⟩ := mem_wd hv1
          have := hv i v hi
          have hv2 : 1 ≤ v := by simpa using hv2
          simp; omega
      have hall := same_of_sum (p := cnts ((wd T).filter fun v => decide (1 ≤ v)) b.length) (q := b) (by omega) (fun k => by
        by_cases hk : k < b.length
        · rw [getD_cnts _ hk]
          have := (q6 ((wd T).filter fun v => decide (1 ≤ v)).length k hk).1
          rwa [List.take_length] at this
        · rw [getD_ge (by omega), getD_ge (by omega)]; exact Int.le_refl _) hsum (y - 1).toNat
      rw [getD_cnts _ (by omega), show (((y - 1).toNat : Nat) : Int) + 1 = y by omega, cnt _ _ hy] at hall
      exact hall.symm
    · obtain ⟨m, hm⟩ := take_filter (fun v => decide (1 ≤ v)) (wd T) n
      have := (q6 m (y - 1).toNat (by omega)).2 (by omega)
      rw [hget0, hget0, ← hm, show (((y - 1).toNat : Nat) : Int) + 1 = y by omega, show (((y - 1).toNat : Nat) : Int) = y - 1 by omega, cnt _ _ (by omega), cnt _ _ (by omega)] at this
      omega
  · intro hT
    obtain ⟨hl, hrow⟩ := PT_full h hT
    have cnt : ∀ (l : List Int) (y : Int), 1 ≤ y → (l.filter fun v => decide (1 ≤ v)).count y = l.count y := fun l y hy => count_filt (by simpa using hy) l
    have hcz : ∀ i, (cle 0 (T.getD i []) : Int) = a.getD i 0 := fun i => by rw [cle_count fun v hv => (hT.rg i v hv).1]; exact hT.z i
    have h0 : ∀ i j, j < (a.getD i 0).toNat → (T.getD i []).getD j 0 = 0 := fun i j hj => by
      obtain ⟨g1, g2⟩ := (cle_iff (y := 0) (hT.so i) j).1 (by have := hcz i; omega)
      have := (hT.rg i _ (getD_mem' g1)).1
      omega
    have h1 : ∀ i j, (a.getD i 0).toNat ≤ j → j < (T.getD i []).length → 1 ≤ (T.getD i []).getD j 0 := fun i j hj hj2 => by
      refine Int.not_lt.1 fun hlt => ?_
      have := (cle_iff (y := 0) (hT.so i) j).2 ⟨hj2, by omega⟩
      have := hcz i
      omega
    have hW := map_allB h0 h1 c 0 (fun k => by rw [Nat.zero_add]; exact hrow k) (fun k _ => by rw [Nat.zero_add]; exact ⟨h.H.le k, h.H.a0 k⟩) (by omega)
    rw [List.drop_zero] at hW
    have hbx : ∀ p ∈ allB a 0 c, (a.getD p.1 0).toNat ≤ p.2 ∧ p.2 < (T.getD p.1 []).length := fun p hp => by
      have g := mem_allB.1 hp
      rw [Nat.sub_zero] at g
      have := hrow p.1
      have := h.H.a0 p.1
      omega
    refine ⟨by omega, fun i => ?_, fun p hp => ?_, fun p hp => ?_, fun p hp => ⟨fun hj => ?_, fun hi => ?_⟩, ?_⟩
    · rw [getD_start, List.length_replicate]; have := hrow i; omega
    · obtain ⟨i, j⟩ := p
      show (T.getD i []).getD j 0 = ((startT c).getD i []).getD j 0
      rw [getD_start, show (List.replicate (c.getD i 0).toNat (0 : Int)).getD j 0 = 0 by
        simp only [List.getD_eq_getElem?_getD, List.getElem?_replicate]
        split <;> rfl]
      by_cases hj : j < (a.getD i 0).toNat
      · exact h0 i j hj
      · refine getD_ge (Nat.le_of_not_lt fun hlt => hp (mem_allB.2 ⟨Nat.zero_le _, ?_, ?_, ?_⟩))
        · show i < 0 + c.length
          by_cases hi : i < c.length
          · omega
          · rw [row_none (by omega)] at hlt; simp at hlt
        · show (a.getD i 0).toNat ≤ j; omega
        · show j < (a.getD i 0).toNat + (c.getD (i - 0) 0 - a.getD i 0).toNat
          rw [Nat.sub_zero]; have := hrow i; have := h.H.a0 i; omega
    · obtain ⟨g1, g2⟩ := hbx p hp
      have g3 := h1 _ _ g1 g2
      have g4 := (hT.rg _ _ (getD_mem' g2)).2
      refine ⟨((T.getD p.1 []).getD p.2 0 - 1).toNat, by omega, ?_⟩
      show (T.getD p.1 []).getD p.2 0 = _
      omega
    · obtain ⟨g1, g2⟩ := hbx p hp
      have := (List.pairwise_iff_getElem.1 (hT.so p.1)) p.2 (p.2 + 1) g2 hj (Nat.lt_succ_self _)
      show (T.getD p.1 []).getD p.2 0 ≤ (T.getD p.1 []).getD (p.2 + 1) 0
      simp only [List.getD_eq_getElem?_getD (l := T.getD p.1 []), List.getElem?_eq_getElem g2, List.getElem?_eq_getElem hj, Option.getD_some]
      exact this
    · obtain ⟨g1, g2⟩ := hbx p hp
      have g3 := h1 _ _ g1 g2
      have g4 := (hT.rg _ _ (getD_mem' g2)).2
      have g5 := hT.cl (p.1 - 1) ((T.getD p.1 []).getD p.2 0) g3 g4
      rw [Nat.sub_add_cancel hi] at g5
      have g6 := (cle_iff (hT.so p.1) p.2).2 ⟨g2, Int.le_refl _⟩
      have g7 := ((cle_iff (hT.so (p.1 - 1)) p.2).1 (Nat.lt_of_lt_of_le g6 g5)).2
      show (T.getD (p.1 - 1) []).getD p.2 0 < (T.getD p.1 []).getD p.2 0
      omega
    · rw [hW]
      intro n x hx
      obtain ⟨m, hm⟩ := filter_take (fun v => decide (1 ≤ v)) (wd T) n
      rw [hm, cnt _ _ (by omega), hget0, hget0]
      refine ⟨?_, fun hx0 => ?_⟩
      · have g1 := hT.ct ((x : Int) + 1) (by omega) (by omega)
        rw [show ((x : Int) + 1 - 1).toNat = x by omega] at g1
        have g2 : ((wd T).take m).count ((x : Int) + 1) ≤ (wd T).count ((x : Int) + 1) := List.Sublist.count_le _ (List.take_sublist _ _)
        omega
      · rw [cnt _ _ (by omega)]
        have := hT.lt m ((x : Int) + 1) (by omega) (by omega)
        rw [show (x : Int) + 1 - 1 = x by omega] at this
        omega
end
end Fer

namespace Fer


def mayX (u : List Int) (x : Nat) : Bool := decide (x = 0 ∨ u.getD x 0 < u.getD (x - 1) 0)
def lw (L : Nat) : Nat → List Int → List (List Int)
  | 0, _ => [[]]
  | n + 1, u => (lw L n u).map ((0 : Int) :: ·) ++ (List.range L).flatMap fun x => if mayX u x = true then (lw L n (u.set x (u.getD x 0 + 1))).map (((x : Int) + 1) :: ·) else []
def latU (L : Nat) (W u : List Int) : Prop := ∀ n x : Nat, x < L → 0 < x → u.getD x 0 + ((W.take n).count ((x : Int) + 1) : Int) ≤ u.getD (x - 1) 0 + ((W.take n).count (x : Int) : Int)

theorem mem_lw {L : Nat} : ∀ {n : Nat} {W u : List Int}, W.length = n → u.length = L → (∀ v ∈ W, 0 ≤ v ∧ v ≤ (L : Int)) → latU L W u → W ∈ lw L n u
  | 0, W, u, h, _, _, _ => by
    obtain rfl := List.eq_nil_of_length_eq_zero h
    simp [lw]
  | n + 1, [], u, h, _, _, _ => by simp at h
  | n + 1, v :: W, u, h, hu, hv, hl => by
    have hv0 := hv v List.mem_cons_self
    have hv' : ∀ w ∈ W, 0 ≤ w ∧ w ≤ (L : Int) := fun w hw => hv w (List.mem_cons_of_mem _ hw)
    rw [lw, List.mem_append]
    by_cases h0 : v = 0
    · subst h0
      refine .inl (List.mem_map.2 ⟨W, mem_lw (by simpa using h) hu hv' fun m x hx hx0 => ?_, rfl⟩)
      have := hl (m + 1) x hx hx0
      rw [count_take_cons, count_take_cons, if_neg (by omega), if_neg (by omega)] at this
      omega
    · refine .inr (List.mem_flatMap.2 ⟨(v - 1).toNat, List.mem_range.2 (by omega), ?_⟩)
      have e : (((v - 1).toNat : Nat) : Int) + 1 = v := by omega
      have hm : mayX u (v - 1).toNat = true := by
        refine decide_eq_true ?_
        by_cases hx : (v - 1).toNat = 0
        · exact .inl hx
        · have := hl 1 (v - 1).toNat (by omega) (by omega)
          rw [e, count_take_cons, count_take_cons, if_pos rfl, if_neg (by omega), List.take_zero, List.count_nil, List.count_nil] at this
          exact .inr (by omega)
      rw [if_pos hm, e]
      refine List.mem_map.2 ⟨W, mem_lw (by simpa using h) (by rw [List.length_set]; exact hu) hv' fun m x hx hx0 => ?_, rfl⟩
      have := hl (m + 1) x hx hx0
      rw [count_take_cons, count_take_cons] at this
      rw [getD_upd (by omega), getD_upd (by omega)]
      by_cases e1 : x = (v - 1).toNat
      · rw [if_pos (by omega), if_neg (by omega)] at this
        rw [if_pos e1, if_neg (by omega)]
        omega
      · rw [if_neg (by omega)] at this
        rw [if_neg e1]
        by_cases e2 : (x : Int) = v
        · rw [if_pos e2] at this
          rw [if_pos (by omega)]
          omega
        · rw [if_neg e2] at this
          rw [if_neg (by omega)]
          omega

theorem sum_take_succ' (u : List Int) {k : Nat} (h : k < u.length) : (u.take (k + 1)).sum = (u.take k).sum + u.getD k 0 := by
  rw [List.take_add_one, List.getElem?_eq_getElem h, getD_gE h, List.sum_append]
  simp only [Option.toList_some, List.sum_cons, List.sum_nil]
  omega
theorem corners {u : List Int} (hf : ∀ x, u.getD (x + 1) 0 ≤ u.getD x 0) (h0 : ∀ x, 0 ≤ u.getD x 0) : ∀ k, k < u.length →
    (((List.range (k + 1)).countP (mayX u) : Nat) : Int) * ((((List.range (k + 1)).countP (mayX u) : Nat) : Int) - 1) + 2 * ((((List.range (k + 1)).countP (mayX u) : Nat) : Int) * u.getD k 0) ≤ 2 * (u.take (k + 1)).sum
  | 0, h => by
    have e : (List.range 1).countP (mayX u) = 1 := by
      rw [show List.range 1 = [0] from rfl, List.countP_cons_of_pos (by simp [mayX])]
      rfl
    rw [Nat.zero_add, e, sum_take_succ' u h]
    simp
  | k + 1, h => by
    have ih := corners hf h0 k (by omega)
    rw [sum_take_succ' u h]
    rw [List.range_succ, List.countP_append]
    generalize hd : (List.range (k + 1)).countP (mayX u) = d at ih ⊢
    have hk := hf k
    have hk0 := h0 (k + 1)
    have hd0 : (0 : Int) ≤ (d : Int) := by omega
    by_cases hm : mayX u (k + 1) = true
    · rw [List.countP_cons_of_pos hm, List.countP_nil]
      have h1 : u.getD (k + 1) 0 + 1 ≤ u.getD k 0 := by
        have := of_decide_eq_true hm
        rw [Nat.add_sub_cancel] at this
        omega
      have h2 := Int.mul_le_mul_of_nonneg_left h1 hd0
      rw [Int.mul_add, Int.mul_one] at h2
      have e1 : ((d + 1 : Nat) : Int) = (d : Int) + 1 := by omega
      rw [Nat.zero_add, e1, show (d : Int) + 1 - 1 = d by omega, Int.add_mul, Int.add_mul, Int.one_mul, Int.one_mul]
      rw [Int.mul_sub, Int.mul_one] at ih
      generalize (d : Int) * u.getD (k + 1) 0 = X at *
      generalize (d : Int) * u.getD k 0 = Y at *
      generalize (d : Int) * (d : Int) = Z at *
      omega
    · rw [List.countP_cons_of_neg hm, List.countP_nil, Nat.add_zero]
      have h1 : u.getD (k + 1) 0 = u.getD k 0 := by
        have : ¬ (k + 1 = 0 ∨ u.getD (k + 1) 0 < u.getD (k + 1 - 1) 0) := fun hh => hm (decide_eq_true hh)
        rw [Nat.add_sub_cancel] at this
        omega
      rw [← h1] at ih
      omega
def dm (s : Nat) : Nat := if s < 1 then 1 else if s < 3 then 2 else if s < 6 then 3 else if s < 10 then 4 else if s < 15 then 5 else 6
theorem dm_of {d s : Nat} (hs : s ≤ 20) (h : (d : Int) * ((d : Int) - 1) ≤ 2 * s) : d ≤ dm s := by
  have h7 : d < 7 := Nat.lt_of_not_le fun h7 => by
    have h1 : (7 : Int) * 6 ≤ (d : Int) * ((d : Int) - 1) := Int.mul_le_mul (by omega) (by omega) (by omega) (by omega)
    omega
  have hd : d = 0 ∨ d = 1 ∨ d = 2 ∨ d = 3 ∨ d = 4 ∨ d = 5 ∨ d = 6 := by omega
  unfold dm
  rcases hd with rfl | rfl | rfl | rfl | rfl | rfl | rfl <;> simp at h <;> (repeat' split) <;> omega
def totW : Nat → Nat → Nat
  | 0, _ => 1
  | n + 1, s => totW n s + dm s * totW n (s + 1)

theorem falls_set {u : List Int} (hf : ∀ x, u.getD (x + 1) 0 ≤ u.getD x 0) {x : Nat} (hx : x < u.length) (hm : mayX u x = true) : ∀ y, (u.set x (u.getD x 0 + 1)).getD (y + 1) 0 ≤ (u.set x (u.getD x 0 + 1)).getD y 0 := fun y => by
  rw [getD_upd hx, getD_upd hx]
  have := hf y
  have hm := of_decide_eq_true hm
  by_cases e : y + 1 = x
  · subst e
    rw [Nat.add_sub_cancel] at hm
    rw [if_pos rfl, if_neg (by omega)]
    omega
  · rw [if_neg e]; split <;> omega
theorem len_flatN {α : Type} (f : Nat → List α) (p : Nat → Bool) (B : Nat) : ∀ l : List Nat, (∀ x ∈ l, p x = true → (f x).length ≤ B) → (l.flatMap fun x => if p x = true then f x else []).length ≤ l.countP p * B
  | [], _ => by simp
  | x :: l, h => by
    have ih := len_flatN f p B l fun y hy => h y (List.mem_cons_of_mem _ hy)
    have hx := h x List.mem_cons_self
    rw [List.flatMap_cons, List.length_append]
    by_cases hp : p x = true
    · rw [if_pos hp, List.countP_cons_of_pos hp, Nat.add_mul, Nat.one_mul]
      have := hx hp
      omega
    · rw [if_neg hp, List.countP_cons_of_neg hp]
      simpa using ih
theorem sum_set {u : List Int} {x : Nat} (hx : x < u.length) (d : Int) : (u.set x (u.getD x 0 + d)).sum = u.sum + d := by
  induction u generalizing x with
  | nil => simp at hx
  | cons v u ih =>
    cases x with
    | zero => simp only [List.getD_cons_zero, List.set_cons_zero, List.sum_cons]; omega
    | succ x =>
      have := ih (x := x) (by simpa using hx)
      simp only [List.getD_cons_succ, List.set_cons_succ, List.sum_cons, this]; omega
theorem len_lw {L : Nat} : ∀ (n s : Nat) (u : List Int), u.length = L → (∀ x, u.getD (x + 1) 0 ≤ u.getD x 0) → (∀ x, 0 ≤ u.getD x 0) → u.sum = s → s + n ≤ 20 → (lw L n u).length ≤ totW n s
  | 0, _, _, _, _, _, _, _ => Nat.le_refl _
  | n + 1, s, u, hu, hf, h0, hs, hn => by
    rw [lw, List.length_append, List.length_map, totW]
    refine Nat.add_le_add (len_lw n s u hu hf h0 hs (by omega)) ?_
    refine Nat.le_trans (len_flatN (fun x => (lw L n (u.set x (u.getD x 0 + 1))).map (((x : Int) + 1) :: ·)) (mayX u) (totW n (s + 1)) _ fun x hx hm => ?_) (Nat.mul_le_mul_right _ ?_)
    · rw [List.length_map]
      have hxl : x < u.length := by rw [hu]; exact List.mem_range.1 hx
      refine len_lw n (s + 1) _ (by rw [List.length_set]; exact hu) (falls_set hf hxl hm) (fun y => ?_) (by rw [sum_set hxl]; omega) (by omega)
      rw [getD_upd hxl]
      have := h0 y
      split <;> omega
    · refine dm_of (by omega) ?_
      cases L with
      | zero => simp; omega
      | succ k =>
        have := corners hf h0 k (by omega)
        rw [List.take_of_length_le (by omega), hs] at this
        have h2 : (0 : Int) ≤ (((List.range (k + 1)).countP (mayX u) : Nat) : Int) * u.getD k 0 := Int.mul_nonneg (by omega) (h0 k)
        omega
theorem totW_le {m n s : Nat} (h : m ≤ n) : totW m s ≤ totW n s := by
  induction n with
  | zero => obtain rfl : m = 0 := by omega
            exact Nat.le_refl _
  | succ n ih =>
    by_cases e : m = n + 1
    · subst e; exact Nat.le_refl _
    · have := ih (by omega)
      rw [totW]; omega
theorem totW_16 : totW 16 0 ≤ 1000000000000 := by decide +kernel


theorem map_rwB' {T : Tb} {i lo : Nat} : ∀ n : Nat, ((rwB i lo n).map (rg T)).filter (fun v => decide (1 ≤ v)) = (((T.getD i []).drop lo).take n).reverse.filter fun v => decide (1 ≤ v)
  | 0 => by simp [rwB]
  | n + 1 => by
    rw [rwB, List.map_cons, List.filter_cons, map_rwB' n, List.take_add_one, List.getElem?_drop]
    by_cases hl : lo + n < (T.getD i []).length
    · have e : rg T (i, lo + n) = (T.getD i [])[lo + n] := getD_gE hl
      rw [List.getElem?_eq_getElem hl, e]
      simp only [Option.toList_some, List.reverse_append, List.reverse_cons, List.reverse_nil, List.nil_append, List.singleton_append, List.filter_cons]
    · have e : rg T (i, lo + n) = 0 := getD_ge (Nat.le_of_not_lt hl)
      rw [List.getElem?_eq_none (Nat.le_of_not_lt hl), e]
      simp
theorem map_allB' {T : Tb} {a : List Int} (h0 : ∀ i j, j < (a.getD i 0).toNat → (T.getD i []).getD j 0 = 0) :
    ∀ (cs : List Int) (i : Nat), (∀ k, ((T.getD (i + k) []).length : Int) ≤ cs.getD k 0) → T.length ≤ i + cs.length →
      ((allB a i cs).map (rg T)).filter (fun v => decide (1 ≤ v)) = (wd (T.drop i)).filter fun v => decide (1 ≤ v)
  | [], i, _, hl => by
    rw [List.drop_eq_nil_of_le (by simpa using hl)]
    rfl
  | n :: cs, i, hc, hl => by
    have ih := map_allB' h0 cs (i + 1) (fun k => by have := hc (k + 1); rwa [List.getD_cons_succ, show i + (k + 1) = i + 1 + k by omega] at this) (by simp at hl; omega)
    have hn := hc 0
    rw [Nat.add_zero, List.getD_cons_zero] at hn
    rw [allB, List.map_append, List.filter_append, ih, map_rwB']
    have key : ((((T.getD i []).drop (a.getD i 0).toNat).take (n - a.getD i 0).toNat).reverse.filter fun v => decide (1 ≤ v)) = (T.getD i []).reverse.filter fun v => decide (1 ≤ v) := by
      generalize hr : T.getD i [] = r at *
      rw [List.take_of_length_le (by rw [List.length_drop]; omega), List.filter_reverse, List.filter_reverse]
      congr 1
      conv => rhs; rw [← List.take_append_drop (a.getD i 0).toNat r]
      rw [List.filter_append]
      have : (r.take (a.getD i 0).toNat).filter (fun v => decide (1 ≤ v)) = [] := List.filter_eq_nil_iff.2 fun v hv => by
        obtain ⟨j, hj, e⟩ := List.mem_iff_getElem.1 hv
        rw [List.getElem_take] at e
        rw [List.length_take] at hj
        have := h0 i j (by omega)
        rw [hr, getD_gE (show j < r.length by omega), e] at this
        simp; omega
      rw [this, List.nil_append]
    rw [key]
    by_cases hi : i < T.length
    · rw [List.drop_eq_getElem_cons hi]
      simp only [wd, List.flatMap_cons, List.filter_append]
      congr 1
      rw [show T.getD i [] = T[i] by rw [List.getD_eq_getElem?_getD, List.getElem?_eq_getElem hi, Option.getD_some]]
    · rw [row_none (by omega), List.drop_eq_nil_of_le (by omega), List.drop_eq_nil_of_le (by omega)]
      rfl

theorem nodup_sub_len {α : Type} [DecidableEq α] : ∀ (l m : List α), l.Nodup → (∀ x ∈ l, x ∈ m) → l.length ≤ m.length
  | [], _, _, _ => Nat.zero_le _
  | x :: l, m, hn, h => by
    obtain ⟨hx, hl⟩ := List.nodup_cons.1 hn
    have hm := h x List.mem_cons_self
    have := nodup_sub_len l (m.erase x) hl fun y hy => (List.mem_erase_of_ne (fun e : y = x => hx (by rw [← e]; exact hy))).2 (h y (List.mem_cons_of_mem _ hy))
    rw [List.length_erase_of_mem hm] at this
    have := List.length_pos_of_mem hm
    rw [List.length_cons]; omega

section
variable {a b c : List Int}

theorem PT_zeros (H : ACok a c) {x : Int} {T : Tb} (hT : PT a c b x T) : (∀ i j, j < (a.getD i 0).toNat → j < (T.getD i []).length ∧ (T.getD i []).getD j 0 = 0) ∧ ∀ i j, (a.getD i 0).toNat ≤ j → j < (T.getD i []).length → 1 ≤ (T.getD i []).getD j 0 := by
  have hcz : ∀ i, (cle 0 (T.getD i []) : Int) = a.getD i 0 := fun i => by rw [cle_count fun v hv => (hT.rg i v hv).1]; exact hT.z i
  refine ⟨fun i j hj => ?_, fun i j hj hj2 => Int.not_lt.1 fun hlt => ?_⟩
  · obtain ⟨g1, g2⟩ := (cle_iff (y := 0) (hT.so i) j).1 (by have := hcz i; omega)
    have := (hT.rg i _ (getD_mem' g1)).1
    exact ⟨g1, by omega⟩
  · have := (cle_iff (y := 0) (hT.so i) j).2 ⟨hj2, by omega⟩
    have := hcz i
    omega
theorem PT_inj (H : ACok a c) {x : Int} {S T : Tb} (hS : PT a c b x S) (hT : PT a c b x T) (h : (allB a 0 c).map (rg S) = (allB a 0 c).map (rg T)) : S = T := by
  have h := List.map_inj_left.1 h
  obtain ⟨s1, s2⟩ := PT_zeros H hS
  obtain ⟨t1, t2⟩ := PT_zeros H hT
  have hbox : ∀ i j, (a.getD i 0).toNat ≤ j → (j : Int) < c.getD i 0 → (i, j) ∈ allB a 0 c := fun i j h1 h2 => by
    have h4 := H.a0 i
    refine mem_allB.2 ⟨Nat.zero_le _, ?_, h1, ?_⟩
    · show i < 0 + c.length
      by_cases hi : i < c.length
      · omega
      · rw [getD_ge (l := c) (by omega)] at h2; omega
    · show j < (a.getD i 0).toNat + (c.getD (i - 0) 0 - a.getD i 0).toNat
      rw [Nat.sub_zero]; omega
  have heq : ∀ i j, (S.getD i []).getD j 0 = (T.getD i []).getD j 0 := fun i j => by
    by_cases h1 : j < (a.getD i 0).toNat
    · rw [(s1 i j h1).2, (t1 i j h1).2]
    · by_cases h2 : (j : Int) < c.getD i 0
      · exact h (i, j) (hbox i j (by omega) h2)
      · have := hS.le i; have := hT.le i
        rw [getD_ge (by omega), getD_ge (by omega)]
  have hlen : ∀ i, (S.getD i []).length = (T.getD i []).length := fun i => by
    refine Nat.le_antisymm (Nat.le_of_not_lt fun hlt => ?_) (Nat.le_of_not_lt fun hlt => ?_)
    · have h1 : (a.getD i 0).toNat ≤ (T.getD i []).length := Nat.le_of_not_lt fun h3 => Nat.lt_irrefl _ (t1 i _ h3).1
      have h2 := s2 i _ h1 hlt
      rw [heq, getD_ge (Nat.le_refl _)] at h2
      omega
    · have h1 : (a.getD i 0).toNat ≤ (S.getD i []).length := Nat.le_of_not_lt fun h3 => Nat.lt_irrefl _ (s1 i _ h3).1
      have h2 := t2 i _ h1 hlt
      rw [← heq, getD_ge (Nat.le_refl _)] at h2
      omega
  refine rows_extN hS.ne hT.ne fun i => list_ext (d := (0 : Int)) (hlen i) (heq i)

theorem len_PT (h : ABCok a b c) (hc : c.sum ≤ 16) (k : Nat) (hk : k ≤ b.length) {l : List Tb} (hn : l.Nodup) (hl : ∀ T ∈ l, PT a c b k T) : l.length ≤ 1000000000000 := by
  have hN : (allB a 0 c).length ≤ 16 := by
    have h1 := len_allB (a := a) (cs := c) (i := 0) fun k _ => by rw [Nat.zero_add]; exact ⟨h.H.le k, h.H.a0 k⟩
    rw [sumD_eq (by have := h.H.al; omega), List.drop_zero] at h1
    have h2 : 0 ≤ a.sum := by
      have := sumD_nonneg (p := []) (q := a) (i := 0) fun k _ => by rw [List.getD_nil]; exact h.H.a0 k
      rw [sumD_eq (by simp)] at this
      simpa using this
    omega
  have hmap : (l.map fun T => (allB a 0 c).map (rg T)).Nodup := by
    refine List.pairwise_map.2 (List.Pairwise.imp_of_mem (fun {S T} hS hT hne e => hne ?_) hn)
    exact PT_inj h.H (hl S hS) (hl T hT) e
  have := nodup_sub_len _ (lw k (allB a 0 c).length (List.replicate k 0)) hmap fun W hW => by
    obtain ⟨T, hT, rfl⟩ := List.mem_map.1 hW
    have hT := hl T hT
    obtain ⟨z1, z2⟩ := PT_zeros h.H hT
    have hget0 : ∀ x, (List.replicate k (0 : Int)).getD x 0 = 0 := fun x => by
      simp only [List.getD_eq_getElem?_getD, List.getElem?_replicate]
      split <;> rfl
    have hW := map_allB' (T := T) (a := a) (fun i j hj => (z1 i j hj).2) c 0 (fun k => by rw [Nat.zero_add]; exact hT.le k) (by rw [Nat.zero_add]; exact hT.len)
    rw [List.drop_zero] at hW
    have cnt : ∀ (l : List Int) (y : Int), 1 ≤ y → (l.filter fun v => decide (1 ≤ v)).count y = l.count y := fun l y hy => count_filt (by simpa using hy) l
    refine mem_lw (by rw [List.length_map]) (by rw [List.length_replicate]) (fun v hv => ?_) fun n x hx hx0 => ?_
    · obtain ⟨p, _, rfl⟩ := List.mem_map.1 hv
      by_cases hp : p.2 < (T.getD p.1 []).length
      · exact hT.rg p.1 _ (getD_mem' hp)
      · have : rg T p = 0 := getD_ge (Nat.le_of_not_lt hp)
        omega
    · rw [hget0, hget0]
      obtain ⟨m, hm⟩ := take_filter (fun v => decide (1 ≤ v)) ((allB a 0 c).map (rg T)) n
      obtain ⟨m', hm'⟩ := filter_take (fun v => decide (1 ≤ v)) (wd T) m
      have := hT.lt m' ((x : Int) + 1) (by omega) (by omega)
      rw [← cnt _ ((x : Int) + 1) (by omega), ← cnt _ ((x : Int) + 1 - 1) (by omega), ← hm', ← hW, ← hm, cnt _ _ (by omega), cnt _ _ (by omega), show (x : Int) + 1 - 1 = x by omega] at this
      omega
  rw [List.length_map] at this
  refine Nat.le_trans this (Nat.le_trans (len_lw (L := k) (allB a 0 c).length 0 (List.replicate k 0) (by simp) (fun x => ?_) (fun x => ?_) (sum_zeros k) (by omega)) (Nat.le_trans (totW_le hN) totW_16))
  · simp only [List.getD_eq_getElem?_getD, List.getElem?_replicate]
    split <;> split <;> simp
  · simp only [List.getD_eq_getElem?_getD, List.getElem?_replicate]
    split <;> simp


theorem PT_low {x : Int} {T : Tb} (hT : PT a c b x T) : ∀ i : Nat, ∀ v ∈ T.getD i [], v ≤ (i : Int) + 1 := by
  intro i
  induction i using Nat.strongRecOn with
  | ind i ih =>
    intro v hv
    have hi : i < T.length := Nat.lt_of_not_le fun h => by rw [row_none h] at hv; cases hv
    refine Int.not_lt.1 fun hlt => ?_
    have hpos := List.length_pos_of_mem hv
    obtain ⟨m, w, hmw⟩ : ∃ m w, T.getD i [] = m ++ [w] := ⟨_, _, (List.dropLast_concat_getLast (List.length_pos_iff.1 hpos)).symm⟩
    have hvw : v ≤ w := by
      rw [hmw] at hv
      rcases List.mem_append.1 hv with h | h
      · have := hT.so i
        rw [hmw] at this
        exact (List.pairwise_append.1 this).2.2 v h w (by simp)
      · rw [List.mem_singleton.1 h]; exact Int.le_refl _
    have hwx := (hT.rg i w (by rw [hmw]; simp)).2
    have hsplit : wd T = wd (T.take i) ++ (w :: (m.reverse ++ wd (T.drop (i + 1)))) := by
      conv => lhs; rw [← List.take_append_drop i T, List.drop_eq_getElem_cons hi]
      unfold wd
      rw [List.flatMap_append, List.flatMap_cons, show T[i] = m ++ [w] by rw [← hmw, List.getD_eq_getElem?_getD, List.getElem?_eq_getElem hi, Option.getD_some]]
      simp
    have h1 := hT.lt ((wd (T.take i)).length + 1) w (by omega) hwx
    rw [hsplit, List.take_append, List.take_of_length_le (Nat.le_succ _), Nat.add_sub_cancel_left, List.take_succ_cons, List.take_zero, List.count_append, List.count_append] at h1
    simp only [List.count_cons, List.count_nil, beq_self_eq_true, if_true] at h1
    rw [if_neg (by simp; omega)] at h1
    have h2 : w - 1 ∈ wd (T.take i) := List.count_pos_iff.1 (by omega)
    obtain ⟨j, hj⟩ := mem_wd h2
    have hji : j < i := Nat.lt_of_not_le fun h => by rw [row_none (by rw [List.length_take]; omega)] at hj; cases hj
    have := ih j hji (w - 1) (by
      rw [show T.getD j [] = (T.take i).getD j [] by simp [List.getD_eq_getElem?_getD, List.getElem?_take, hji]]
      exact hj)
    omega
theorem count_top {y : Int} : ∀ (S : Tb), (∀ i, cle y (S.getD (i + 1) []) ≤ cle (y - 1) (S.getD i [])) → (wd S).count y ≤ cle y (S.getD 0 [])
  | [], _ => by simp [wd]
  | r :: S, h => by
    have ih := count_top S fun i => by simpa only [List.getD_cons_succ] using h (i + 1)
    have h0 := h 0
    rw [List.getD_cons_succ, List.getD_cons_zero] at h0
    have e : cle y r = cle (y - 1) r + r.count y := by
      unfold cle
      clear ih h0 h
      induction r with
      | nil => rfl
      | cons v r ih =>
        simp only [List.countP_cons, List.count_cons, ih]
        by_cases h1 : v ≤ y - 1
        · rw [if_pos (by simp; omega), if_pos (by simpa using h1), if_neg (by simp; omega)]; omega
        · by_cases h2 : v = y
          · rw [if_pos (by simp; omega), if_neg (by simpa using h1), if_pos (by simpa using h2)]; omega
          · rw [if_neg (by simp; omega), if_neg (by simpa using h1), if_neg (by simpa using h2)]; omega
    simp only [wd, List.flatMap_cons, List.count_append, List.count_reverse, List.getD_cons_zero] at *
    omega
theorem PT_within (h : ABCok a b c) {T : Tb} (hT : PT a c b b.length T) : ∀ i : Nat, i < b.length → i < c.length ∧ b.getD i 0 ≤ c.getD i 0 := fun i hi => by
  have h1 := hT.ct ((i : Int) + 1) (by omega) (by omega)
  rw [show ((i : Int) + 1 - 1).toNat = i by omega] at h1
  have h2 := h.b1 i hi
  have hsplit : (wd T).count ((i : Int) + 1) = (wd (T.drop i)).count ((i : Int) + 1) := by
    conv => lhs; rw [← List.take_append_drop i T]
    unfold wd
    rw [List.flatMap_append, List.count_append]
    have : ((T.take i).flatMap List.reverse).count ((i : Int) + 1) = 0 := List.count_eq_zero.2 fun hm => by
      obtain ⟨j, hj⟩ := mem_wd (T := T.take i) hm
      have hji : j < i := Nat.lt_of_not_le fun h => by rw [row_none (by rw [List.length_take]; omega)] at hj; cases hj
      have := PT_low hT j _ (by
        rw [show T.getD j [] = (T.take i).getD j [] by simp [List.getD_eq_getElem?_getD, List.getElem?_take, hji]]
        exact hj)
      omega
    omega
  have hget : ∀ k, (T.drop i).getD k [] = T.getD (i + k) [] := fun k => by simp [List.getD_eq_getElem?_getD, List.getElem?_drop]
  have h3 := count_top (y := (i : Int) + 1) (T.drop i) fun k => by
    rw [hget, hget]
    exact hT.cl (i + k) ((i : Int) + 1) (by omega) (by omega)
  rw [hget, Nat.add_zero] at h3
  have h4 := cle_le ((i : Int) + 1) (T.getD i [])
  have h5 := hT.le i
  refine ⟨Nat.lt_of_not_le fun hge => ?_, by omega⟩
  rw [getD_ge hge] at h5
  omega
end
end Fer

namespace Fer


theorem cmpL_app : ∀ {x x' : List Int} (y y' : List Int), x.length = x'.length → cmpL (x ++ y) (x' ++ y') = if cmpL x x' = 0 then cmpL y y' else cmpL x x'
  | [], [], _, _, _ => by simp [cmpL]
  | [], _ :: _, _, _, h => by simp at h
  | _ :: _, [], _, _, h => by simp at h
  | a :: x, b :: x', y, y', h => by
    have ih := cmpL_app (x := x) (x' := x') y y' (by simpa using h)
    by_cases h1 : a < b
    · simp [cmpL, h1]
    · by_cases h2 : b < a
      · simp [cmpL, h1, h2]
      · simp only [List.cons_append, cmpL, if_neg h1, if_neg h2, ih]
theorem flat_inj : ∀ {S T : Tb}, S.map List.length = T.map List.length → S.flatten = T.flatten → S = T
  | [], [], _, _ => rfl
  | [], _ :: _, h, _ => by simp at h
  | _ :: _, [], h, _ => by simp at h
  | r :: S, r' :: T, h, e => by
    simp only [List.map_cons, List.cons.injEq] at h
    simp only [List.flatten_cons] at e
    obtain ⟨e1, e2⟩ := List.append_inj e h.1
    rw [e1, flat_inj h.2 e2]
def leT (S T : Tb) : Bool := decide (cmpL S.flatten T.flatten ≤ 0)
def tsort (l : List Tb) : List Tb := l.mergeSort leT
theorem leT_trans (a b c : Tb) (h1 : leT a b = true) (h2 : leT b c = true) : leT a c = true :=
  decide_eq_true (cmpL_trans (of_decide_eq_true h1) (of_decide_eq_true h2)).1
theorem leT_total (a b : Tb) : (leT a b || leT b a) = true := by
  have := cmpL_neg a.flatten b.flatten
  unfold leT
  rw [Bool.or_eq_true, decide_eq_true_eq, decide_eq_true_eq]
  omega
theorem tsort_perm (l : List Tb) : (tsort l).Perm l := List.mergeSort_perm l leT
theorem tsort_sorted (l : List Tb) : (tsort l).Pairwise fun a b => leT a b = true := List.pairwise_mergeSort leT_trans leT_total l
theorem tsort_uniq {l l' : List Tb} {s : List Nat} (hs : ∀ T ∈ l, T.map List.length = s) (hp : l'.Perm l) (hd : l'.Pairwise fun a b => leT a b = true) : l' = tsort l := by
  refine (hp.trans (tsort_perm l).symm).eq_of_pairwise (le := fun a b => leT a b = true) (fun a b ha hb h1 h2 => ?_) hd (tsort_sorted l)
  have h1 := of_decide_eq_true h1
  have h2 := of_decide_eq_true h2
  have := cmpL_neg a.flatten b.flatten
  have ha := hs a (hp.mem_iff.1 ha)
  have hb := hs b ((tsort_perm l).mem_iff.1 hb)
  exact flat_inj (ha.trans hb.symm) (cmpL_eq (by omega))
theorem tsort_same {l l' : List Tb} {s : List Nat} (hs : ∀ T ∈ l, T.map List.length = s) (hp : l'.Perm l) : tsort l' = tsort l :=
  tsort_uniq hs ((tsort_perm l').trans hp) (tsort_sorted l')


theorem len_grw {p : List Int} : ∀ (cs : List Int) (i : Nat) (left : Int), (∀ k, 0 ≤ p.getD k 0) → (∀ k, 0 ≤ cs.getD k 0) → (grw p i cs left).length ≤ 2 ^ cs.sum.toNat
  | [], i, left, _, _ => by simp only [grw]; split <;> simp
  | c :: cs, i, left, hp, h0 => by
    have hc : 0 ≤ c := by simpa using h0 0
    have hcs : ∀ k, 0 ≤ cs.getD k 0 := fun k => by simpa only [List.getD_cons_succ] using h0 (k + 1)
    have ih := fun left => len_grw (p := p) cs (i + 1) left hp hcs
    have hsum : 0 ≤ cs.sum := by
      have := sumD_nonneg (p := []) (q := cs) (i := 0) fun k _ => by rw [List.getD_nil]; exact hcs k
      rw [sumD_eq (by simp)] at this
      simpa using this
    rw [grw]
    have hn : ((min (if i = 0 then c else min (p.getD (i - 1) 0) c) (p.getD i 0 + left)) + 1 - p.getD i 0).toNat ≤ c.toNat + 1 := by
      have := hp i
      split <;> omega
    generalize ((min (if i = 0 then c else min (p.getD (i - 1) 0) c) (p.getD i 0 + left)) + 1 - p.getD i 0).toNat = n at hn
    have key : ∀ l : List Nat, (l.flatMap fun k : Nat => (grw p (i + 1) cs (left - (k : Int))).map ((p.getD i 0 + (k : Int)) :: ·)).length ≤ l.length * 2 ^ cs.sum.toNat := fun l => by
      induction l with
      | nil => simp
      | cons x l ihl =>
        rw [List.flatMap_cons, List.length_append, List.length_map, List.length_cons, Nat.add_mul, Nat.one_mul]
        have := ih (left - (x : Int))
        omega
    refine Nat.le_trans (key _) ?_
    rw [List.length_range, List.sum_cons, show (c + cs.sum).toNat = c.toNat + cs.sum.toNat by omega, Nat.pow_add]
    refine Nat.mul_le_mul_right _ (Nat.le_trans hn ?_)
    exact Nat.lt_two_pow_self


theorem partRows_facts {p : List Int} (h : partRows p) : (∀ i, i < p.length → 1 ≤ p.getD i 0) ∧ (∀ i, p.getD (i + 1) 0 ≤ p.getD i 0) ∧ ∀ i, 0 ≤ p.getD i 0 := by
  have h1 : ∀ i, i < p.length → 1 ≤ p.getD i 0 := fun i hi => (h i hi).1
  have h3 : ∀ i, 0 ≤ p.getD i 0 := fun i => by
    by_cases hi : i < p.length
    · have := h1 i hi; omega
    · rw [getD_ge (by omega)]; exact Int.le_refl _
  refine ⟨h1, fun i => ?_, h3⟩
  by_cases hi : i + 1 < p.length
  · have := (h _ hi).2 (Nat.succ_pos _)
    rwa [Nat.add_sub_cancel] at this
  · rw [getD_ge (by omega)]; exact h3 i
def within (a c : List Int) : Prop := a.length ≤ c.length ∧ ∀ i, i < a.length → a.getD i 0 ≤ c.getD i 0
theorem abc_of {a b c : List Int} (ha : partRows a) (hb : partRows b) (hc : partRows c) (hs : a.sum + b.sum = c.sum) (hw : within a c) : ABCok a b c := by
  obtain ⟨a1, a2, a3⟩ := partRows_facts ha
  obtain ⟨b1, b2, b3⟩ := partRows_facts hb
  obtain ⟨c1, c2, c3⟩ := partRows_facts hc
  refine ⟨⟨hw.1, fun i => ?_, a1, a2, c2⟩, c1, b1, b2, hs⟩
  by_cases hi : i < a.length
  · exact hw.2 i hi
  · rw [getD_ge (l := a) (by omega)]; exact c3 i

open Classical in
noncomputable def fillP (a b c : List Int) : List Tb := if a.sum + b.sum = c.sum ∧ within a c ∧ within b c then lrS (allB a 0 c) (startT c) b (List.replicate b.length 0) else []
open Classical in
noncomputable def fillR (a b c : List Int) : List Tb := if a.sum + b.sum = c.sum ∧ within a c then tsort (stgT a c b b.length) else []

theorem fill_law {a b c : List Int} (ha : partRows a) (hb : partRows b) (hc : partRows c) (h16 : c.sum ≤ 16) :
    (fillP a b c).length ≤ 1000000000000 ∧ (fillP a b c).length = (fillR a b c).length ∧ tsort (fillP a b c) = fillR a b c ∧ ∃ s, ∀ T ∈ fillP a b c, T.map List.length = s := by
  unfold fillP fillR
  by_cases h1 : a.sum + b.sum = c.sum ∧ within a c
  · have H := abc_of ha hb hc h1.1 h1.2
    rw [if_pos h1]
    have shp : ∀ T, PT a c b b.length T → T.map List.length = c.map Int.toNat := fun T hT => by
      obtain ⟨g1, g2⟩ := PT_full H hT
      apply List.ext_getElem (by simp [g1])
      intro i hi hi'
      have := g2 i
      simp only [List.length_map] at hi hi'
      simp only [List.getElem_map]
      rw [show T.getD i [] = T[i] by rw [List.getD_eq_getElem?_getD, List.getElem?_eq_getElem hi, Option.getD_some], getD_gE hi'] at this
      omega
    have hstg : ∀ T ∈ stgT a c b b.length, T.map List.length = c.map Int.toNat := fun T hT => shp T ((mem_stgT H.H).1 hT)
    by_cases hb2 : within b c
    · rw [if_pos ⟨h1.1, h1.2, hb2⟩]
      have hn : (lrS (allB a 0 c) (startT c) b (List.replicate b.length 0)).Nodup := nodup_lrS _ _ _ _ (allB_bef _ _) fun p hp => by
        have := mem_allB.1 hp
        rw [Nat.sub_zero] at this
        rw [show (startT c).length = c.length from List.length_map _, getD_start, List.length_replicate]
        have := H.H.a0 p.1
        have := H.H.le p.1
        omega
      have hp : (lrS (allB a 0 c) (startT c) b (List.replicate b.length 0)).Perm (stgT a c b b.length) := by
        refine (List.perm_ext_iff_of_nodup hn (nodup_stgT H.H _)).2 fun T => ?_
        rw [mem_both H, mem_stgT H.H]
      exact ⟨len_PT H h16 b.length (Nat.le_refl _) hn fun T hT => (mem_both H).1 hT, hp.length_eq.trans (tsort_perm _).length_eq.symm, tsort_same hstg hp, _, fun T hT => hstg T (hp.mem_iff.1 hT)⟩
    · rw [if_neg fun h => hb2 h.2.2]
      have hnil : stgT a c b b.length = [] := by
        refine List.eq_nil_iff_forall_not_mem.2 fun T hT => hb2 ?_
        have hw := PT_within H ((mem_stgT H.H).1 hT)
        refine ⟨Nat.le_of_not_lt fun hlt => ?_, fun i hi => (hw i hi).2⟩
        exact Nat.lt_irrefl _ (hw _ hlt).1
      rw [hnil]
      exact ⟨Nat.zero_le _, by unfold tsort; simp, rfl, [], fun T hT => by cases hT⟩
  · rw [if_neg h1, if_neg fun h => h1 ⟨h.1, h.2.1⟩]
    exact ⟨Nat.zero_le _, rfl, by unfold tsort; simp, [], fun T hT => by cases hT⟩

end Fer

namespace Fer

def remB (a c : List Int) (i jj : Nat) : List (Nat × Nat) := if i < c.length then rwB i (a.getD i 0).toNat (jj - (a.getD i 0).toNat) ++ allB a (i + 1) (c.drop (i + 1)) else []
theorem remB_end {a c : List Int} {i jj : Nat} (h : c.length ≤ i) : remB a c i jj = [] := if_neg (by omega)
theorem remB_box {a c : List Int} {i jn : Nat} (h : i < c.length) (h2 : (a.getD i 0).toNat ≤ jn) : remB a c i (jn + 1) = (i, jn) :: remB a c i jn := by
  unfold remB
  rw [if_pos h, if_pos h, show jn + 1 - (a.getD i 0).toNat = (jn - (a.getD i 0).toNat) + 1 by omega, rwB, List.cons_append, show (a.getD i 0).toNat + (jn - (a.getD i 0).toNat) = jn by omega]
theorem allB_rem {a c : List Int} {i : Nat} (h0 : ∀ k, 0 ≤ c.getD k 0 ∧ 0 ≤ a.getD k 0) : allB a i (c.drop i) = remB a c i (c.getD i 0).toNat := by
  by_cases h : i < c.length
  · unfold remB
    have e := getD_gE h
    rw [if_pos h, List.drop_eq_getElem_cons h, allB, ← e]
    have := h0 i
    congr 2
    omega
  · rw [remB_end (by omega), List.drop_eq_nil_of_le (by omega)]
    rfl
theorem remB_skip {a c : List Int} {i jj : Nat} (h0 : ∀ k, 0 ≤ c.getD k 0 ∧ 0 ≤ a.getD k 0) (h : i < c.length) (h2 : jj ≤ (a.getD i 0).toNat) : remB a c i jj = remB a c (i + 1) (c.getD (i + 1) 0).toNat := by
  rw [← allB_rem h0]
  unfold remB
  rw [if_pos h, show jj - (a.getD i 0).toNat = 0 by omega]
  rfl
theorem remB_bef {a c : List Int} (i jj : Nat) : (remB a c i jj).Pairwise bef := by
  unfold remB
  split
  · refine List.pairwise_append.2 ⟨rwB_bef _, allB_bef _ _, fun p hp q hq => .inl ?_⟩
    have h1 := mem_rwB.1 hp
    have h2 := (mem_allB.1 hq).1
    omega
  · exact .nil
theorem dec_inc {l : List Int} {x : Nat} (h : x < l.length) : (l.set x (l.getD x 0 - 1)).set x ((l.set x (l.getD x 0 - 1)).getD x 0 + 1) = l := by
  rw [getD_set_eq _ _ _ h, List.set_set]
  refine list_ext (d := 0) List.length_set fun y => ?_
  by_cases e : y = x
  · subst e; rw [getD_set_eq _ _ _ h]; omega
  · rw [getD_set_ne _ _ _ e]
theorem inc_dec {l : List Int} {x : Nat} (h : x < l.length) : (l.set x (l.getD x 0 + 1)).set x ((l.set x (l.getD x 0 + 1)).getD x 0 - 1) = l := by
  rw [getD_set_eq _ _ _ h, List.set_set]
  refine list_ext (d := 0) List.length_set fun y => ?_
  by_cases e : y = x
  · subst e; rw [getD_set_eq _ _ _ h]; omega
  · rw [getD_set_ne _ _ _ e]

structure SrOK (m : Nat) (a c : List Int) (rows : Tb) (left used : List Int) (i jj : Nat) : Prop where
  cl : c.length ≤ 1000
  c0 : ∀ k, 0 ≤ c.getD k 0 ∧ c.getD k 0 ≤ 1000
  cd : ∀ k, c.getD (k + 1) 0 ≤ c.getD k 0
  a0 : ∀ k, 0 ≤ a.getD k 0 ∧ a.getD k 0 ≤ 1000
  al : a.length ≤ 1000
  rl : rows.length = c.length
  rr : ∀ k, ((rows.getD k []).length : Int) = c.getD k 0
  ll : used.length = left.length
  l1 : left.length ≤ 1000
  lu : ∀ x, 0 ≤ left.getD x 0 ∧ 0 ≤ used.getD x 0 ∧ left.getD x 0 + used.getD x 0 ≤ 1000
  ic : i ≤ c.length
  jc : i < c.length → (jj : Int) ≤ c.getD i 0
  j1 : jj ≤ 1000
  z : ∀ p ∈ remB a c i jj, rg rows p = 0
  fu : (remB a c i jj).length < m
section
variable {m : Nat} {a c : List Int} {rows : Tb} {left used : List Int} {i jj : Nat}
theorem SrOK.nn (h : SrOK m a c rows left used i jj) (k : Nat) : 0 ≤ c.getD k 0 ∧ 0 ≤ a.getD k 0 := ⟨(h.c0 k).1, (h.a0 k).1⟩
theorem SrOK.skip (h : SrOK m a c rows left used i jj) (hi : i < c.length) (hj : jj ≤ (a.getD i 0).toNat) {j2 : Nat} (h2 : i + 1 < c.length → j2 = (c.getD (i + 1) 0).toNat) (h3 : j2 ≤ 1000) : SrOK m a c rows left used (i + 1) j2 ∧ remB a c (i + 1) j2 = remB a c i jj := by
  have e : remB a c (i + 1) j2 = remB a c i jj := by
    rw [remB_skip h.nn hi hj]
    by_cases hi1 : i + 1 < c.length
    · rw [h2 hi1]
    · rw [remB_end (by omega), remB_end (by omega)]
  refine ⟨{ h with ic := by omega, jc := fun hi1 => ?_, j1 := h3, z := by rw [e]; exact h.z, fu := by rw [e]; exact h.fu }, e⟩
  rw [h2 hi1]
  have := (h.c0 (i + 1)).1
  omega
theorem SrOK.at {jn : Nat} (h : SrOK m a c rows left used i (jn + 1)) (hi : i < c.length) (hj : (a.getD i 0).toNat ≤ jn) : i < rows.length ∧ jn < (rows.getD i []).length ∧ rg rows (i, jn) = 0 := by
  have h1 := h.jc hi
  have h2 := h.rr i
  refine ⟨by rw [h.rl]; exact hi, by omega, h.z _ ?_⟩
  rw [remB_box hi hj]
  exact List.mem_cons_self
theorem SrOK.step {jn : Nat} (h : SrOK (m + 1) a c rows left used i (jn + 1)) (hi : i < c.length) (hj : (a.getD i 0).toNat ≤ jn) {x : Nat} (hx : x < left.length) (h0 : left.getD x 0 ≠ 0) (v : Int) :
    SrOK m a c (setR rows i jn v) (left.set x (left.getD x 0 - 1)) (used.set x (used.getD x 0 + 1)) i jn := by
  obtain ⟨g1, g2, g3⟩ := h.at hi hj
  have hb := remB_bef (a := a) (c := c) i (jn + 1)
  have hz := h.z
  have hf := h.fu
  rw [remB_box hi hj] at hb hz hf
  refine { h with rl := by rw [len_setR]; exact h.rl, rr := fun k => by rw [rowlen_setR _ _ g1]; exact h.rr k, ll := by rw [List.length_set, List.length_set]; exact h.ll, l1 := by rw [List.length_set]; exact h.l1, lu := fun y => ?_, jc := fun _ => by have := h.jc hi; omega, j1 := by have := h.j1; omega, z := fun p hp => ?_, fu := by rw [List.length_cons] at hf; omega }
  · have e1 := getD_upd (l := left) (x := x) (y := y) (d := -1) hx
    have e2 := getD_upd (l := used) (x := x) (y := y) (d := 1) (by rw [h.ll]; exact hx)
    rw [show left.getD x 0 + -1 = left.getD x 0 - 1 by omega] at e1
    rw [e1, e2]
    have := h.lu y
    have := h.lu x
    by_cases e : y = x
    · subst e; rw [if_pos rfl, if_pos rfl]; omega
    · rw [if_neg e, if_neg e]; omega
  · rw [rg_setR _ _ g1 g2, if_neg fun e : p = (i, jn) => (head_apart hb).1 (by rw [← e]; exact hp)]
    exact hz p (List.mem_cons_of_mem _ hp)
def lrX (bs : List (Nat × Nat)) (rows : Tb) (left used : List Int) (i jn x : Nat) : List Tb := if fitX rows left used i jn x then lrS bs (setR rows i jn ((x : Int) + 1)) (left.set x (left.getD x 0 - 1)) (used.set x (used.getD x 0 + 1)) else []
theorem lrS_box {jn : Nat} (hi : i < c.length) (hj : (a.getD i 0).toNat ≤ jn) : lrS (remB a c i (jn + 1)) rows left used = (List.range left.length).flatMap (lrX (remB a c i jn) rows left used i jn) := by
  rw [remB_box hi hj]
  rfl
theorem flat_range_succ {α : Type} (f : Nat → List α) (n : Nat) : (List.range (n + 1)).flatMap f = (List.range n).flatMap f ++ f n := by
  rw [List.range_succ, List.flatMap_append]
  simp
theorem flat_range_le {α : Type} (f : Nat → List α) {m n : Nat} (h : m ≤ n) : ((List.range m).flatMap f).length ≤ ((List.range n).flatMap f).length := by
  induction n with
  | zero => obtain rfl : m = 0 := by omega
            exact Nat.le_refl _
  | succ n ih =>
    by_cases e : m = n + 1
    · subst e; exact Nat.le_refl _
    · rw [flat_range_succ, List.length_append]
      have := ih (by omega)
      omega
end
end Fer

namespace Fer

section
variable {x : Int} {T0 : Tb} {la : List Int} {r : Nat}
def nuE (T0 : Tb) (la : List Int) (r e : Nat) : List Int := la.take r ++ [((T0.getD r []).length : Int) + (e : Int)]
theorem len_nuE (h : r < la.length) (e : Nat) : (nuE T0 la r e).length = r + 1 := by
  unfold nuE
  rw [List.length_append, List.length_take, List.length_singleton]
  omega
theorem getD_nuE (h : r < la.length) (e i : Nat) : (nuE T0 la r e).getD i 0 = if i < r then la.getD i 0 else if i = r then ((T0.getD r []).length : Int) + (e : Int) else 0 := by
  unfold nuE
  simp only [List.getD_eq_getElem?_getD]
  have hl : (la.take r).length = r := by rw [List.length_take]; omega
  by_cases h1 : i < r
  · rw [if_pos h1, List.getElem?_append_left (by omega), List.getElem?_take, if_pos h1]
  · rw [if_neg h1, List.getElem?_append_right (by omega), hl]
    by_cases h2 : i = r
    · subst h2; simp
    · rw [if_neg h2, List.getElem?_eq_none (by simp; omega)]
      rfl
theorem getD_take0 (i : Nat) : (la.take r).getD i 0 = if i < r then la.getD i 0 else 0 := by
  simp only [List.getD_eq_getElem?_getD, List.getElem?_take]
  split <;> rfl
theorem row_nuE (h : r < la.length) (e : Nat) : (extT x T0 (nuE T0 la r e)).getD r [] = T0.getD r [] ++ List.replicate e x := by
  rw [getD_extT, getD_nuE h, if_neg (Nat.lt_irrefl _), if_pos rfl]
  congr 2
  omega
theorem step_nuE (h : r < la.length) (e : Nat) : (extT x T0 (nuE T0 la r e)).set r ((extT x T0 (nuE T0 la r e)).getD r [] ++ [x]) = extT x T0 (nuE T0 la r (e + 1)) := by
  refine list_ext (d := []) (by rw [List.length_set, len_extT, len_extT, len_nuE h, len_nuE h]) fun i => ?_
  have hr : r < (extT x T0 (nuE T0 la r e)).length := by rw [len_extT, len_nuE h]; omega
  by_cases hi : i = r
  · subst hi
    rw [getD_set_eq _ _ _ hr, row_nuE h, row_nuE h, List.append_assoc, ← List.replicate_succ']
  · rw [getD_set_ne _ _ _ hi, getD_extT, getD_extT, getD_nuE h, getD_nuE h, if_neg hi, if_neg hi]
theorem start_nuE (h : r < la.length) (h2 : r < T0.length) : extT x T0 (la.take r) = extT x T0 (nuE T0 la r 0) := by
  refine list_ext (d := []) (by rw [len_extT, len_extT, len_nuE h, List.length_take]; omega) fun i => ?_
  rw [getD_extT, getD_extT, getD_nuE h, getD_take0]
  by_cases h1 : i < r
  · rw [if_pos h1, if_pos h1]
  · rw [if_neg h1, if_neg h1]
    by_cases h3 : i = r
    · subst h3
      rw [if_pos rfl]
      congr 2
      omega
    · rw [if_neg h3]
theorem start_nuE' (h : r < la.length) (h2 : T0.length ≤ r) : extT x T0 (la.take r) ++ [[]] = extT x T0 (nuE T0 la r 0) := by
  have hl : (extT x T0 (la.take r)).length = r := by rw [len_extT, List.length_take]; omega
  refine list_ext (d := []) (by rw [List.length_append, hl, len_extT, len_nuE h, List.length_singleton]; omega) fun i => ?_
  rw [getD_extT, getD_nuE h]
  by_cases h1 : i < r
  · rw [if_pos h1]
    have : (extT x T0 (la.take r) ++ [[]]).getD i [] = (extT x T0 (la.take r)).getD i [] := by
      simp only [List.getD_eq_getElem?_getD]
      rw [List.getElem?_append_left (by omega)]
    rw [this, getD_extT, getD_take0, if_pos h1]
  · have : (extT x T0 (la.take r) ++ [[]]).getD i [] = [] := by
      simp only [List.getD_eq_getElem?_getD]
      rw [List.getElem?_append_right (by omega), hl]
      cases i - r with
      | zero => rfl
      | succ k => simp
    rw [this, if_neg h1, row_none (by omega)]
    by_cases h3 : i = r
    · subst h3
      rw [if_pos rfl, row_none h2]
      simp
    · rw [if_neg h3]; simp
theorem end_nuE (h : r < la.length) (h2 : ((T0.getD r []).length : Int) ≤ la.getD r 0) : nuE T0 la r (la.getD r 0 - ((T0.getD r []).length : Int)).toNat = la.take (r + 1) := by
  refine list_ext (d := 0) (by rw [len_nuE h, List.length_take]; omega) fun i => ?_
  rw [getD_nuE h, getD_take0]
  by_cases h1 : i < r
  · rw [if_pos h1, if_pos (by omega)]
  · rw [if_neg h1]
    by_cases h3 : i = r
    · subst h3
      rw [if_pos rfl, if_pos (by omega)]
      omega
    · rw [if_neg h3, if_neg (by omega)]
theorem extT_all (h : la.length ≤ r) : extT x T0 (la.take r) = extT x T0 la := by rw [List.take_of_length_le h]
theorem extT_nil : extT x T0 (la.take 0) = T0 := by
  rw [List.take_zero]
  cases T0 <;> rfl
end


open Classical in
noncomputable def stpP (x : Int) (T0 : Tb) (L : List (List Int)) : List Tb := (L.map (extT x T0)).filter fun T => decide (enoughP x T)
theorem stpT_eq (c : List Int) (bx x : Int) (T0 : Tb) : stpT c bx x T0 = stpP x T0 ((grw (lens T0) 0 c bx).map (trimD 0)) := by
  unfold stpT stpP
  rw [List.map_map]
  rfl
open Classical in
theorem stpP_yes {x : Int} {T0 : Tb} {L : List (List Int)} {j : Nat} (h : j < L.length) (he : enoughP x (extT x T0 (L.getD j []))) : stpP x T0 (L.take (j + 1)) = stpP x T0 (L.take j) ++ [extT x T0 (L.getD j [])] := by
  unfold stpP
  rw [show L.take (j + 1) = L.take j ++ [L.getD j []] from by rw [List.take_add_one, List.getElem?_eq_getElem h, List.getD_eq_getElem?_getD, List.getElem?_eq_getElem h]; rfl]
  rw [List.map_append, List.filter_append, List.map_singleton, List.filter_cons_of_pos (by simpa using he)]
  rfl
open Classical in
theorem stpP_no {x : Int} {T0 : Tb} {L : List (List Int)} {j : Nat} (h : j < L.length) (he : ¬ enoughP x (extT x T0 (L.getD j []))) : stpP x T0 (L.take (j + 1)) = stpP x T0 (L.take j) := by
  unfold stpP
  rw [show L.take (j + 1) = L.take j ++ [L.getD j []] from by rw [List.take_add_one, List.getElem?_eq_getElem h, List.getD_eq_getElem?_getD, List.getElem?_eq_getElem h]; rfl]
  rw [List.map_append, List.filter_append, List.map_singleton, List.filter_cons_of_neg (by simpa using he)]
  simp
theorem stpP_len {x : Int} {T0 : Tb} {L : List (List Int)} (j : Nat) : (stpP x T0 (L.take j)).length ≤ (stpP x T0 L).length := by
  unfold stpP
  exact (((List.take_sublist j L).map _).filter _).length_le
theorem flat_take_succ {α β : Type} {f : α → List β} {l : List α} {i : Nat} (h : i < l.length) (d : α) : (l.take (i + 1)).flatMap f = (l.take i).flatMap f ++ f (l.getD i d) := by
  rw [List.take_add_one, List.getElem?_eq_getElem h, List.flatMap_append, List.getD_eq_getElem?_getD, List.getElem?_eq_getElem h]
  simp
theorem flat_take_len {α β : Type} {f : α → List β} {l : List α} {i : Nat} (h : i < l.length) (d : α) : ((l.take i).flatMap f).length + (f (l.getD i d)).length ≤ (l.flatMap f).length := by
  have e : l.flatMap f = (l.take (i + 1)).flatMap f ++ (l.drop (i + 1)).flatMap f := by rw [← List.flatMap_append, List.take_append_drop]
  rw [e, flat_take_succ h d, List.length_append, List.length_append]
  omega

theorem grow_facts {a b c : List Int} (h : ABCok a b c) (hc : c.sum ≤ 16) {k : Nat} (hk : k < b.length) {T0 : Tb} (hT : PT a c b k T0) :
    T0.length ≤ c.length ∧ (∀ i, ((T0.getD i []).length : Int) ≤ c.getD i 0) ∧ (grw (lens T0) 0 c (b.getD k 0)).length ≤ 65536 ∧
    ∀ la ∈ (grw (lens T0) 0 c (b.getD k 0)).map (trimD 0), T0.length ≤ la.length ∧ la.length ≤ c.length ∧ (∀ i, ((T0.getD i []).length : Int) ≤ la.getD i 0 ∧ la.getD i 0 ≤ c.getD i 0) ∧ ((wd (extT ((k : Int) + 1) T0 la)).length : Int) ≤ 16 := by
  have c0 : ∀ i, 0 ≤ c.getD i 0 := fun i => by have := h.H.le i; have := h.H.a0 i; omega
  refine ⟨hT.len, hT.le, ?_, fun la hla => ?_⟩
  · have h1 := len_grw (p := lens T0) c 0 (b.getD k 0) (fun i => by rw [getD_lens]; omega) c0
    have h2 : 2 ^ c.sum.toNat ≤ 2 ^ 16 := Nat.pow_le_pow_right (by omega) (by omega)
    have h3 : (2 : Nat) ^ 16 = 65536 := by decide
    omega
  · obtain ⟨q, hq, rfl⟩ := List.mem_map.1 hla
    have e : ((k : Int) + 1 - 1).toNat = k := by omega
    have e2 : (k : Int) + 1 - 1 = k := by omega
    obtain ⟨g1, g2, _⟩ := PT_of h.H (x := (k : Int) + 1) (by omega) (by rw [e2]; exact hT) (by rw [e]; exact hq)
    obtain ⟨q1, q2, q3⟩ := mem_grw.1 hq
    have hqc : ∀ i, q.getD i 0 ≤ c.getD i 0 := fun i => by
      by_cases hi : i < c.length
      · exact (q2 i hi).2.1
      · rw [getD_ge (l := q) (by omega)]; exact c0 i
    have hle : ∀ i, ((T0.getD i []).length : Int) ≤ q.getD i 0 := fun i => by have := g1 i; omega
    refine ⟨Nat.le_of_not_lt fun hlt => ?_, by have := trimD_len (d := (0 : Int)) q; omega, fun i => by rw [getD_trimD]; exact ⟨hle i, hqc i⟩, ?_⟩
    · have h1 := List.length_pos_iff.2 (hT.ne _ (row_mem hlt))
      have h2 := hle (trimD 0 q).length
      have h3 : q.getD (trimD 0 q).length 0 = 0 := by rw [← getD_trimD (d := (0 : Int))]; exact getD_ge (Nat.le_refl _)
      omega
    · rw [len_wd, sum_extT _ _ _ (fun i => by rw [getD_trimD]; exact hle i), sum_trim]
      have h1 := sumD_nonneg (p := q) (q := c) (i := 0) fun i _ => by rw [Nat.zero_add]; exact hqc i
      rw [sumD_eq (by omega), List.drop_zero] at h1
      omega
theorem enough_iff {x : Int} (hx : 1 ≤ x) {T : Tb} : enoughP x T ↔ x = 1 ∨ ∀ n : Nat, ((wd T).take n).count x ≤ ((wd T).take n).count (x - 1) := by
  unfold enoughP
  constructor
  · intro h
    by_cases e : x = 1
    · exact .inl e
    · exact .inr (h (by omega))
  · rintro (e | h) h2
    · omega
    · exact h
theorem stg_shape {a b c : List Int} (h : ABCok a b c) (hc : c.sum ≤ 16) (hl : c.length ≤ 1000) : ∃ s : List Nat, s.length ≤ 1000 ∧ s.sum ≤ 1000 ∧ ∀ T ∈ stgT a c b b.length, T.map List.length = s := by
  have c0 : ∀ i, 0 ≤ c.getD i 0 := fun i => by have := h.H.le i; have := h.H.a0 i; omega
  have hs : ∀ l : List Int, (∀ i, 0 ≤ l.getD i 0) → ((l.map Int.toNat).sum : Int) = l.sum := fun l => by
    induction l with
    | nil => intro _; rfl
    | cons v l ih =>
      intro h
      have h0 := h 0
      rw [List.getD_cons_zero] at h0
      have := ih fun i => by simpa only [List.getD_cons_succ] using h (i + 1)
      simp only [List.map_cons, List.sum_cons]
      push_cast
      omega
  have := hs c c0
  refine ⟨c.map Int.toNat, by rw [List.length_map]; exact hl, by omega, fun T hT => ?_⟩
  obtain ⟨g1, g2⟩ := PT_full h ((mem_stgT h.H).1 hT)
  apply List.ext_getElem (by simp [g1])
  intro i hi hi'
  have := g2 i
  simp only [List.length_map] at hi hi'
  simp only [List.getElem_map]
  rw [show T.getD i [] = T[i] by rw [List.getD_eq_getElem?_getD, List.getElem?_eq_getElem hi, Option.getD_some], getD_gE hi'] at this
  omega
theorem stg_len {a b c : List Int} (h : ABCok a b c) (hc : c.sum ≤ 16) {k : Nat} (hk : k ≤ b.length) : (stgT a c b k).length ≤ 1000000000000 :=
  len_PT h hc k hk (nodup_stgT h.H k) fun T hT => (mem_stgT h.H).1 hT
end Fer

namespace Fer

theorem part_len_sum {p : List Int} (h : partRows p) : (p.length : Int) ≤ p.sum := by
  have := part_take h p.length (Nat.le_refl _)
  rwa [List.take_length] at this
theorem part_getD_le {p : List Int} (h : partRows p) (hs : p.sum ≤ 16) (i : Nat) : 0 ≤ p.getD i 0 ∧ p.getD i 0 ≤ 16 := by
  refine ⟨(partRows_facts h).2.2 i, ?_⟩
  by_cases hi : i < p.length
  · have := part_le h hi; omega
  · rw [getD_ge (l := p) (by omega)]; omega
theorem rg_start {c : List Int} (p : Nat × Nat) : rg (startT c) p = 0 := by
  unfold rg
  rw [getD_start]
  simp only [List.getD_eq_getElem?_getD, List.getElem?_replicate]
  split <;> rfl
theorem sr_start {a b c : List Int} (ha : partRows a) (hb : partRows b) (hc : partRows c) (hs : a.sum + b.sum = c.sum) (hw : within a c) (h16 : c.sum ≤ 16) :
    SrOK 1000 a c (startT c) b (List.replicate b.length 0) 0 (c.getD 0 0).toNat ∧ remB a c 0 (c.getD 0 0).toNat = allB a 0 c := by
  have H := abc_of ha hb hc hs hw
  have hla := part_len_sum ha
  have hlb := part_len_sum hb
  have hlc := part_len_sum hc
  have hc0 := part_getD_le hc h16
  have ha0 := part_getD_le ha (by omega)
  have hb0 := part_getD_le hb (by omega)
  have e : remB a c 0 (c.getD 0 0).toNat = allB a 0 c := by
    have := allB_rem (a := a) (c := c) (i := 0) fun k => ⟨(hc0 k).1, (ha0 k).1⟩
    rw [List.drop_zero] at this
    exact this.symm
  have hn := len_allB (a := a) (cs := c) (i := 0) fun k _ => by rw [Nat.zero_add]; exact ⟨H.H.le k, H.H.a0 k⟩
  have h1 := sumD_eq (p := a) (q := c) (i := 0) (by have := H.H.al; omega)
  rw [List.drop_zero] at h1
  refine ⟨⟨by omega, fun k => by have := hc0 k; omega, H.H.cd, fun k => by have := ha0 k; omega, by omega, by unfold startT; rw [List.length_map], fun k => ?_, by rw [List.length_replicate], by omega, fun x => ?_, Nat.zero_le _, fun _ => by have := hc0 0; omega, by have := hc0 0; omega, fun p _ => rg_start p, by rw [e]; omega⟩, e⟩
  · rw [getD_start, List.length_replicate]
    have := hc0 k
    omega
  · have := hb0 x
    have e : (List.replicate b.length (0 : Int)).getD x 0 = 0 := by
      simp only [List.getD_eq_getElem?_getD, List.getElem?_replicate]
      split <;> rfl
    rw [e]
    omega
end Fer
