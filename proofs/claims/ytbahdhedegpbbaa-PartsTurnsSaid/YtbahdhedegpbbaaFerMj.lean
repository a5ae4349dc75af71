import Derived.Test.YtbahdhedegpbbaaFerMi
/- Plain facts: monotone triangles and alternating signs. No program in sight. -/
namespace Fer

def Inc (l : List Int) : Prop := l.Pairwise (· < ·)

theorem inc_getD {l : List Int} (h : Inc l) {i j : Nat} (hij : i < j) (hj : j < l.length) : l.getD i 0 < l.getD j 0 := by
  rw [getD_lt 0 (by omega), getD_lt 0 hj]
  exact List.pairwise_iff_getElem.1 h i j (by omega) hj hij
theorem inc_le {l : List Int} (h : Inc l) {i j : Nat} (hij : i ≤ j) (hj : j < l.length) : l.getD i 0 ≤ l.getD j 0 := by
  by_cases e : i = j
  · subst e; exact Int.le_refl _
  · exact Int.le_of_lt (inc_getD h (by omega) hj)
theorem inc_of {l : List Int} (h : ∀ j, j + 1 < l.length → l.getD j 0 < l.getD (j + 1) 0) : Inc l := by
  have key : ∀ d i, i + d + 1 < l.length → l.getD i 0 < l.getD (i + d + 1) 0 := by
    intro d
    induction d with
    | zero => intro i hi; exact h i hi
    | succ d ih => intro i hi; exact Int.lt_trans (ih i (by omega)) (h (i + d + 1) (by omega))
  refine List.pairwise_iff_getElem.2 fun i j hi hj hij => ?_
  have := key (j - i - 1) i (by omega)
  rw [show i + (j - i - 1) + 1 = j by omega, getD_lt 0 hi, getD_lt 0 hj] at this
  exact this
theorem inc_nodup {l : List Int} (h : Inc l) : l.Nodup := h.imp fun h e => by subst e; exact Int.lt_irrefl _ h

theorem inc_ext : ∀ {l m : List Int}, Inc l → Inc m → (∀ x, x ∈ l ↔ x ∈ m) → l = m
  | [], [], _, _, _ => rfl
  | [], y :: m, _, _, h => by have := (h y).2 (List.mem_cons_self ..); cases this
  | x :: l, [], _, _, h => by have := (h x).1 (List.mem_cons_self ..); cases this
  | x :: l, y :: m, hl, hm, h => by
    have hl' := List.pairwise_cons.1 hl
    have hm' := List.pairwise_cons.1 hm
    have e : x = y := by
      rcases List.mem_cons.1 ((h x).1 (List.mem_cons_self ..)) with e | e
      · exact e
      · rcases List.mem_cons.1 ((h y).2 (List.mem_cons_self ..)) with e2 | e2
        · exact e2.symm
        · have := hm'.1 x e
          have := hl'.1 y e2
          omega
    subst e
    congr 1
    refine inc_ext hl'.2 hm'.2 fun z => ⟨fun hz => ?_, fun hz => ?_⟩
    · rcases List.mem_cons.1 ((h z).1 (List.mem_cons_of_mem _ hz)) with e | e
      · have := hl'.1 z hz; omega
      · exact e
    · rcases List.mem_cons.1 ((h z).2 (List.mem_cons_of_mem _ hz)) with e | e
      · have := hm'.1 z hz; omega
      · exact e

/-- 1 if the number stands in the list, else 0. -/
def ind (r : List Int) (x : Int) : Int := if x ∈ r then 1 else 0
/-- How many of the numbers 1 to p stand in the list. -/
def cnt (r : List Int) (p : Nat) : Int := sumTo (fun q => ind r ((q : Int) + 1)) p

theorem ind_cases (r : List Int) (x : Int) : ind r x = 0 ∨ ind r x = 1 := by unfold ind; split <;> simp
theorem cnt_succ (r : List Int) (p : Nat) : cnt r (p + 1) = cnt r p + ind r ((p : Int) + 1) := rfl

theorem cnt_val {r : List Int} (hr : Inc r) (h1 : ∀ x ∈ r, 1 ≤ x) : ∀ (p c : Nat), c ≤ r.length → (∀ k, k < c → r.getD k 0 ≤ p) → (c = r.length ∨ (p : Int) < r.getD c 0) → cnt r p = c
  | 0, c, hc, h2, h3 => by
    by_cases e : c = 0
    · subst e; rfl
    · have := h2 0 (by omega)
      have := h1 _ (getD_mem 0 (show 0 < r.length by omega))
      omega
  | p + 1, c, hc, h2, h3 => by
    rw [cnt_succ]
    by_cases hm : ((p : Int) + 1) ∈ r
    · rw [show ind r ((p : Int) + 1) = 1 from if_pos hm]
      obtain ⟨k, hk, e⟩ := mem_getD 0 hm
      have hkc : k < c := by
        refine Classical.byContradiction fun hn => ?_
        rcases h3 with h3 | h3
        · omega
        · have := inc_le hr (show c ≤ k by omega) hk
          omega
      have hk1 : k = c - 1 := by
        refine Classical.byContradiction fun hn => ?_
        have := inc_getD hr (show k < c - 1 by omega) (by omega)
        have := h2 (c - 1) (by omega)
        omega
      subst hk1
      have := cnt_val hr h1 p (c - 1) (by omega) (fun k hk => by have := inc_getD hr hk (by omega); omega) (.inr (by omega))
      omega
    · rw [show ind r ((p : Int) + 1) = 0 from if_neg hm]
      have := cnt_val hr h1 p c hc (fun k hk => by
        have h4 := h2 k hk
        have : r.getD k 0 ≠ (p : Int) + 1 := fun e => hm (e ▸ getD_mem 0 (by omega))
        omega) (by
        rcases h3 with h3 | h3
        · exact .inl h3
        · exact .inr (by omega))
      omega

theorem cnt_spec {r : List Int} (hr : Inc r) (h1 : ∀ x ∈ r, 1 ≤ x) (p : Nat) : ∃ c, c ≤ r.length ∧ cnt r p = c ∧ (∀ k, k < c → r.getD k 0 ≤ p) ∧ (c = r.length ∨ (p : Int) < r.getD c 0) := by
  obtain ⟨c, hc, h2, h3⟩ := leastNat (P := fun c => c = r.length ∨ (p : Int) < r.getD c 0) r.length (.inl rfl)
  have h4 : ∀ k, k < c → r.getD k 0 ≤ p := fun k hk => by
    have := h3 k hk
    omega
  exact ⟨c, hc, cnt_val hr h1 p c hc h4 h2, h4, h2⟩

/-! ### Triangles -/

def ot (t : List (List Int)) (i q : Nat) : Int := ind (t.getD i []) ((q : Int) + 1) - if i = 0 then 0 else ind (t.getD (i - 1) []) ((q : Int) + 1)
def ofT (t : List (List Int)) : List (List Int) := mat t.length (ot t)

def trRow (t : List (List Int)) (i : Nat) : Prop := (t.getD i []).length = i + 1 ∧ ∀ j, j ≤ i → (1 ≤ (t.getD i []).getD j 0 ∧ (t.getD i []).getD j 0 ≤ t.length) ∧
  (0 < j → (t.getD i []).getD (j - 1) 0 < (t.getD i []).getD j 0 ∧ (t.getD i []).getD (j - 1) 0 ≤ (t.getD (i - 1) []).getD (j - 1) 0 ∧ (t.getD (i - 1) []).getD (j - 1) 0 ≤ (t.getD i []).getD j 0)
def trOK (t : List (List Int)) : Prop := 1 ≤ t.length ∧ t.length ≤ 7 ∧ ∀ i, i < t.length → trRow t i

theorem trRow_inc {t : List (List Int)} {i : Nat} (h : trRow t i) : Inc (t.getD i []) :=
  inc_of fun j hj => (h.2 (j + 1) (by have := h.1; omega)).2 (by omega) |>.1
theorem trRow_mem {t : List (List Int)} {i : Nat} (h : trRow t i) {x : Int} (hx : x ∈ t.getD i []) : 1 ≤ x ∧ x ≤ t.length := by
  obtain ⟨j, hj, rfl⟩ := mem_getD 0 hx
  exact (h.2 j (by have := h.1; omega)).1

@[simp] theorem ofT_length (t : List (List Int)) : (ofT t).length = t.length := by simp [ofT]
theorem ofT_row {t : List (List Int)} {i : Nat} (h : i < t.length) : (ofT t).getD i [] = (List.range t.length).map (ot t i) := mat_row _ h
theorem ofT_cell {t : List (List Int)} {i q : Nat} (h : i < t.length) (h' : q < t.length) : ((ofT t).getD i []).getD q 0 = ot t i q := mat_cell _ h h'

theorem ofT_take {t : List (List Int)} {i : Nat} (h : i < t.length) : ∀ p, p ≤ t.length → (((ofT t).getD i []).take p).sum = cnt (t.getD i []) p - if i = 0 then 0 else cnt (t.getD (i - 1) []) p
  | 0, _ => by simp [cnt, sumTo]
  | p + 1, hp => by
    rw [sum_take_succ (by rw [ofT_row h, List.length_map, List.length_range]; omega), ofT_take h p (by omega), ofT_cell h (by omega), cnt_succ, cnt_succ]
    unfold ot
    by_cases e : i = 0
    · simp only [if_pos e]; omega
    · simp only [if_neg e]; omega

theorem ofT_cp {t : List (List Int)} {q : Nat} (hq : q < t.length) : ∀ a, a ≤ t.length → cp (ofT t) a q = if a = 0 then 0 else ind (t.getD (a - 1) []) ((q : Int) + 1)
  | 0, _ => rfl
  | a + 1, ha => by
    rw [cp_succ q (by rw [ofT_length]; omega), ofT_cp hq a (by omega), ofT_cell (by omega) hq]
    unfold ot
    by_cases e : a = 0
    · simp [e]
    · simp only [if_neg e, if_neg (Nat.succ_ne_zero a), Nat.add_one_sub_one]; omega

theorem cnt_full {t : List (List Int)} {i : Nat} (h : trRow t i) : cnt (t.getD i []) t.length = i + 1 := by
  have := cnt_val (trRow_inc h) (fun x hx => (trRow_mem h hx).1) t.length (i + 1) (by have := h.1; omega) (fun k hk => (h.2 k (by omega)).1.2) (.inl h.1.symm)
  omega

theorem trOK_sign {t : List (List Int)} (h : trOK t) : signOK (ofT t) := by
  obtain ⟨n1, n7, hr⟩ := h
  refine ⟨by simpa using n1, by simpa using n7, fun i hi => ?_, fun q hq => ?_⟩
  · rw [ofT_length] at hi
    have hl : ((ofT t).getD i []).length = t.length := by rw [ofT_row hi]; simp
    refine ⟨by rw [hl]; simp, fun p hp => ?_, ?_⟩
    · rw [hl] at hp
      rw [ofT_take hi p hp]
      obtain ⟨c, c1, c2, c3, c4⟩ := cnt_spec (trRow_inc (hr i hi)) (fun x hx => (trRow_mem (hr i hi) hx).1) p
      have hli := (hr i hi).1
      by_cases e : i = 0
      · rw [if_pos e, c2]; omega
      · rw [if_neg e, c2]
        have hr' := hr (i - 1) (by omega)
        obtain ⟨d, d1, d2, d3, d4⟩ := cnt_spec (trRow_inc hr') (fun x hx => (trRow_mem hr' hx).1) p
        have hld := hr'.1
        rw [d2]
        have hdc : d ≤ c := by
          refine Classical.byContradiction fun hn => ?_
          have h5 := ((hr i hi).2 d (by omega)).2 (by omega)
          have h6 := d3 (d - 1) (by omega)
          rcases c4 with c4 | c4
          · omega
          · have := inc_le (trRow_inc (hr i hi)) (show c ≤ d - 1 by omega) (by omega)
            omega
        have hcd : c ≤ d + 1 := by
          refine Classical.byContradiction fun hn => ?_
          have h5 := ((hr i hi).2 (c - 1) (by omega)).2 (by omega)
          have h6 := c3 (c - 1) (by omega)
          rcases d4 with d4 | d4
          · omega
          · have := inc_le (trRow_inc hr') (show d ≤ c - 1 - 1 by omega) (by omega)
            omega
        omega
    · have := ofT_take hi t.length (Nat.le_refl _)
      rw [List.take_of_length_le (by omega), cnt_full (hr i hi)] at this
      rw [this]
      by_cases e : i = 0
      · rw [if_pos e]; omega
      · rw [if_neg e, cnt_full (hr (i - 1) (by omega))]; omega
  · rw [ofT_length] at hq
    rw [alt_col, ofT_length]
    refine ⟨fun a ha => ?_, ?_⟩
    · rw [ofT_cp hq a ha]
      split
      · omega
      · have := ind_cases (t.getD (a - 1) []) ((q : Int) + 1); omega
    · rw [ofT_cp hq _ (Nat.le_refl _), if_neg (by omega)]
      have hl := hr (t.length - 1) (by omega)
      have hp : isPerm (t.getD (t.length - 1) []) := isPerm_of (inc_nodup (trRow_inc hl)) fun x hx => by
        have := trRow_mem hl hx
        have := hl.1
        omega
      exact if_pos (hp q (by have := hl.1; omega))

theorem trow_inc (m : List (List Int)) (a p : Nat) : Inc (trow m a p) := by
  unfold trow
  refine List.pairwise_map.2 (List.Pairwise.imp ?_ (List.Pairwise.filter _ List.pairwise_lt_range))
  intro a b h; omega
theorem mem_trow {m : List (List Int)} {a p : Nat} {x : Int} : x ∈ trow m a p ↔ ∃ q : Nat, q < p ∧ cp m a q = 1 ∧ x = (q : Int) + 1 := by
  unfold trow
  simp only [List.mem_map, List.mem_filter, List.mem_range, decide_eq_true_eq]
  constructor
  · rintro ⟨q, ⟨h1, h2⟩, rfl⟩; exact ⟨q, h1, h2, rfl⟩
  · rintro ⟨q, h1, h2, rfl⟩; exact ⟨q, ⟨h1, h2⟩, rfl⟩

theorem trOK_tri {t : List (List Int)} (h : trOK t) : tri (ofT t) = t := by
  refine ext_getD [] (by simp) fun i hi => ?_
  rw [tri_length, ofT_length] at hi
  unfold tri
  rw [ofT_length, range_map_getD _ _ hi]
  have hr := h.2.2 i hi
  refine inc_ext (trow_inc ..) (trRow_inc hr) fun x => ?_
  rw [mem_trow]
  constructor
  · rintro ⟨q, hq, h1, rfl⟩
    rw [ofT_cp hq _ (by omega), if_neg (by omega), Nat.add_one_sub_one] at h1
    refine Classical.byContradiction fun hn => ?_
    rw [show ind (t.getD i []) ((q : Int) + 1) = 0 from if_neg hn] at h1
    omega
  · intro hx
    have hm := trRow_mem hr hx
    refine ⟨(x - 1).toNat, by omega, ?_, by omega⟩
    rw [ofT_cp (by omega) _ (by omega), if_neg (by omega), Nat.add_one_sub_one, show (((x - 1).toNat : Nat) : Int) + 1 = x by omega]
    exact if_pos hx

theorem sum_cp {m : List (List Int)} (h : signOK m) : ∀ a, a ≤ m.length → ∀ p, p ≤ m.length → sumTo (cp m a) p = cs m a p
  | 0, _, p, _ => by
    have : ∀ p, sumTo (cp m 0) p = 0 := by
      intro p
      induction p with
      | zero => rfl
      | succ p ih => show sumTo (cp m 0) p + cp m 0 p = 0; rw [ih, cp_zero]; omega
    rw [this]; rfl
  | a + 1, ha, p, hp => by
    rw [cs_succ, ← sum_cp h a (by omega) p hp]
    have hl := (h.2.2.1 a (by omega)).1
    have e : ∀ p, p ≤ m.length → ((m.getD a []).take p).sum = sumTo (fun q => (m.getD a []).getD q 0) p := by
      intro p
      induction p with
      | zero => intro _; rfl
      | succ p ih => intro hp; rw [sum_take_succ (by omega), ih (by omega)]; rfl
    rw [e p hp, ← sumTo_add]
    exact sumTo_congr p fun q _ => cp_succ q (by omega)

theorem sign_tri {t : List (List Int)} (n1 : 1 ≤ t.length) (n7 : t.length ≤ 7) (hs : signOK (ofT t)) (ht : tri (ofT t) = t) : trOK t := by
  have hn : (ofT t).length = t.length := ofT_length t
  have hrow : ∀ i, i < t.length → t.getD i [] = trow (ofT t) (i + 1) t.length := fun i hi => by
    conv => lhs; rw [← ht]
    unfold tri
    rw [hn, range_map_getD _ _ hi]
  generalize ofT t = m at *
  have hinc : ∀ i, i < t.length → Inc (t.getD i []) := fun i hi => by rw [hrow i hi]; exact trow_inc ..
  have hrng : ∀ i, i < t.length → ∀ x ∈ t.getD i [], 1 ≤ x ∧ x ≤ t.length := fun i hi x hx => by
    rw [hrow i hi] at hx
    obtain ⟨q, hq, _, rfl⟩ := mem_trow.1 hx
    omega
  have hind : ∀ i, i < t.length → ∀ q, q < t.length → ind (t.getD i []) ((q : Int) + 1) = cp m (i + 1) q := fun i hi q hq => by
    have hc := cp_le hs (a := i + 1) (j := q) (by omega) (by omega)
    unfold ind
    rw [hrow i hi]
    split
    · rename_i hx
      obtain ⟨q', _, h1, h2⟩ := mem_trow.1 hx
      rw [show q = q' by omega, h1]
    · rename_i hx
      have : cp m (i + 1) q ≠ 1 := fun e => hx (mem_trow.2 ⟨q, hq, e, rfl⟩)
      omega
  have hcnt : ∀ i, i < t.length → ∀ p, p ≤ t.length → cnt (t.getD i []) p = cs m (i + 1) p := fun i hi p hp => by
    rw [← sum_cp hs (i + 1) (by omega) p (by omega)]
    exact sumTo_congr p fun q hq => hind i hi q (by omega)
  have hfull : ∀ i, i ≤ t.length → cs m i t.length = i := fun i => by
    induction i with
    | zero => intro _; rfl
    | succ i ih =>
      intro hi
      have hr := hs.2.2.1 i (by omega)
      have := hr.2.2
      rw [cs_succ, ih (by omega), List.take_of_length_le (by omega), this]
      omega
  have hlen : ∀ i, i < t.length → (t.getD i []).length = i + 1 := fun i hi => by
    have h1 := cnt_val (hinc i hi) (fun x hx => (hrng i hi x hx).1) t.length (t.getD i []).length (Nat.le_refl _) (fun k hk => (hrng i hi _ (getD_mem 0 hk)).2) (.inl rfl)
    rw [hcnt i hi _ (Nat.le_refl _), hfull (i + 1) (by omega)] at h1
    omega
  refine ⟨n1, n7, fun i hi => ⟨hlen i hi, fun j hj => ⟨hrng i hi _ (getD_mem 0 (by rw [hlen i hi]; omega)), fun j0 => ?_⟩⟩⟩
  have hli := hlen i hi
  have hlp := hlen (i - 1) (by omega)
  have hmi : ∀ x ∈ t.getD i [], 1 ≤ x := fun x hx => (hrng i hi x hx).1
  have hmp : ∀ x ∈ t.getD (i - 1) [], 1 ≤ x := fun x hx => (hrng (i - 1) (by omega) x hx).1
  have step : ∀ p, p ≤ t.length → cnt (t.getD (i - 1) []) p ≤ cnt (t.getD i []) p ∧ cnt (t.getD i []) p ≤ cnt (t.getD (i - 1) []) p + 1 := fun p hp => by
    have hr := (hs.2.2.1 i (by omega))
    have := hr.2.1 p (by omega)
    rw [hcnt i hi p hp, hcnt (i - 1) (by omega) p hp, show i - 1 + 1 = i by omega, cs_succ]
    omega
  refine ⟨inc_getD (hinc i hi) (by omega) (by omega), ?_, ?_⟩
  · have hx := hrng (i - 1) (by omega) _ (getD_mem 0 (show j - 1 < (t.getD (i - 1) []).length by omega))
    generalize hxx : (t.getD (i - 1) []).getD (j - 1) 0 = x at *
    have h1 := cnt_val (hinc (i - 1) (by omega)) hmp x.toNat j (by omega) (fun k hk => by
      have := inc_le (hinc (i - 1) (by omega)) (show k ≤ j - 1 by omega) (by omega)
      omega) (by
      by_cases e : j = (t.getD (i - 1) []).length
      · exact .inl e
      · refine .inr ?_
        have := inc_getD (hinc (i - 1) (by omega)) (show j - 1 < j by omega) (by omega)
        omega)
    obtain ⟨c, c1, c2, c3, _⟩ := cnt_spec (hinc i hi) hmi x.toNat
    have := step x.toNat (by omega)
    have := c3 (j - 1) (by omega)
    omega
  · have hx := hrng i hi _ (getD_mem 0 (show j < (t.getD i []).length by omega))
    generalize hxx : (t.getD i []).getD j 0 = x at *
    have h1 := cnt_val (hinc i hi) hmi x.toNat (j + 1) (by omega) (fun k hk => by
      have := inc_le (hinc i hi) (show k ≤ j by omega) (by omega)
      omega) (by
      by_cases e : j + 1 = (t.getD i []).length
      · exact .inl e
      · refine .inr ?_
        have := inc_getD (hinc i hi) (show j < j + 1 by omega) (by omega)
        omega)
    obtain ⟨d, d1, d2, d3, _⟩ := cnt_spec (hinc (i - 1) (by omega)) hmp x.toNat
    have := step x.toNat (by omega)
    have := d3 (j - 1) (by omega)
    omega

theorem trOK_iff {t : List (List Int)} (n1 : 1 ≤ t.length) (n7 : t.length ≤ 7) : trOK t ↔ signOK (ofT t) ∧ tri (ofT t) = t :=
  ⟨fun h => ⟨trOK_sign h, trOK_tri h⟩, fun h => sign_tri n1 n7 h.1 h.2⟩

theorem ind_step {r : List Int} {b : Nat} (hn : r.Nodup) (hb : b < r.length) : ind (r.take b) (r.getD b 0) = 0 ∧ ∀ x, ind (r.take (b + 1)) x = if x = r.getD b 0 then 1 else ind (r.take b) x := by
  have h0 : r.getD b 0 ∉ r.take b := fun hm => by
    obtain ⟨k, hk, e⟩ := mem_getD 0 hm
    rw [List.length_take] at hk
    have : r.getD k 0 = r.getD b 0 := by
      rw [← e]
      simp only [List.getD_eq_getElem?_getD, List.getElem?_take, if_pos (show k < b by omega)]
    exact nodup_getD hn (show k < b by omega) hb this
  refine ⟨if_neg h0, fun x => ?_⟩
  unfold ind
  by_cases e : x = r.getD b 0
  · rw [if_pos ((mem_take_succ 0 hb x).2 (.inr e)), if_pos e]
  · rw [if_neg e]
    by_cases c : x ∈ r.take b
    · rw [if_pos ((mem_take_succ 0 hb x).2 (.inl c)), if_pos c]
    · rw [if_neg fun h => ((mem_take_succ 0 hb x).1 h).elim c e, if_neg c]

end Fer
