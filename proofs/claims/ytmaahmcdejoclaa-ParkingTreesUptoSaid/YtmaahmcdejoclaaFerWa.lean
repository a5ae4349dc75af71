/- Machine and plain facts, over any program (several texts in one). No condition. -/

/-
  Trees as lists of edges: classes of vertices, edge by edge; how many there are. Plain.
-/
namespace Fer

/-- The classes, one edge more. -/
def ustep (r : Int → Int) (e : Int × Int) : Int → Int := fun v => if r v = r e.1 then r e.2 else r v
def ufold (r : Int → Int) (l : List (Int × Int)) : Int → Int := l.foldl ustep r
/-- Each edge joins two classes. -/
def treeR (r : Int → Int) : List (Int × Int) → Prop
  | [] => True
  | e :: l => r e.1 ≠ r e.2 ∧ treeR (ustep r e) l
def idemR (r : Int → Int) : Prop := ∀ v, r (r v) = r v
def cntV (V : List Int) (r : Int → Int) : Nat := V.countP fun v => decide (r v = v)
def irange (lo hi : Int) : List Int := (List.range (hi - lo + 1).toNat).map fun i : Nat => lo + (i : Int)

theorem ustep_idem {r : Int → Int} (h : idemR r) (e : Int × Int) : idemR (ustep r e) := fun v => by
  have h1 := h e.2
  have h2 := h v
  unfold ustep
  by_cases c : r v = r e.1
  · rw [if_pos c, h1]
    split <;> rfl
  · rw [if_neg c, h2, if_neg c]
theorem ustep_skip {r : Int → Int} {e : Int × Int} (h : r e.1 = r e.2) : ustep r e = r := by
  funext v
  unfold ustep
  split
  · rename_i c; rw [c, h]
  · rfl
theorem ustep_fix {r : Int → Int} (hi : idemR r) {e : Int × Int} (h : r e.1 ≠ r e.2) (v : Int) : ustep r e v = v ↔ r v = v ∧ v ≠ r e.1 := by
  unfold ustep
  by_cases c : r v = r e.1
  · rw [if_pos c]
    constructor
    · intro h2
      exfalso
      have h3 := hi e.2
      rw [h2] at h3
      exact h (c.symm.trans (h3.trans h2.symm))
    · rintro ⟨h2, h3⟩
      exact absurd (h2.symm.trans c) h3
  · rw [if_neg c]
    constructor
    · intro h2
      refine ⟨h2, fun h3 => c ?_⟩
      rw [h3]
      exact hi e.1
    · exact fun h2 => h2.1
theorem countP_drop {V : List Int} (hn : V.Nodup) {p : Int → Bool} {c : Int} (hc : c ∈ V) (hp : p c = true) : V.countP (fun v => p v && decide (v ≠ c)) + 1 = V.countP p := by
  induction V with
  | nil => cases hc
  | cons a V ih =>
    rw [List.nodup_cons] at hn
    rw [List.countP_cons, List.countP_cons]
    by_cases e : a = c
    · subst e
      have : V.countP (fun v => p v && decide (v ≠ a)) = V.countP p := by
        refine List.countP_congr fun v hv => ?_
        have : v ≠ a := fun h => hn.1 (h ▸ hv)
        simp [this]
      rw [this, hp]
      simp
    · have hc' : c ∈ V := by
        rcases List.mem_cons.1 hc with h | h
        · exact absurd h.symm e
        · exact h
      have := ih hn.2 hc'
      have e2 : (p a && decide (a ≠ c)) = p a := by simp [e]
      rw [e2]
      omega
theorem cntR_step {V : List Int} (hn : V.Nodup) {r : Int → Int} (hi : idemR r) {e : Int × Int} (h : r e.1 ≠ r e.2) (hV : r e.1 ∈ V) : cntV V (ustep r e) + 1 = cntV V r := by
  unfold cntV
  rw [← countP_drop hn (p := fun v => decide (r v = v)) hV (decide_eq_true (hi e.1))]
  congr 1
  refine List.countP_congr fun v _ => ?_
  simp only [decide_eq_true_eq, Bool.and_eq_true]
  exact ustep_fix hi h v
def closR (V : List Int) (r : Int → Int) : Prop := ∀ v ∈ V, r v ∈ V
theorem ustep_clos {V : List Int} {r : Int → Int} (h : closR V r) {e : Int × Int} (h2 : e.2 ∈ V) : closR V (ustep r e) := fun v hv => by
  unfold ustep
  split
  · exact h _ h2
  · exact h _ hv
def inV (V : List Int) (l : List (Int × Int)) : Prop := ∀ e ∈ l, e.1 ∈ V ∧ e.2 ∈ V
theorem ufold_idem : ∀ (l : List (Int × Int)) {r : Int → Int}, idemR r → idemR (ufold r l)
  | [], _, h => h
  | e :: l, _, h => ufold_idem l (ustep_idem h e)
theorem ufold_clos {V : List Int} : ∀ (l : List (Int × Int)) {r : Int → Int}, inV V l → closR V r → closR V (ufold r l)
  | [], _, _, h => h
  | e :: l, _, hl, h => ufold_clos l (fun x hx => hl x (List.mem_cons_of_mem _ hx)) (ustep_clos h (hl e (List.mem_cons_self ..)).2)
theorem ufold_cnt {V : List Int} (hn : V.Nodup) : ∀ (l : List (Int × Int)) {r : Int → Int}, idemR r → closR V r → inV V l →
    cntV V r ≤ cntV V (ufold r l) + l.length ∧ (cntV V r = cntV V (ufold r l) + l.length ↔ treeR r l)
  | [], r, _, _, _ => ⟨Nat.le_refl _, by simp [treeR, ufold]⟩
  | e :: l, r, hi, hc, hl => by
    have he := hl e (List.mem_cons_self ..)
    have hl' : inV V l := fun x hx => hl x (List.mem_cons_of_mem _ hx)
    obtain ⟨i1, i2⟩ := ufold_cnt hn l (ustep_idem hi e) (ustep_clos hc he.2) hl'
    rw [show ufold r (e :: l) = ufold (ustep r e) l from rfl, List.length_cons]
    unfold treeR
    by_cases h : r e.1 = r e.2
    · rw [ustep_skip h] at i1 i2 ⊢
      refine ⟨by omega, fun h2 => ?_, fun h2 => absurd h h2.1⟩
      omega
    · have hs := cntR_step hn hi h (hc _ he.1)
      refine ⟨by omega, fun h2 => ⟨h, i2.1 (by omega)⟩, fun h2 => ?_⟩
      have := i2.2 h2.2
      omega

theorem irange_mem {lo hi v : Int} : v ∈ irange lo hi ↔ lo ≤ v ∧ v ≤ hi := by
  unfold irange
  rw [List.mem_map]
  constructor
  · rintro ⟨i, hi', rfl⟩
    have := List.mem_range.1 hi'
    omega
  · rintro ⟨h1, h2⟩
    exact ⟨(v - lo).toNat, List.mem_range.2 (by omega), by omega⟩
theorem irange_len (lo hi : Int) : (irange lo hi).length = (hi - lo + 1).toNat := by simp [irange]
theorem irange_nodup (lo hi : Int) : (irange lo hi).Nodup := by
  unfold irange
  refine List.Pairwise.map _ (fun a b (h : a ≠ b) => ?_) List.nodup_range
  omega

/-! ### Sets that no edge leaves -/
def shutE (S : Int → Prop) (l : List (Int × Int)) : Prop := ∀ e ∈ l, S e.1 ↔ S e.2
theorem ufold_compat {S : Int → Prop} : ∀ (l : List (Int × Int)) {r : Int → Int}, shutE S l → (∀ v, S (r v) ↔ S v) → ∀ v, S (ufold r l v) ↔ S v
  | [], _, _, h, v => h v
  | e :: l, r, hl, h, v => by
    refine ufold_compat l (fun x hx => hl x (List.mem_cons_of_mem _ hx)) (fun v => ?_) v
    unfold ustep
    split
    · rename_i c
      rw [h, ← hl e (List.mem_cons_self ..), ← h e.1, ← c, h]
    · exact h v
theorem ustep_same {r : Int → Int} {e : Int × Int} {x y : Int} (h : r x = r y) : ustep r e x = ustep r e y := by
  unfold ustep
  rw [h]
theorem ufold_same : ∀ (l : List (Int × Int)) {r : Int → Int} {x y : Int}, r x = r y → ufold r l x = ufold r l y
  | [], _, _, _, h => h
  | e :: l, _, _, _, h => ufold_same l (ustep_same h)
theorem ufold_edge : ∀ (l : List (Int × Int)) {r : Int → Int} {e : Int × Int}, e ∈ l → ufold r l e.1 = ufold r l e.2
  | a :: l, r, e, h => by
    rcases List.mem_cons.1 h with rfl | h
    · refine ufold_same l ?_
      unfold ustep
      rw [if_pos rfl]
      split <;> rfl
    · exact ufold_edge l h
theorem cnt_one {V : List Int} (hn : V.Nodup) {p : Int → Bool} {c : Int} (hc : c ∈ V) (hp : p c = true) : V.countP p = 1 ↔ ∀ v ∈ V, p v = true → v = c := by
  have h := countP_drop hn hc hp
  constructor
  · intro h1 v hv hpv
    have h0 : V.countP (fun v => p v && decide (v ≠ c)) = 0 := by omega
    rw [List.countP_eq_zero] at h0
    have := h0 v hv
    simp [hpv] at this
    exact this
  · intro h1
    have h0 : V.countP (fun v => p v && decide (v ≠ c)) = 0 := by
      rw [List.countP_eq_zero]
      intro v hv
      by_cases e : v = c
      · simp [e]
      · cases hp : p v
        · simp
        · exact absurd (h1 v hv hp) e
    omega

def rangeE (lo hi : Int) (l : List (Int × Int)) : Prop := ∀ e ∈ l, (lo ≤ e.1 ∧ e.1 ≤ hi) ∧ lo ≤ e.2 ∧ e.2 ≤ hi
def treeP (l : List (Int × Int)) (lo hi : Int) : Prop := (l.length : Int) = hi - lo ∧ rangeE lo hi l ∧ treeR id l
theorem cntR_id {V : List Int} : cntV V id = V.length := by
  unfold cntV
  rw [List.countP_eq_length]
  exact fun v _ => decide_eq_true rfl
/-- What is reached from the lowest vertex is all, just when the edges are a tree. -/
theorem reach_tree {l : List (Int × Int)} {lo hi : Int} (hlen : (l.length : Int) = hi - lo) (hr : rangeE lo hi l) {S : List Int} (hn : S.Nodup) (h0 : lo ∈ S) (hS : ∀ v ∈ S, lo ≤ v ∧ v ≤ hi)
    (hshut : shutE (· ∈ S) l) (hmin : ∀ T : Int → Prop, T lo → shutE T l → ∀ v ∈ S, T v) : (S.length : Int) = hi - lo + 1 ↔ treeR id l := by
  have hVn := irange_nodup lo hi
  have hVl := irange_len lo hi
  have hin : inV (irange lo hi) l := fun e he => ⟨irange_mem.2 (hr e he).1, irange_mem.2 (hr e he).2⟩
  have hid : idemR id := fun _ => rfl
  have hcl : closR (irange lo hi) id := fun _ h => h
  obtain ⟨c1, c2⟩ := ufold_cnt hVn l hid hcl hin
  rw [cntR_id] at c1 c2
  have hlo : lo ∈ irange lo hi := irange_mem.2 ⟨Int.le_refl _, by omega⟩
  have hRi := ufold_idem l hid
  have hRc := ufold_clos l hin hcl
  have hcmp : ∀ v, (ufold id l v ∈ S) ↔ v ∈ S := ufold_compat (S := (· ∈ S)) l hshut fun v => Iff.rfl
  have hmem : ∀ v, v ∈ S ↔ ufold id l v = ufold id l lo := fun v => by
    constructor
    · exact fun hv => hmin (fun v => ufold id l v = ufold id l lo) rfl (fun e he => by show ufold id l e.1 = _ ↔ ufold id l e.2 = _; rw [ufold_edge l he]) v hv
    · intro h
      rw [← hcmp, h, hcmp]
      exact h0
  have hsub : S ⊆ irange lo hi := fun v hv => irange_mem.2 (hS v hv)
  have hSl := hn.length_le_of_subset hsub
  have hall : (S.length : Int) = hi - lo + 1 ↔ ∀ v ∈ irange lo hi, v ∈ S := by
    constructor
    · intro h v hv
      by_cases hvS : v ∈ S
      · exact hvS
      · exfalso
        have := (List.nodup_cons.2 ⟨hvS, hn⟩).length_le_of_subset (l₂ := irange lo hi) fun x hx => by
          rcases List.mem_cons.1 hx with rfl | hx
          · exact hv
          · exact hsub hx
        rw [List.length_cons] at this
        omega
    · intro h
      have := hVn.length_le_of_subset h
      omega
  rw [hall, ← c2]
  have hone : cntV (irange lo hi) (ufold id l) = 1 ↔ ∀ v ∈ irange lo hi, decide (ufold id l v = v) = true → v = ufold id l lo :=
    cnt_one hVn (hRc _ hlo) (decide_eq_true (hRi lo))
  constructor
  · intro h
    have := hone.2 fun v hv hp => by
      rw [← of_decide_eq_true hp]
      exact (hmem v).1 (h v hv)
    omega
  · intro h v hv
    refine (hmem v).2 ?_
    have := hone.1 (by omega) (ufold id l v) (hRc v hv) (decide_eq_true (hRi v))
    exact this

end Fer

/- Trees as lists of edges: neighbours, leaves, the code. Plain. -/
namespace Fer

def nbE (v : Int) (e : Int × Int) : List Int := (if e.1 = v then [e.2] else []) ++ (if e.2 = v then [e.1] else [])
/-- The neighbours, edge by edge. -/
def nbV (l : List (Int × Int)) (v : Int) : List Int := l.flatMap (nbE v)
def touch (v : Int) (e : Int × Int) : Bool := decide (e.1 = v) || decide (e.2 = v)
theorem nb_cons (e : Int × Int) (l : List (Int × Int)) (v : Int) : nbV (e :: l) v = nbE v e ++ nbV l v := rfl
theorem nb_snoc (l : List (Int × Int)) (e : Int × Int) (v : Int) : nbV (l ++ [e]) v = nbV l v ++ nbE v e := by
  unfold nbV
  rw [List.flatMap_append]
  simp
theorem nbE_len (v : Int) (e : Int × Int) : (nbE v e).length = (if e.1 = v then 1 else 0) + (if e.2 = v then 1 else 0) := by
  unfold nbE
  rw [List.length_append]
  split <;> split <;> rfl
theorem nbE_mem {v x : Int} {e : Int × Int} : x ∈ nbE v e ↔ (e.1 = v ∧ e.2 = x) ∨ (e.2 = v ∧ e.1 = x) := by
  unfold nbE
  rw [List.mem_append]
  constructor
  · rintro (h | h)
    · split at h
      · rename_i c; exact .inl ⟨c, (List.mem_singleton.1 h).symm⟩
      · cases h
    · split at h
      · rename_i c; exact .inr ⟨c, (List.mem_singleton.1 h).symm⟩
      · cases h
  · rintro (⟨h1, h2⟩ | ⟨h1, h2⟩)
    · left; rw [if_pos h1, h2]; exact List.mem_singleton.2 rfl
    · right; rw [if_pos h1, h2]; exact List.mem_singleton.2 rfl
theorem nb_mem {l : List (Int × Int)} {v x : Int} : x ∈ nbV l v ↔ ∃ e ∈ l, (e.1 = v ∧ e.2 = x) ∨ (e.2 = v ∧ e.1 = x) := by
  unfold nbV
  rw [List.mem_flatMap]
  constructor
  · rintro ⟨e, he, h⟩; exact ⟨e, he, nbE_mem.1 h⟩
  · rintro ⟨e, he, h⟩; exact ⟨e, he, nbE_mem.2 h⟩
theorem nb_symm {l : List (Int × Int)} {v x : Int} : x ∈ nbV l v ↔ v ∈ nbV l x := by
  rw [nb_mem, nb_mem]
  constructor
  · rintro ⟨e, he, h⟩; exact ⟨e, he, h.elim (fun h => .inr ⟨h.2, h.1⟩) fun h => .inl ⟨h.2, h.1⟩⟩
  · rintro ⟨e, he, h⟩; exact ⟨e, he, h.elim (fun h => .inr ⟨h.2, h.1⟩) fun h => .inl ⟨h.2, h.1⟩⟩

theorem sum_ind {V : List Int} (hn : V.Nodup) {c : Int} (hc : c ∈ V) : (V.map fun v => if c = v then 1 else 0).sum = 1 := by
  induction V with
  | nil => cases hc
  | cons a V ih =>
    rw [List.nodup_cons] at hn
    rw [List.map_cons, List.sum_cons]
    by_cases e : c = a
    · subst e
      rw [if_pos rfl]
      have : (V.map fun v => if c = v then 1 else 0).sum = 0 := by
        have : (V.map fun v => if c = v then 1 else 0) = V.map fun _ => 0 := List.map_congr_left fun v hv => if_neg fun (h : c = v) => hn.1 (by rw [h]; exact hv)
        rw [this]
        clear ih hc hn this
        induction V with
        | nil => rfl
        | cons b V ih => rw [List.map_cons, List.sum_cons, ih]
      omega
    · rw [if_neg e, ih hn.2 ((List.mem_cons.1 hc).resolve_left e)]
theorem sum_add {V : List Int} (f g : Int → Nat) : (V.map fun v => f v + g v).sum = (V.map f).sum + (V.map g).sum := by
  induction V with
  | nil => rfl
  | cons a V ih => rw [List.map_cons, List.sum_cons, ih, List.map_cons, List.sum_cons, List.map_cons, List.sum_cons]; omega
theorem degsum {V : List Int} (hn : V.Nodup) : ∀ {l : List (Int × Int)}, inV V l → (V.map fun v => (nbV l v).length).sum = 2 * l.length
  | [], hh => by
    show (V.map fun _ => 0).sum = 0
    clear hn hh
    induction V with
    | nil => rfl
    | cons b V ih => rw [List.map_cons, List.sum_cons, ih]
  | e :: l, h => by
    have he := h e (List.mem_cons_self ..)
    have ih := degsum hn fun x hx => h x (List.mem_cons_of_mem _ hx)
    have : (V.map fun v => (nbV (e :: l) v).length) = V.map fun v => ((if e.1 = v then 1 else 0) + (if e.2 = v then 1 else 0)) + (nbV l v).length :=
      List.map_congr_left fun v _ => by rw [nb_cons, List.length_append, nbE_len]
    rw [this, sum_add, sum_add, sum_ind hn he.1, sum_ind hn he.2, ih, List.length_cons]
    omega
theorem sum_two {V : List Int} {f : Int → Nat} (h : ∀ v ∈ V, f v ≠ 1) : 2 * (V.filter fun v => decide (f v ≠ 0)).length ≤ (V.map f).sum := by
  induction V with
  | nil => exact Nat.le_refl _
  | cons a V ih =>
    have ih := ih fun v hv => h v (List.mem_cons_of_mem _ hv)
    have ha := h a (List.mem_cons_self ..)
    rw [List.map_cons, List.sum_cons, List.filter_cons]
    split
    · rename_i c
      have := of_decide_eq_true c
      rw [List.length_cons]
      omega
    · omega
theorem leaf_ex {l : List (Int × Int)} {n : Int} (hr : rangeE 1 n l) (ht : treeR id l) (hne : l ≠ []) : ∃ v, 1 ≤ v ∧ v ≤ n ∧ (nbV l v).length = 1 := by
  refine Classical.byContradiction fun hno => ?_
  have hno' : ∀ v ∈ irange 1 n, (nbV l v).length ≠ 1 := fun v hv hc => hno ⟨v, (irange_mem.1 hv).1, (irange_mem.1 hv).2, hc⟩
  have hV0 := irange_nodup 1 n
  have hin0 : inV (irange 1 n) l := fun e he => ⟨irange_mem.2 (hr e he).1, irange_mem.2 (hr e he).2⟩
  have hsum := degsum hV0 hin0
  have htwo := sum_two hno'
  rw [hsum] at htwo
  obtain ⟨V, hV⟩ : ∃ V, V = (irange 1 n).filter fun v => decide ((nbV l v).length ≠ 0) := ⟨_, rfl⟩
  rw [← hV] at htwo
  have hVn : V.Nodup := by rw [hV]; exact hV0.sublist List.filter_sublist
  have hVm : ∀ {v x : Int}, v ∈ irange 1 n → x ∈ nbV l v → v ∈ V := fun {v x} hv hx => by
    rw [hV, List.mem_filter]
    exact ⟨hv, decide_eq_true fun h0 => by rw [List.length_eq_zero_iff.1 h0] at hx; cases hx⟩
  have hin : inV V l := fun e he => ⟨hVm (hin0 e he).1 (nb_mem.2 ⟨e, he, .inl ⟨rfl, rfl⟩⟩), hVm (hin0 e he).2 (nb_mem.2 ⟨e, he, .inr ⟨rfl, rfl⟩⟩)⟩
  have hid : idemR id := fun _ => rfl
  have hcl : closR V id := fun _ h => h
  have hc := (ufold_cnt hVn l hid hcl hin).2.2 ht
  rw [cntR_id] at hc
  obtain ⟨e, he⟩ : ∃ e, e ∈ l := by
    cases l with
    | nil => exact absurd rfl hne
    | cons e l => exact ⟨e, List.mem_cons_self ..⟩
  have h1 : 0 < cntV V (ufold id l) := List.countP_pos_iff.2 ⟨_, ufold_clos l hin hcl _ (hin e he).1, decide_eq_true (ufold_idem l hid e.1)⟩
  omega

/-! ### Fewer edges -/
def finer (r s : Int → Int) : Prop := ∀ x y, r x = r y → s x = s y
theorem ustep_finer {r s : Int → Int} (h : finer r s) (e : Int × Int) : finer (ustep r e) (ustep s e) := fun x y hxy => by
  unfold ustep at hxy ⊢
  by_cases c1 : r x = r e.1
  · have d1 := h _ _ c1
    by_cases c2 : r y = r e.1
    · have d2 := h _ _ c2
      rw [if_pos d1, if_pos d2]
    · rw [if_pos c1, if_neg c2] at hxy
      have d2 := h _ _ hxy
      rw [if_pos d1]
      split
      · rfl
      · exact d2
  · by_cases c2 : r y = r e.1
    · have d2 := h _ _ c2
      rw [if_neg c1, if_pos c2] at hxy
      have d1 := h _ _ hxy
      rw [if_pos d2]
      split
      · rfl
      · exact d1
    · rw [if_neg c1, if_neg c2] at hxy
      rw [h _ _ hxy]
theorem treeR_finer : ∀ (l : List (Int × Int)) {r s : Int → Int}, finer r s → treeR s l → treeR r l
  | [], _, _, _, _ => trivial
  | e :: l, r, s, h, ht => ⟨fun hc => ht.1 (h _ _ hc), treeR_finer l (ustep_finer h e) ht.2⟩
theorem treeR_filter (p : Int × Int → Bool) : ∀ (l : List (Int × Int)) {r : Int → Int}, treeR r l → treeR r (l.filter p)
  | [], _, _ => trivial
  | e :: l, r, h => by
    rw [List.filter_cons]
    split
    · exact ⟨h.1, treeR_filter p l h.2⟩
    · exact treeR_filter p l (treeR_finer l (fun x y hxy => ustep_same hxy) h.2)
theorem treeR_noloop : ∀ (l : List (Int × Int)) {r : Int → Int}, treeR r l → ∀ e ∈ l, e.1 ≠ e.2
  | a :: l, r, h, e, he, hc => by
    rcases List.mem_cons.1 he with rfl | he
    · exact h.1 (by rw [hc])
    · exact treeR_noloop l h.2 e he hc
theorem nb_count : ∀ {l : List (Int × Int)}, (∀ e ∈ l, e.1 ≠ e.2) → ∀ v, (nbV l v).length = l.countP (touch v)
  | [], _, _ => rfl
  | e :: l, h, v => by
    have he := h e (List.mem_cons_self ..)
    rw [nb_cons, List.length_append, nbE_len, nb_count (fun x hx => h x (List.mem_cons_of_mem _ hx)) v, List.countP_cons]
    unfold touch
    by_cases c1 : e.1 = v
    · have c2 : ¬ e.2 = v := fun c2 => he (c1.trans c2.symm)
      simp [c1, c2]
      omega
    · by_cases c2 : e.2 = v
      · simp [c1, c2]
        omega
      · simp [c1, c2]
theorem nb_without (v : Int) : ∀ (l : List (Int × Int)) (u : Int), nbV (l.filter fun e => !touch v e) u = if u = v then [] else (nbV l u).filter fun x => decide (x ≠ v)
  | [], u => by split <;> rfl
  | e :: l, u => by
    have ih := nb_without v l u
    rw [List.filter_cons, nb_cons, List.filter_append]
    by_cases ht : touch v e = true
    · rw [ht, if_neg (by decide), ih]
      by_cases hu : u = v
      · rw [if_pos hu, if_pos hu]
      · rw [if_neg hu, if_neg hu]
        have : (nbE u e).filter (fun x => decide (x ≠ v)) = [] := by
          rw [List.filter_eq_nil_iff]
          intro x hx hc
          have hc := of_decide_eq_true hc
          unfold touch at ht
          simp only [Bool.or_eq_true, decide_eq_true_eq] at ht
          rcases nbE_mem.1 hx with ⟨a, b⟩ | ⟨a, b⟩
          · rcases ht with t | t
            · exact hu (a.symm.trans t)
            · exact hc (b.symm.trans t)
          · rcases ht with t | t
            · exact hc (b.symm.trans t)
            · exact hu (a.symm.trans t)
        rw [this, List.nil_append]
    · have ht' : touch v e = false := by simpa using ht
      rw [ht', if_pos (by decide), nb_cons, ih]
      unfold touch at ht'
      simp only [Bool.or_eq_false_iff, decide_eq_false_iff_not] at ht'
      by_cases hu : u = v
      · rw [if_pos hu, if_pos hu, hu]
        unfold nbE
        rw [if_neg ht'.1, if_neg ht'.2]
        rfl
      · rw [if_neg hu, if_neg hu]
        congr 1
        rw [eq_comm, List.filter_eq_self]
        intro x hx
        refine decide_eq_true fun hc => ?_
        rcases nbE_mem.1 hx with ⟨a, b⟩ | ⟨a, b⟩
        · exact ht'.2 (b.trans hc)
        · exact ht'.1 (b.trans hc)

/-! ### The code -/
def leafV (l : List (Int × Int)) (n : Int) : Int := ((irange 1 n).find? fun v => decide ((nbV l v).length = 1)).getD 0
def cutW (l : List (Int × Int)) (v : Int) : List (Int × Int) := l.filter fun e => !touch v e
def codeW (n : Int) : Nat → List (Int × Int) → List Int
  | 0, _ => []
  | k + 1, l => (nbV l (leafV l n)).getD 0 0 :: codeW n k (cutW l (leafV l n))
theorem find_least {n v : Int} {p : Int → Bool} (h1 : 1 ≤ v) (h2 : v ≤ n) (hp : p v = true) (hl : ∀ u, 1 ≤ u → u < v → p u = false) : ((irange 1 n).find? p).getD 0 = v := by
  have : (irange 1 n).find? p = some v := by
    rw [List.find?_eq_some_iff_append]
    refine ⟨hp, irange 1 (v - 1), irange (v + 1) n, ?_, fun a ha => by have := irange_mem.1 ha; rw [hl a this.1 (by omega)]; rfl⟩
    unfold irange
    rw [show (n - 1 + 1).toNat = ((v - 1 - 1 + 1).toNat + 1) + (n - (v + 1) + 1).toNat by omega, List.range_add, List.range_add, List.map_append, List.map_append, List.append_assoc]
    congr 1
    rw [List.map_map, List.map_map]
    simp only [List.range_one, List.map_cons, List.map_nil, List.singleton_append, Function.comp]
    congr 1
    · omega
    · exact List.map_congr_left fun i _ => by simp only [Function.comp]; omega
  rw [this]
  rfl
theorem leafV_of {l : List (Int × Int)} {n v : Int} (h1 : 1 ≤ v) (h2 : v ≤ n) (hp : (nbV l v).length = 1) (hl : ∀ u, 1 ≤ u → u < v → (nbV l u).length ≠ 1) : leafV l n = v :=
  find_least h1 h2 (decide_eq_true hp) fun u a b => decide_eq_false (hl u a b)
theorem leafV_spec {l : List (Int × Int)} {n : Int} (hr : rangeE 1 n l) (ht : treeR id l) (hne : l ≠ []) : 1 ≤ leafV l n ∧ leafV l n ≤ n ∧ (nbV l (leafV l n)).length = 1 ∧ ∀ u, 1 ≤ u → u < leafV l n → (nbV l u).length ≠ 1 := by
  obtain ⟨v, h1, h2, h3⟩ := leaf_ex hr ht hne
  obtain ⟨m, hm⟩ : ∃ m : Nat, v = 1 + (m : Int) := ⟨(v - 1).toNat, by omega⟩
  induction m using Nat.strongRecOn generalizing v with
  | _ m ih =>
    by_cases h : ∀ u, 1 ≤ u → u < v → (nbV l u).length ≠ 1
    · rw [leafV_of h1 h2 h3 h]
      exact ⟨h1, h2, h3, h⟩
    · obtain ⟨u, a1, a2, a3⟩ : ∃ u, 1 ≤ u ∧ u < v ∧ (nbV l u).length = 1 := by
        refine Classical.byContradiction fun hc => h fun u a1 a2 a3 => hc ⟨u, a1, a2, a3⟩
      exact ih (u - 1).toNat (by omega) u a1 (by omega) a3 (by omega)
theorem cutW_len {l : List (Int × Int)} (hloop : ∀ e ∈ l, e.1 ≠ e.2) {v : Int} (h : (nbV l v).length = 1) : (cutW l v).length + 1 = l.length := by
  rw [nb_count hloop] at h
  have h2 := List.length_eq_countP_add_countP (touch v) (l := l)
  unfold cutW
  rw [← List.countP_eq_length_filter]
  have : l.countP (fun e => !touch v e) = l.countP fun e => decide ¬ (touch v e = true) := List.countP_congr fun e _ => by cases touch v e <;> simp
  rw [this]
  omega
theorem cutW_range {lo hi : Int} {l : List (Int × Int)} (h : rangeE lo hi l) (v : Int) : rangeE lo hi (cutW l v) := fun e he => h e (List.mem_filter.1 he).1
theorem cutW_tree {l : List (Int × Int)} (h : treeR id l) (v : Int) : treeR id (cutW l v) := treeR_filter _ l h

end Fer

/- Trees from codes; edges in order; parking; queues. Plain. -/
namespace Fer

/-! ### The tree of a code -/
def lst (n : Int) (rest taken : List Int) : Int := ((irange 1 n).find? fun v => decide (v ∉ rest ∧ v ∉ taken)).getD 0
theorem lst_of {n v : Int} {rest taken : List Int} (h1 : 1 ≤ v) (h2 : v ≤ n) (ha : v ∉ rest) (hb : v ∉ taken) (hl : ∀ u, 1 ≤ u → u < v → u ∈ rest ∨ u ∈ taken) : lst n rest taken = v :=
  find_least h1 h2 (decide_eq_true ⟨ha, hb⟩) fun u a b => decide_eq_false fun h => (hl u a b).elim h.1 h.2
theorem lst_spec {n : Int} {rest taken : List Int} (h : (rest.length : Int) + taken.length < n) : 1 ≤ lst n rest taken ∧ lst n rest taken ≤ n ∧ lst n rest taken ∉ rest ∧ lst n rest taken ∉ taken ∧ ∀ u, 1 ≤ u → u < lst n rest taken → u ∈ rest ∨ u ∈ taken := by
  have hex : ∃ v, 1 ≤ v ∧ v ≤ n ∧ v ∉ rest ∧ v ∉ taken := by
    refine Classical.byContradiction fun hno => ?_
    have := (irange_nodup 1 n).length_le_of_subset (l₂ := rest ++ taken) fun v hv => by
      rw [List.mem_append]
      refine Classical.byContradiction fun hc => hno ⟨v, (irange_mem.1 hv).1, (irange_mem.1 hv).2, fun h => hc (.inl h), fun h => hc (.inr h)⟩
    rw [irange_len, List.length_append] at this
    omega
  obtain ⟨v, h1, h2, h3, h4⟩ := hex
  obtain ⟨m, hm⟩ : ∃ m : Nat, v = 1 + (m : Int) := ⟨(v - 1).toNat, by omega⟩
  induction m using Nat.strongRecOn generalizing v with
  | _ m ih =>
    by_cases h : ∀ u, 1 ≤ u → u < v → u ∈ rest ∨ u ∈ taken
    · rw [lst_of h1 h2 h3 h4 h]
      exact ⟨h1, h2, h3, h4, h⟩
    · obtain ⟨u, a1, a2, a3, a4⟩ : ∃ u, 1 ≤ u ∧ u < v ∧ u ∉ rest ∧ u ∉ taken := by
        refine Classical.byContradiction fun hc => h fun u a1 a2 => Classical.byContradiction fun hq => hc ⟨u, a1, a2, fun x => hq (.inl x), fun x => hq (.inr x)⟩
      exact ih (u - 1).toNat (by omega) u a1 (by omega) a3 a4 (by omega)
/-- What was taken when so many are done. -/
def takW (n : Int) (c : List Int) : Nat → List Int
  | 0 => []
  | k + 1 => takW n c k ++ [lst n (c.drop k) (takW n c k)]
theorem takW_len (n : Int) (c : List Int) : ∀ k, (takW n c k).length = k
  | 0 => rfl
  | k + 1 => by rw [takW, List.length_append, takW_len n c k]; rfl
def decL (n : Int) (c : List Int) (k : Nat) : List (Int × Int) := (List.range k).map fun i => (lst n (c.drop i) (takW n c i), c.getD i 0)
theorem decL_succ (n : Int) (c : List Int) (k : Nat) : decL n c (k + 1) = decL n c k ++ [(lst n (c.drop k) (takW n c k), c.getD k 0)] := by
  unfold decL
  rw [List.range_succ, List.map_append]
  rfl
theorem takW_in {n : Int} {c : List Int} (h : n = (c.length : Int) + 2) : ∀ k, k ≤ c.length + 2 → ∀ v ∈ takW n c k, 1 ≤ v ∧ v ≤ n ∧ v ∉ c.drop k
  | 0, _, v, hv => by cases hv
  | k + 1, hk, v, hv => by
    rw [takW, List.mem_append] at hv
    rcases hv with hv | hv
    · obtain ⟨a, b, d⟩ := takW_in h k (by omega) v hv
      refine ⟨a, b, fun hc => d ?_⟩
      rw [← List.drop_drop] at hc
      exact List.mem_of_mem_drop hc
    · have hs := lst_spec (n := n) (rest := c.drop k) (taken := takW n c k) (by rw [List.length_drop, takW_len]; omega)
      rw [List.mem_singleton] at hv
      subst hv
      refine ⟨hs.1, hs.2.1, fun hc => hs.2.2.1 ?_⟩
      rw [← List.drop_drop] at hc
      exact List.mem_of_mem_drop hc

/-! ### Edges in order -/
def nrm (p : Int × Int) : Int × Int := (min p.1 p.2, max p.1 p.2)
def plt (a b : Int × Int) : Bool := decide (a.1 < b.1) || (decide (a.1 = b.1) && decide (a.2 < b.2))
def ple (a b : Int × Int) : Prop := plt b a = false
theorem plt_iff {a b : Int × Int} : plt a b = true ↔ a.1 < b.1 ∨ (a.1 = b.1 ∧ a.2 < b.2) := by
  unfold plt
  simp only [Bool.or_eq_true, Bool.and_eq_true, decide_eq_true_eq]
theorem ple_iff {a b : Int × Int} : ple a b ↔ ¬ (b.1 < a.1 ∨ (b.1 = a.1 ∧ b.2 < a.2)) := by
  unfold ple
  rw [← plt_iff]
  simp
theorem ple_antisymm {a b : Int × Int} (h1 : ple a b) (h2 : ple b a) : a = b := by
  rw [ple_iff] at h1 h2
  exact Prod.ext (by omega) (by omega)
theorem ple_trans {a b c : Int × Int} (h1 : ple a b) (h2 : ple b c) : ple a c := by
  rw [ple_iff] at *
  omega
def insP (out : List (Int × Int)) (p : Int × Int) : List (Int × Int) := out.takeWhile (plt · p) ++ p :: out.dropWhile (plt · p)
def edgedL (l : List (Int × Int)) : List (Int × Int) := l.foldl (fun o p => insP o (nrm p)) []
theorem insP_perm (out : List (Int × Int)) (p : Int × Int) : (insP out p).Perm (p :: out) := by
  unfold insP
  refine List.perm_middle.trans ?_
  rw [List.takeWhile_append_dropWhile]
theorem insP_sorted {out : List (Int × Int)} (h : out.Pairwise ple) (p : Int × Int) : (insP out p).Pairwise ple := by
  unfold insP
  induction out with
  | nil => simp
  | cons a out ih =>
    rw [List.pairwise_cons] at h
    rw [List.takeWhile_cons, List.dropWhile_cons]
    by_cases c : plt a p = true
    · rw [if_pos c, if_pos c, List.cons_append, List.pairwise_cons]
      refine ⟨fun b hb => ?_, ih h.2⟩
      rcases List.mem_cons.1 ((insP_perm out p).mem_iff.1 hb) with rfl | hb
      · rw [ple_iff]; rw [plt_iff] at c; omega
      · exact h.1 b hb
    · rw [if_neg c, if_neg c, List.nil_append, List.pairwise_cons, List.pairwise_cons]
      have hpa : ple p a := by
        unfold ple
        simpa using c
      refine ⟨fun b hb => ?_, h⟩
      rcases List.mem_cons.1 hb with rfl | hb
      · exact hpa
      · exact ple_trans hpa (h.1 b hb)
theorem edged_fold : ∀ (l : List (Int × Int)) (o : List (Int × Int)), o.Pairwise ple → (l.foldl (fun o p => insP o (nrm p)) o).Pairwise ple ∧ (l.foldl (fun o p => insP o (nrm p)) o).Perm (l.map nrm ++ o)
  | [], o, h => ⟨h, List.Perm.refl _⟩
  | p :: l, o, h => by
    obtain ⟨a, b⟩ := edged_fold l (insP o (nrm p)) (insP_sorted h _)
    refine ⟨a, b.trans ?_⟩
    rw [List.map_cons, List.cons_append]
    exact ((insP_perm o (nrm p)).append_left _).trans List.perm_middle
theorem edged_take {l : List (Int × Int)} {k : Nat} (h : k < l.length) : edgedL (l.take (k + 1)) = insP (edgedL (l.take k)) (nrm (l.getD k (0, 0))) := by
  unfold edgedL
  rw [List.take_succ_eq_append_getElem h, List.foldl_append, List.getD_eq_getElem?_getD, List.getElem?_eq_getElem h]
  rfl
theorem edged_len (l : List (Int × Int)) : (edgedL l).length = l.length := by
  have := (edged_fold l [] List.Pairwise.nil).2.length_eq
  rw [List.append_nil, List.length_map] at this
  exact this

/-! ### Parking -/
/-- The first free place from x on. -/
def freeP (out : List Int) (x : Int) : Int := x + (((List.range (out.length + 1)).find? fun k : Nat => decide (x + (k : Int) ∉ out)).getD 0 : Nat)
theorem freeP_of {out : List Int} {x m : Int} (h1 : x ≤ m) (h2 : m ∉ out) (h3 : ∀ u, x ≤ u → u < m → u ∈ out) : freeP out x = m := by
  have hlen : (irange x (m - 1)).length ≤ out.length := (irange_nodup x (m - 1)).length_le_of_subset fun v hv => by
    have := irange_mem.1 hv
    exact h3 v this.1 (by omega)
  rw [irange_len] at hlen
  have : (List.range (out.length + 1)).find? (fun k : Nat => decide (x + (k : Int) ∉ out)) = some (m - x).toNat := by
    rw [List.find?_eq_some_iff_append]
    refine ⟨decide_eq_true (by rw [show x + ((m - x).toNat : Int) = m by omega]; exact h2), List.range (m - x).toNat, (List.range (out.length - (m - x).toNat)).map fun i => (m - x).toNat + 1 + i, ?_, fun a ha => ?_⟩
    · rw [show out.length + 1 = ((m - x).toNat + 1) + (out.length - (m - x).toNat) by omega, List.range_add, List.range_succ, List.append_assoc]
      rfl
    · have := List.mem_range.1 ha
      simp only [Bool.not_eq_true', decide_eq_false_iff_not, Decidable.not_not]
      exact h3 _ (by omega) (by omega)
  unfold freeP
  rw [this]
  show x + ((m - x).toNat : Int) = m
  omega
def parkS (N : Int) : List Int → List Int → Option (List Int)
  | [], out => some out
  | x :: r, out => if freeP out x ≤ N then parkS N r (out ++ [freeP out x]) else none
theorem freeP_ex (out : List Int) (x : Int) : ∃ m, x ≤ m ∧ m ∉ out ∧ ∀ u, x ≤ u → u < m → u ∈ out := by
  have hex : ∃ v, x ≤ v ∧ v ∉ out := by
    refine Classical.byContradiction fun hno => ?_
    have := (irange_nodup x (x + out.length)).length_le_of_subset (l₂ := out) fun v hv => by
      have := irange_mem.1 hv
      exact Classical.byContradiction fun hc => hno ⟨v, this.1, hc⟩
    rw [irange_len] at this
    omega
  obtain ⟨v, h1, h2⟩ := hex
  obtain ⟨m, hm⟩ : ∃ m : Nat, v = x + (m : Int) := ⟨(v - x).toNat, by omega⟩
  induction m using Nat.strongRecOn generalizing v with
  | _ m ih =>
    by_cases h : ∀ u, x ≤ u → u < v → u ∈ out
    · exact ⟨v, h1, h2, h⟩
    · obtain ⟨u, a1, a2, a3⟩ : ∃ u, x ≤ u ∧ u < v ∧ u ∉ out := by
        refine Classical.byContradiction fun hc => h fun u a1 a2 => Classical.byContradiction fun hq => hc ⟨u, a1, a2, hq⟩
      exact ih (u - x).toNat (by omega) u a1 a3 (by omega)
theorem freeP_spec (out : List Int) (x : Int) : x ≤ freeP out x ∧ freeP out x ∉ out ∧ ∀ u, x ≤ u → u < freeP out x → u ∈ out := by
  obtain ⟨m, h1, h2, h3⟩ := freeP_ex out x
  rw [freeP_of h1 h2 h3]
  exact ⟨h1, h2, h3⟩
theorem parkS_ok {N : Int} : ∀ {l out r : List Int}, parkS N l out = some r → out.Nodup → (∀ x ∈ out, 1 ≤ x ∧ x ≤ N) → (∀ x ∈ l, 1 ≤ x) →
    r.Nodup ∧ (∀ x ∈ r, 1 ≤ x ∧ x ≤ N) ∧ r.length = out.length + l.length ∧ ∀ k : Int, r.countP (fun x => decide (x ≤ k)) ≤ out.countP (fun x => decide (x ≤ k)) + l.countP fun x => decide (x ≤ k)
  | [], out, r, h, hn, ho, _ => by
    obtain rfl : out = r := Option.some.inj h
    exact ⟨hn, ho, rfl, fun k => Nat.le_add_right _ _⟩
  | x :: l, out, r, h, hn, ho, hl => by
    obtain ⟨f1, f2, f3⟩ := freeP_spec out x
    unfold parkS at h
    split at h
    · rename_i c
      have hx := hl x (List.mem_cons_self ..)
      obtain ⟨a, b, d, e⟩ := parkS_ok h (List.nodup_append.2 ⟨hn, by simp, fun a ha b hb => by rw [List.mem_singleton] at hb; subst hb; exact fun hc => f2 (hc ▸ ha)⟩)
        (fun y hy => by
          rcases List.mem_append.1 hy with hy | hy
          · exact ho y hy
          · rw [List.mem_singleton] at hy; subst hy; exact ⟨by omega, c⟩) fun y hy => hl y (List.mem_cons_of_mem _ hy)
      refine ⟨a, b, by rw [d, List.length_append, List.length_cons, List.length_cons, List.length_nil]; omega, fun k => ?_⟩
      have := e k
      rw [List.countP_append, List.countP_singleton] at this
      rw [List.countP_cons]
      by_cases c1 : freeP out x ≤ k
      · have c2 : x ≤ k := by omega
        simp only [c1, c2, decide_true, if_true] at this ⊢
        omega
      · simp only [c1, decide_false] at this
        have : ∀ P : Prop, [Decidable P] → (if P then 1 else 0) ≥ 0 := fun _ _ => Nat.zero_le _
        simp at *
        omega
    · cases h

/-! ### The queue of a parking -/
def carsP (l : List Int) (at_ : Int) (m : Nat) : List Int := ((List.range m).filter fun i => decide (l.getD i 0 = at_)).map fun i : Nat => (i : Int) + 1
theorem carsP_succ (l : List Int) (a : Int) (m : Nat) : carsP l a (m + 1) = carsP l a m ++ if l.getD m 0 = a then [(m : Int) + 1] else [] := by
  unfold carsP
  rw [List.range_succ, List.filter_append, List.map_append]
  congr 1
  rw [List.filter_cons]
  split
  · rename_i c; rw [if_pos (of_decide_eq_true c)]; rfl
  · rename_i c; rw [if_neg (fun h => c (decide_eq_true h))]; rfl
def grQ (l : List Int) : Nat → List Int
  | 0 => [0]
  | k + 1 => grQ l k ++ carsP l ((k : Int) + 1) l.length
def grO (l : List Int) : Nat → List (Int × Int)
  | 0 => []
  | k + 1 => grO l k ++ (carsP l ((k : Int) + 1) l.length).map fun c => ((grQ l k).getD k 0, c)
theorem carsP_len (l : List Int) (a : Int) : ∀ m, m ≤ l.length → (carsP l a m).length = (l.take m).countP fun x => decide (x = a)
  | 0, _ => by simp [carsP]
  | m + 1, h => by
    rw [carsP_succ, List.length_append, carsP_len l a m (by omega), List.take_succ_eq_append_getElem (show m < l.length by omega), List.countP_append, List.countP_singleton, List.getD_eq_getElem?_getD, List.getElem?_eq_getElem (show m < l.length by omega)]
    simp only [Option.getD_some, decide_eq_true_eq]
    congr 1
    split <;> rfl
theorem grQ_len {l : List Int} (h : ∀ x ∈ l, 1 ≤ x) : ∀ k : Nat, (grQ l k).length = 1 + l.countP fun x => decide (x ≤ (k : Int))
  | 0 => by
    have : l.countP (fun x => decide (x ≤ ((0 : Nat) : Int))) = 0 := List.countP_eq_zero.2 fun x hx => by have := h x hx; simp; omega
    rw [this]
    rfl
  | k + 1 => by
    rw [grQ, List.length_append, grQ_len h k, carsP_len l _ l.length (Nat.le_refl _), List.take_length, Nat.add_assoc]
    congr 1
    clear h
    induction l with
    | nil => rfl
    | cons x l ih =>
      rw [List.countP_cons, List.countP_cons, List.countP_cons, ← ih]
      have e : (if decide (x ≤ ((k + 1 : Nat) : Int)) = true then 1 else 0 : Nat) = (if decide (x ≤ (k : Int)) = true then 1 else 0) + if decide (x = (k : Int) + 1) = true then 1 else 0 := by
        simp only [decide_eq_true_eq]
        by_cases c1 : x ≤ (k : Int)
        · rw [if_pos c1, if_pos (by omega), if_neg (by omega)]
        · by_cases c2 : x = (k : Int) + 1
          · rw [if_neg c1, if_pos c2, if_pos (by omega)]
          · rw [if_neg c1, if_neg c2, if_neg (by omega)]
      rw [e]
      omega
theorem park_queue {l r : List Int} (h : parkS l.length l [] = some r) (hl : ∀ x ∈ l, 1 ≤ x) {k : Nat} (hk : k ≤ l.length) : k < (grQ l k).length := by
  obtain ⟨a, b, d, e⟩ := parkS_ok h List.nodup_nil (fun x hx => by cases hx) hl
  rw [grQ_len hl]
  have e := e k
  rw [List.countP_nil, Nat.zero_add] at e
  have hall : ∀ v, 1 ≤ v → v ≤ (l.length : Int) → v ∈ r := fun v h1 h2 => by
    refine Classical.byContradiction fun hc => ?_
    have := (List.nodup_cons.2 ⟨hc, a⟩).length_le_of_subset (l₂ := irange 1 l.length) fun x hx => by
      rcases List.mem_cons.1 hx with rfl | hx
      · exact irange_mem.2 ⟨h1, h2⟩
      · exact irange_mem.2 (b x hx)
    rw [irange_len, List.length_cons, d, List.length_nil] at this
    omega
  have h3 := (irange_nodup 1 (k : Int)).length_le_of_subset (l₂ := r.filter fun x => decide (x ≤ (k : Int))) fun v hv => by
    have := irange_mem.1 hv
    rw [List.mem_filter]
    exact ⟨hall v this.1 (by omega), decide_eq_true this.2⟩
  rw [irange_len, ← List.countP_eq_length_filter] at h3
  omega

end Fer

/- Union-find in an array; what breadth-first looking finds. Plain. -/
namespace Fer

def nxR (rt : List Int) (v : Int) : Int := rt.getD v.toNat 0
def itR (rt : List Int) : Nat → Int → Int
  | 0, v => v
  | n + 1, v => itR rt n (nxR rt v)
theorem itR_succ (rt : List Int) : ∀ (n : Nat) (v : Int), itR rt (n + 1) v = nxR rt (itR rt n v)
  | 0, _ => rfl
  | n + 1, v => itR_succ rt n (nxR rt v)
theorem itR_fix {rt : List Int} {v : Int} (h : nxR rt v = v) : ∀ n, itR rt n v = v
  | 0 => rfl
  | n + 1 => by rw [itR, h]; exact itR_fix h n
theorem itR_add (rt : List Int) (v : Int) : ∀ m n, itR rt (m + n) v = itR rt n (itR rt m v)
  | m, 0 => rfl
  | m, n + 1 => by rw [← Nat.add_assoc, itR_succ, itR_succ, itR_add rt v m n]
theorem itR_stop {rt : List Int} {v : Int} {m n : Nat} (hmn : m ≤ n) (h : nxR rt (itR rt m v) = itR rt m v) : itR rt n v = itR rt m v := by
  obtain ⟨d, rfl⟩ := Nat.le.dest hmn
  rw [itR_add, itR_fix h]
def okR (rt : List Int) : Prop := ∀ x ∈ rt, 0 ≤ x ∧ x < rt.length
theorem okR_nx {rt : List Int} (h : okR rt) {v : Int} (h0 : 0 ≤ v) (h1 : v < rt.length) : 0 ≤ nxR rt v ∧ nxR rt v < rt.length := by
  refine h _ ?_
  unfold nxR
  rw [List.getD_eq_getElem?_getD, List.getElem?_eq_getElem (by omega)]
  exact List.getElem_mem _
theorem okR_it {rt : List Int} (h : okR rt) : ∀ (n : Nat) {v : Int}, 0 ≤ v → v < rt.length → 0 ≤ itR rt n v ∧ itR rt n v < rt.length
  | 0, v, h0, h1 => ⟨h0, h1⟩
  | n + 1, v, h0, h1 => by
    obtain ⟨a, b⟩ := okR_nx h h0 h1
    exact okR_it h n a b
/-- The array shows the classes r, at most n steps deep. -/
def ufR (rt : List Int) (r : Int → Int) (n : Nat) : Prop := okR rt ∧ ∀ v : Int, 0 ≤ v → v < rt.length → itR rt n v = r v ∧ nxR rt (r v) = r v
theorem ufR_start (h : Nat) : ufR ((List.range (h + 1)).map fun k : Nat => (k : Int)) id 0 := by
  refine ⟨fun x hx => ?_, fun v h0 h1 => ⟨rfl, ?_⟩⟩
  · obtain ⟨k, hk, rfl⟩ := List.mem_map.1 hx
    have := List.mem_range.1 hk
    simp
    omega
  · unfold nxR
    simp only [List.length_map, List.length_range] at h1
    rw [List.getD_eq_getElem?_getD, List.getElem?_map, List.getElem?_range (by simp only [id]; omega)]
    simp only [Option.map_some, Option.getD_some, id]
    omega
theorem ufR_range {rt : List Int} {r : Int → Int} {n : Nat} (h : ufR rt r n) {v : Int} (h0 : 0 ≤ v) (h1 : v < rt.length) : 0 ≤ r v ∧ r v < rt.length := by
  rw [← (h.2 v h0 h1).1]
  exact okR_it h.1 n h0 h1
theorem ufR_step {rt : List Int} {r : Int → Int} {n : Nat} (h : ufR rt r n) {e : Int × Int} (ha : 0 ≤ e.1 ∧ e.1 < rt.length) (hb : 0 ≤ e.2 ∧ e.2 < rt.length) (hne : r e.1 ≠ r e.2) : ufR (rt.set (r e.1).toNat (r e.2)) (ustep r e) (n + 1) := by
  obtain ⟨ra0, ra1⟩ := ufR_range h ha.1 ha.2
  obtain ⟨rb0, rb1⟩ := ufR_range h hb.1 hb.2
  have hroot : ∀ v : Int, 0 ≤ v → v < rt.length → nxR rt v = v → r v = v := fun v h0 h1 hf => by
    rw [← (h.2 v h0 h1).1, itR_fix hf]
  have hraf : r (r e.1) = r e.1 := hroot _ ra0 ra1 (h.2 _ ha.1 ha.2).2
  have hrbf : r (r e.2) = r e.2 := hroot _ rb0 rb1 (h.2 _ hb.1 hb.2).2
  have hnx : ∀ v : Int, 0 ≤ v → v < rt.length → nxR (rt.set (r e.1).toNat (r e.2)) v = if v = r e.1 then r e.2 else nxR rt v := fun v h0 h1 => by
    unfold nxR
    rw [List.getD_eq_getElem?_getD, List.getElem?_set]
    by_cases c : v = r e.1
    · rw [if_pos c, c, if_pos rfl, if_pos (by omega)]
      rfl
    · rw [if_neg c, if_neg (by omega), List.getD_eq_getElem?_getD]
  have hw : ∀ v : Int, 0 ≤ v → v < rt.length → r (nxR rt v) = r v := fun v h0 h1 => by
    obtain ⟨a, b⟩ := okR_nx h.1 h0 h1
    have e1 := (h.2 _ a b).1
    have e2 := itR_succ rt n v
    rw [(h.2 _ h0 h1).1, (h.2 _ h0 h1).2] at e2
    rw [← e1]
    exact e2
  have key : ∀ (m : Nat) (v : Int), 0 ≤ v → v < rt.length → itR rt m v = r v → itR (rt.set (r e.1).toNat (r e.2)) (m + 1) v = ustep r e v := by
    intro m
    induction m with
    | zero =>
      intro v h0 h1 hm
      have hm : v = r v := hm
      show nxR _ v = _
      rw [hnx v h0 h1]
      unfold ustep
      by_cases c : v = r e.1
      · rw [if_pos c, if_pos (by rw [c]; exact hraf)]
      · rw [if_neg c, if_neg (by rw [← hm]; exact c)]
        have := (h.2 v h0 h1).2
        rw [← hm] at this ⊢
        exact this
    | succ m ih =>
      intro v h0 h1 hm
      rw [itR, hnx v h0 h1]
      by_cases c : v = r e.1
      · rw [if_pos c, itR_fix (by rw [hnx _ rb0 rb1, if_neg (fun h => hne h.symm)]; exact (h.2 _ hb.1 hb.2).2)]
        unfold ustep
        rw [if_pos (by rw [c]; exact hraf)]
      · rw [if_neg c]
        obtain ⟨a, b⟩ := okR_nx h.1 h0 h1
        have hh := ih (nxR rt v) a b (by rw [hw v h0 h1]; exact hm)
        rw [hh]
        unfold ustep
        rw [hw v h0 h1]
  refine ⟨fun x hx => ?_, fun v h0 h1 => ?_⟩
  · rw [List.length_set]
    rcases List.mem_or_eq_of_mem_set hx with hx | rfl
    · exact h.1 x hx
    · exact ⟨rb0, rb1⟩
  · rw [List.length_set] at h1
    refine ⟨key n v h0 h1 (h.2 v h0 h1).1, ?_⟩
    have hu : 0 ≤ ustep r e v ∧ ustep r e v < rt.length := by
      unfold ustep
      split
      · exact ⟨rb0, rb1⟩
      · exact ufR_range h h0 h1
    rw [hnx _ hu.1 hu.2]
    unfold ustep
    by_cases c : r v = r e.1
    · rw [if_pos c, if_neg (fun h => hne h.symm)]
      exact (h.2 _ hb.1 hb.2).2
    · rw [if_neg c, if_neg c]
      exact (h.2 _ h0 h1).2
theorem ufold_snoc (r : Int → Int) (l : List (Int × Int)) (e : Int × Int) : ufold r (l ++ [e]) = ustep (ufold r l) e := by
  unfold ufold
  rw [List.foldl_append]
  rfl
theorem treeR_split : ∀ (l : List (Int × Int)) {m : List (Int × Int)} {r : Int → Int}, treeR r (l ++ m) ↔ treeR r l ∧ treeR (ufold r l) m
  | [], _, _ => by simp [treeR, ufold]
  | e :: l, m, r => by
    rw [List.cons_append, treeR, treeR, treeR_split l, and_assoc]
    rfl

/-! ### Breadth first: an order of looking that is the same for both -/
def near (l : List (Int × Int)) (v w : Int) : Bool := decide ((v, w) ∈ l) || decide ((w, v) ∈ l)
/-- One vertex is looked at: w, from the at-th of the queue. -/
def ugStep (l : List (Int × Int)) (at_ : Nat) (s : List Int × List Int) (w : Nat) : List Int × List Int :=
  if near l (s.1.getD at_ 0) ((w : Int) + 1) = true ∧ ((w : Int) + 1) ∉ s.1 then (s.1 ++ [(w : Int) + 1], s.2.set w ((at_ : Int) + 1)) else s
def ugRound (l : List (Int × Int)) (at_ : Nat) (s : List Int × List Int) (m : Nat) : List Int × List Int := (List.range m).foldl (ugStep l at_) s
theorem ugRound_succ (l : List (Int × Int)) (at_ : Nat) (s : List Int × List Int) (m : Nat) : ugRound l at_ s (m + 1) = ugStep l at_ (ugRound l at_ s m) m := by
  unfold ugRound
  rw [List.range_succ, List.foldl_append]
  rfl
/-- So many of the queue have been looked from. -/
def ugQ (l : List (Int × Int)) : Nat → List Int × List Int
  | 0 => ([0], List.replicate l.length 0)
  | k + 1 => if k < (ugQ l k).1.length then ugRound l k (ugQ l k) l.length else ugQ l k
theorem ugQ_go {l : List (Int × Int)} {k : Nat} (h : k < (ugQ l k).1.length) : ugQ l (k + 1) = ugRound l k (ugQ l k) l.length := if_pos h
theorem ugQ_stop {l : List (Int × Int)} {k : Nat} (h : ¬ k < (ugQ l k).1.length) : ∀ d, ugQ l (k + d) = ugQ l k
  | 0 => rfl
  | d + 1 => by
    have ih := ugQ_stop h d
    show (if k + d < (ugQ l (k + d)).1.length then _ else _) = _
    rw [ih, if_neg (by omega)]
    exact ih
/-- What holds all the way. -/
def ugOk (n : Nat) (s : List Int × List Int) : Prop := s.1.Nodup ∧ (∀ x ∈ s.1, 0 ≤ x ∧ x ≤ (n : Int)) ∧ s.2.length = n ∧ ∀ w : Nat, w < n → (s.2.getD w 0 = 0 ↔ ((w : Int) + 1) ∉ s.1)
theorem ugOk_step {l : List (Int × Int)} {n : Nat} (at_ : Nat) {s : List Int × List Int} (h : ugOk n s) {w : Nat} (hw : w < n) : ugOk n (ugStep l at_ s w) := by
  unfold ugStep
  split
  · rename_i c
    obtain ⟨h1, h2, h3, h4⟩ := h
    refine ⟨?_, ?_, ?_, ?_⟩
    · refine List.nodup_append.2 ⟨h1, by simp, fun a ha b hb => ?_⟩
      rw [List.mem_singleton] at hb
      subst hb
      exact fun e => c.2 (e ▸ ha)
    · intro x hx
      rcases List.mem_append.1 hx with hx | hx
      · exact h2 x hx
      · rw [List.mem_singleton] at hx
        omega
    · rw [List.length_set]; exact h3
    · intro u hu
      rw [List.getD_eq_getElem?_getD, List.getElem?_set, List.mem_append, List.mem_singleton]
      by_cases e : w = u
      · subst e
        rw [if_pos rfl, if_pos (by omega)]
        constructor
        · intro hc
          simp at hc
          omega
        · exact fun hc => absurd (.inr rfl) hc
      · rw [if_neg e, ← List.getD_eq_getElem?_getD, h4 u hu]
        constructor
        · exact fun hc hd => hd.elim hc fun he => e (by omega)
        · exact fun hc hd => hc (.inl hd)
  · exact h
theorem ugOk_start (n : Nat) : ugOk n ([0], List.replicate n 0) := by
  refine ⟨by simp, fun x hx => ?_, List.length_replicate, fun w hw => ?_⟩
  · rw [List.mem_singleton] at hx
    omega
  · rw [List.getD_eq_getElem?_getD, List.getElem?_replicate, if_pos hw]
    constructor
    · intro _ hc
      rw [List.mem_singleton] at hc
      omega
    · exact fun _ => rfl
theorem ugOk_round {l : List (Int × Int)} {n : Nat} (at_ : Nat) {s : List Int × List Int} (h : ugOk n s) : ∀ m, m ≤ n → ugOk n (ugRound l at_ s m)
  | 0, _ => h
  | m + 1, hm => by
    rw [ugRound_succ]
    exact ugOk_step at_ (ugOk_round at_ h m (by omega)) (by omega)
theorem ugOk_Q (l : List (Int × Int)) : ∀ k, ugOk l.length (ugQ l k)
  | 0 => ugOk_start _
  | k + 1 => by
    by_cases h : k < (ugQ l k).1.length
    · rw [ugQ_go h]
      exact ugOk_round k (ugOk_Q l k) l.length (Nat.le_refl _)
    · rw [ugQ_stop h 1]
      exact ugOk_Q l k
theorem ugStep_pre (l : List (Int × Int)) (at_ : Nat) (s : List Int × List Int) (w : Nat) {j : Nat} (hj : j < s.1.length) : j < (ugStep l at_ s w).1.length ∧ (ugStep l at_ s w).1.getD j 0 = s.1.getD j 0 := by
  unfold ugStep
  split
  · refine ⟨by rw [List.length_append]; omega, ?_⟩
    rw [List.getD_eq_getElem?_getD, List.getElem?_append_left hj, List.getD_eq_getElem?_getD]
  · exact ⟨hj, rfl⟩
theorem ugRound_pre (l : List (Int × Int)) (at_ : Nat) (s : List Int × List Int) {j : Nat} (hj : j < s.1.length) : ∀ m, j < (ugRound l at_ s m).1.length ∧ (ugRound l at_ s m).1.getD j 0 = s.1.getD j 0
  | 0 => ⟨hj, rfl⟩
  | m + 1 => by
    obtain ⟨a, b⟩ := ugRound_pre l at_ s hj m
    rw [ugRound_succ, ← b]
    exact ugStep_pre l at_ _ m a
theorem ugQ_len (l : List (Int × Int)) {n : Nat} {s : List Int × List Int} (h : ugOk n s) : s.1.length ≤ n + 1 := by
  have := h.1.length_le_of_subset (l₂ := irange 0 n) fun x hx => irange_mem.2 (h.2.1 x hx)
  rw [irange_len] at this
  omega
/-- What is found in the end. -/
def ugF (l : List (Int × Int)) : List Int := (ugQ l (l.length + 1)).2
theorem ugF_of {l : List (Int × Int)} {k : Nat} (hk : k ≤ l.length + 1) (h : ¬ k < (ugQ l k).1.length) : (ugQ l k).2 = ugF l := by
  unfold ugF
  have := ugQ_stop h (l.length + 1 - k)
  rw [show k + (l.length + 1 - k) = l.length + 1 by omega] at this
  rw [this]

end Fer

/- The least leaf, as it is looked for end by end. Plain. -/
namespace Fer

def isLf (L : List (Int × Int)) (v : Int) : Prop := (nbV L v).length = 1
/-- The ends that were looked at: of i edges all, of the next one o. -/
def doneV (L : List (Int × Int)) (i o : Nat) (v : Int) : Prop := (∃ j, j < i ∧ ((L.getD j (0, 0)).1 = v ∨ (L.getD j (0, 0)).2 = v)) ∨ (1 ≤ o ∧ (L.getD i (0, 0)).1 = v) ∨ (2 ≤ o ∧ (L.getD i (0, 0)).2 = v)
def prI (L : List (Int × Int)) (i o : Nat) (b t : Int) (a : Nat) : Prop :=
  (b = 1073741824 ∧ ∀ v, doneV L i o v → ¬ isLf L v) ∨ (isLf L b ∧ b ≤ 1000 ∧ a < L.length ∧ (L.getD a (0, 0) = (b, t) ∨ L.getD a (0, 0) = (t, b)) ∧ ∀ v, doneV L i o v → isLf L v → b ≤ v)
theorem prI_start (L : List (Int × Int)) : prI L 0 0 1073741824 0 0 := .inl ⟨rfl, fun v h => by
  rcases h with ⟨j, hj, _⟩ | ⟨h, _⟩ | ⟨h, _⟩
  · omega
  · omega
  · omega⟩
theorem done_first {L : List (Int × Int)} {i : Nat} {v : Int} (h : doneV L i 1 v) : doneV L i 0 v ∨ v = (L.getD i (0, 0)).1 := by
  rcases h with h | ⟨_, h⟩ | ⟨h, _⟩
  · exact .inl (.inl h)
  · exact .inr h.symm
  · omega
theorem done_second {L : List (Int × Int)} {i : Nat} {v : Int} (h : doneV L i 2 v) : doneV L i 1 v ∨ v = (L.getD i (0, 0)).2 := by
  rcases h with h | ⟨_, h⟩ | ⟨_, h⟩
  · exact .inl (.inl h)
  · exact .inl (.inr (.inl ⟨Nat.le_refl _, h⟩))
  · exact .inr h.symm
theorem done_next {L : List (Int × Int)} {i : Nat} {v : Int} (h : doneV L (i + 1) 0 v) : doneV L i 2 v := by
  rcases h with ⟨j, hj, h⟩ | ⟨h, _⟩ | ⟨h, _⟩
  · by_cases e : j = i
    · subst e
      rcases h with h | h
      · exact .inr (.inl ⟨by omega, h⟩)
      · exact .inr (.inr ⟨Nat.le_refl _, h⟩)
    · exact .inl ⟨j, by omega, h⟩
  · omega
  · omega
theorem prI_next {L : List (Int × Int)} {i a : Nat} {b t : Int} (h : prI L i 2 b t a) : prI L (i + 1) 0 b t a := by
  rcases h with ⟨h1, h2⟩ | ⟨h1, h2, h3, h4, h5⟩
  · exact .inl ⟨h1, fun v hv => h2 v (done_next hv)⟩
  · exact .inr ⟨h1, h2, h3, h4, fun v hv => h5 v (done_next hv)⟩
/-- An end that is no leaf, or no lower one. -/
theorem prI_skip {L : List (Int × Int)} {i o a : Nat} {b t x : Int} (hd : ∀ v, doneV L i (o + 1) v → doneV L i o v ∨ v = x) (h : prI L i o b t a) (hx : ¬ (isLf L x ∧ x < b)) (hxb : x ≤ 1000) : prI L i (o + 1) b t a := by
  rcases h with ⟨h1, h2⟩ | ⟨h1, h2, h3, h4, h5⟩
  · refine .inl ⟨h1, fun v hv hl => ?_⟩
    rcases hd v hv with h | rfl
    · exact h2 v h hl
    · exact hx ⟨hl, by omega⟩
  · refine .inr ⟨h1, h2, h3, h4, fun v hv hl => ?_⟩
    rcases hd v hv with h | rfl
    · exact h5 v h hl
    · exact Int.not_lt.1 fun hc => hx ⟨hl, hc⟩
theorem prI_take {L : List (Int × Int)} {i o a : Nat} {b t x y : Int} (hd : ∀ v, doneV L i (o + 1) v → doneV L i o v ∨ v = x) (h : prI L i o b t a) (hl : isLf L x) (hx : x < b) (hxb : x ≤ 1000) (hi : i < L.length) (hy : L.getD i (0, 0) = (x, y) ∨ L.getD i (0, 0) = (y, x)) : prI L i (o + 1) x y i := by
  refine .inr ⟨hl, hxb, hi, hy, fun v hv hvl => ?_⟩
  rcases hd v hv with hv | rfl
  · rcases h with ⟨h1, h2⟩ | ⟨h1, h2, h3, h4, h5⟩
    · exact absurd hvl (h2 v hv)
    · exact Int.le_of_lt (Int.lt_of_lt_of_le hx (h5 v hv hvl))
  · exact Int.le_refl _
/-- What is found in the end is the least leaf; what is left is the rest. -/
theorem prI_end {L : List (Int × Int)} {n : Int} {a : Nat} {b t : Int} (hr : rangeE 1 n L) (ht : treeR id L) (hne : L ≠ []) (h : prI L L.length 0 b t a) :
    b = leafV L n ∧ t = (nbV L (leafV L n)).getD 0 0 ∧ a < L.length ∧ L.take a ++ L.drop (a + 1) = cutW L (leafV L n) := by
  obtain ⟨s1, s2, s3, s4⟩ := leafV_spec hr ht hne
  have hend : ∀ v, isLf L v → doneV L L.length 0 v := fun v hv => by
    unfold isLf at hv
    obtain ⟨x, hx⟩ := List.length_eq_one_iff.1 hv
    have hm : x ∈ nbV L v := by rw [hx]; exact List.mem_singleton.2 rfl
    obtain ⟨e, he, h⟩ := nb_mem.1 hm
    obtain ⟨j, hj, rfl⟩ := List.mem_iff_getElem.1 he
    refine .inl ⟨j, hj, ?_⟩
    rw [List.getD_eq_getElem?_getD, List.getElem?_eq_getElem hj]
    simp only [Option.getD_some]
    exact h.elim (fun h => .inl h.1) fun h => .inr h.1
  rcases h with ⟨_, h2⟩ | ⟨h1, h2, h3, h4, h5⟩
  · exact absurd s3 (h2 _ (hend _ s3))
  · have hb : b = leafV L n := by
      have hle := h5 _ (hend _ s3) s3
      by_cases hlt : b < leafV L n
      · have hin : 1 ≤ b := by
          have hr' := hr (L.getD a (0, 0)) (by rw [List.getD_eq_getElem?_getD, List.getElem?_eq_getElem h3]; exact List.getElem_mem _)
          rcases h4 with h4 | h4 <;> rw [h4] at hr' <;> simp only at hr' <;> omega
        exact absurd h1 (s4 b hin hlt)
      · omega
    subst hb
    have hmem : L.getD a (0, 0) ∈ L := by rw [List.getD_eq_getElem?_getD, List.getElem?_eq_getElem h3]; exact List.getElem_mem _
    have htm : t ∈ nbV L (leafV L n) := nb_mem.2 ⟨_, hmem, h4.elim (fun h => .inl (by rw [h]; exact ⟨rfl, rfl⟩)) fun h => .inr (by rw [h]; exact ⟨rfl, rfl⟩)⟩
    refine ⟨rfl, ?_, h3, ?_⟩
    · obtain ⟨x, hx⟩ := List.length_eq_one_iff.1 s3
      rw [hx, List.mem_singleton] at htm
      rw [hx, htm]
      rfl
    · have hloop := treeR_noloop L ht
      have hcnt := s3
      rw [nb_count hloop] at hcnt
      have hsp : L = L.take a ++ L.getD a (0, 0) :: L.drop (a + 1) := by
        rw [List.getD_eq_getElem?_getD, List.getElem?_eq_getElem h3]
        simp only [Option.getD_some]
        rw [← List.drop_eq_getElem_cons h3, List.take_append_drop]
      have htc : touch (leafV L n) (L.getD a (0, 0)) = true := by
        unfold touch
        rcases h4 with h4 | h4 <;> rw [h4] <;> simp
      have hz : (L.take a).countP (touch (leafV L n)) = 0 ∧ (L.drop (a + 1)).countP (touch (leafV L n)) = 0 := by
        have h5 : L.countP (touch (leafV L n)) = (L.take a ++ L.getD a (0, 0) :: L.drop (a + 1)).countP (touch (leafV L n)) := by rw [← hsp]
        rw [List.countP_append, List.countP_cons, if_pos htc, hcnt] at h5
        omega
      have hf : ∀ M : List (Int × Int), M.countP (touch (leafV L n)) = 0 → M.filter (fun e => !touch (leafV L n) e) = M := fun M hM => by
        rw [List.filter_eq_self]
        intro e he
        have := List.countP_eq_zero.1 hM e he
        simpa using this
      have h6 : cutW L (leafV L n) = (L.take a ++ L.getD a (0, 0) :: L.drop (a + 1)).filter fun e => !touch (leafV L n) e := by
        unfold cutW
        rw [← hsp]
      rw [h6, List.filter_append, List.filter_cons, if_neg (by rw [htc]; decide), hf _ hz.1, hf _ hz.2]
theorem touch_count {L : List (Int × Int)} {k : Nat} (h : k < L.length) (x : Int) : (L.take (k + 1)).countP (touch x) = (L.take k).countP (touch x) + if (L.getD k (0, 0)).1 = x ∨ (L.getD k (0, 0)).2 = x then 1 else 0 := by
  rw [List.take_succ_eq_append_getElem h, List.countP_append, List.countP_singleton, List.getD_eq_getElem?_getD, List.getElem?_eq_getElem h]
  simp only [Option.getD_some]
  congr 1
  unfold touch
  simp only [Bool.or_eq_true, decide_eq_true_eq]

end Fer
