import Derived.Test.YtjocjlohdapmaaaFerMa
import Derived.Test.YtjocjlohdapmaaaFerEa
import Derived.Test.YtjocjlohdapmaaaFerQ
namespace Fer

theorem nodup_subl {α : Type} [DecidableEq α] : ∀ (l m : List α), l.Nodup → (∀ x ∈ l, x ∈ m) → l.length ≤ m.length
  | [], m, _, _ => Nat.zero_le _
  | a :: l, m, hn, hs => by
    obtain ⟨h1, h2⟩ := List.nodup_cons.1 hn
    have ha := hs a List.mem_cons_self
    have := nodup_subl l (m.erase a) h2 fun x hx => (List.mem_erase_of_ne fun e => h1 (by rw [← e]; exact hx)).2 (hs x (List.mem_cons_of_mem _ hx))
    rw [List.length_erase_of_mem ha] at this
    have := List.length_pos_of_mem ha
    simp only [List.length_cons]
    omega

section
variable {α : Type} (mate flip : α → α)
def orb (x0 : α) : Nat → α
  | 0 => x0
  | k + 1 => flip (mate (orb x0 k))

structure WayOK (X E : α → Prop) (D : List α) : Prop where
  m1 : ∀ x, X x → X (mate x)
  m2 : ∀ x, X x → mate (mate x) = x
  m3 : ∀ x, X x → mate x ≠ x
  f1 : ∀ x, X x → ¬ E x → X (flip x) ∧ ¬ E (flip x)
  f2 : ∀ x, X x → ¬ E x → flip (flip x) = x
  f3 : ∀ x, X x → ¬ E x → flip x ≠ x
  fin : ∀ x, X x → x ∈ D
inductive Hang (X E : α → Prop) (x0 : α) : α → Prop
  | refl : Hang X E x0 x0
  | mate {x : α} : Hang X E x0 x → Hang X E x0 (mate x)
  | flip {x : α} : Hang X E x0 x → ¬ E x → Hang X E x0 (flip x)
end

section
variable {α : Type} {mate flip : α → α} {X E : α → Prop} {D : List α} {x0 : α}

theorem orb_ok (h : WayOK mate flip X E D) (hx : X x0) : ∀ {k : Nat}, (∀ j, j < k → ¬ E (mate (orb mate flip x0 j))) → X (orb mate flip x0 k)
  | 0, _ => hx
  | k + 1, hk => (h.f1 _ (h.m1 _ (orb_ok h hx fun j hj => hk j (by omega))) (hk k (by omega))).1
theorem orb_in (h : WayOK mate flip X E D) (hx : X x0) {k : Nat} (hk : ∀ j, j < k → ¬ E (mate (orb mate flip x0 j))) (h0 : 0 < k) : ¬ E (orb mate flip x0 k) := by
  cases k with
  | zero => omega
  | succ k => exact (h.f1 _ (h.m1 _ (orb_ok h hx fun j hj => hk j (by omega))) (hk k (by omega))).2
theorem orb_back (h : WayOK mate flip X E D) (hx : X x0) {k : Nat} (hk : ∀ j, j < k + 1 → ¬ E (mate (orb mate flip x0 j))) : mate (flip (orb mate flip x0 (k + 1))) = orb mate flip x0 k := by
  have h1 := orb_ok h hx (k := k) fun j hj => hk j (show j < k + 1 by omega)
  show mate (flip (flip (mate (orb mate flip x0 k)))) = _
  rw [h.f2 _ (h.m1 _ h1) (hk k (by omega)), h.m2 _ h1]
theorem orb_apart (h : WayOK mate flip X E D) (hx : X x0) (he : E x0) : ∀ {a b : Nat}, a < b → (∀ j, j < b → ¬ E (mate (orb mate flip x0 j))) → orb mate flip x0 a ≠ orb mate flip x0 b
  | 0, b, hab, hb => fun e => orb_in h hx hb hab (by rw [← e]; exact he)
  | a + 1, b + 1, hab, hb => fun e => orb_apart h hx he (show a < b by omega) (fun j hj => hb j (by omega)) (by
      rw [← orb_back h hx (fun j hj => hb j (by omega)), ← orb_back h hx (k := b) hb, e])
theorem orb_ends [DecidableEq α] (h : WayOK mate flip X E D) (hx : X x0) (he : E x0) : ∃ N, N < D.length ∧ (∀ j, j < N → ¬ E (mate (orb mate flip x0 j))) ∧ E (mate (orb mate flip x0 N)) := by
  classical
  have key : ∀ n, (∃ N, N < n ∧ (∀ j, j < N → ¬ E (mate (orb mate flip x0 j))) ∧ E (mate (orb mate flip x0 N))) ∨ ∀ j, j < n → ¬ E (mate (orb mate flip x0 j)) := fun n => by
    induction n with
    | zero => exact .inr fun j hj => absurd hj (Nat.not_lt_zero _)
    | succ n ih =>
      rcases ih with ⟨N, h1, h2⟩ | h2
      · exact .inl ⟨N, by omega, h2⟩
      · by_cases hE : E (mate (orb mate flip x0 n))
        · exact .inl ⟨n, by omega, h2, hE⟩
        · exact .inr fun j hj => by
            by_cases e : j = n
            · subst e; exact hE
            · exact h2 j (by omega)
  rcases key D.length with h1 | h1
  · exact h1
  · exfalso
    have hn : ((List.range (D.length + 1)).map (orb mate flip x0)).Nodup := by
      refine List.pairwise_map.2 ((List.nodup_range (n := D.length + 1)).imp_of_mem ?_)
      intro a b ha hb hab e
      have ha := List.mem_range.1 ha
      have hb := List.mem_range.1 hb
      rcases Nat.lt_or_gt_of_ne hab with hh | hh
      · exact orb_apart h hx he hh (fun j hj => h1 j (by omega)) e
      · exact orb_apart h hx he hh (fun j hj => h1 j (by omega)) e.symm
    have := nodup_subl _ D hn fun x hm => by
      obtain ⟨k, hk, rfl⟩ := List.mem_map.1 hm
      exact h.fin _ (orb_ok h hx fun j hj => h1 j (by have := List.mem_range.1 hk; omega))
    rw [List.length_map, List.length_range] at this
    omega
variable {N : Nat}
theorem orb_other (h : WayOK mate flip X E D) (hx : X x0) (h1 : ∀ j, j < N → ¬ E (mate (orb mate flip x0 j))) : mate (orb mate flip x0 N) ≠ x0 := fun e => by
  have hX : ∀ k, k ≤ N → X (orb mate flip x0 k) := fun k hk => orb_ok h hx fun j hj => h1 j (by omega)
  have key : ∀ m, m ≤ N → orb mate flip x0 (N - m) = mate (orb mate flip x0 m) := fun m => by
    induction m with
    | zero => intro _; rw [Nat.sub_zero, ← h.m2 _ (hX N (Nat.le_refl _)), e]; rfl
    | succ m ih =>
      intro hm
      have ih := ih (by omega)
      have hb := orb_back h hx (k := N - m - 1) fun j hj => h1 j (by omega)
      rw [show N - m - 1 + 1 = N - m by omega, ih] at hb
      rw [show N - (m + 1) = N - m - 1 by omega, ← hb]
      rfl
  obtain ⟨t, ht⟩ : ∃ t, N = 2 * t ∨ N = 2 * t + 1 := ⟨N / 2, by omega⟩
  rcases ht with ht | ht
  · have := key t (by omega)
    rw [show N - t = t by omega] at this
    exact h.m3 _ (hX t (by omega)) this.symm
  · have := key t (by omega)
    rw [show N - t = t + 1 by omega] at this
    exact h.f3 _ (h.m1 _ (hX t (by omega))) (h1 t (by omega)) this
theorem hang_way (h : WayOK mate flip X E D) (hx : X x0) (he : E x0) (h1 : ∀ j, j < N → ¬ E (mate (orb mate flip x0 j))) (h2 : E (mate (orb mate flip x0 N))) {z : α} (hz : Hang mate flip X E x0 z) :
    ∃ k, k ≤ N ∧ (z = orb mate flip x0 k ∨ z = mate (orb mate flip x0 k)) := by
  have hX : ∀ k, k ≤ N → X (orb mate flip x0 k) := fun k hk => orb_ok h hx fun j hj => h1 j (by omega)
  induction hz with
  | refl => exact ⟨0, Nat.zero_le _, .inl rfl⟩
  | mate _ ih =>
    obtain ⟨k, hk, e | e⟩ := ih
    · exact ⟨k, hk, .inr (by rw [e])⟩
    · exact ⟨k, hk, .inl (by rw [e, h.m2 _ (hX k hk)])⟩
  | flip _ hE ih =>
    obtain ⟨k, hk, e | e⟩ := ih
    · cases k with
      | zero => exact absurd he (by rw [e] at hE; exact hE)
      | succ k => exact ⟨k, by omega, .inr (by rw [e]; exact h.f2 _ (h.m1 _ (hX k (by omega))) (h1 k (by omega)))⟩
    · by_cases hkN : k = N
      · subst hkN; rw [e] at hE; exact absurd h2 hE
      · exact ⟨k + 1, by omega, .inl (by rw [e]; rfl)⟩
theorem hang_end (h : WayOK mate flip X E D) (hx : X x0) (he : E x0) (h1 : ∀ j, j < N → ¬ E (mate (orb mate flip x0 j))) (h2 : E (mate (orb mate flip x0 N))) {z : α} (hz : Hang mate flip X E x0 z) (hE : E z) :
    z = x0 ∨ z = mate (orb mate flip x0 N) := by
  obtain ⟨k, hk, e | e⟩ := hang_way h hx he h1 h2 hz
  · cases k with
    | zero => exact .inl e
    | succ k => exact absurd hE (by rw [e]; exact orb_in h hx (fun j hj => h1 j (by omega)) (by omega))
  · by_cases hkN : k = N
    · subst hkN; exact .inr e
    · exact absurd hE (by rw [e]; exact h1 k (by omega))
theorem orb_hang (x0 : α) : ∀ {k : Nat}, (∀ j, j < k → ¬ E (mate (orb mate flip x0 j))) → Hang mate flip X E x0 (orb mate flip x0 k)
  | 0, _ => .refl
  | k + 1, hk => .flip (.mate (orb_hang x0 fun j hj => hk j (by omega))) (hk k (by omega))
theorem Hang.trans {y z : α} (h1 : Hang mate flip X E x0 y) (h2 : Hang mate flip X E y z) : Hang mate flip X E x0 z := by
  induction h2 with
  | refl => exact h1
  | mate _ ih => exact .mate ih
  | flip _ hE ih => exact .flip ih hE
theorem Hang.inX (h : WayOK mate flip X E D) (hx : X x0) {z : α} (hz : Hang mate flip X E x0 z) : X z := by
  induction hz with
  | refl => exact hx
  | mate _ ih => exact h.m1 _ ih
  | flip _ hE ih => exact (h.f1 _ ih hE).1
theorem Hang.symm (h : WayOK mate flip X E D) (hx : X x0) {z : α} (hz : Hang mate flip X E x0 z) : Hang mate flip X E z x0 := by
  induction hz with
  | refl => exact .refl
  | @mate x hz ih =>
    have hX := hz.inX h hx
    have : Hang mate flip X E (mate x) x := by have := Hang.mate (mate := mate) (flip := flip) (X := X) (E := E) (.refl (x0 := mate x)); rwa [h.m2 _ hX] at this
    exact this.trans ih
  | @flip x hz hE ih =>
    have hX := hz.inX h hx
    have : Hang mate flip X E (flip x) x := by have := Hang.flip (mate := mate) (flip := flip) (X := X) (E := E) (.refl (x0 := flip x)) (h.f1 _ hX hE).2; rwa [h.f2 _ hX hE] at this
    exact this.trans ih

end
end Fer

namespace Fer

def rs (m : List (List Int)) (i j : Nat) : Int := ((m.getD i []).take j).sum
def evn (i j : Nat) : Bool := decide ((i + j) % 2 = 0)
def hA (m : List (List Int)) (i j : Nat) : Bool := decide (rs m i j = 0) == evn i j
def vD (m : List (List Int)) (i j : Nat) : Bool := decide (cp m i j = 1) == evn i j
theorem evn_s1 (i j : Nat) : evn (i + 1) j = !evn i j := by
  unfold evn
  by_cases h : (i + j) % 2 = 0
  · rw [decide_eq_true h, decide_eq_false (by omega)]; rfl
  · rw [decide_eq_false h, decide_eq_true (by omega)]; rfl
theorem evn_s2 (i j : Nat) : evn i (j + 1) = !evn i j := by
  unfold evn
  by_cases h : (i + j) % 2 = 0
  · rw [decide_eq_true h, decide_eq_false (by omega)]; rfl
  · rw [decide_eq_false h, decide_eq_true (by omega)]; rfl

section
variable {m : List (List Int)}
theorem rs_zero (m : List (List Int)) (i : Nat) : rs m i 0 = 0 := by simp [rs]
theorem rs_succ {i j : Nat} (h : j < (m.getD i []).length) : rs m i (j + 1) = rs m i j + (m.getD i []).getD j 0 := by
  unfold rs
  rw [take_succ_getD 0 h, List.sum_append]
  simp
theorem rs_rng (h : signOK m) {i j : Nat} (hi : i < m.length) (hj : j ≤ m.length) : rs m i j = 0 ∨ rs m i j = 1 := by
  obtain ⟨h1, h2⟩ := h.2.2.1 i hi
  have : 0 ≤ rs m i j ∧ rs m i j ≤ 1 := h2.1 j (by omega)
  omega
theorem rs_end (h : signOK m) {i : Nat} (hi : i < m.length) : rs m i m.length = 1 := by
  obtain ⟨h1, h2⟩ := h.2.2.1 i hi
  unfold rs
  rw [List.take_of_length_le (by omega)]
  exact h2.2
theorem cp_rng (h : signOK m) {i j : Nat} (hi : i ≤ m.length) (hj : j < m.length) : cp m i j = 0 ∨ cp m i j = 1 := by
  have := (alt_col.1 (h.2.2.2 j hj)).1 i hi
  omega
theorem cp_end (h : signOK m) {j : Nat} (hj : j < m.length) : cp m m.length j = 1 := (alt_col.1 (h.2.2.2 j hj)).2
theorem cross (h : signOK m) {i j : Nat} (hi : i < m.length) (hj : j < m.length) : rs m i (j + 1) - rs m i j = cp m (i + 1) j - cp m i j := by
  rw [rs_succ (by rw [(h.2.2.1 i hi).1]; exact hj), cp_succ j hi]
  omega
end


abbrev Dart := (Nat × Nat) × Nat
def dr4 (b0 b1 b2 b3 : Bool) (w : Nat) : Bool := match w with | 0 => b0 | 1 => b1 | 2 => b2 | _ => b3
def las4 (_b0 b1 b2 b3 : Bool) (c : Nat) : Nat := if b3 = true ∧ 3 ≠ c then 3 else if b2 = true ∧ 2 ≠ c then 2 else if b1 = true ∧ 1 ≠ c then 1 else 0
theorem four (x y x' y' e : Bool) (h : x.toNat + y.toNat = x'.toNat + y'.toNat) (w : Nat) (hw : w < 4) (hd : dr4 (x == e) (y' == !e) (x' == !e) (y == e) w = true) :
    las4 (x == e) (y' == !e) (x' == !e) (y == e) w < 4 ∧ dr4 (x == e) (y' == !e) (x' == !e) (y == e) (las4 (x == e) (y' == !e) (x' == !e) (y == e) w) = true ∧
    las4 (x == e) (y' == !e) (x' == !e) (y == e) w ≠ w ∧ las4 (x == e) (y' == !e) (x' == !e) (y == e) (las4 (x == e) (y' == !e) (x' == !e) (y == e) w) = w ∧
    ∀ v, v < 4 → dr4 (x == e) (y' == !e) (x' == !e) (y == e) v = true → v = w ∨ v = las4 (x == e) (y' == !e) (x' == !e) (y == e) w := by
  have hw : w = 0 ∨ w = 1 ∨ w = 2 ∨ w = 3 := by omega
  have key : ∀ v : Nat, v < 4 → v = 0 ∨ v = 1 ∨ v = 2 ∨ v = 3 := fun v hv => by omega
  rcases hw with rfl | rfl | rfl | rfl <;> cases x <;> cases y <;> cases x' <;> cases y' <;> cases e <;> simp [dr4, las4] at h hd ⊢ <;> (intro v hv; rcases key v hv with rfl | rfl | rfl | rfl <;> simp [dr4])
def drw (m : List (List Int)) (v : Dart) : Bool := dr4 (hA m v.1.1 v.1.2) (vD m (v.1.1 + 1) v.1.2) (hA m v.1.1 (v.1.2 + 1)) (vD m v.1.1 v.1.2) v.2
def mat4 (m : List (List Int)) (v : Dart) : Dart := (v.1, las4 (hA m v.1.1 v.1.2) (vD m (v.1.1 + 1) v.1.2) (hA m v.1.1 (v.1.2 + 1)) (vD m v.1.1 v.1.2) v.2)
def flp4 (v : Dart) : Dart := match v.2 with
  | 0 => ((v.1.1, v.1.2 - 1), 2)
  | 1 => ((v.1.1 + 1, v.1.2), 3)
  | 2 => ((v.1.1, v.1.2 + 1), 0)
  | _ => ((v.1.1 - 1, v.1.2), 1)
def drX (m : List (List Int)) (v : Dart) : Prop := v.1.1 < m.length ∧ v.1.2 < m.length ∧ v.2 < 4 ∧ drw m v = true
def drE (n : Nat) (v : Dart) : Prop := (v.2 = 0 ∧ v.1.2 = 0) ∨ (v.2 = 1 ∧ v.1.1 + 1 = n) ∨ (v.2 = 2 ∧ v.1.2 + 1 = n) ∨ (v.2 = 3 ∧ v.1.1 = 0)
instance (n : Nat) (v : Dart) : Decidable (drE n v) := by unfold drE; infer_instance
def drD (n : Nat) : List Dart := (List.range n).flatMap fun i => (List.range n).flatMap fun j => (List.range 4).map fun w => ((i, j), w)
section
variable {m : List (List Int)}
theorem drw_four (h : signOK m) {i j : Nat} (hi : i < m.length) (hj : j < m.length) : ∃ x y x' y' e : Bool, x.toNat + y.toNat = x'.toNat + y'.toNat ∧ hA m i j = (x == e) ∧ vD m (i + 1) j = (y' == !e) ∧ hA m i (j + 1) = (x' == !e) ∧ vD m i j = (y == e) := by
  refine ⟨decide (rs m i j = 0), decide (cp m i j = 1), decide (rs m i (j + 1) = 0), decide (cp m (i + 1) j = 1), evn i j, ?_, rfl, ?_, ?_, rfl⟩
  · have h1 := cross h hi hj
    have h2 := rs_rng h hi (show j ≤ m.length by omega)
    have h3 := rs_rng h hi (show j + 1 ≤ m.length by omega)
    have h4 := cp_rng h (show i ≤ m.length by omega) hj
    have h5 := cp_rng h (show i + 1 ≤ m.length by omega) hj
    rcases h2 with h2 | h2 <;> rcases h3 with h3 | h3 <;> rcases h4 with h4 | h4 <;> rcases h5 with h5 | h5 <;> simp [h2, h3, h4, h5] at h1 ⊢
  · unfold vD; rw [evn_s1]
  · unfold hA; rw [evn_s2]
theorem mat4_ok (h : signOK m) {v : Dart} (hv : drX m v) : drX m (mat4 m v) ∧ mat4 m (mat4 m v) = v ∧ mat4 m v ≠ v ∧ ∀ w, w < 4 → drw m (v.1, w) = true → w = v.2 ∨ w = (mat4 m v).2 := by
  obtain ⟨⟨i, j⟩, c⟩ := v
  obtain ⟨hi, hj, hc, hd⟩ := hv
  obtain ⟨x, y, x', y', e, hs, e0, e1, e2, e3⟩ := drw_four h hi hj
  unfold drw at hd
  simp only [e0, e1, e2, e3] at hd
  obtain ⟨g1, g2, g3, g4, g5⟩ := four x y x' y' e hs c hc hd
  refine ⟨⟨hi, hj, ?_, ?_⟩, ?_, ?_, fun w hw hdw => ?_⟩
  · simp only [mat4, e0, e1, e2, e3]; exact g1
  · simp only [drw, mat4, e0, e1, e2, e3]; exact g2
  · simp only [mat4, e0, e1, e2, e3, g4]
  · intro hh
    have := congrArg Prod.snd hh
    simp only [mat4, e0, e1, e2, e3] at this
    exact g3 this
  · simp only [drw, e0, e1, e2, e3] at hdw
    simp only [mat4, e0, e1, e2, e3]
    exact g5 w hw hdw
theorem flp4_ok {v : Dart} (hv : drX m v) (hE : ¬ drE m.length v) : drX m (flp4 v) ∧ ¬ drE m.length (flp4 v) ∧ flp4 (flp4 v) = v ∧ flp4 v ≠ v := by
  obtain ⟨⟨i, j⟩, c⟩ := v
  obtain ⟨hi, hj, hc, hd⟩ := hv
  simp only at hi hj hc
  have hc : c = 0 ∨ c = 1 ∨ c = 2 ∨ c = 3 := by omega
  unfold drE at hE
  simp only at hE
  rcases hc with rfl | rfl | rfl | rfl
  · obtain ⟨j, rfl⟩ : ∃ k, j = k + 1 := ⟨j - 1, by omega⟩
    exact ⟨⟨hi, by show j + 1 - 1 < _; omega, by show (2 : Nat) < 4; omega, hd⟩, by unfold drE; simp only [flp4]; omega, rfl, by simp [flp4]⟩
  · exact ⟨⟨by show i + 1 < _; omega, hj, by show (3 : Nat) < 4; omega, hd⟩, by unfold drE; simp only [flp4]; omega, rfl, by simp [flp4]⟩
  · exact ⟨⟨hi, by show j + 1 < _; omega, by show (0 : Nat) < 4; omega, hd⟩, by unfold drE; simp only [flp4]; omega, rfl, by simp [flp4]⟩
  · obtain ⟨i, rfl⟩ : ∃ k, i = k + 1 := ⟨i - 1, by omega⟩
    exact ⟨⟨by show i + 1 - 1 < _; omega, hj, by show (1 : Nat) < 4; omega, hd⟩, by unfold drE; simp only [flp4]; omega, rfl, by simp [flp4]⟩
theorem way_ok (h : signOK m) : WayOK (mat4 m) flp4 (drX m) (drE m.length) (drD m.length) where
  m1 x hx := (mat4_ok h hx).1
  m2 x hx := (mat4_ok h hx).2.1
  m3 x hx := (mat4_ok h hx).2.2.1
  f1 x hx he := ⟨(flp4_ok hx he).1, (flp4_ok hx he).2.1⟩
  f2 x hx he := (flp4_ok hx he).2.2.1
  f3 x hx he := (flp4_ok hx he).2.2.2
  fin x hx := by
    obtain ⟨⟨i, j⟩, c⟩ := x
    exact List.mem_flatMap.2 ⟨i, List.mem_range.2 hx.1, List.mem_flatMap.2 ⟨j, List.mem_range.2 hx.2.1, List.mem_map.2 ⟨c, List.mem_range.2 hx.2.2.1, rfl⟩⟩⟩


def endD (n k : Nat) : Dart := if k < n then ((k, 0), 0) else if k < 2 * n then ((n - 1, k - n), 1) else if k < 3 * n then ((3 * n - 1 - k, n - 1), 2) else ((0, 4 * n - 1 - k), 3)
def numD (n : Nat) (v : Dart) : Nat := match v.2 with
  | 0 => v.1.1
  | 1 => n + v.1.2
  | 2 => 3 * n - 1 - v.1.1
  | _ => 4 * n - 1 - v.1.2
theorem num_end {n k : Nat} (hk : k < 4 * n) : numD n (endD n k) = k := by
  unfold endD
  split
  · rfl
  · split
    · simp only [numD]; omega
    · split
      · simp only [numD]; omega
      · simp only [numD]; omega
theorem end_num {n : Nat} {v : Dart} (hi : v.1.1 < n) (hj : v.1.2 < n) (hE : drE n v) : endD n (numD n v) = v ∧ numD n v < 4 * n := by
  obtain ⟨⟨i, j⟩, c⟩ := v
  simp only at hi hj
  unfold drE at hE
  simp only at hE
  unfold endD
  rcases hE with ⟨rfl, rfl⟩ | ⟨rfl, e⟩ | ⟨rfl, e⟩ | ⟨rfl, rfl⟩ <;> simp only [numD]
  · exact ⟨by rw [if_pos hi], by omega⟩
  · exact ⟨by rw [if_neg (by omega), if_pos (by omega), show n - 1 = i by omega, show n + j - n = j by omega], by omega⟩
  · exact ⟨by rw [if_neg (by omega), if_neg (by omega), if_pos (by omega), show n - 1 = j by omega, show 3 * n - 1 - (3 * n - 1 - i) = i by omega], by omega⟩
  · exact ⟨by rw [if_neg (by omega), if_neg (by omega), if_neg (by omega), show 4 * n - 1 - (4 * n - 1 - j) = j by omega], by omega⟩
theorem endD_in {n k : Nat} (hk : k < 4 * n) : (endD n k).1.1 < n ∧ (endD n k).1.2 < n ∧ (endD n k).2 < 4 ∧ drE n (endD n k) := by
  unfold endD
  split
  · exact ⟨by show k < n; omega, by show 0 < n; omega, by show (0 : Nat) < 4; omega, .inl ⟨rfl, rfl⟩⟩
  · split
    · exact ⟨by show n - 1 < n; omega, by show k - n < n; omega, by show (1 : Nat) < 4; omega, .inr (.inl ⟨rfl, by show n - 1 + 1 = n; omega⟩)⟩
    · split
      · exact ⟨by show 3 * n - 1 - k < n; omega, by show n - 1 < n; omega, by show (2 : Nat) < 4; omega, .inr (.inr (.inl ⟨rfl, by show n - 1 + 1 = n; omega⟩))⟩
      · exact ⟨by show 0 < n; omega, by show 4 * n - 1 - k < n; omega, by show (3 : Nat) < 4; omega, .inr (.inr (.inr ⟨rfl, rfl⟩))⟩
theorem end_drawn (h : signOK m) {k : Nat} (hk : k < 4 * m.length) : drw m (endD m.length k) = decide (k % 2 = 0) := by
  unfold endD
  split
  · rename_i h1
    simp only [drw, dr4, hA]
    rw [rs_zero]
    unfold evn
    simp
  · split
    · simp only [drw, dr4, vD]
      rw [show m.length - 1 + 1 = m.length by omega, cp_end h (by omega)]
      unfold evn
      rw [show m.length + (k - m.length) = k by omega]
      simp
    · split
      · simp only [drw, dr4, hA]
        rw [show m.length - 1 + 1 = m.length by omega, rs_end h (by omega), show decide ((1 : Int) = 0) = false from rfl]
        unfold evn
        by_cases hk2 : k % 2 = 0
        · rw [decide_eq_true hk2, decide_eq_false (by omega)]; rfl
        · rw [decide_eq_false hk2, decide_eq_true (by omega)]; rfl
      · simp only [drw, dr4, vD]
        rw [cp_zero, show decide ((0 : Int) = 1) = false from rfl]
        unfold evn
        by_cases hk2 : k % 2 = 0
        · rw [decide_eq_true hk2, decide_eq_false (by omega)]; rfl
        · rw [decide_eq_false hk2, decide_eq_true (by omega)]; rfl
end
end Fer

namespace Fer

def lnD (v : Dart) : Int × Int := match v.2 with
  | 0 => (2 * (v.1.1 : Int), 2 * (v.1.2 : Int) - 1)
  | 1 => (2 * (v.1.1 : Int) + 1, 2 * (v.1.2 : Int))
  | 2 => (2 * (v.1.1 : Int), 2 * (v.1.2 : Int) + 1)
  | _ => (2 * (v.1.1 : Int) - 1, 2 * (v.1.2 : Int))
section
variable {m : List (List Int)}
theorem ln_flp {v : Dart} (hv : drX m v) (hE : ¬ drE m.length v) : lnD (flp4 v) = lnD v := by
  obtain ⟨⟨i, j⟩, c⟩ := v
  obtain ⟨_, _, hc, _⟩ := hv
  simp only at hc
  have hc : c = 0 ∨ c = 1 ∨ c = 2 ∨ c = 3 := by omega
  unfold drE at hE
  simp only at hE
  rcases hc with rfl | rfl | rfl | rfl <;> simp only [flp4, lnD, Prod.mk.injEq, true_and, and_true] <;> omega
theorem ln_inj {v u : Dart} (hv : drX m v) (hu : drX m u) (h : lnD v = lnD u) : v = u ∨ (¬ drE m.length v ∧ u = flp4 v) := by
  obtain ⟨⟨i, j⟩, c⟩ := v
  obtain ⟨⟨k, l⟩, d⟩ := u
  obtain ⟨h1, h2, hc, _⟩ := hv
  obtain ⟨h3, h4, hd, _⟩ := hu
  simp only at h1 h2 h3 h4 hc hd
  have hc : c = 0 ∨ c = 1 ∨ c = 2 ∨ c = 3 := by omega
  have hd : d = 0 ∨ d = 1 ∨ d = 2 ∨ d = 3 := by omega
  unfold drE
  rcases hc with rfl | rfl | rfl | rfl <;> rcases hd with rfl | rfl | rfl | rfl <;> simp only [lnD, Prod.mk.injEq] at h <;> simp [flp4, Prod.mk.injEq] <;> omega

abbrev HangM (m : List (List Int)) (x y : Dart) : Prop := Hang (mat4 m) flp4 (drX m) (drE m.length) x y

def LabOK (m : List (List Int)) (p0 p : Int × Int → Int) : Prop := ∀ v, drX m v → ∃ o, drX m o ∧ HangM m o v ∧ p (lnD v) = p0 (lnD o)
theorem lab_start (p0 : Int × Int → Int) : LabOK m p0 p0 := fun v hv => ⟨v, hv, .refl, rfl⟩
theorem lab_step (h : signOK m) {p0 p : Int × Int → Int} (hp : LabOK m p0 p) {d : Dart} (hd : drX m d) {q : Int} (hq : q = p (lnD d) ∨ q = p (lnD (mat4 m d))) :
    LabOK m p0 (fun k => if k = lnD (mat4 m d) then q else if k = lnD d then q else p k) := fun v hv => by
  have hw := way_ok h
  have hmd := hw.m1 _ hd
  obtain ⟨o, ho, hho, hqo⟩ : ∃ o, drX m o ∧ HangM m o d ∧ q = p0 (lnD o) := by
    rcases hq with e | e
    · obtain ⟨o, h1, h2, h3⟩ := hp d hd
      exact ⟨o, h1, h2, e.trans h3⟩
    · obtain ⟨o, h1, h2, h3⟩ := hp _ hmd
      have := Hang.mate h2
      rw [hw.m2 _ hd] at this
      exact ⟨o, h1, this, e.trans h3⟩
  have hall : ∀ u, drX m u → lnD v = lnD u → HangM m o u → HangM m o v := fun u hu e hou => by
    rcases ln_inj hu hv e.symm with e1 | ⟨hE, e1⟩
    · rw [← e1]; exact hou
    · rw [e1]; exact .flip hou hE
  by_cases e1 : lnD v = lnD (mat4 m d)
  · refine ⟨o, ho, hall _ hmd e1 (.mate hho), ?_⟩
    show (if _ then _ else _) = _
    rw [if_pos e1, hqo]
  · by_cases e2 : lnD v = lnD d
    · refine ⟨o, ho, hall _ hd e2 hho, ?_⟩
      show (if _ then _ else _) = _
      rw [if_neg e1, if_pos e2, hqo]
    · obtain ⟨o', h1, h2, h3⟩ := hp v hv
      refine ⟨o', h1, h2, ?_⟩
      show (if _ then _ else _) = _
      rw [if_neg e1, if_neg e2, h3]
theorem lab_hang {p : Int × Int → Int} (hc : ∀ v, drX m v → p (lnD v) = p (lnD (mat4 m v))) (h : signOK m) {x y : Dart} (hx : drX m x) (hh : HangM m x y) : p (lnD y) = p (lnD x) := by
  have hw := way_ok h
  induction hh with
  | refl => rfl
  | mate hz ih => rw [← hc _ (hz.inX hw hx), ih]
  | flip hz hE ih => rw [ln_flp (hz.inX hw hx) hE, ih]
theorem lab_end (h : signOK m) {p0 p : Int × Int → Int} (hp : LabOK m p0 p) (hc : ∀ v, drX m v → p (lnD v) = p (lnD (mat4 m v))) (h0 : ∀ u v, drX m u → drX m v → p0 (lnD u) = p0 (lnD v) → lnD u = lnD v)
    {x y : Dart} (hx : drX m x) (hy : drX m y) : p (lnD y) = p (lnD x) ↔ HangM m x y := by
  have hw := way_ok h
  refine ⟨fun e => ?_, fun hh => lab_hang hc h hx hh⟩
  obtain ⟨o, h1, h2, h3⟩ := hp x hx
  obtain ⟨o', g1, g2, g3⟩ := hp y hy
  have e2 := h0 o' o g1 h1 (by rw [← g3, ← h3, e])
  have h4 : HangM m o o' := by
    rcases ln_inj h1 g1 e2.symm with e1 | ⟨hE, e1⟩
    · rw [← e1]; exact .refl
    · rw [e1]; exact .flip .refl hE
  exact ((h2.symm hw h1).trans h4).trans g2


theorem endX (h : signOK m) {e : Nat} (he : e < 2 * m.length) : drX m (endD m.length (2 * e)) ∧ drE m.length (endD m.length (2 * e)) := by
  obtain ⟨h1, h2, h3, h4⟩ := endD_in (n := m.length) (k := 2 * e) (by omega)
  exact ⟨⟨h1, h2, h3, by rw [end_drawn h (by omega)]; exact decide_eq_true (by omega)⟩, h4⟩
theorem link_ex (h : signOK m) {e : Nat} (he : e < 2 * m.length) : ∃ N, (∀ j, j < N → ¬ drE m.length (mat4 m (orb (mat4 m) flp4 (endD m.length (2 * e)) j))) ∧ drE m.length (mat4 m (orb (mat4 m) flp4 (endD m.length (2 * e)) N)) := by
  obtain ⟨N, _, h1, h2⟩ := orb_ends (way_ok h) (endX h he).1 (endX h he).2
  exact ⟨N, h1, h2⟩
open Classical in
noncomputable def linkN (m : List (List Int)) (e : Nat) : Nat := if hh : signOK m ∧ e < 2 * m.length then (link_ex hh.1 hh.2).choose else 0
noncomputable def linkV (m : List (List Int)) (e : Nat) : Nat := numD m.length (mat4 m (orb (mat4 m) flp4 (endD m.length (2 * e)) (linkN m e))) / 2
theorem linkN_ok (h : signOK m) {e : Nat} (he : e < 2 * m.length) : (∀ j, j < linkN m e → ¬ drE m.length (mat4 m (orb (mat4 m) flp4 (endD m.length (2 * e)) j))) ∧ drE m.length (mat4 m (orb (mat4 m) flp4 (endD m.length (2 * e)) (linkN m e))) := by
  unfold linkN
  rw [dif_pos ⟨h, he⟩]
  exact (link_ex h he).choose_spec
theorem linkV_ok (h : signOK m) {e : Nat} (he : e < 2 * m.length) : mat4 m (orb (mat4 m) flp4 (endD m.length (2 * e)) (linkN m e)) = endD m.length (2 * linkV m e) ∧ linkV m e < 2 * m.length ∧ linkV m e ≠ e := by
  obtain ⟨h1, h2⟩ := linkN_ok h he
  obtain ⟨hx, hxe⟩ := endX h he
  have hw := way_ok h
  have hX := hw.m1 _ (orb_ok hw hx h1)
  obtain ⟨g1, g2⟩ := end_num hX.1 hX.2.1 h2
  have hev : numD m.length (mat4 m (orb (mat4 m) flp4 (endD m.length (2 * e)) (linkN m e))) % 2 = 0 := by
    have := end_drawn h g2
    rw [g1] at this
    exact of_decide_eq_true (this.symm.trans hX.2.2.2)
  have e2 : 2 * linkV m e = numD m.length (mat4 m (orb (mat4 m) flp4 (endD m.length (2 * e)) (linkN m e))) := by unfold linkV; omega
  refine ⟨by rw [e2, g1], by omega, fun hh => ?_⟩
  have := orb_other hw hx h1
  rw [← g1, ← e2, hh] at this
  exact this rfl
theorem link_hang (h : signOK m) {e f : Nat} (he : e < 2 * m.length) (hf : f < 2 * m.length) : HangM m (endD m.length (2 * e)) (endD m.length (2 * f)) ↔ f = e ∨ f = linkV m e := by
  obtain ⟨h1, h2⟩ := linkN_ok h he
  obtain ⟨hx, hxe⟩ := endX h he
  have hw := way_ok h
  obtain ⟨g1, g2, _⟩ := linkV_ok h he
  have hin : ∀ {a b : Nat}, a < 2 * m.length → b < 2 * m.length → endD m.length (2 * a) = endD m.length (2 * b) → a = b := fun {a b} ha hb e => by
    have := congrArg (numD m.length) e
    rw [num_end (by omega), num_end (by omega)] at this
    omega
  constructor
  · intro hh
    rcases hang_end hw hx hxe h1 h2 hh (endX h hf).2 with e1 | e1
    · exact .inl (hin hf he e1)
    · exact .inr (hin hf g2 (e1.trans g1))
  · rintro (rfl | rfl)
    · exact .refl
    · rw [← g1]
      exact .mate (orb_hang _ h1)
def linkR (n : Nat) (p : Int × Int → Int) : List Nat := (List.range (2 * n)).flatMap fun e => (List.range (2 * n)).filter fun f => decide (f ≠ e ∧ p (lnD (endD n (2 * f))) = p (lnD (endD n (2 * e))))
theorem filter_one {n a : Nat} (ha : a < n) {g : Nat → Bool} (hg : ∀ f, f < n → (g f = true ↔ f = a)) : (List.range n).filter g = [a] := by
  have : (List.range n).filter g = (List.range n).filter (· == a) := List.filter_congr fun f hf => by
    have := hg f (List.mem_range.1 hf)
    by_cases e : f = a
    · rw [this.2 e]; simp [e]
    · have h1 : g f ≠ true := fun hh => e (this.1 hh)
      have h2 : g f = false := by simpa using h1
      rw [h2]; simp [e]
  rw [this]
  induction n with
  | zero => omega
  | succ n ih =>
    rw [List.range_succ, List.filter_append]
    by_cases e : a = n
    · subst e
      have : (List.range a).filter (· == a) = [] := List.filter_eq_nil_iff.2 fun f hf => by have := List.mem_range.1 hf; simp; omega
      rw [this]; simp
    · have := ih (by omega) (fun f hf => hg f (by omega)) (List.filter_congr fun f hf => by
        have hf := List.mem_range.1 hf
        have := hg f (by omega)
        by_cases e : f = a
        · rw [this.2 e]; simp [e]
        · have h1 : g f ≠ true := fun hh => e (this.1 hh)
          have h2 : g f = false := by simpa using h1
          rw [h2]; simp [e])
      rw [this]
      have e2 : (n == a) = false := by simp; omega
      simp [e2]
theorem link_law (h : signOK m) {p0 p : Int × Int → Int} (hp : LabOK m p0 p) (hc : ∀ v, drX m v → p (lnD v) = p (lnD (mat4 m v))) (h0 : ∀ u v, drX m u → drX m v → p0 (lnD u) = p0 (lnD v) → lnD u = lnD v) :
    linkR m.length p = (List.range (2 * m.length)).map (linkV m) := by
  unfold linkR
  have : ∀ e ∈ List.range (2 * m.length), ((List.range (2 * m.length)).filter fun f => decide (f ≠ e ∧ p (lnD (endD m.length (2 * f))) = p (lnD (endD m.length (2 * e))))) = [linkV m e] := fun e he => by
    have he := List.mem_range.1 he
    obtain ⟨g1, g2, g3⟩ := linkV_ok h he
    refine filter_one g2 fun f hf => ?_
    rw [decide_eq_true_iff, lab_end h hp hc h0 (endX h he).1 (endX h hf).1, link_hang h he hf]
    constructor
    · rintro ⟨h1, h2 | h2⟩
      · exact absurd h2 h1
      · exact h2
    · intro h2
      exact ⟨by rw [h2]; exact g3, .inr h2⟩
  generalize List.range (2 * m.length) = l at this ⊢
  have key : ∀ l' : List Nat, (∀ e ∈ l', e ∈ l) → (l'.flatMap fun e => l.filter fun f => decide (f ≠ e ∧ p (lnD (endD m.length (2 * f))) = p (lnD (endD m.length (2 * e))))) = l'.map (linkV m) := fun l' => by
    induction l' with
    | nil => intro _; rfl
    | cons a l' ih =>
      intro hl
      rw [List.flatMap_cons, this a (hl a List.mem_cons_self), ih fun e he => hl e (List.mem_cons_of_mem _ he)]
      rfl
  exact key l fun e he => he
end
end Fer

namespace Fer

def cg (c : List (List Int)) (i j : Nat) : Int := (c.getD i []).getD j 0
def rC (c : List (List Int)) (i j : Nat) : Int := cg c (i + 1) j - cg c i j
def qC (c : List (List Int)) (i j : Nat) : Int := cg c i (j + 1) - cg c i j
structure GyOK (n : Nat) (c : List (List Int)) : Prop where
  len : c.length = n + 1
  row : ∀ i, i < n + 1 → (c.getD i []).length = n + 1
  r01 : ∀ i j, i < n → j < n + 1 → rC c i j = 0 ∨ rC c i j = 1
  q01 : ∀ i j, i < n + 1 → j < n → qC c i j = 0 ∨ qC c i j = 1
  z1 : ∀ j, cg c 0 j = 0
  z2 : ∀ i, cg c i 0 = 0
def gcond (c : List (List Int)) (i j : Nat) : Prop := rC c i (j + 1) + rC c (i + 1) (j + 1) = 1 ∧ qC c (i + 1) j = rC c i (j + 1) ∧ qC c (i + 1) (j + 1) = rC c (i + 1) (j + 1)
instance (c : List (List Int)) (i j : Nat) : Decidable (gcond c i j) := by unfold gcond; infer_instance
def gnew (c : List (List Int)) (i j : Nat) : Int := if rC c i (j + 1) = 0 then cg c (i + 1) (j + 1) + 1 else cg c (i + 1) (j + 1) - 1
def gstep (c : List (List Int)) (i j : Nat) : List (List Int) := c.set (i + 1) ((c.getD (i + 1) []).set (j + 1) (gnew c i j))
def gone1 (p : Nat) (c : List (List Int)) (i j : Nat) : List (List Int) := if (i + j) % 2 = p ∧ gcond c i j then gstep c i j else c
def gyR (p : Nat) (c : List (List Int)) (i : Nat) : Nat → List (List Int)
  | 0 => c
  | j + 1 => gone1 p (gyR p c i j) i j
def gyP (p n : Nat) (c : List (List Int)) : Nat → List (List Int)
  | 0 => c
  | i + 1 => gyR p (gyP p n c i) i n
def gyT (n : Nat) (c : List (List Int)) : Nat → List (List Int)
  | 0 => c
  | p + 1 => gyP p n (gyT n c p) n
section
variable {n i j : Nat} {c : List (List Int)}
theorem cg_set {v : Int} (hi : i < c.length) (hj : j < (c.getD i []).length) (a b : Nat) : cg (c.set i ((c.getD i []).set j v)) a b = if a = i ∧ b = j then v else cg c a b := by
  unfold cg
  by_cases ha : a = i
  · subst ha
    rw [getD_set_eq _ _ _ hi]
    by_cases hb : b = j
    · subst hb; rw [getD_set_eq _ _ _ hj, if_pos ⟨rfl, rfl⟩]
    · rw [getD_set_ne _ _ _ hb, if_neg fun h => hb h.2]
  · rw [getD_set_ne _ _ _ ha, if_neg fun h => ha h.1]
theorem cg_step (h : GyOK n c) (hi : i + 1 < n) (hj : j + 1 < n) (a b : Nat) : cg (gstep c i j) a b = if a = i + 1 ∧ b = j + 1 then gnew c i j else cg c a b :=
  cg_set (by rw [h.len]; omega) (by rw [h.row _ (by omega)]; omega) a b
theorem gnew_eq (h : GyOK n c) (hi : i + 1 < n) (hj : j + 1 < n) : gnew c i j = cg c (i + 1) (j + 1) + (1 - 2 * rC c i (j + 1)) := by
  unfold gnew
  rcases h.r01 i (j + 1) (by omega) (by omega) with e | e
  · rw [if_pos e, e]; omega
  · rw [if_neg (by omega), e]; omega
theorem rC_step (h : GyOK n c) (hg : gcond c i j) (hi : i + 1 < n) (hj : j + 1 < n) (a b : Nat) : rC (gstep c i j) a b = if (a = i ∨ a = i + 1) ∧ b = j + 1 then 1 - rC c a b else rC c a b := by
  have hn := gnew_eq h hi hj
  obtain ⟨g1, g2, g3⟩ := hg
  by_cases hb : b = j + 1
  · subst hb
    by_cases ha : a = i
    · subst ha
      rw [if_pos ⟨.inl rfl, rfl⟩]
      unfold rC at *
      rw [cg_step h hi hj, cg_step h hi hj, if_pos ⟨rfl, rfl⟩, if_neg (by omega), hn]
      omega
    · by_cases ha2 : a = i + 1
      · subst ha2
        rw [if_pos ⟨.inr rfl, rfl⟩]
        unfold rC at *
        rw [cg_step h hi hj, cg_step h hi hj, if_neg (by omega), if_pos ⟨rfl, rfl⟩, hn]
        omega
      · rw [if_neg (by omega)]
        unfold rC
        rw [cg_step h hi hj, cg_step h hi hj, if_neg (by omega), if_neg (by omega)]
  · rw [if_neg (by omega)]
    unfold rC
    rw [cg_step h hi hj, cg_step h hi hj, if_neg (by omega), if_neg (by omega)]
theorem qC_step (h : GyOK n c) (hg : gcond c i j) (hi : i + 1 < n) (hj : j + 1 < n) (a b : Nat) : qC (gstep c i j) a b = if a = i + 1 ∧ (b = j ∨ b = j + 1) then 1 - qC c a b else qC c a b := by
  have hn := gnew_eq h hi hj
  obtain ⟨g1, g2, g3⟩ := hg
  by_cases ha : a = i + 1
  · subst ha
    by_cases hb : b = j
    · subst hb
      rw [if_pos ⟨rfl, .inl rfl⟩]
      unfold qC rC at *
      rw [cg_step h hi hj, cg_step h hi hj, if_pos ⟨rfl, rfl⟩, if_neg (by omega), hn]
      omega
    · by_cases hb2 : b = j + 1
      · subst hb2
        rw [if_pos ⟨rfl, .inr rfl⟩]
        unfold qC rC at *
        rw [cg_step h hi hj, cg_step h hi hj, if_neg (by omega), if_pos ⟨rfl, rfl⟩, hn]
        omega
      · rw [if_neg (by omega)]
        unfold qC
        rw [cg_step h hi hj, cg_step h hi hj, if_neg (by omega), if_neg (by omega)]
  · rw [if_neg (by omega)]
    unfold qC
    rw [cg_step h hi hj, cg_step h hi hj, if_neg (by omega), if_neg (by omega)]
theorem gyok_step (h : GyOK n c) (hg : gcond c i j) (hi : i + 1 < n) (hj : j + 1 < n) : GyOK n (gstep c i j) where
  len := by unfold gstep; rw [List.length_set]; exact h.len
  row a ha := by
    unfold gstep
    by_cases e : a = i + 1
    · subst e; rw [getD_set_eq _ _ _ (by rw [h.len]; omega), List.length_set]; exact h.row _ ha
    · rw [getD_set_ne _ _ _ e]; exact h.row _ ha
  r01 a b ha hb := by
    have := h.r01 a b ha hb
    rw [rC_step h hg hi hj]
    split <;> omega
  q01 a b ha hb := by
    have := h.q01 a b ha hb
    rw [qC_step h hg hi hj]
    split <;> omega
  z1 b := by rw [cg_step h hi hj, if_neg (by omega)]; exact h.z1 b
  z2 a := by rw [cg_step h hi hj, if_neg (by omega)]; exact h.z2 a
theorem gyok_one {p : Nat} (h : GyOK n c) (hi : i + 1 < n) (hj : j + 1 < n) : GyOK n (gone1 p c i j) := by
  unfold gone1
  split
  · rename_i hh; exact gyok_step h hh.2 hi hj
  · exact h
theorem gyok_R {p : Nat} (h : GyOK n c) (hi : i + 1 < n) : ∀ {k : Nat}, k + 1 ≤ n → GyOK n (gyR p c i k)
  | 0, _ => h
  | k + 1, hk => gyok_one (gyok_R h hi (by omega)) hi (by omega)
theorem gyok_P {p : Nat} (h : GyOK n c) (hn : 1 ≤ n) : ∀ {k : Nat}, k + 1 ≤ n → GyOK n (gyP p (n - 1) c k)
  | 0, _ => h
  | k + 1, hk => gyok_R (gyok_P h hn (by omega)) (by omega) (by omega)
theorem gyok_T (h : GyOK n c) (hn : 1 ≤ n) : ∀ {p : Nat}, GyOK n (gyT (n - 1) c p)
  | 0 => h
  | _ + 1 => gyok_P (gyok_T h hn) hn (by omega)
theorem cg_rng (h : GyOK n c) : ∀ {a b : Nat}, a < n + 1 → b < n + 1 → 0 ≤ cg c a b ∧ cg c a b ≤ a
  | 0, b, _, _ => by rw [h.z1]; omega
  | a + 1, b, ha, hb => by
    have := cg_rng h (a := a) (b := b) (by omega) hb
    have h2 := h.r01 a b (by omega) hb
    unfold rC at h2
    omega


def acB (c : List (List Int)) (i j : Nat) : Bool := decide (rC c i j = 0) == evn i j
def dnB (c : List (List Int)) (i j : Nat) : Bool := decide (qC c i j = 1) == evn i j
def bt (k l : Nat) (f : Nat → Nat → Bool) : List (List Bool) := (List.range k).map fun i => (List.range l).map (f i)
def acT (n : Nat) (c : List (List Int)) : List (List Bool) := bt n (n + 1) (acB c)
def dnT (n : Nat) (c : List (List Int)) : List (List Bool) := bt (n + 1) n (dnB c)
theorem bt_len (k l : Nat) (f : Nat → Nat → Bool) : (bt k l f).length = k := by simp [bt]
theorem bt_row {k l : Nat} (f : Nat → Nat → Bool) (h : i < k) : (bt k l f).getD i [] = (List.range l).map (f i) := range_map_getD _ _ h
theorem bt_rlen {k l : Nat} (f : Nat → Nat → Bool) (h : i < k) : ((bt k l f).getD i []).length = l := by rw [bt_row f h]; simp
theorem bt_cell {k l : Nat} (f : Nat → Nat → Bool) (h : i < k) (h' : j < l) : ((bt k l f).getD i []).getD j false = f i j := by
  rw [bt_row f h, range_map_getD _ _ h']
theorem bt_of {k l : Nat} {f : Nat → Nat → Bool} {t : List (List Bool)} (h0 : t.length = k) (h1 : ∀ i, i < k → (t.getD i []).length = l) (h2 : ∀ i, i < k → ∀ j, j < l → (t.getD i []).getD j false = f i j) : t = bt k l f := by
  refine ext_getD [] (by rw [bt_len]; exact h0) fun i hi => ?_
  refine ext_getD false (by rw [bt_rlen f (by omega)]; exact h1 i (by omega)) fun j hj => ?_
  have := h1 i (by omega)
  rw [bt_cell f (by omega) (by omega), h2 i (by omega) j (by omega)]
theorem bt_set {k l : Nat} {f : Nat → Nat → Bool} (hi : i < k) (hj : j < l) (v : Bool) : (bt k l f).set i (((bt k l f).getD i []).set j v) = bt k l fun a b => if a = i ∧ b = j then v else f a b := by
  refine bt_of (by rw [List.length_set, bt_len]) (fun a ha => ?_) fun a ha b hb => ?_
  · by_cases e : a = i
    · subst e; rw [getD_set_eq _ _ _ (by rw [bt_len]; exact ha), List.length_set, bt_rlen f ha]
    · rw [getD_set_ne _ _ _ e, bt_rlen f ha]
  · by_cases e : a = i
    · subst e
      rw [getD_set_eq _ _ _ (by rw [bt_len]; exact ha)]
      by_cases e2 : b = j
      · subst e2; rw [getD_set_eq _ _ _ (by rw [bt_rlen f ha]; exact hb), if_pos ⟨rfl, rfl⟩]
      · rw [getD_set_ne _ _ _ e2, bt_cell f ha hb, if_neg fun h => e2 h.2]
    · rw [getD_set_ne _ _ _ e, bt_cell f ha hb, if_neg fun h => e h.1]
theorem bt_congr {k l : Nat} {f g : Nat → Nat → Bool} (h : ∀ a, a < k → ∀ b, b < l → f a b = g a b) : bt k l f = bt k l g :=
  bt_of (bt_len ..) (fun _ ha => bt_rlen _ ha) fun a ha b hb => by rw [bt_cell _ ha hb, h a ha b hb]
theorem acB_flip {a b : Nat} {c' : List (List Int)} (h0 : rC c a b = 0 ∨ rC c a b = 1) (h : rC c' a b = 1 - rC c a b) : acB c' a b = !acB c a b := by
  unfold acB
  rw [h]
  rcases h0 with e | e <;> rw [e] <;> cases evn a b <;> decide
theorem dnB_flip {a b : Nat} {c' : List (List Int)} (h0 : qC c a b = 0 ∨ qC c a b = 1) (h : qC c' a b = 1 - qC c a b) : dnB c' a b = !dnB c a b := by
  unfold dnB
  rw [h]
  rcases h0 with e | e <;> rw [e] <;> cases evn a b <;> decide
theorem acT_step (h : GyOK n c) (hg : gcond c i j) (hi : i + 1 < n) (hj : j + 1 < n) :
    ((acT n c).set i (((acT n c).getD i []).set (j + 1) (!acB c i (j + 1)))).set (i + 1) ((((acT n c).set i (((acT n c).getD i []).set (j + 1) (!acB c i (j + 1)))).getD (i + 1) []).set (j + 1) (!acB c (i + 1) (j + 1))) = acT n (gstep c i j) := by
  unfold acT
  rw [bt_set (by omega) (by omega), bt_set (by omega) (by omega)]
  refine bt_congr fun a ha b hb => ?_
  have hr := rC_step h hg hi hj a b
  by_cases e1 : a = i + 1 ∧ b = j + 1
  · rw [if_pos e1]
    obtain ⟨rfl, rfl⟩ := e1
    rw [if_pos ⟨.inr rfl, rfl⟩] at hr
    exact (acB_flip (h.r01 _ _ (by omega) (by omega)) hr).symm
  · rw [if_neg e1]
    by_cases e2 : a = i ∧ b = j + 1
    · rw [if_pos e2]
      obtain ⟨rfl, rfl⟩ := e2
      rw [if_pos ⟨.inl rfl, rfl⟩] at hr
      exact (acB_flip (h.r01 _ _ (by omega) (by omega)) hr).symm
    · rw [if_neg e2]
      rw [if_neg (by omega)] at hr
      unfold acB
      rw [hr]
theorem dnT_step (h : GyOK n c) (hg : gcond c i j) (hi : i + 1 < n) (hj : j + 1 < n) :
    ((dnT n c).set (i + 1) (((dnT n c).getD (i + 1) []).set j (!dnB c (i + 1) j))).set (i + 1) ((((dnT n c).set (i + 1) (((dnT n c).getD (i + 1) []).set j (!dnB c (i + 1) j))).getD (i + 1) []).set (j + 1) (!dnB c (i + 1) (j + 1))) = dnT n (gstep c i j) := by
  unfold dnT
  rw [bt_set (by omega) (by omega), bt_set (by omega) (by omega)]
  refine bt_congr fun a ha b hb => ?_
  have hr := qC_step h hg hi hj a b
  by_cases e1 : a = i + 1 ∧ b = j + 1
  · rw [if_pos e1]
    obtain ⟨rfl, rfl⟩ := e1
    rw [if_pos ⟨rfl, .inr rfl⟩] at hr
    exact (dnB_flip (h.q01 _ _ (by omega) (by omega)) hr).symm
  · rw [if_neg e1]
    by_cases e2 : a = i + 1 ∧ b = j
    · rw [if_pos e2]
      obtain ⟨rfl, rfl⟩ := e2
      rw [if_pos ⟨rfl, .inl rfl⟩] at hr
      exact (dnB_flip (h.q01 _ _ (by omega) (by omega)) hr).symm
    · rw [if_neg e2]
      rw [if_neg (by omega)] at hr
      unfold dnB
      rw [hr]
theorem gcond_iff (h : GyOK n c) (hi : i + 1 < n) (hj : j + 1 < n) : gcond c i j ↔ acB c i (j + 1) = acB c (i + 1) (j + 1) ∧ dnB c (i + 1) j = dnB c (i + 1) (j + 1) ∧ acB c i (j + 1) ≠ dnB c (i + 1) j := by
  have h1 := h.r01 i (j + 1) (by omega) (by omega)
  have h2 := h.r01 (i + 1) (j + 1) (by omega) (by omega)
  have h3 := h.q01 (i + 1) j (by omega) (by omega)
  have h4 := h.q01 (i + 1) (j + 1) (by omega) (by omega)
  unfold gcond acB dnB
  rw [evn_s1, evn_s1, evn_s2]
  rcases h1 with e1 | e1 <;> rcases h2 with e2 | e2 <;> rcases h3 with e3 | e3 <;> rcases h4 with e4 | e4 <;> rw [e1, e2, e3, e4] <;> cases evn i j <;> decide
def hgh (c : List (List Int)) (i j : Nat) : Int := (i : Int) + (j : Int) - 2 * cg c i j
theorem gcond_hgh : gcond c i j ↔ hgh c (i + 1 + 1) (j + 1) = hgh c i (j + 1) ∧ hgh c (i + 1) j = hgh c i (j + 1) ∧ hgh c (i + 1) (j + 1 + 1) = hgh c i (j + 1) := by
  unfold gcond rC qC hgh
  omega
theorem gnew_hgh (h : GyOK n c) (hi : i + 1 < n) (hj : j + 1 < n) : (hgh c i (j + 1) < hgh c (i + 1) (j + 1) → gnew c i j = cg c (i + 1) (j + 1) + 1) ∧ (¬ hgh c i (j + 1) < hgh c (i + 1) (j + 1) → gnew c i j = cg c (i + 1) (j + 1) - 1) := by
  have h1 := h.r01 i (j + 1) (by omega) (by omega)
  unfold gnew
  unfold hgh
  have e : rC c i (j + 1) = cg c (i + 1) (j + 1) - cg c i (j + 1) := rfl
  constructor <;> intro hh
  · rw [if_pos (by omega)]
  · rw [if_neg (by omega)]
theorem sum_of_line (h : GyOK n c) {i j : Nat} (hi : i < n) (hj : j < n) : (if acB c i (j + 1) = evn i j then (1 : Int) else 0) = rC c i (j + 1) := by
  have h1 := h.r01 i (j + 1) hi (by omega)
  unfold acB
  rw [evn_s2]
  rcases h1 with e | e <;> rw [e] <;> cases evn i j <;> decide
theorem dd_of (a b : Nat) : dd c a b = rC c a (b + 1) - rC c a b := by
  unfold dd rC cg
  omega
theorem okC_of (h : GyOK n c) (hn : 1 ≤ n) (hn7 : n ≤ 7) : okC c := by
  refine ⟨by rw [h.len]; omega, by rw [h.len]; omega, fun a ha => ?_⟩
  rw [h.len] at ha ⊢
  refine ⟨h.row a ha, fun b hb => ?_⟩
  have := cg_rng h ha hb
  unfold cg at this
  omega
end
section
variable {m : List (List Int)}
theorem cs_col (h : signOK m) {j : Nat} (hj : j < m.length) : ∀ {k : Nat}, k ≤ m.length → cs m k (j + 1) - cs m k j = cp m k j
  | 0, _ => by rw [cp_zero]; rfl
  | k + 1, hk => by
    have ih := cs_col h hj (k := k) (by omega)
    rw [cs_succ, cs_succ, cp_succ j (by omega)]
    have := rs_succ (m := m) (i := k) (j := j) (by rw [(h.2.2.1 k (by omega)).1]; exact hj)
    unfold rs at this
    omega
theorem gyok_start (h : signOK m) : GyOK m.length (cornr m) where
  len := by unfold cornr; rw [mat_length]
  row i hi := by unfold cornr; rw [mat_row _ hi]; simp
  r01 i j hi hj := by
    unfold rC cg cornr
    rw [mat_cell _ (by omega) hj, mat_cell _ (by omega) hj, cs_succ]
    have := rs_rng h hi (show j ≤ m.length by omega)
    unfold rs at this
    omega
  q01 i j hi hj := by
    unfold qC cg cornr
    rw [mat_cell _ hi (by omega), mat_cell _ hi (by omega), cs_col h hj (by omega)]
    exact cp_rng h (by omega) hj
  z1 j := by
    unfold cg cornr
    rw [mat_row _ (by omega)]
    by_cases hj : j < m.length + 1
    · rw [range_map_getD _ _ hj]; rfl
    · rw [List.getD_eq_getElem?_getD, List.getElem?_eq_none (by simp; omega)]; rfl
  z2 i := by
    unfold cg cornr
    by_cases hi : i < m.length + 1
    · rw [mat_cell _ hi (by omega)]
      induction i with
      | zero => rfl
      | succ i ih => rw [cs_succ, ih (by omega)]; simp
    · rw [List.getD_eq_getElem?_getD (l := mat _ _), List.getElem?_eq_none (by rw [mat_length]; omega)]; rfl
theorem acB_start {i j : Nat} (hi : i < m.length) (hj : j < m.length + 1) : acB (cornr m) i j = hA m i j := by
  unfold acB hA rC cg cornr
  rw [mat_cell _ (by omega) hj, mat_cell _ (by omega) hj, cs_succ, show cs m i j + ((m.getD i []).take j).sum - cs m i j = rs m i j by unfold rs; omega]
theorem dnB_start (h : signOK m) {i j : Nat} (hi : i < m.length + 1) (hj : j < m.length) : dnB (cornr m) i j = vD m i j := by
  unfold dnB vD qC cg cornr
  rw [mat_cell _ hi (by omega), mat_cell _ hi (by omega), cs_col h hj (by omega)]
end
end Fer

namespace Fer

abbrev PMp := List ((Int × Int) × Int)
def incP (l : PMp) (k : Int × Int) : PMp := putP (entP l k) (idxP l k) (getP l k + 1)
theorem posP_none {k : Int × Int} : ∀ {l : PMp}, posP k l = none ↔ ∀ x ∈ l, x.1 ≠ k
  | [] => by simp [posP]
  | x :: l => by
    unfold posP
    by_cases e : x.1 = k
    · rw [if_pos e]; simp [e]
    · rw [if_neg e]
      simp only [Option.map_eq_none_iff, posP_none (l := l), List.mem_cons, forall_eq_or_imp]
      exact ⟨fun h => ⟨e, h⟩, fun h => h.2⟩
theorem posP_app {k : Int × Int} (x : (Int × Int) × Int) : ∀ (l : PMp), posP k (l ++ [x]) = match posP k l with | some j => some j | none => if x.1 = k then some l.length else none
  | [] => by simp [posP]
  | y :: l => by
    simp only [List.cons_append, posP, posP_app x l]
    by_cases e : y.1 = k
    · simp [e]
    · simp only [if_neg e]
      cases posP k l with
      | some j => rfl
      | none => by_cases e2 : x.1 = k <;> simp [e2]
theorem posP_set {k : Int × Int} (v : Int) : ∀ (l : PMp) (j : Nat), posP k (putP l j v) = posP k l
  | [], _ => by simp [putP]
  | x :: l, 0 => by simp [putP, posP]
  | x :: l, j + 1 => by
    have := posP_set (k := k) v l j
    unfold putP at *
    simp only [List.set_cons_succ, List.getD_cons_succ, posP, this]
theorem getP_put {l : PMp} {k : Int × Int} {j : Nat} (h : posP k l = some j) (v : Int) (k' : Int × Int) : getP (putP l j v) k' = if k' = k then v else getP l k' := by
  obtain ⟨hj, hk⟩ := posP_lt h
  unfold getP
  rw [posP_set]
  by_cases e : k' = k
  · subst e
    rw [if_pos rfl, h]
    simp only
    unfold putP
    rw [List.getD_eq_getElem?_getD, List.getElem?_set_self hj]
    rfl
  · rw [if_neg e]
    cases hp : posP k' l with
    | none => rfl
    | some q =>
      simp only
      have hqj : q ≠ j := fun hh => by
        subst hh
        exact e ((posP_lt hp).2.symm.trans hk)
      unfold putP
      rw [List.getD_eq_getElem?_getD, List.getElem?_set_ne (Ne.symm hqj)]
      rfl
theorem ent_pos (l : PMp) (k : Int × Int) : posP k (entP l k) = some (idxP l k) ∧ idxP l k < (entP l k).length := by
  unfold entP idxP
  cases hp : posP k l with
  | some j => exact ⟨hp, (posP_lt hp).1⟩
  | none =>
    constructor
    · rw [posP_app, hp]; simp
    · simp
theorem getP_ent (l : PMp) (k k' : Int × Int) : getP (entP l k) k' = getP l k' := by
  unfold entP
  cases hp : posP k l with
  | some j => rfl
  | none =>
    simp only
    unfold getP
    rw [posP_app]
    cases hp2 : posP k' l with
    | some j =>
      have := (posP_lt hp2).1
      simp only
      rw [List.getD_eq_getElem?_getD, List.getD_eq_getElem?_getD, List.getElem?_append_left this]
    | none =>
      simp only
      by_cases e : k = k'
      · subst e; simp
      · rw [if_neg e]
theorem getP_inc (l : PMp) (k k' : Int × Int) : getP (incP l k) k' = if k' = k then getP l k + 1 else getP l k' := by
  unfold incP
  rw [getP_put (ent_pos l k).1, getP_ent]
theorem keys_put (l : PMp) (j : Nat) (v : Int) : (putP l j v).map (·.1) = l.map (·.1) := by
  unfold putP
  refine List.ext_getElem? fun i => ?_
  simp only [List.getElem?_map, List.getElem?_set]
  by_cases e : j = i
  · subst e
    rw [if_pos rfl]
    split
    · rename_i h
      rw [List.getElem?_eq_getElem h, List.getD_eq_getElem?_getD, List.getElem?_eq_getElem h]
      rfl
    · rename_i h
      rw [List.getElem?_eq_none (by omega)]
  · rw [if_neg e]
theorem keys_inc (l : PMp) (k : Int × Int) : (incP l k).map (·.1) = if k ∈ l.map (·.1) then l.map (·.1) else l.map (·.1) ++ [k] := by
  unfold incP
  rw [keys_put]
  unfold entP
  cases hp : posP k l with
  | some j =>
    obtain ⟨hj, hk⟩ := posP_lt hp
    rw [if_pos]
    refine List.mem_map.2 ⟨l.getD j ((0, 0), 0), ?_, hk⟩
    rw [List.getD_eq_getElem?_getD, List.getElem?_eq_getElem hj]
    exact List.getElem_mem hj
  | none =>
    rw [if_neg]
    · simp
    · intro hm
      obtain ⟨x, hx, e⟩ := List.mem_map.1 hm
      exact posP_none.1 hp x hx e


def drI (b : Bool) (l : PMp) (k : Int × Int) : PMp := if b = true then incP l k else l
def drC (m : List (List Int)) (i j : Nat) (l : PMp) : PMp :=
  drI (vD m (i + 1) j) (drI (vD m i j) (drI (hA m i (j + 1)) (drI (hA m i j) l (2 * (i : Int), 2 * (j : Int) - 1)) (2 * (i : Int), 2 * (j : Int) + 1)) (2 * (i : Int) - 1, 2 * (j : Int))) (2 * (i : Int) + 1, 2 * (j : Int))
def drR (m : List (List Int)) (i : Nat) (l : PMp) : Nat → PMp
  | 0 => l
  | j + 1 => drC m i j (drR m i l j)
def drP (m : List (List Int)) : Nat → PMp
  | 0 => []
  | i + 1 => drR m i (drP m i) m.length
def drwL (m : List (List Int)) : PMp := drP m m.length

def smallP (n : Int) (l : PMp) : Prop := ∀ k, 0 ≤ getP l k ∧ getP l k ≤ n
theorem small_nil : smallP 0 [] := fun k => by simp [getP, posP]
theorem small_drI {n : Int} {l : PMp} (h : smallP n l) (b : Bool) (k : Int × Int) : smallP (n + 1) (drI b l k) := fun k' => by
  have h1 := h k'
  have h2 := h k
  unfold drI
  split
  · rw [getP_inc]; split <;> omega
  · omega
theorem small_drC {m : List (List Int)} {i j : Nat} {n : Int} {l : PMp} (h : smallP n l) : smallP (n + 4) (drC m i j l) := by
  have := small_drI (small_drI (small_drI (small_drI h (hA m i j) (2 * (i : Int), 2 * (j : Int) - 1)) (hA m i (j + 1)) (2 * (i : Int), 2 * (j : Int) + 1)) (vD m i j) (2 * (i : Int) - 1, 2 * (j : Int))) (vD m (i + 1) j) (2 * (i : Int) + 1, 2 * (j : Int))
  rw [show n + 1 + 1 + 1 + 1 = n + 4 by omega] at this
  exact this
theorem small_drR {m : List (List Int)} {i : Nat} {n : Int} {l : PMp} (h : smallP n l) : ∀ j : Nat, smallP (n + 4 * (j : Int)) (drR m i l j)
  | 0 => by
    rw [show n + 4 * ((0 : Nat) : Int) = n by omega]
    exact h
  | j + 1 => by
    have := small_drC (m := m) (i := i) (j := j) (l := drR m i l j) (small_drR (m := m) (i := i) h j)
    rw [show n + 4 * ((j + 1 : Nat) : Int) = n + 4 * (j : Int) + 4 by omega]
    exact this
theorem small_drP {m : List (List Int)} (hm : m.length ≤ 7) : ∀ i : Nat, smallP (28 * (i : Int)) (drP m i)
  | 0 => small_nil
  | i + 1 => fun k => by
    have := small_drR (m := m) (i := i) (small_drP hm i) m.length k
    constructor
    · exact this.1
    · have := this.2
      show getP (drR m i (drP m i) m.length) k ≤ _
      omega
theorem mem_drI {b : Bool} {l : PMp} {k k' : Int × Int} : k' ∈ (drI b l k).map (·.1) ↔ k' ∈ l.map (·.1) ∨ (b = true ∧ k' = k) := by
  unfold drI
  split
  · rename_i hb
    rw [keys_inc]
    split
    · rename_i hm
      exact ⟨.inl, fun h => h.elim id fun h => h.2 ▸ hm⟩
    · rw [List.mem_append, List.mem_singleton]
      simp [hb]
  · rename_i hb
    simp [hb]
theorem nod_drI {b : Bool} {l : PMp} {k : Int × Int} (h : (l.map (·.1)).Nodup) : ((drI b l k).map (·.1)).Nodup := by
  unfold drI
  split
  · rw [keys_inc]
    split
    · exact h
    · rename_i hm
      exact List.nodup_append.2 ⟨h, by simp, fun a ha c hc e => hm (by rw [List.mem_singleton.1 hc] at e; exact e ▸ ha)⟩
  · exact h
def exactP (l : PMp) : Prop := ∀ k, k ∈ l.map (·.1) ↔ 0 < getP l k
theorem exact_nil : exactP [] := fun k => by simp [getP, posP]
theorem exact_drI {n : Int} {l : PMp} (h : exactP l) (hs : smallP n l) (b : Bool) (k : Int × Int) : exactP (drI b l k) := fun k' => by
  rw [mem_drI, h k']
  have h1 := hs k'
  have h2 := hs k
  unfold drI
  cases b with
  | false => simp
  | true =>
    simp only [if_true, getP_inc, true_and]
    by_cases e : k' = k
    · subst e
      rw [if_pos rfl]
      constructor
      · intro _; omega
      · intro _; exact .inr rfl
    · rw [if_neg e]
      exact ⟨fun h => h.elim id fun h => absurd h e, .inl⟩
end Fer

namespace Fer

def keyP (l : PMp) : List (Int × Int) := l.map (·.1)
structure GoodP (l : PMp) : Prop where
  nod : (keyP l).Nodup
  ex : exactP l
theorem good_nil : GoodP [] := ⟨List.nodup_nil, exact_nil⟩
theorem good_drI {n : Int} {l : PMp} (h : GoodP l) (hs : smallP n l) (b : Bool) (k : Int × Int) : GoodP (drI b l k) := ⟨nod_drI h.nod, exact_drI h.ex hs b k⟩
theorem good_drC {m : List (List Int)} {i j : Nat} {n : Int} {l : PMp} (h : GoodP l) (hs : smallP n l) : GoodP (drC m i j l) := by
  have s1 := small_drI hs (hA m i j) (2 * (i : Int), 2 * (j : Int) - 1)
  have s2 := small_drI s1 (hA m i (j + 1)) (2 * (i : Int), 2 * (j : Int) + 1)
  have s3 := small_drI s2 (vD m i j) (2 * (i : Int) - 1, 2 * (j : Int))
  exact good_drI (good_drI (good_drI (good_drI h hs _ _) s1 _ _) s2 _ _) s3 _ _
theorem good_drR {m : List (List Int)} {i : Nat} {n : Int} {l : PMp} (h : GoodP l) (hs : smallP n l) : ∀ j : Nat, GoodP (drR m i l j)
  | 0 => h
  | j + 1 => good_drC (m := m) (i := i) (j := j) (l := drR m i l j) (good_drR h hs j) (small_drR (m := m) (i := i) hs j)
theorem good_drP {m : List (List Int)} (hm : m.length ≤ 7) : ∀ i : Nat, GoodP (drP m i)
  | 0 => good_nil
  | i + 1 => good_drR (m := m) (i := i) (good_drP hm i) (small_drP hm i) m.length
theorem mem_drC {m : List (List Int)} {i j : Nat} {l : PMp} {k : Int × Int} : k ∈ keyP (drC m i j l) ↔ k ∈ keyP l ∨ ∃ w, w < 4 ∧ drw m ((i, j), w) = true ∧ lnD ((i, j), w) = k := by
  unfold keyP drC
  rw [mem_drI, mem_drI, mem_drI, mem_drI]
  constructor
  · rintro ((((h | h) | h) | h) | h)
    · exact .inl h
    · exact .inr ⟨0, by omega, h.1, h.2.symm⟩
    · exact .inr ⟨2, by omega, h.1, h.2.symm⟩
    · exact .inr ⟨3, by omega, h.1, h.2.symm⟩
    · exact .inr ⟨1, by omega, h.1, h.2.symm⟩
  · rintro (h | ⟨w, hw, h1, h2⟩)
    · exact .inl (.inl (.inl (.inl h)))
    · have hw : w = 0 ∨ w = 1 ∨ w = 2 ∨ w = 3 := by omega
      rcases hw with rfl | rfl | rfl | rfl
      · exact .inl (.inl (.inl (.inr ⟨h1, h2.symm⟩)))
      · exact .inr ⟨h1, h2.symm⟩
      · exact .inl (.inl (.inr ⟨h1, h2.symm⟩))
      · exact .inl (.inr ⟨h1, h2.symm⟩)
theorem mem_drR {m : List (List Int)} {i : Nat} {l : PMp} {k : Int × Int} : ∀ {j : Nat}, k ∈ keyP (drR m i l j) ↔ k ∈ keyP l ∨ ∃ q w, q < j ∧ w < 4 ∧ drw m ((i, q), w) = true ∧ lnD ((i, q), w) = k
  | 0 => ⟨.inl, fun h => h.elim id fun ⟨_, _, h, _⟩ => absurd h (Nat.not_lt_zero _)⟩
  | j + 1 => by
    show k ∈ keyP (drC m i j (drR m i l j)) ↔ _
    rw [mem_drC, mem_drR (j := j)]
    constructor
    · rintro ((h | ⟨q, w, h1, h2⟩) | ⟨w, h⟩)
      · exact .inl h
      · exact .inr ⟨q, w, by omega, h2⟩
      · exact .inr ⟨j, w, by omega, h⟩
    · rintro (h | ⟨q, w, h1, h2⟩)
      · exact .inl (.inl h)
      · by_cases e : q = j
        · subst e; exact .inr ⟨w, h2⟩
        · exact .inl (.inr ⟨q, w, by omega, h2⟩)
theorem mem_drP {m : List (List Int)} {k : Int × Int} : ∀ {i : Nat}, k ∈ keyP (drP m i) ↔ ∃ a q w, a < i ∧ q < m.length ∧ w < 4 ∧ drw m ((a, q), w) = true ∧ lnD ((a, q), w) = k
  | 0 => by
    constructor
    · intro h; cases h
    · rintro ⟨_, _, _, h, _⟩; exact absurd h (Nat.not_lt_zero _)
  | i + 1 => by
    show k ∈ keyP (drR m i (drP m i) m.length) ↔ _
    rw [mem_drR, mem_drP (i := i)]
    constructor
    · rintro (⟨a, q, w, h1, h2⟩ | ⟨q, w, h⟩)
      · exact ⟨a, q, w, by omega, h2⟩
      · exact ⟨i, q, w, by omega, h⟩
    · rintro ⟨a, q, w, h1, h2⟩
      by_cases e : a = i
      · subst e; exact .inr ⟨q, w, h2⟩
      · exact .inl ⟨a, q, w, by omega, h2⟩
theorem mem_drwL {m : List (List Int)} {k : Int × Int} : k ∈ keyP (drwL m) ↔ ∃ v, drX m v ∧ lnD v = k := by
  unfold drwL
  rw [mem_drP]
  constructor
  · rintro ⟨a, q, w, h1, h2, h3, h4, h5⟩
    exact ⟨((a, q), w), ⟨h1, h2, h3, h4⟩, h5⟩
  · rintro ⟨⟨⟨a, q⟩, w⟩, ⟨h1, h2, h3, h4⟩, h5⟩
    exact ⟨a, q, w, h1, h2, h3, h4, h5⟩
theorem drwL_pos {m : List (List Int)} (h : signOK m) {i j w : Nat} (hi : i < m.length) (hj : j < m.length) (hw : w < 4) : 0 < getP (drwL m) (lnD ((i, j), w)) ↔ drw m ((i, j), w) = true := by
  have hg : GoodP (drwL m) := good_drP (m := m) h.2.1 m.length
  rw [← hg.ex]
  constructor
  · intro hk
    obtain ⟨v, hv, e⟩ := mem_drwL.1 (show lnD ((i, j), w) ∈ keyP (drwL m) from hk)
    obtain ⟨⟨a, q⟩, u⟩ := v
    obtain ⟨h1, h2, h3, h4⟩ := hv
    simp only at h1 h2 h3
    have hw : w = 0 ∨ w = 1 ∨ w = 2 ∨ w = 3 := by omega
    have hu : u = 0 ∨ u = 1 ∨ u = 2 ∨ u = 3 := by omega
    rcases hw with rfl | rfl | rfl | rfl <;> rcases hu with rfl | rfl | rfl | rfl <;> simp only [lnD, Prod.mk.injEq] at e <;>
      first
        | (exfalso; omega)
        | (obtain rfl : a = i := by omega
           obtain rfl : q = j := by omega
           exact h4)
        | (obtain rfl : a = i := by omega
           obtain rfl : j = q + 1 := by omega
           exact h4)
        | (obtain rfl : a = i := by omega
           obtain rfl : q = j + 1 := by omega
           exact h4)
        | (obtain rfl : q = j := by omega
           obtain rfl : i = a + 1 := by omega
           exact h4)
        | (obtain rfl : q = j := by omega
           obtain rfl : a = i + 1 := by omega
           exact h4)
  · intro hd
    exact mem_drwL.2 ⟨((i, j), w), ⟨hi, hj, hw, hd⟩, rfl⟩
end Fer

namespace Fer

def labL (d : PMp) (seen : List Nat) : PMp := seen.zipIdx.map fun x => ((d.getD x.1 ((0, 0), 0)).1, (x.2 : Int))
theorem len_labL (d : PMp) (seen : List Nat) : (labL d seen).length = seen.length := by simp [labL]
theorem labL_snoc (d : PMp) (seen : List Nat) (j : Nat) : labL d (seen ++ [j]) = labL d seen ++ [((d.getD j ((0, 0), 0)).1, (seen.length : Int))] := by
  unfold labL
  rw [List.zipIdx_append, List.map_append]
  simp
theorem key_inj {d : PMp} (h : (keyP d).Nodup) {i j : Nat} (hi : i < d.length) (hj : j < d.length) (e : (d.getD i ((0, 0), 0)).1 = (d.getD j ((0, 0), 0)).1) : i = j := by
  have h : (d.map (·.1)).Nodup := h
  have hi' : i < (d.map (·.1)).length := by simpa using hi
  have hj' : j < (d.map (·.1)).length := by simpa using hj
  refine (List.getElem_inj (h₀ := hi') (h₁ := hj') h).1 ?_
  rw [List.getElem_map, List.getElem_map]
  rw [List.getD_eq_getElem?_getD, List.getD_eq_getElem?_getD, List.getElem?_eq_getElem hi, List.getElem?_eq_getElem hj] at e
  exact e
theorem labL_set {d : PMp} (h : (keyP d).Nodup) {seen : List Nat} (hs : ∀ q ∈ seen, q < d.length) {j : Nat} (hj : j < d.length) (hn : j ∉ seen) :
    setP (labL d seen) (d.getD j ((0, 0), 0)).1 (seen.length : Int) = labL d (seen ++ [j]) := by
  have hp : posP (d.getD j ((0, 0), 0)).1 (labL d seen) = none := posP_none.2 fun x hx e => by
    obtain ⟨y, hy, rfl⟩ := List.mem_map.1 hx
    have hm : y.1 ∈ seen := by
      obtain ⟨i, a⟩ := y
      have := List.mem_zipIdx hy
      obtain ⟨_, h2, h3⟩ := this
      simp only at h3 ⊢
      rw [h3]
      exact List.getElem_mem _
    exact hn (by rw [← key_inj h (hs _ hm) hj e]; exact hm)
  unfold setP
  rw [hp, labL_snoc]
theorem glast {α : Type} (l : List α) (a : α) : (l ++ [a]).getLast? = some a := by simp
end Fer

namespace Fer

def updP (P : PMp) (k : Int × Int) (v : Int) : PMp := putP (entP P k) (idxP P k) v
theorem getP_upd (P : PMp) (k : Int × Int) (v : Int) (k' : Int × Int) : getP (updP P k v) k' = if k' = k then v else getP P k' := by
  unfold updP
  rw [getP_put (ent_pos P k).1, getP_ent]
theorem pos_mem {P : PMp} {k : Int × Int} (h : k ∈ keyP P) : ∃ j, posP k P = some j := by
  cases hp : posP k P with
  | some j => exact ⟨j, rfl⟩
  | none =>
    obtain ⟨x, hx, e⟩ := List.mem_map.1 h
    exact absurd e (posP_none.1 hp x hx)
theorem ent_mem {P : PMp} {k : Int × Int} (h : k ∈ keyP P) : entP P k = P := by
  obtain ⟨j, hj⟩ := pos_mem h
  unfold entP
  rw [hj]
theorem keys_upd {P : PMp} {k : Int × Int} (h : k ∈ keyP P) (v : Int) : keyP (updP P k v) = keyP P := by
  unfold updP keyP
  rw [keys_put, ent_mem h]
def sumP (P : PMp) : Int := (P.map (·.2)).sum
theorem sum_put : ∀ (P : PMp) (j : Nat) (v : Int), j < P.length → sumP (putP P j v) = sumP P - (P.getD j ((0, 0), 0)).2 + v
  | [], j, v, h => by simp at h
  | x :: P, 0, v, _ => by simp [sumP, putP]; omega
  | x :: P, j + 1, v, h => by
    have := sum_put P j v (by simpa using h)
    unfold sumP putP at *
    simp only [List.set_cons_succ, List.getD_cons_succ, List.map_cons, List.sum_cons] at *
    omega
theorem sum_upd {P : PMp} {k : Int × Int} (h : k ∈ keyP P) (v : Int) : sumP (updP P k v) = sumP P - getP P k + v := by
  obtain ⟨j, hj⟩ := pos_mem h
  unfold updP
  rw [ent_mem h]
  have e : idxP P k = j := by unfold idxP; rw [hj]; rfl
  have e2 : getP P k = (P.getD j ((0, 0), 0)).2 := by unfold getP; rw [hj]
  rw [e, sum_put P j v (posP_lt hj).1, e2]
def joinP (P : PMp) (k0 k1 : Int × Int) : PMp := updP (updP P k0 (min (getP P k0) (getP P k1))) k1 (min (getP P k0) (getP P k1))
theorem getP_join (P : PMp) (k0 k1 k : Int × Int) : getP (joinP P k0 k1) k = if k = k1 then min (getP P k0) (getP P k1) else if k = k0 then min (getP P k0) (getP P k1) else getP P k := by
  unfold joinP
  rw [getP_upd, getP_upd]
theorem keys_join {P : PMp} {k0 k1 : Int × Int} (h0 : k0 ∈ keyP P) (h1 : k1 ∈ keyP P) : keyP (joinP P k0 k1) = keyP P := by
  unfold joinP
  rw [keys_upd (by rw [keys_upd h0]; exact h1), keys_upd h0]
theorem sum_join {P : PMp} {k0 k1 : Int × Int} (h0 : k0 ∈ keyP P) (h1 : k1 ∈ keyP P) (hne : k0 ≠ k1) (hd : getP P k0 ≠ getP P k1) : sumP (joinP P k0 k1) < sumP P := by
  unfold joinP
  rw [sum_upd (by rw [keys_upd h0]; exact h1), sum_upd h0, getP_upd, if_neg (Ne.symm hne)]
  omega
def inP (n : Int) (P : PMp) : Prop := ∀ k, 0 ≤ getP P k ∧ getP P k ≤ n
theorem in_join {n : Int} {P : PMp} (h : inP n P) (k0 k1 : Int × Int) : inP n (joinP P k0 k1) := fun k => by
  have a := h k0
  have b := h k1
  have c := h k
  rw [getP_join]
  split
  · omega
  · split <;> omega
theorem sum_nonneg {n : Int} : ∀ {P : PMp}, (keyP P).Nodup → inP n P → 0 ≤ sumP P
  | [], _, _ => by simp [sumP]
  | x :: P, hn, h => by
    have hn' : x.1 ∉ keyP P ∧ (keyP P).Nodup := List.nodup_cons.1 hn
    have hP : inP n P := fun k => by
      by_cases e : x.1 = k
      · have : posP k P = none := posP_none.2 fun y hy e2 => hn'.1 (by rw [e, ← e2]; exact List.mem_map.2 ⟨y, hy, rfl⟩)
        have h0 : getP P k = 0 := by unfold getP; rw [this]
        have := h x.1
        rw [h0]
        omega
      · have h1 := h k
        have e4 : posP k (x :: P) = (posP k P).map (· + 1) := if_neg e
        have e3 : getP (x :: P) k = getP P k := by
          unfold getP
          rw [e4]
          cases posP k P with
          | none => rfl
          | some j => simp
        rw [e3] at h1
        exact h1
    have ih := sum_nonneg hn'.2 hP
    have hx : getP (x :: P) x.1 = x.2 := by unfold getP; rw [show posP x.1 (x :: P) = some 0 from if_pos rfl]; rfl
    have := h x.1
    rw [hx] at this
    unfold sumP at *
    simp only [List.map_cons, List.sum_cons]
    omega
theorem labL_keys {d : PMp} {seen : List Nat} : keyP (labL d seen) = seen.map fun j => (d.getD j ((0, 0), 0)).1 := by
  unfold keyP labL
  rw [List.map_map]
  refine List.ext_getElem? fun i => ?_
  simp only [List.getElem?_map, List.getElem?_zipIdx]
  cases seen[i]? <;> rfl
theorem labL_in (d : PMp) : ∀ seen : List Nat, inP (seen.length : Int) (labL d seen) := fun seen k => by
  unfold getP
  cases hp : posP k (labL d seen) with
  | none => simp
  | some j =>
    obtain ⟨hj, _⟩ := posP_lt hp
    simp only
    have e : ((labL d seen).getD j ((0, 0), 0)).2 = (j : Int) := by
      rw [List.getD_eq_getElem?_getD, List.getElem?_eq_getElem hj]
      unfold labL
      simp
    rw [len_labL] at hj
    rw [e]
    omega
theorem labL_val {d : PMp} {seen : List Nat} {k : Int × Int} {j : Nat} (hp : posP k (labL d seen) = some j) : getP (labL d seen) k = (j : Int) := by
  obtain ⟨hj, _⟩ := posP_lt hp
  unfold getP
  rw [hp]
  simp only
  rw [List.getD_eq_getElem?_getD, List.getElem?_eq_getElem hj]
  unfold labL
  simp
theorem labL_inj {d : PMp} {seen : List Nat} {k k' : Int × Int} (h : k ∈ keyP (labL d seen)) (h' : k' ∈ keyP (labL d seen)) (e : getP (labL d seen) k = getP (labL d seen) k') : k = k' := by
  obtain ⟨j, hj⟩ := pos_mem h
  obtain ⟨j', hj'⟩ := pos_mem h'
  rw [labL_val hj, labL_val hj'] at e
  have e : j = j' := by omega
  subst e
  exact (posP_lt hj).2.symm.trans (posP_lt hj').2
end Fer

namespace Fer

theorem two_lines {m : List (List Int)} (h : signOK m) {i j : Nat} (hi : i < m.length) (hj : j < m.length) :
    ∃ d : Dart, drX m d ∧ d.1 = (i, j) ∧ ([lnD ((i, j), 0), lnD ((i, j), 2), lnD ((i, j), 3), lnD ((i, j), 1)].filter fun k => decide (0 < getP (drwL m) k)) = [lnD d, lnD (mat4 m d)] := by
  have hp : ∀ w, w < 4 → decide (0 < getP (drwL m) (lnD ((i, j), w))) = drw m ((i, j), w) := fun w hw => by
    have := drwL_pos h hi hj hw
    cases hd : drw m ((i, j), w) with
    | true => exact decide_eq_true (this.2 hd)
    | false => exact decide_eq_false fun hh => by rw [this.1 hh] at hd; cases hd
  have h0 := hp 0 (by omega)
  have h1 := hp 1 (by omega)
  have h2 := hp 2 (by omega)
  have h3 := hp 3 (by omega)
  obtain ⟨x, y, x', y', e, hs, e0, e1, e2, e3⟩ := drw_four h hi hj
  have key : ∀ w w' : Nat, w < 4 → drw m ((i, j), w) = true → las4 (x == e) (y' == !e) (x' == !e) (y == e) w = w' → drX m ((i, j), w) ∧ mat4 m ((i, j), w) = ((i, j), w') := fun w w' hw hd hl =>
    ⟨⟨hi, hj, hw, hd⟩, by simp only [mat4, e0, e1, e2, e3, hl]⟩
  have d0 : drw m ((i, j), 0) = (x == e) := by simp only [drw, e0]; rfl
  have d1 : drw m ((i, j), 1) = (y' == !e) := by simp only [drw, e1]; rfl
  have d2 : drw m ((i, j), 2) = (x' == !e) := by simp only [drw, e2]; rfl
  have d3 : drw m ((i, j), 3) = (y == e) := by simp only [drw, e3]; rfl
  simp only [List.filter_cons, List.filter_nil, h0, h1, h2, h3]
  have fin : ∀ w w' : Nat, w < 4 → drw m ((i, j), w) = true → las4 (x == e) (y' == !e) (x' == !e) (y == e) w = w' →
      ∃ d : Dart, drX m d ∧ d.1 = (i, j) ∧ [lnD ((i, j), w), lnD ((i, j), w')] = [lnD d, lnD (mat4 m d)] := fun w w' hw hd hl => by
    obtain ⟨k1, k2⟩ := key w w' hw hd hl
    exact ⟨((i, j), w), k1, rfl, by rw [k2]⟩
  rw [d0, d1, d2, d3]
  cases x <;> cases y <;> cases x' <;> cases y' <;> cases e <;>
    first
      | exact absurd hs (by decide)
      | exact fin 0 2 (by omega) d0 rfl
      | exact fin 0 3 (by omega) d0 rfl
      | exact fin 0 1 (by omega) d0 rfl
      | exact fin 2 3 (by omega) d2 rfl
      | exact fin 2 1 (by omega) d2 rfl
      | exact fin 3 1 (by omega) d3 rfl
theorem ln_ne {m : List (List Int)} (h : signOK m) {d : Dart} (hd : drX m d) : lnD d ≠ lnD (mat4 m d) := fun e => by
  obtain ⟨h1, _, h3, _⟩ := mat4_ok h hd
  rcases ln_inj hd h1 e with e1 | ⟨hE, e1⟩
  · exact h3 e1.symm
  · have hp : (flp4 d).1 = d.1 := by rw [← e1]; rfl
    obtain ⟨⟨i, j⟩, c⟩ := d
    have hc : c = 0 ∨ c = 1 ∨ c = 2 ∨ c = 3 := by have := hd.2.2.1; simp only at this; omega
    unfold drE at hE
    simp only at hE
    rcases hc with rfl | rfl | rfl | rfl <;> simp only [flp4, Prod.mk.injEq] at hp <;> omega
theorem place_all {m : List (List Int)} (h : signOK m) {d v : Dart} (hd : drX m d) (hv : drX m v) (e : v.1 = d.1) : v = d ∨ v = mat4 m d := by
  obtain ⟨vp, w⟩ := v
  simp only at e
  subst e
  rcases (mat4_ok h hd).2.2.2 w hv.2.2.1 hv.2.2.2 with e | e
  · left; rw [e]
  · right; rw [e]; rfl
end Fer

namespace Fer

def rowA (m : List (List Int)) (i j : Nat) : List Bool := (List.range (j + 1)).map (hA m i)
def aT (m : List (List Int)) (i : Nat) : List (List Bool) := (List.range m.length).map fun a => if a < i then rowA m a m.length else []
def rowD (m : List (List Int)) (i j : Nat) : List Bool := (List.range m.length).map fun q => if q < j then vD m (i + 1) q else false
def dT (m : List (List Int)) (i : Nat) : List (List Bool) := (List.range (m.length + 1)).map fun a => if a ≤ i then (List.range m.length).map (vD m a) else []
def cS (m : List (List Int)) (i j : Nat) : List Int := (List.range m.length).map fun q => if q < j then cp m (i + 1) q else cp m i q
def d00 (n j : Nat) : List Bool := (List.range n).map fun q => if q < j then decide (q % 2 = 1) else false
section
variable {m : List (List Int)} {i j : Nat}
theorem aT_len : (aT m i).length = m.length := by simp [aT]
theorem dT_len : (dT m i).length = m.length + 1 := by simp [dT]
theorem rowA_len : (rowA m i j).length = j + 1 := by simp [rowA]
theorem rowD_len : (rowD m i j).length = m.length := by simp [rowD]
theorem cS_len : (cS m i j).length = m.length := by simp [cS]
theorem d00_len {n : Nat} : (d00 n j).length = n := by simp [d00]
theorem range_set {α : Type} {n k : Nat} {f g : Nat → α} {v : α} (hk : k < n) (h : ∀ a, a < n → a ≠ k → f a = g a) (hv : v = g k) : ((List.range n).map f).set k v = (List.range n).map g := by
  refine List.ext_getElem (by simp) fun a h1 h2 => ?_
  have ha : a < n := by simpa using h1
  rw [List.getElem_set]
  split
  · rename_i e; subst e; simp [hv]
  · rename_i e; simp [h a ha (Ne.symm e)]
theorem aT_zero : aT m 0 = List.replicate m.length [] := by
  unfold aT
  rw [← List.length_range (n := m.length), ← List.map_const']
  simp
theorem aT_get (hi : i < m.length) : (aT m i).getD i [] = [] := (range_map_getD _ _ hi).trans (if_neg (by omega))
theorem aT_set (hi : i < m.length) : (aT m i).set i (rowA m i m.length) = aT m (i + 1) :=
  range_set hi (fun a _ hne => by
    by_cases h : a < i
    · rw [if_pos h, if_pos (by omega)]
    · rw [if_neg h, if_neg (by omega)]) (by rw [if_pos (by omega)])
theorem aT_end : aT m m.length = acT m.length (cornr m) := by
  unfold aT acT bt
  refine List.map_congr_left fun a ha => ?_
  have ha := List.mem_range.1 ha
  rw [if_pos ha]
  unfold rowA
  refine List.map_congr_left fun b hb => ?_
  exact (acB_start ha (List.mem_range.1 hb)).symm
theorem rowA_zero : rowA m i 0 = [decide (i % 2 = 0)] := by
  unfold rowA hA evn
  simp [rs_zero]
theorem rowA_zero' : rowA m i 0 = [decide ((i : Int).tmod 2 = 0)] := by
  rw [rowA_zero, show (i : Int).tmod 2 = ((i % 2 : Nat) : Int) from rfl]
  congr 2
  exact propext (by omega)
theorem rowA_succ : rowA m i (j + 1) = rowA m i j ++ [hA m i (j + 1)] := by
  unfold rowA
  rw [List.range_succ, List.map_append]; rfl
theorem hA_prog (h : signOK m) (hi : i < m.length) (hj : j < m.length) : (decide (rs m i (j + 1) = 1) == evn i j) = hA m i (j + 1) := by
  unfold hA
  rw [evn_s2]
  rcases rs_rng h hi (show j + 1 ≤ m.length by omega) with e | e <;> rw [e] <;> cases evn i j <;> decide
theorem vD_prog (h : signOK m) (hi : i < m.length) (hj : j < m.length) : (decide (cp m (i + 1) j = 0) == evn i j) = vD m (i + 1) j := by
  unfold vD
  rw [evn_s1]
  rcases cp_rng h (show i + 1 ≤ m.length by omega) hj with e | e <;> rw [e] <;> cases evn i j <;> decide
theorem rowD_zero : rowD m i 0 = List.replicate m.length false := by
  unfold rowD
  rw [← List.length_range (n := m.length), ← List.map_const']
  simp
theorem rowD_set (hj : j < m.length) : (rowD m i j).set j (vD m (i + 1) j) = rowD m i (j + 1) :=
  range_set hj (fun a _ hne => by
    by_cases h : a < j
    · rw [if_pos h, if_pos (by omega)]
    · rw [if_neg h, if_neg (by omega)]) (by rw [if_pos (by omega)])
theorem rowD_full : rowD m i m.length = (List.range m.length).map (vD m (i + 1)) :=
  List.map_congr_left fun a ha => if_pos (List.mem_range.1 ha)
theorem dT_get (hi : i < m.length) : (dT m i).getD (i + 1) [] = [] := (range_map_getD _ _ (by omega)).trans (if_neg (by omega))
theorem dT_set (hi : i < m.length) : (dT m i).set (i + 1) (rowD m i m.length) = dT m (i + 1) :=
  range_set (by omega) (fun a _ hne => by
    by_cases h : a ≤ i
    · rw [if_pos h, if_pos (by omega)]
    · rw [if_neg h, if_neg (by omega)]) (by rw [if_pos (by omega), rowD_full])
theorem dT_end (h : signOK m) : dT m m.length = dnT m.length (cornr m) := by
  unfold dT dnT bt
  refine List.map_congr_left fun a ha => ?_
  have ha := List.mem_range.1 ha
  rw [if_pos (by omega)]
  refine List.map_congr_left fun b hb => ?_
  exact (dnB_start h ha (List.mem_range.1 hb)).symm
theorem vD_zero : vD m 0 j = decide (j % 2 = 1) := by
  unfold vD evn
  rw [cp_zero]
  by_cases h : j % 2 = 1
  · rw [decide_eq_true h, decide_eq_false (show ¬ (0 + j) % 2 = 0 by omega)]; decide
  · rw [decide_eq_false h, decide_eq_true (show (0 + j) % 2 = 0 by omega)]; decide
theorem d00_zero {n : Nat} : d00 n 0 = List.replicate n false := by
  unfold d00
  rw [← List.length_range (n := n), ← List.map_const']
  simp
theorem d00_set {n : Nat} (hj : j < n) : (d00 n j).set j (decide (j % 2 = 1)) = d00 n (j + 1) :=
  range_set hj (fun a _ hne => by
    by_cases h : a < j
    · rw [if_pos h, if_pos (by omega)]
    · rw [if_neg h, if_neg (by omega)]) (by rw [if_pos (by omega)])
theorem dT_zero : (List.replicate (m.length + 1) ([] : List Bool)).set 0 (d00 m.length m.length) = dT m 0 := by
  have e : List.replicate (m.length + 1) ([] : List Bool) = (List.range (m.length + 1)).map fun _ => [] := by
    rw [List.map_const', List.length_range]
  rw [e]
  refine range_set (by omega) (fun a _ hne => (if_neg (by omega)).symm) ?_
  rw [if_pos (Nat.le_refl _)]
  exact List.map_congr_left fun a ha => by rw [if_pos (List.mem_range.1 ha), vD_zero]
theorem cS_zero : cS m 0 0 = List.replicate m.length 0 := by
  unfold cS
  rw [← List.length_range (n := m.length), ← List.map_const', List.length_range]
  exact List.map_congr_left fun a ha => by rw [if_neg (by omega), cp_zero]
theorem cS_get (hj : j < m.length) : (cS m i j).getD j 0 = cp m i j := (range_map_getD _ _ hj).trans (if_neg (by omega))
theorem cS_set (hj : j < m.length) : (cS m i j).set j (cp m (i + 1) j) = cS m i (j + 1) :=
  range_set hj (fun a _ hne => by
    by_cases h : a < j
    · rw [if_pos h, if_pos (by omega)]
    · rw [if_neg h, if_neg (by omega)]) (by rw [if_pos (by omega)])
theorem cS_next : cS m i m.length = cS m (i + 1) 0 := by
  unfold cS
  exact List.map_congr_left fun a ha => by rw [if_pos (List.mem_range.1 ha), if_neg (by omega)]
end
end Fer

namespace Fer

def wayI (L : List Bool) (c : Nat) : Nat → Int
  | 0 => -1
  | w + 1 => if L.getD w false = true ∧ w ≠ c then (w : Int) else wayI L c w
theorem way_las : ∀ (b0 b1 b2 b3 : Bool) (c : Nat), c < 4 → dr4 b0 b1 b2 b3 (las4 b0 b1 b2 b3 c) = true → las4 b0 b1 b2 b3 c ≠ c → wayI [b0, b1, b2, b3] c 4 = (las4 b0 b1 b2 b3 c : Int) := fun b0 b1 b2 b3 c hc => by
  have hc : c = 0 ∨ c = 1 ∨ c = 2 ∨ c = 3 := by omega
  rcases hc with rfl | rfl | rfl | rfl <;> cases b0 <;> cases b1 <;> cases b2 <;> cases b3 <;> simp [las4, dr4, wayI]
section
variable {m : List (List Int)}
def L4b (m : List (List Int)) (i j : Nat) : List Bool := [hA m i j, vD m (i + 1) j, hA m i (j + 1), vD m i j]
theorem way_mat (h : signOK m) {i j c : Nat} (hv : drX m ((i, j), c)) : ∃ w, w < 4 ∧ mat4 m ((i, j), c) = ((i, j), w) ∧ wayI (L4b m i j) c 4 = (w : Int) := by
  obtain ⟨h1, _, h3, _⟩ := mat4_ok h hv
  refine ⟨(mat4 m ((i, j), c)).2, h1.2.2.1, rfl, ?_⟩
  exact way_las _ _ _ _ c hv.2.2.1 h1.2.2.2 fun e => h3 (by
    show ((i, j), (mat4 m ((i, j), c)).2) = _
    rw [show (mat4 m ((i, j), c)).2 = c from e])
theorem ac_get {i j : Nat} (hi : i < m.length) (hj : j < m.length + 1) : ((acT m.length (cornr m)).getD i []).getD j false = hA m i j := by
  unfold acT
  rw [bt_cell _ hi hj]
  exact acB_start hi hj
theorem dn_get {i j : Nat} (h : signOK m) (hi : i < m.length + 1) (hj : j < m.length) : ((dnT m.length (cornr m)).getD i []).getD j false = vD m i j := by
  unfold dnT
  rw [bt_cell _ hi hj]
  exact dnB_start h hi hj
def orbM (m : List (List Int)) (e k : Nat) : Dart := orb (mat4 m) flp4 (endD m.length (2 * e)) k
theorem orbM_ok (h : signOK m) {e k : Nat} (he : e < 2 * m.length) (hk : k ≤ linkN m e) : drX m (orbM m e k) :=
  orb_ok (way_ok h) (endX h he).1 fun j hj => (linkN_ok h he).1 j (by omega)
theorem orbM_end (h : signOK m) {e k : Nat} (he : e < 2 * m.length) (hk : k ≤ linkN m e) : drE m.length (mat4 m (orbM m e k)) ↔ k = linkN m e := by
  constructor
  · intro hE
    refine Classical.byContradiction fun hne => ?_
    exact (linkN_ok h he).1 k (by omega) hE
  · rintro rfl
    exact (linkN_ok h he).2
theorem orbM_succ (e k : Nat) : orbM m e (k + 1) = flp4 (mat4 m (orbM m e k)) := rfl
theorem link_num (e : Nat) : numD m.length (mat4 m (orbM m e (linkN m e))) / 2 = linkV m e := rfl
noncomputable def lkO (m : List (List Int)) (e : Nat) : List Int := (List.range (2 * m.length)).map fun q => if q < e then (linkV m q : Int) else 0
theorem lkO_zero : lkO m 0 = List.replicate (2 * m.length) 0 := by
  unfold lkO
  rw [← List.length_range (n := 2 * m.length), ← List.map_const']
  simp
theorem lkO_set {e : Nat} (he : e < 2 * m.length) : (lkO m e).set e (linkV m e : Int) = lkO m (e + 1) :=
  range_set he (fun a _ hne => by
    by_cases h : a < e
    · rw [if_pos h, if_pos (by omega)]
    · rw [if_neg h, if_neg (by omega)]) (by rw [if_pos (by omega)])
theorem lkO_len {e : Nat} : (lkO m e).length = 2 * m.length := by simp [lkO]
theorem lkO_end : lkO m (2 * m.length) = (List.range (2 * m.length)).map fun e => (linkV m e : Int) :=
  List.map_congr_left fun a ha => if_pos (List.mem_range.1 ha)
end
end Fer
