/-
  A pile from its paths: what cubes.FromPaths and ferref.OfEdges answer (plain).
-/
import Derived.Test.YtmaahmcdejoclaaDoorRows
import Derived.Test.YtmaahmcdejoclaaDoorLibP
import Derived.Test.YtmaahmcdejoclaaDoorCbC
set_option linter.unusedSimpArgs false
set_option linter.unusedVariables false
set_option maxHeartbeats 8000000
namespace Fer
open Go Go.Proofs

/-- Where the edge stands at each step up. -/
def pwU : List UInt8 → Nat → List Nat
  | [], _ => []
  | c :: cs, x => if c = 82 then pwU cs (x + 1) else x :: pwU cs x
theorem pwU_app : ∀ (l m : List UInt8) (x : Nat), pwU (l ++ m) x = pwU l x ++ pwU m (x + l.count 82)
  | [], m, x => by simp [pwU]
  | c :: l, m, x => by
    rw [List.cons_append, pwU, pwU]
    by_cases e : c = 82
    · rw [if_pos e, if_pos e, pwU_app l m, List.count_cons, if_pos (by simp [e])]
      congr 2; omega
    · rw [if_neg e, if_neg e, pwU_app l m, List.count_cons, if_neg (by simp [e])]; rfl
theorem pwU_len : ∀ (l : List UInt8) (x : Nat), (pwU l x).length + l.count 82 = l.length
  | [], x => rfl
  | c :: l, x => by
    rw [pwU, List.count_cons]
    by_cases e : c = 82
    · rw [if_pos e, if_pos (by simp [e])]; have := pwU_len l (x + 1); simp only [List.length_cons]; omega
    · rw [if_neg e, if_neg (by simp [e])]; have := pwU_len l x; simp only [List.length_cons]; omega
theorem pwU_le : ∀ (l : List UInt8) (x a : Nat), a ∈ pwU l x → a ≤ x + l.count 82
  | [], x, a, h => by simp [pwU] at h
  | c :: l, x, a, h => by
    rw [pwU] at h
    rw [List.count_cons]
    by_cases e : c = 82
    · rw [if_pos e] at h; rw [if_pos (by simp [e])]; have := pwU_le l _ a h; omega
    · rw [if_neg e] at h
      rcases List.mem_cons.1 h with rfl | h
      · omega
      · have := pwU_le l _ a h; omega

/-- A grid. -/
def rowF (z : Nat) (f : Nat → Int) : List Int := (List.range z).map f
def gridF (y z : Nat) (f : Nat → Nat → Int) : List (List Int) := (List.range y).map fun r => rowF z (f r)
theorem rowF_len (z : Nat) (f : Nat → Int) : (rowF z f).length = z := by simp [rowF]
theorem gridF_len (y z : Nat) (f : Nat → Nat → Int) : (gridF y z f).length = y := by simp [gridF]
theorem rowF_get {z j : Nat} (f : Nat → Int) (h : j < z) : (rowF z f).getD j 0 = f j := by
  rw [rowF, List.getD_eq_getElem?_getD, List.getElem?_map, List.getElem?_range h]; rfl
theorem gridF_get {y z r : Nat} (f : Nat → Nat → Int) (h : r < y) : (gridF y z f).getD r [] = rowF z (f r) := by
  rw [gridF, List.getD_eq_getElem?_getD, List.getElem?_map, List.getElem?_range h]; rfl
theorem gridF_ext {y z : Nat} {f g : Nat → Nat → Int} (h : ∀ r, r < y → ∀ j, j < z → f r j = g r j) : gridF y z f = gridF y z g :=
  List.map_congr_left fun r hr => List.map_congr_left fun j hj => h r (List.mem_range.1 hr) j (List.mem_range.1 hj)
theorem rowF_set {z j : Nat} {f g : Nat → Int} {v : Int} (hj : j < z) (h : ∀ k, k < z → g k = if k = j then v else f k) : (rowF z f).set j v = rowF z g := by
  apply List.ext_getElem
  · simp [rowF]
  · intro k h1 h2
    have hk : k < z := by rw [rowF_len] at h2; exact h2
    simp only [rowF, List.getElem_set, List.getElem_map, List.getElem_range]
    rw [h k hk]
    by_cases e : j = k
    · rw [if_pos e, if_pos e.symm]
    · rw [if_neg e, if_neg (fun c => e c.symm)]
theorem gridF_set {y z r j : Nat} {f g : Nat → Nat → Int} {v : Int} (hr : r < y) (hj : j < z) (h : ∀ r', r' < y → ∀ k, k < z → g r' k = if r' = r ∧ k = j then v else f r' k) : (gridF y z f).set r ((rowF z (f r)).set j v) = gridF y z g := by
  rw [rowF_set (g := g r) hj fun k hk => by rw [h r hr k hk]; simp]
  apply List.ext_getElem
  · simp [gridF]
  · intro k h1 h2
    have hk : k < y := by rw [gridF_len] at h2; exact h2
    simp only [gridF, List.getElem_set, List.getElem_map, List.getElem_range]
    by_cases e : r = k
    · subst e; rw [if_pos rfl]
    · rw [if_neg e]
      exact List.map_congr_left fun j' hj' => by rw [h k hk j' (List.mem_range.1 hj'), if_neg (fun c => e c.1.symm)]

/-- The word of a level. -/
def wdU (ws : List ByteArray) (m : Nat) : List UInt8 := (ws.getD m ByteArray.empty).data.toList
def cU (ws : List ByteArray) (m : Nat) : Nat := (wdU ws m).count 85
def cR (ws : List ByteArray) (m : Nat) : Nat := (wdU ws m).count 82
def wordP (ws : List ByteArray) (m y z : Nat) : Prop := (ws.getD m ByteArray.empty).size = y + z ∧ cU ws m = y ∧ cR ws m = z
theorem wdU_len (ws : List ByteArray) (m : Nat) : (wdU ws m).length = (ws.getD m ByteArray.empty).size := by
  unfold wdU
  rw [Array.length_toList]
  rfl
def aW (w : List UInt8) (k : Nat) : Nat := (pwU w 0).getD k 0
/-- The pile when n levels are in. -/
def fL (ws : List ByteArray) (y : Nat) : Nat → Nat → Nat → Int
  | 0 => fun _ _ => 0
  | n + 1 => fun r j => if j < aW (wdU ws n) (y - 1 - r) then (n : Int) + 1 else fL ws y n r j
theorem fL_succ (ws : List ByteArray) (y n r j : Nat) : fL ws y (n + 1) r j = if j < aW (wdU ws n) (y - 1 - r) then (n : Int) + 1 else fL ws y n r j := rfl
def okL (ws : List ByteArray) (y m : Nat) : Prop := ∀ k, k < y → ∀ j, j < aW (wdU ws m) k → fL ws y m (y - 1 - k) j = m
open Classical in
noncomputable def resL (ws : List ByteArray) (y z : Nat) : Nat → Nat → Int
  | 0, _ => 0
  | d + 1, m => if wordP ws m y z then if okL ws y m then resL ws y z d (m + 1) else 3 else 1
theorem fL_le (ws : List ByteArray) (y : Nat) : ∀ (n r j : Nat), 0 ≤ fL ws y n r j ∧ fL ws y n r j ≤ n
  | 0, _, _ => ⟨Int.le_refl _, Int.le_refl _⟩
  | n + 1, r, j => by
    have := fL_le ws y n r j
    unfold fL
    split <;> omega
/-- In the midst of level m: u rows done, j boxes of the next. -/
def gML (ws : List ByteArray) (y m u j : Nat) : Nat → Nat → Int := fun r' j' =>
  if y - 1 - r' < u then fL ws y (m + 1) r' j' else if y - 1 - r' = u ∧ j' < j then (m : Int) + 1 else fL ws y m r' j'
theorem gML_start (ws : List ByteArray) (y z m : Nat) : gridF y z (fL ws y m) = gridF y z (gML ws y m 0 0) :=
  gridF_ext fun r hr j hj => by unfold gML; rw [if_neg (Nat.not_lt_zero _), if_neg (fun c => Nat.not_lt_zero _ c.2)]
theorem gML_next (ws : List ByteArray) (y z m u : Nat) : gridF y z (gML ws y m u (aW (wdU ws m) u)) = gridF y z (gML ws y m (u + 1) 0) :=
  gridF_ext fun r hr j hj => by
    unfold gML
    by_cases e : y - 1 - r < u
    · rw [if_pos e, if_pos (by omega)]
    · rw [if_neg e]
      by_cases e2 : y - 1 - r = u
      · rw [if_pos (show y - 1 - r < u + 1 by omega), fL_succ, e2]
        by_cases e3 : j < aW (wdU ws m) u
        · rw [if_pos ⟨rfl, e3⟩, if_pos e3]
        · rw [if_neg (fun c => e3 c.2), if_neg e3]
      · rw [if_neg (fun c => e2 c.1), if_neg (by omega), if_neg (fun c => Nat.not_lt_zero _ c.2)]
theorem gML_end (ws : List ByteArray) (y z m : Nat) : gridF y z (gML ws y m y 0) = gridF y z (fL ws y (m + 1)) :=
  gridF_ext fun r hr j hj => by unfold gML; rw [if_pos (by omega)]
theorem gML_get (ws : List ByteArray) {y m u j : Nat} (hu : u < y) : gML ws y m u j (y - 1 - u) j = fL ws y m (y - 1 - u) j := by
  unfold gML
  rw [show y - 1 - (y - 1 - u) = u by omega, if_neg (Nat.lt_irrefl _), if_neg (fun c => Nat.lt_irrefl _ c.2)]
theorem gML_inc (ws : List ByteArray) {y z m u j : Nat} (hu : u < y) (hj : j < z) : (gridF y z (gML ws y m u j)).set (y - 1 - u) ((rowF z (gML ws y m u j (y - 1 - u))).set j ((m : Int) + 1)) = gridF y z (gML ws y m u (j + 1)) :=
  gridF_set (by omega) hj fun r' hr' k hk => by
    unfold gML
    by_cases e : y - 1 - r' < u
    · rw [if_pos e, if_pos e, if_neg (show ¬ (r' = y - 1 - u ∧ k = j) from fun c => by omega)]
    · rw [if_neg e, if_neg e]
      by_cases e2 : y - 1 - r' = u
      · by_cases e3 : k = j
        · rw [if_pos (show y - 1 - r' = u ∧ k < j + 1 from ⟨e2, by omega⟩), if_pos (show r' = y - 1 - u ∧ k = j from ⟨by omega, e3⟩)]
        · rw [if_neg (show ¬ (r' = y - 1 - u ∧ k = j) from fun c => e3 c.2)]
          by_cases e4 : k < j
          · rw [if_pos (show y - 1 - r' = u ∧ k < j + 1 from ⟨e2, by omega⟩), if_pos (show y - 1 - r' = u ∧ k < j from ⟨e2, e4⟩)]
          · rw [if_neg (show ¬ (y - 1 - r' = u ∧ k < j + 1) from fun c => by omega), if_neg (show ¬ (y - 1 - r' = u ∧ k < j) from fun c => e4 c.2)]
      · rw [if_neg (show ¬ (y - 1 - r' = u ∧ k < j + 1) from fun c => e2 c.1), if_neg (show ¬ (r' = y - 1 - u ∧ k = j) from fun c => by omega), if_neg (show ¬ (y - 1 - r' = u ∧ k < j) from fun c => e2 c.1)]

def szP (ws : List ByteArray) : Prop := 1 ≤ ws.length ∧ ws.length ≤ 8 ∧ 1 ≤ cU ws 0 ∧ cU ws 0 ≤ 8 ∧ 1 ≤ cR ws 0 ∧ cR ws 0 ≤ 8
open Classical in
noncomputable def fpE (ws : List ByteArray) : Int := if szP ws then resL ws (cU ws 0) (cR ws 0) ws.length 0 else 1
noncomputable def fpR (ws : List ByteArray) : List (List Int) := if fpE ws = 0 then gridF (cU ws 0) (cR ws 0) (fL ws (cU ws 0) ws.length) else []

theorem fp_bad {ws : List ByteArray} (h : ¬ szP ws) : fpE ws = 1 ∧ fpR ws = [] := by
  have h1 : fpE ws = 1 := if_neg h
  exact ⟨h1, if_neg (by rw [h1]; decide)⟩
theorem cntU (ws : List ByteArray) (m : Nat) : cntB (ws.getD m ByteArray.empty) ⟨#[85]⟩ = ((cU ws m : Nat) : Int) := rfl
theorem cntR (ws : List ByteArray) (m : Nat) : cntB (ws.getD m ByteArray.empty) ⟨#[82]⟩ = ((cR ws m : Nat) : Int) := rfl
theorem cU_le (ws : List ByteArray) (m : Nat) : cU ws m ≤ (ws.getD m ByteArray.empty).size ∧ cR ws m ≤ (ws.getD m ByteArray.empty).size := by
  rw [← wdU_len]; exact ⟨List.count_le_length, List.count_le_length⟩
theorem all_UR : ∀ {l : List UInt8}, l.count 85 + l.count 82 = l.length → ∀ c ∈ l, c = 82 ∨ c = 85
  | [], _, _, h => by simp at h
  | a :: l, hh, c, hc => by
    have k1 : l.count 85 + l.count 82 ≤ l.length := by
      clear hh hc c a
      induction l with
      | nil => simp
      | cons a l ih =>
        rw [List.count_cons, List.count_cons, List.length_cons]
        by_cases e : a = 85
        · subst e; simp; omega
        · rw [if_neg (by simp [e])]; split <;> omega
    rw [List.count_cons, List.count_cons, List.length_cons] at hh
    by_cases e : a = 85
    · subst e
      simp at hh
      rcases List.mem_cons.1 hc with rfl | h
      · exact .inr rfl
      · exact all_UR (by omega) c h
    · rw [if_neg (by simp [e])] at hh
      by_cases e2 : a = 82
      · subst e2
        simp at hh
        rcases List.mem_cons.1 hc with rfl | h
        · exact .inl rfl
        · exact all_UR (by omega) c h
      · rw [if_neg (by simp [e2])] at hh; omega
def sumK (ps : List (List UInt8)) (k : Nat) : Nat := ((ps.take k).map List.length).sum
theorem bspl_len (b : UInt8) : ∀ l, (bspl b l).length = l.count b + 1
  | [] => rfl
  | x :: r => by
    have ih := bspl_len b r
    rw [bspl, List.count_cons]
    by_cases e : x = b
    · rw [if_pos e, if_pos (by simp [e]), List.length_cons, ih]
    · rw [if_neg e, if_neg (by simp [e])]
      cases hb : bspl b r with
      | nil => rw [hb] at ih; simp at ih
      | cons h t => rw [hb] at ih; simpa using ih
theorem spl_sum : ∀ (l : List UInt8) (x k : Nat), (∀ c ∈ l, c = 82 ∨ c = 85) → k < l.count 85 → x + sumK (bspl 85 l) (k + 1) = (pwU l x).getD k 0
  | [], _, _, _, h => by simp at h
  | c :: r, x, k, ha, h => by
    rw [bspl, pwU]
    rcases ha c (List.mem_cons_self ..) with rfl | rfl
    · rw [if_neg (by decide), if_pos rfl]
      rw [List.count_cons, if_neg (by decide)] at h
      have ih := spl_sum r (x + 1) k (fun c hc => ha c (List.mem_cons_of_mem _ hc)) h
      rw [← ih]
      have hl := bspl_len 85 r
      cases hb : bspl 85 r with
      | nil => rw [hb] at hl; simp at hl
      | cons a t =>
        unfold sumK
        simp only [List.take_succ_cons, List.map_cons, List.sum_cons, List.length_cons]
        omega
    · rw [if_pos rfl, if_neg (by decide)]
      rw [List.count_cons, if_pos (by decide)] at h
      cases k with
      | zero => simp [sumK]
      | succ k =>
        have ih := spl_sum r x k (fun c hc => ha c (List.mem_cons_of_mem _ hc)) (by omega)
        rw [List.getD_cons_succ, ← ih]
        unfold sumK
        simp only [List.take_succ_cons, List.map_cons, List.sum_cons, List.length_nil, Nat.zero_add]

theorem grid_snoc (i z : Nat) : gridF i z (fun _ _ => 0) ++ [List.replicate z 0] = gridF (i + 1) z (fun _ _ => 0) := by
  unfold gridF
  rw [List.range_succ, List.map_append, List.map_singleton]
  congr 2
  unfold rowF
  apply List.ext_getElem
  · simp
  · intro k h1 h2
    simp
theorem aW_le {ws : List ByteArray} {m k y z : Nat} (hw : wordP ws m y z) (hk : k < y) : aW (wdU ws m) k ≤ z := by
  obtain ⟨h1, h2, h3⟩ := hw
  have hl := pwU_len (wdU ws m) 0
  rw [wdU_len, h1] at hl
  have h4 : (wdU ws m).count 82 = z := h3
  have hk' : k < (pwU (wdU ws m) 0).length := by omega
  have := pwU_le (wdU ws m) 0 _ (List.getElem_mem hk')
  unfold aW
  rw [List.getD_eq_getElem?_getD, List.getElem?_eq_getElem hk']
  simp only [Option.getD_some]
  omega
theorem sum_aW {ws : List ByteArray} {m k y z : Nat} (hw : wordP ws m y z) (hk : k < y) : sumK (bspl 85 (wdU ws m)) (k + 1) = aW (wdU ws m) k := by
  obtain ⟨h1, h2, h3⟩ := hw
  have h4 : (wdU ws m).count 82 = z := h3
  have h5 : (wdU ws m).count 85 = y := h2
  have := spl_sum (wdU ws m) 0 k (all_UR (by rw [wdU_len, h1]; omega)) (by omega)
  unfold aW
  omega
theorem sumK_succ {ps : List (List UInt8)} {k : Nat} (h : k < ps.length) : sumK ps (k + 1) = sumK ps k + (ps.getD k []).length := by
  unfold sumK
  rw [List.take_succ_eq_append_getElem h, List.map_append, List.sum_append, List.getD_eq_getElem?_getD, List.getElem?_eq_getElem h]
  simp

end Fer
