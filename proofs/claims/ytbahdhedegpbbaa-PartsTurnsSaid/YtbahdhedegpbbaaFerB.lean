/- Paths into owned data: what stands there, taking it out (punch), putting another thing there (fill). It imports no program. -/
import Derived.Test.YtbahdhedegpbbaaFerA
namespace Fer
open Go

structure TV where
  t : Ty
  x : t.den

def getS : List Nat → (t : Ty) → t.den → TV
  | [], t, x => ⟨t, x⟩
  | i :: p, .list _ t, xs => getS p t (xs.getD i t.dflt)
  | 0 :: p, .prod a _, x => getS p a x.1
  | 1 :: p, .prod _ b, x => getS p b x.2
  | (_ + 2) :: _, .prod a b, x => ⟨.prod a b, x⟩
  | _ :: _, .int k, x => ⟨.int k, x⟩
  | _ :: _, .bool, x => ⟨.bool, x⟩
  | _ :: _, .str, x => ⟨.str, x⟩
  | _ :: _, .raw, x => ⟨.raw, x⟩

def setT : List Nat → (t : Ty) → t.den → TV → t.den
  | [], t, x, y => if h : y.t = t then h ▸ y.x else x
  | i :: p, .list _ t, xs, y => xs.set i (setT p t (xs.getD i t.dflt) y)
  | 0 :: p, .prod a _, x, y => (setT p a x.1 y, x.2)
  | 1 :: p, .prod _ b, x, y => (x.1, setT p b x.2 y)
  | (_ + 2) :: _, .prod _ _, x, _ => x
  | _ :: _, .int _, x, _ => x
  | _ :: _, .bool, x, _ => x
  | _ :: _, .str, x, _ => x
  | _ :: _, .raw, x, _ => x

/-- The path leads through slices that are owned, to a thing that is there. -/
def okS : List Nat → (t : Ty) → t.den → Nat → Prop
  | [], _, _, _ => True
  | i :: p, .list _ t, xs, k => 0 < k ∧ i < xs.length ∧ okS p t (xs.getD i t.dflt) (k - 1)
  | 0 :: p, .prod a _, x, k => okS p a x.1 k
  | 1 :: p, .prod _ b, x, k => okS p b x.2 k
  | _ :: _, _, _, _ => False

def dep : List Nat → Ty → Nat → Nat
  | [], _, k => k
  | _ :: p, .list _ t, k => dep p t (k - 1)
  | 0 :: p, .prod a _, k => dep p a k
  | 1 :: p, .prod _ b, k => dep p b k
  | _ :: _, _, k => k

def atCT : List Nat → Ty → CT → CT
  | [], _, c => c
  | i :: p, .list _ t, .node _ _ kids => atCT p t (kids i)
  | 0 :: p, .prod a _, .pair c _ => atCT p a c
  | 1 :: p, .prod _ b, .pair _ d => atCT p b d
  | _ :: _, _, _ => .leaf

def setCT : List Nat → Ty → CT → CT → CT
  | [], _, _, c => c
  | i :: p, .list _ t, .node b cap kids, c => .node b cap fun j => if j = i then setCT p t (kids i) c else kids j
  | 0 :: p, .prod a _, .pair x y, c => .pair (setCT p a x c) y
  | 1 :: p, .prod _ b, .pair x y, c => .pair x (setCT p b y c)
  | _ :: _, _, c, _ => c

/-- Where the thing at the end of a path lies, if the whole lies at (b, o). -/
def addrOf : List Nat → Ty → CT → Nat × Nat → Nat × Nat
  | [], _, _, a => a
  | i :: p, .list _ t, .node b _ kids, _ => addrOf p t (kids i) (b, i * t.width)
  | 0 :: p, .prod a _, .pair c _, x => addrOf p a c x
  | 1 :: p, .prod a b, .pair _ d, x => addrOf p b d (x.1, x.2 + a.width)
  | _ :: _, _, _, a => a

/-- Cells cs lie in block b from o on; nothing of the block is shared with a string. -/
def Loc (w : World) (b o : Nat) (cs : List Value) : Prop :=
  ∃ arr E, w.heap[b]? = some (.cells arr E (0, 0)) ∧ o + cs.length ≤ arr.size ∧ cellsAt arr o cs.length = cs

def spl (arr : Array Value) (o : Nat) (cs : List Value) : Array Value := (arr.toList.take o ++ cs ++ arr.toList.drop (o + cs.length)).toArray

theorem size_spl {arr : Array Value} {o : Nat} {cs : List Value} (h : o + cs.length ≤ arr.size) : (spl arr o cs).size = arr.size := by
  simp [spl]; omega

theorem cellsAt_spl_same {arr : Array Value} {o : Nat} {cs : List Value} (h : o + cs.length ≤ arr.size) : cellsAt (spl arr o cs) o cs.length = cs := by
  have h1 : (arr.toList.take o).length = o := by simp; omega
  simp only [cellsAt, spl, List.append_assoc]
  rw [List.drop_append, h1]
  simp

theorem cellsAt_spl_other {arr : Array Value} {o o2 n2 : Nat} {cs : List Value} (h : o + cs.length ≤ arr.size) (hd : o2 + n2 ≤ o ∨ o + cs.length ≤ o2) :
    cellsAt (spl arr o cs) o2 n2 = cellsAt arr o2 n2 := by
  have h1 : (arr.toList.take o).length = o := by simp; omega
  apply List.ext_getElem?
  intro j
  simp only [cellsAt, spl, List.getElem?_take, List.getElem?_drop]
  split
  · rename_i hj
    rcases hd with hd | hd
    · have : o2 + j < o := by omega
      rw [List.append_assoc, List.getElem?_append_left (by rw [h1]; omega), List.getElem?_take, if_pos this]
    · rw [List.append_assoc, List.getElem?_append_right (by rw [h1]; omega), List.getElem?_append_right (by rw [h1]; omega), h1, List.getElem?_drop]
      congr 1
      omega
  · rfl

theorem get3 {α : Type} (A C B : List α) (i : Nat) :
    (A ++ (C ++ B))[i]? = if i < A.length then A[i]? else if i < A.length + C.length then C[i - A.length]? else B[i - A.length - C.length]? := by
  by_cases h1 : i < A.length
  · rw [if_pos h1, List.getElem?_append_left h1]
  · rw [if_neg h1, List.getElem?_append_right (by omega)]
    by_cases h2 : i < A.length + C.length
    · rw [if_pos h2, List.getElem?_append_left (by omega)]
    · rw [if_neg h2, List.getElem?_append_right (by omega)]

/-- Writing inside a part. -/
theorem cellsAt_spl_inside {arr : Array Value} {o o2 n2 : Nat} {cs : List Value} (h : o2 + n2 ≤ arr.size) (h1 : o2 ≤ o) (h2 : o + cs.length ≤ o2 + n2) :
    cellsAt (spl arr o cs) o2 n2 = (cellsAt arr o2 n2).take (o - o2) ++ cs ++ (cellsAt arr o2 n2).drop (o - o2 + cs.length) := by
  have e1 : (arr.toList.take o).length = o := by simp; omega
  have e2 : (cellsAt arr o2 n2).length = n2 := length_cellsAt h
  have e3 : ((cellsAt arr o2 n2).take (o - o2)).length = o - o2 := by rw [List.length_take, e2]; omega
  have e4 : ∀ j, j < n2 → (cellsAt arr o2 n2)[j]? = arr.toList[o2 + j]? := fun j hj => by
    simp only [cellsAt, List.getElem?_take, List.getElem?_drop]; rw [if_pos hj]
  apply List.ext_getElem?
  intro j
  by_cases hj : j < n2
  · have e5 : (cellsAt (spl arr o cs) o2 n2)[j]? = (arr.toList.take o ++ (cs ++ arr.toList.drop (o + cs.length)))[o2 + j]? := by
      simp only [cellsAt, spl, List.getElem?_take, List.getElem?_drop, List.append_assoc]; rw [if_pos hj]
    rw [e5, List.append_assoc, get3, get3, e1, e3]
    by_cases hj1 : j < o - o2
    · rw [if_pos (by omega), if_pos hj1, List.getElem?_take, List.getElem?_take, if_pos (by omega), if_pos hj1, e4 j hj]
    · rw [if_neg (by omega), if_neg hj1]
      by_cases hj2 : j < o - o2 + cs.length
      · rw [if_pos (by omega), if_pos hj2]
        congr 1; omega
      · rw [if_neg (by omega), if_neg hj2, List.getElem?_drop, List.getElem?_drop, e4 _ (by omega)]
        congr 1; omega
  · rw [List.getElem?_eq_none (by simp [cellsAt]; omega), List.getElem?_eq_none (by simp only [List.length_append, e3, List.length_drop, e2]; omega)]

@[simp] theorem getS_nil (t : Ty) (x : t.den) : getS [] t x = ⟨t, x⟩ := rfl

theorem Own.hole {w : World} {S : Nat → Prop} {t : Ty} {k : Nat} {x : t.den} {ct : CT} {cs : List Value} {F : Nat → Prop}
    (h : cs.length = t.width) (hF : ∀ n, ¬ F n) : Own w S t k x (some []) ct cs F := by
  cases t <;> simp only [Own, Ty.width] at * <;> simp [h] <;> assumption

/-- The cells lie there; of a slice whose elements alone are meant nothing is asked. -/
def LocOr (p : List Nat) (t : Ty) (w : World) (b o : Nat) (cs : List Value) : Prop := (∃ e t' i q, t = .list e t' ∧ p = i :: q) ∨ Loc w b o cs

/-- What has been taken out leaves a hole. -/
theorem punch {w : World} {S : Nat → Prop} : ∀ (p : List Nat) (t : Ty) (k : Nat) (x : t.den) (ct : CT) (cs : List Value) (F : Nat → Prop) (b o : Nat),
    Own w S t k x none ct cs F → okS p t x k → LocOr p t w b o cs →
    ∃ cs' F' b' o', addrOf p t ct (b, o) = (b', o') ∧ Loc w b' o' cs' ∧
      Own w S (getS p t x).t (dep p t k) (getS p t x).x none (atCT p t ct) cs' F' ∧ (∀ n, F' n → F n) ∧
      Own w S t k x (some p) ct cs (fun n => F n ∧ ¬ F' n) ∧
      ((b' = b ∧ o ≤ o' ∧ o' + cs'.length ≤ o + cs.length) ∨ (F b' ∧ ¬ F' b'))
  | [], t, k, x, ct, cs, F, b, o, H, _, hl => by
    have hl : Loc w b o cs := by
      rcases hl with ⟨_, _, _, _, _, h⟩ | hl
      · cases h
      · exact hl
    refine ⟨cs, F, b, o, rfl, hl, H, fun _ h => h, ?_, .inl ⟨rfl, Nat.le_refl _, Nat.le_refl _⟩⟩
    exact Own.hole H.length fun n hn => hn.2 hn.1
  | i :: p, .list e t, k, xs, ct, cs, F, b, o, H, hok, _ => by
    obtain ⟨hk, hi, hok⟩ := hok
    obtain ⟨k, rfl⟩ : ∃ k', k = k' + 1 := ⟨k - 1, by omega⟩
    rcases H with H | ⟨_, H⟩
    · simp at H
    · cases ct with
      | nil => obtain ⟨rfl, _⟩ := H; simp at hi
      | leaf => exact H.elim
      | pair => exact H.elim
      | node blk cap kids =>
        obtain ⟨h1, h2, h3, arr, h4, h5, Fs, g1, g2, g3, g4⟩ := H
        have hfit : i * t.width + t.width ≤ arr.size := by
          rw [h5, ← Nat.succ_mul]; exact Nat.mul_le_mul_right _ (by omega)
        have hlen : (cellsAt arr (i * t.width) t.width).length = t.width := length_cellsAt hfit
        have hloc : Loc w blk (i * t.width) (cellsAt arr (i * t.width) t.width) := ⟨arr, e, h4, by rw [hlen]; exact hfit, by rw [hlen]⟩
        have Hi := g4 i hi
        simp only [hsub_none] at Hi
        obtain ⟨cs', F', b', o', e1, e2, e3, e4, e5, e6⟩ := punch p t k (xs.getD i t.dflt) (kids i) _ (Fs i) blk (i * t.width) Hi hok (.inr hloc)
        have hF'b : ¬ F' blk := fun h => g2 i hi (e4 _ h)
        refine ⟨cs', F', b', o', by simpa [addrOf] using e1, e2, ?_, fun n hn => (g1 n).2 (.inr ⟨i, hi, e4 n hn⟩), ?_, ?_⟩
        · exact e3
        · refine .inr ⟨by simp, h1, h2, h3, arr, h4, h5, fun j n => Fs j n ∧ ¬ F' n, ?_, ?_, ?_, ?_⟩
          · intro n
            constructor
            · rintro ⟨hn, hn'⟩
              rcases (g1 n).1 hn with h | ⟨j, hj, h⟩
              · exact .inl h
              · exact .inr ⟨j, hj, h, hn'⟩
            · rintro (rfl | ⟨j, hj, h, hn'⟩)
              · exact ⟨(g1 _).2 (.inl rfl), hF'b⟩
              · exact ⟨(g1 n).2 (.inr ⟨j, hj, h⟩), hn'⟩
          · intro j hj h; exact g2 j hj h.1
          · intro j l n hj hl h1 h2; exact g3 j l n hj hl h1.1 h2.1
          · intro j hj
            by_cases hji : j = i
            · subst hji
              rw [hsub_same]
              exact e5
            · rw [hsub_other _ (Ne.symm hji)]
              have Hj := g4 j hj
              simp only [hsub_none] at Hj
              have : (fun n => Fs j n ∧ ¬ F' n) = Fs j := by
                funext n
                apply propext
                constructor
                · exact fun h => h.1
                · exact fun h => ⟨h, fun h' => hji (g3 j i n hj hi h (e4 n h'))⟩
              show Own w S t k _ none (kids j) _ (fun n => Fs j n ∧ ¬ F' n)
              rw [this]
              exact Hj
        · right
          rcases e6 with ⟨rfl, _⟩ | ⟨h, h'⟩
          · exact ⟨(g1 _).2 (.inl rfl), hF'b⟩
          · exact ⟨(g1 _).2 (.inr ⟨i, hi, h⟩), h'⟩
  | 0 :: p, .prod a c, k, x, ct, cs, F, b, o, H, hok, hl => by
    have hl : Loc w b o cs := by
      rcases hl with ⟨_, _, _, _, h, _⟩ | hl
      · cases h
      · exact hl
    rcases H with H | ⟨_, H⟩
    · simp at H
    · cases ct with
      | nil => exact H.elim
      | leaf => exact H.elim
      | node => exact H.elim
      | pair u v =>
        obtain ⟨c1, c2, F1, F2, rfl, g1, g2, g3, g4⟩ := H
        simp only [hsub_none] at g3 g4
        have hl1 : Loc w b o c1 := by
          obtain ⟨arr, E, q1, q2, q3⟩ := hl
          rw [List.length_append] at q2
          refine ⟨arr, E, q1, by omega, ?_⟩
          have := congrArg (List.take c1.length) q3
          simpa [cellsAt, List.take_take, Nat.min_eq_left (Nat.le_add_right c1.length c2.length)] using this
        obtain ⟨cs', F', b', o', e1, e2, e3, e4, e5, e6⟩ := punch p a k x.1 u c1 F1 b o g3 hok (.inr hl1)
        refine ⟨cs', F', b', o', by simpa [addrOf] using e1, e2, by simpa [getS, dep, atCT] using e3, fun n hn => (g1 n).2 (.inl (e4 n hn)), ?_, ?_⟩
        · refine .inr ⟨by simp, c1, c2, fun n => F1 n ∧ ¬ F' n, F2, rfl, ?_, ?_, ?_, ?_⟩
          · intro n
            constructor
            · rintro ⟨hn, hn'⟩
              rcases (g1 n).1 hn with h | h
              · exact .inl ⟨h, hn'⟩
              · exact .inr h
            · rintro (⟨h, hn'⟩ | h)
              · exact ⟨(g1 n).2 (.inl h), hn'⟩
              · exact ⟨(g1 n).2 (.inr h), fun h' => g2 n (e4 n h') h⟩
          · exact fun n h h2 => g2 n h.1 h2
          · simpa using e5
          · simpa [hsub] using g4
        · rcases e6 with ⟨rfl, q1, q2⟩ | ⟨h, h'⟩
          · exact .inl ⟨rfl, q1, by rw [List.length_append]; omega⟩
          · exact .inr ⟨(g1 _).2 (.inl h), h'⟩
  | 1 :: p, .prod a c, k, x, ct, cs, F, b, o, H, hok, hl => by
    have hl : Loc w b o cs := by
      rcases hl with ⟨_, _, _, _, h, _⟩ | hl
      · cases h
      · exact hl
    rcases H with H | ⟨_, H⟩
    · simp at H
    · cases ct with
      | nil => exact H.elim
      | leaf => exact H.elim
      | node => exact H.elim
      | pair u v =>
        obtain ⟨c1, c2, F1, F2, rfl, g1, g2, g3, g4⟩ := H
        simp only [hsub_none] at g3 g4
        have hw : c1.length = a.width := g3.length
        have hl2 : Loc w b (o + a.width) c2 := by
          obtain ⟨arr, E, q1, q2, q3⟩ := hl
          rw [List.length_append] at q2
          refine ⟨arr, E, q1, by omega, ?_⟩
          have := congrArg (List.drop c1.length) q3
          rw [List.drop_left] at this
          rw [← hw, ← this]
          simp [cellsAt, List.drop_take, List.drop_drop]
        obtain ⟨cs', F', b', o', e1, e2, e3, e4, e5, e6⟩ := punch p c k x.2 v c2 F2 b (o + a.width) g4 hok (.inr hl2)
        refine ⟨cs', F', b', o', by simpa [addrOf] using e1, e2, by simpa [getS, dep, atCT] using e3, fun n hn => (g1 n).2 (.inr (e4 n hn)), ?_, ?_⟩
        · refine .inr ⟨by simp, c1, c2, F1, fun n => F2 n ∧ ¬ F' n, rfl, ?_, ?_, ?_, ?_⟩
          · intro n
            constructor
            · rintro ⟨hn, hn'⟩
              rcases (g1 n).1 hn with h | h
              · exact .inl h
              · exact .inr ⟨h, hn'⟩
            · rintro (h | ⟨h, hn'⟩)
              · exact ⟨(g1 n).2 (.inl h), fun h' => g2 n h (e4 n h')⟩
              · exact ⟨(g1 n).2 (.inr h), hn'⟩
          · exact fun n h h2 => g2 n h h2.1
          · simpa [hsub] using g3
          · simpa using e5
        · rcases e6 with ⟨rfl, q1, q2⟩ | ⟨h, h'⟩
          · exact .inl ⟨rfl, by omega, by rw [List.length_append]; omega⟩
          · exact .inr ⟨(g1 _).2 (.inr h), h'⟩
  | (_ + 2) :: _, .prod _ _, _, _, _, _, _, _, _, _, hok, _ => hok.elim
  | _ :: _, .int _, _, _, _, _, _, _, _, _, hok, _ => hok.elim
  | _ :: _, .bool, _, _, _, _, _, _, _, _, hok, _ => hok.elim
  | _ :: _, .str, _, _, _, _, _, _, _, _, hok, _ => hok.elim
  | _ :: _, .raw, _, _, _, _, _, _, _, _, hok, _ => hok.elim

theorem getD_set {α : Type} (l : List α) (i j : Nat) (v d : α) (hi : i < l.length) : (l.set i v).getD j d = if j = i then v else l.getD j d := by
  simp only [List.getD_eq_getElem?_getD, List.getElem?_set]
  by_cases h : i = j
  · subst h; simp [hi]
  · rw [if_neg h, if_neg (fun e => h e.symm)]

theorem setT_nil (t : Ty) (x y : t.den) : setT [] t x ⟨t, y⟩ = y := by simp [setT]

/-- The hole is filled: by memory's being written at its place. -/
theorem fill {w w' : World} {S : Nat → Prop} (y : TV) (kk : Nat) (ct' : CT) (cs' : List Value) (F' : Nat → Prop) (b' o' : Nat)
    (Hy : Own w S y.t kk y.x none ct' cs' F') (hw : ∀ n, n ≠ b' → w'.heap[n]? = w.heap[n]?)
    (hb : ∀ arr E, w.heap[b']? = some (.cells arr E (0, 0)) → w'.heap[b']? = some (.cells (spl arr o' cs') E (0, 0)))
    (hSb : ¬ S b') (hFb : ¬ F' b') : ∀ (p : List Nat) (t : Ty) (k : Nat) (x : t.den) (ct : CT) (cs : List Value) (F : Nat → Prop) (b o : Nat),
    Own w S t k x (some p) ct cs F → okS p t x k → LocOr p t w b o cs → ¬ F b → y.t = (getS p t x).t → kk = dep p t k → (∀ n, F n → ¬ F' n) →
    addrOf p t ct (b, o) = (b', o') →
    ∃ cs2, Own w' S t k (setT p t x y) none (setCT p t ct ct') cs2 (fun n => F n ∨ F' n) ∧
      ((b' = b ∧ o ≤ o' ∧ o' + cs'.length ≤ o + cs.length ∧ cs2 = cs.take (o' - o) ++ cs' ++ cs.drop (o' - o + cs'.length)) ∨ (F b' ∧ b' ≠ b ∧ cs2 = cs)) := by
  have hfr : ∀ n, S n → S n ∧ w'.heap[n]? = w.heap[n]? := fun n hn => ⟨hn, hw n fun e => hSb (e ▸ hn)⟩
  have Hy' : Own w' S y.t kk y.x none ct' cs' F' := Hy.frame hfr fun n hn => hw n fun e => hFb (e ▸ hn)
  intro p
  induction p with
  | nil =>
    intro t k x ct cs F b o H _ _ _ hyt hkk _ ha
    obtain ⟨yt, yx⟩ := y
    simp only [getS] at hyt
    subst hyt
    simp only [dep] at hkk
    subst hkk
    simp only [addrOf, Prod.mk.injEq] at ha
    obtain ⟨rfl, rfl⟩ := ha
    have hF : ∀ n, ¬ F n := by
      cases yt <;> simp only [Own] at H
      case list => rcases H with H | H; exact H.2.2; exact absurd rfl H.1
      case prod => rcases H with H | H; exact H.2.2; exact absurd rfl H.1
      all_goals exact H.1
    have e : (fun n => F n ∨ F' n) = F' := by
      funext n; simp [hF n]
    refine ⟨cs', ?_, .inl ⟨rfl, Nat.le_refl _, ?_, ?_⟩⟩
    · rw [setT_nil, e]; exact Hy'
    · rw [Hy.length, H.length]; exact Nat.le_refl _
    · rw [Nat.sub_self, List.take_zero, List.nil_append, Nat.zero_add, List.drop_of_length_le (by rw [Hy.length, H.length]; exact Nat.le_refl _), List.append_nil]
  | cons i p ih =>
    intro t k x ct cs F b o H hok hl hFbase hyt hkk hdis ha
    cases t with
    | list e t =>
      have xs : List t.den := x
      obtain ⟨hk, hi, hok⟩ := hok
      obtain ⟨k, rfl⟩ : ∃ k', k = k' + 1 := ⟨k - 1, by omega⟩
      rcases H with H | ⟨_, H⟩
      · simp at H
      · cases ct with
        | nil => obtain ⟨rfl, _⟩ := H; simp at hi
        | leaf => exact H.elim
        | pair => exact H.elim
        | node blk cap kids =>
          obtain ⟨h1, h2, h3, arr, h4, h5, Fs, g1, g2, g3, g4⟩ := H
          have hfit : i * t.width + t.width ≤ arr.size := by
            rw [h5, ← Nat.succ_mul]; exact Nat.mul_le_mul_right _ (by omega)
          have hlen : (cellsAt arr (i * t.width) t.width).length = t.width := length_cellsAt hfit
          have hloc : Loc w blk (i * t.width) (cellsAt arr (i * t.width) t.width) := ⟨arr, e, h4, by rw [hlen]; exact hfit, by rw [hlen]⟩
          have Hi := g4 i hi
          rw [hsub_same] at Hi
          have hblkF : F blk := (g1 _).2 (.inl rfl)
          have hblkF' : ¬ F' blk := hdis _ hblkF
          obtain ⟨cs2, e1, e2⟩ := ih t k (List.getD x i t.dflt) (kids i) _ (Fs i) blk (i * t.width) Hi hok (.inr hloc) (g2 i hi) hyt hkk
            (fun n hn => hdis n ((g1 n).2 (.inr ⟨i, hi, hn⟩))) ha
          have hFb' : F b' := by
            rcases e2 with ⟨rfl, _⟩ | ⟨h, _⟩
            · exact hblkF
            · exact (g1 _).2 (.inr ⟨i, hi, h⟩)
          -- the block's cells afterwards
          have harr : ∃ arr', w'.heap[blk]? = some (.cells arr' e (0, 0)) ∧ arr'.size = arr.size ∧ cellsAt arr' (i * t.width) t.width = cs2 ∧
              ∀ j, j < List.length x → j ≠ i → cellsAt arr' (j * t.width) t.width = cellsAt arr (j * t.width) t.width := by
            rcases e2 with ⟨rfl, q1, q2, q3⟩ | ⟨q1, q2, q3⟩
            · rw [hlen] at q2
              refine ⟨spl arr o' cs', hb arr e h4, size_spl (by omega), ?_, fun j hj hji => ?_⟩
              · rw [cellsAt_spl_inside hfit q1 q2, q3]
              · refine cellsAt_spl_other (by omega) ?_
                rcases Nat.lt_or_gt_of_ne hji with h | h
                · left
                  have := Nat.mul_le_mul_right t.width (show j + 1 ≤ i by omega)
                  rw [Nat.succ_mul] at this
                  omega
                · right
                  have := Nat.mul_le_mul_right t.width (show i + 1 ≤ j by omega)
                  rw [Nat.succ_mul] at this
                  omega
            · exact ⟨arr, (hw blk (fun e => q2 e.symm)).trans h4, rfl, q3.symm, fun _ _ _ => rfl⟩
          obtain ⟨arr', a1, a2, a3, a4⟩ := harr
          obtain ⟨G, hGi, hGj⟩ : ∃ G : Nat → Nat → Prop, (∀ n, G i n ↔ Fs i n ∨ F' n) ∧ (∀ j, j ≠ i → ∀ n, G j n ↔ Fs j n) :=
            ⟨fun j n => (j = i ∧ (Fs i n ∨ F' n)) ∨ (j ≠ i ∧ Fs j n), fun n => by simp, fun j hj n => by simp [hj]⟩
          refine ⟨cs, .inr ⟨by simp, ?_⟩, .inr ⟨hFb', fun e => hFbase (e ▸ hFb'), rfl⟩⟩
          simp only [setT, setCT]
          refine ⟨by rw [List.length_set]; exact h1, by rw [List.length_set]; exact h2, h3, arr', a1, by rw [a2]; exact h5, G, ?_, ?_, ?_, ?_⟩
          · intro n
            rw [List.length_set]
            constructor
            · rintro (hn | hn)
              · rcases (g1 n).1 hn with h | ⟨j, hj, h⟩
                · exact .inl h
                · refine .inr ⟨j, hj, ?_⟩
                  by_cases hji : j = i
                  · subst hji; exact (hGi n).2 (.inl h)
                  · exact (hGj j hji n).2 h
              · exact .inr ⟨i, hi, (hGi n).2 (.inr hn)⟩
            · rintro (rfl | ⟨j, hj, h⟩)
              · exact .inl hblkF
              · by_cases hji : j = i
                · subst hji
                  rcases (hGi n).1 h with h | h
                  · exact .inl ((g1 n).2 (.inr ⟨j, hj, h⟩))
                  · exact .inr h
                · exact .inl ((g1 n).2 (.inr ⟨j, hj, (hGj j hji n).1 h⟩))
          · intro j hj
            rw [List.length_set] at hj
            by_cases hji : j = i
            · subst hji
              intro h
              rcases (hGi blk).1 h with h | h
              · exact g2 j hi h
              · exact hblkF' h
            · exact fun h => g2 j hj ((hGj j hji blk).1 h)
          · intro j l n hj hl' q1 q2
            rw [List.length_set] at hj hl'
            have key : ∀ j, j < List.length x → Fs j n → ¬ F' n := fun j hj h => hdis n ((g1 n).2 (.inr ⟨j, hj, h⟩))
            by_cases hji : j = i
            · by_cases hli : l = i
              · rw [hji, hli]
              · rw [hji] at q1
                have q2 := (hGj l hli n).1 q2
                rcases (hGi n).1 q1 with q1 | q1
                · rw [hji]; exact g3 i l n hi hl' q1 q2
                · exact absurd q1 (key l hl' q2)
            · have q1 := (hGj j hji n).1 q1
              by_cases hli : l = i
              · rw [hli] at q2
                rcases (hGi n).1 q2 with q2 | q2
                · rw [hli]; exact g3 j i n hj hi q1 q2
                · exact absurd q2 (key j hj q1)
              · exact g3 j l n hj hl' q1 ((hGj l hli n).1 q2)
          · intro j hj
            rw [List.length_set] at hj
            rw [getD_set _ _ _ _ _ hi, hsub_none]
            by_cases hji : j = i
            · subst hji
              simp only [if_true]
              rw [a3]
              have : G j = fun n => Fs j n ∨ F' n := funext fun n => propext (hGi n)
              rw [this]
              exact e1
            · simp only [if_neg hji]
              rw [a4 j hj hji]
              have Hj := g4 j hj
              rw [hsub_other _ (Ne.symm hji)] at Hj
              have : G j = Fs j := funext fun n => propext (hGj j hji n)
              rw [this]
              refine Hj.frame hfr fun n hn => hw n ?_
              rintro rfl
              rcases e2 with ⟨rfl, _⟩ | ⟨q1, _⟩
              · exact g2 j hj hn
              · exact hji (g3 j i _ hj hi hn q1)
    | prod a c =>
      have hl : Loc w b o cs := by
        rcases hl with ⟨_, _, _, _, h, _⟩ | hl
        · cases h
        · exact hl
      rcases H with H | ⟨_, H⟩
      · simp at H
      · cases ct with
        | nil => exact H.elim
        | leaf => exact H.elim
        | node => exact H.elim
        | pair u v =>
          obtain ⟨c1, c2, F1, F2, rfl, g1, g2, g3, g4⟩ := H
          have hw1 : c1.length = a.width := g3.length
          have hl1 : Loc w b o c1 := by
            obtain ⟨arr, E, q1, q2, q3⟩ := hl
            rw [List.length_append] at q2
            refine ⟨arr, E, q1, by omega, ?_⟩
            have := congrArg (List.take c1.length) q3
            simpa [cellsAt, List.take_take, Nat.min_eq_left (Nat.le_add_right c1.length c2.length)] using this
          have hl2 : Loc w b (o + a.width) c2 := by
            obtain ⟨arr, E, q1, q2, q3⟩ := hl
            rw [List.length_append] at q2
            refine ⟨arr, E, q1, by omega, ?_⟩
            have := congrArg (List.drop c1.length) q3
            rw [List.drop_left] at this
            rw [← hw1, ← this]
            simp [cellsAt, List.drop_take, List.drop_drop]
          have hd1 : ∀ n, F1 n → ¬ F' n := fun n hn => hdis n ((g1 n).2 (.inl hn))
          have hd2 : ∀ n, F2 n → ¬ F' n := fun n hn => hdis n ((g1 n).2 (.inr hn))
          have hb1 : ¬ F1 b := fun h => hFbase ((g1 _).2 (.inl h))
          have hb2 : ¬ F2 b := fun h => hFbase ((g1 _).2 (.inr h))
          match i, hok, hyt, hkk, ha, g3, g4 with
          | 0, hok, hyt, hkk, ha, g3, g4 =>
            rw [hsub_same] at g3
            rw [hsub_other _ (by omega)] at g4
            obtain ⟨cs2, e1, e2⟩ := ih a k x.1 u c1 F1 b o g3 hok (.inr hl1) hb1 hyt hkk hd1 ha
            refine ⟨cs2 ++ c2, .inr ⟨by simp, cs2, c2, fun n => F1 n ∨ F' n, F2, rfl, ?_, ?_, by simpa [setT] using e1, ?_⟩, ?_⟩
            · intro n
              constructor
              · rintro (h | h)
                · rcases (g1 n).1 h with h | h
                  · exact .inl (.inl h)
                  · exact .inr h
                · exact .inl (.inr h)
              · rintro ((h | h) | h)
                · exact .inl ((g1 n).2 (.inl h))
                · exact .inr h
                · exact .inl ((g1 n).2 (.inr h))
            · rintro n (h | h) h2
              · exact g2 n h h2
              · exact hd2 n h2 h
            · refine (show Own w S c k x.2 none v c2 F2 from g4).frame hfr fun n hn => hw n ?_
              rintro rfl
              rcases e2 with ⟨rfl, _⟩ | ⟨h, _⟩
              · exact hb2 hn
              · exact g2 _ h hn
            · rcases e2 with ⟨rfl, q1, q2, q3⟩ | ⟨h, h', rfl⟩
              · refine .inl ⟨rfl, q1, by rw [List.length_append]; omega, ?_⟩
                rw [q3, List.take_append_of_le_length (by omega), List.drop_append_of_le_length (by omega)]
                simp
              · exact .inr ⟨(g1 _).2 (.inl h), h', rfl⟩
          | 1, hok, hyt, hkk, ha, g3, g4 =>
            rw [hsub_other _ (by omega)] at g3
            rw [hsub_same] at g4
            obtain ⟨cs2, e1, e2⟩ := ih c k x.2 v c2 F2 b (o + a.width) g4 hok (.inr hl2) hb2 hyt hkk hd2 ha
            refine ⟨c1 ++ cs2, .inr ⟨by simp, c1, cs2, F1, fun n => F2 n ∨ F' n, rfl, ?_, ?_, ?_, by simpa [setT] using e1⟩, ?_⟩
            · intro n
              constructor
              · rintro (h | h)
                · rcases (g1 n).1 h with h | h
                  · exact .inl h
                  · exact .inr (.inl h)
                · exact .inr (.inr h)
              · rintro (h | (h | h))
                · exact .inl ((g1 n).2 (.inl h))
                · exact .inl ((g1 n).2 (.inr h))
                · exact .inr h
            · rintro n h (h2 | h2)
              · exact g2 n h h2
              · exact hd1 n h h2
            · refine (show Own w S a k x.1 none u c1 F1 from g3).frame hfr fun n hn => hw n ?_
              rintro rfl
              rcases e2 with ⟨rfl, _⟩ | ⟨h, _⟩
              · exact hb1 hn
              · exact g2 _ hn h
            · rcases e2 with ⟨rfl, q1, q2, q3⟩ | ⟨h, h', rfl⟩
              · refine .inl ⟨rfl, by omega, by rw [List.length_append]; omega, ?_⟩
                have e3 : o' - o = c1.length + (o' - (o + a.width)) := by omega
                rw [q3, e3, List.take_length_add_append, Nat.add_assoc, List.drop_length_add_append]
                simp
              · exact .inr ⟨(g1 _).2 (.inr h), h', rfl⟩
          | (_ + 2), hok, _, _, _, _, _ => exact hok.elim
    | int => exact hok.elim
    | bool => exact hok.elim
    | str => exact hok.elim
    | raw => exact hok.elim

/-- No hole on the way to the end of a path, nor there. -/
def hclear (p : List Nat) : Option (List Nat) → Bool
  | none => true
  | some q => decide (p.length < q.length)

def hclear0 (p : List Nat) : Option (List Nat) → Bool
  | none => true
  | some q => decide (p.length ≤ q.length)

theorem hclear_sub {i : Nat} {p : List Nat} {h : Option (List Nat)} (hc : hclear (i :: p) h = true) : hclear p (hsub h i) = true := by
  cases h with
  | none => rfl
  | some q =>
    cases q with
    | nil => simp [hclear] at hc
    | cons j q =>
      simp only [hsub]
      split
      · simp [hclear] at hc ⊢; exact hc
      · rfl

theorem hclear_0 {p : List Nat} {h : Option (List Nat)} (hc : hclear p h = true) : hclear0 p h = true := by
  cases h with
  | none => rfl
  | some q => simp [hclear, hclear0] at hc ⊢; omega

/-- What stands at the end of a path. -/
theorem nodeAt0 {w : World} {S : Nat → Prop} : ∀ (p : List Nat) (t : Ty) (k : Nat) (x : t.den) (h : Option (List Nat)) (ct : CT) (cs : List Value) (F : Nat → Prop) (b o : Nat),
    Own w S t k x h ct cs F → okS p t x k → hclear0 p h = true → LocOr p t w b o cs →
    ∃ cs' F' h', Loc w (addrOf p t ct (b, o)).1 (addrOf p t ct (b, o)).2 cs' ∧
      Own w S (getS p t x).t (dep p t k) (getS p t x).x h' (atCT p t ct) cs' F' ∧ (∀ n, F' n → F n) ∧ (hclear p h = true → h' ≠ some []) ∧ (h = none → h' = none) ∧
      ((addrOf p t ct (b, o)).1 = b ∨ F (addrOf p t ct (b, o)).1)
  | [], t, k, x, h, ct, cs, F, b, o, H, _, hc, hl => by
    have hl : Loc w b o cs := by
      rcases hl with ⟨_, _, _, _, _, h⟩ | hl
      · cases h
      · exact hl
    refine ⟨cs, F, h, hl, H, fun _ h => h, ?_, id, .inl rfl⟩
    rintro hc rfl
    simp [hclear] at hc
  | i :: p, .list e t, k, xs, h, ct, cs, F, b, o, H, hok, hc, _ => by
    obtain ⟨hk, hi, hok⟩ := hok
    obtain ⟨k, rfl⟩ : ∃ k', k = k' + 1 := ⟨k - 1, by omega⟩
    rcases H with H | ⟨_, H⟩
    · obtain ⟨rfl, _⟩ := H; simp [hclear0] at hc
    · cases ct with
      | nil => obtain ⟨rfl, _⟩ := H; simp at hi
      | leaf => exact H.elim
      | pair => exact H.elim
      | node blk cap kids =>
        obtain ⟨h1, h2, h3, arr, h4, h5, Fs, g1, g2, g3, g4⟩ := H
        have hfit : i * t.width + t.width ≤ arr.size := by
          rw [h5, ← Nat.succ_mul]; exact Nat.mul_le_mul_right _ (by omega)
        have hlen : (cellsAt arr (i * t.width) t.width).length = t.width := length_cellsAt hfit
        have hloc : Loc w blk (i * t.width) (cellsAt arr (i * t.width) t.width) := ⟨arr, e, h4, by rw [hlen]; exact hfit, by rw [hlen]⟩
        have hc' : hclear0 p (hsub h i) = true := by
          cases h with
          | none => rfl
          | some q =>
            cases q with
            | nil => simp [hclear0] at hc
            | cons j q =>
              simp only [hsub]
              split
              · simp [hclear0] at hc ⊢; exact hc
              · rfl
        obtain ⟨cs', F', h', e1, e2, e3, e4, e5, e6⟩ := nodeAt0 p t k (xs.getD i t.dflt) (hsub h i) (kids i) _ (Fs i) blk (i * t.width) (g4 i hi) hok hc' (.inr hloc)
        refine ⟨cs', F', h', e1, e2, fun n hn => (g1 n).2 (.inr ⟨i, hi, e3 n hn⟩), fun hh => e4 (hclear_sub hh), fun hh => e5 (by rw [hh]; rfl), .inr ?_⟩
        show F (addrOf p t (kids i) (blk, i * t.width)).1
        rcases e6 with e | e
        · rw [e]; exact (g1 _).2 (.inl rfl)
        · exact (g1 _).2 (.inr ⟨i, hi, e⟩)
  | 0 :: p, .prod a c, k, x, h, ct, cs, F, b, o, H, hok, hc, hl => by
    have hl : Loc w b o cs := by
      rcases hl with ⟨_, _, _, _, h, _⟩ | hl
      · cases h
      · exact hl
    rcases H with H | ⟨_, H⟩
    · obtain ⟨rfl, _⟩ := H; simp [hclear0] at hc
    · cases ct with
      | nil => exact H.elim
      | leaf => exact H.elim
      | node => exact H.elim
      | pair u v =>
        obtain ⟨c1, c2, F1, F2, rfl, g1, g2, g3, g4⟩ := H
        have hl1 : Loc w b o c1 := by
          obtain ⟨arr, E, q1, q2, q3⟩ := hl
          rw [List.length_append] at q2
          refine ⟨arr, E, q1, by omega, ?_⟩
          have := congrArg (List.take c1.length) q3
          simpa [cellsAt, List.take_take, Nat.min_eq_left (Nat.le_add_right c1.length c2.length)] using this
        have hc' : hclear0 p (hsub h 0) = true := by
          cases h with
          | none => rfl
          | some q =>
            cases q with
            | nil => simp [hclear0] at hc
            | cons j q =>
              simp only [hsub]
              split
              · simp [hclear0] at hc ⊢; exact hc
              · rfl
        obtain ⟨cs', F', h', e1, e2, e3, e4, e5, e6⟩ := nodeAt0 p a k x.1 _ u c1 F1 b o g3 hok hc' (.inr hl1)
        refine ⟨cs', F', h', e1, e2, fun n hn => (g1 n).2 (.inl (e3 n hn)), fun hh => e4 (hclear_sub hh), fun hh => e5 (by rw [hh]; rfl), ?_⟩
        rcases e6 with e | e
        · exact .inl e
        · exact .inr ((g1 _).2 (.inl e))
  | 1 :: p, .prod a c, k, x, h, ct, cs, F, b, o, H, hok, hc, hl => by
    have hl : Loc w b o cs := by
      rcases hl with ⟨_, _, _, _, h, _⟩ | hl
      · cases h
      · exact hl
    rcases H with H | ⟨_, H⟩
    · obtain ⟨rfl, _⟩ := H; simp [hclear0] at hc
    · cases ct with
      | nil => exact H.elim
      | leaf => exact H.elim
      | node => exact H.elim
      | pair u v =>
        obtain ⟨c1, c2, F1, F2, rfl, g1, g2, g3, g4⟩ := H
        have hw1 : c1.length = a.width := g3.length
        have hl2 : Loc w b (o + a.width) c2 := by
          obtain ⟨arr, E, q1, q2, q3⟩ := hl
          rw [List.length_append] at q2
          refine ⟨arr, E, q1, by omega, ?_⟩
          have := congrArg (List.drop c1.length) q3
          rw [List.drop_left] at this
          rw [← hw1, ← this]
          simp [cellsAt, List.drop_take, List.drop_drop]
        have hc' : hclear0 p (hsub h 1) = true := by
          cases h with
          | none => rfl
          | some q =>
            cases q with
            | nil => simp [hclear0] at hc
            | cons j q =>
              simp only [hsub]
              split
              · simp [hclear0] at hc ⊢; exact hc
              · rfl
        obtain ⟨cs', F', h', e1, e2, e3, e4, e5, e6⟩ := nodeAt0 p c k x.2 _ v c2 F2 b (o + a.width) g4 hok hc' (.inr hl2)
        refine ⟨cs', F', h', e1, e2, fun n hn => (g1 n).2 (.inr (e3 n hn)), fun hh => e4 (hclear_sub hh), fun hh => e5 (by rw [hh]; rfl), ?_⟩
        rcases e6 with e | e
        · exact .inl e
        · exact .inr ((g1 _).2 (.inr e))
  | (_ + 2) :: _, .prod _ _, _, _, _, _, _, _, _, _, _, hok, _, _ => hok.elim
  | _ :: _, .int _, _, _, _, _, _, _, _, _, _, hok, _, _ => hok.elim
  | _ :: _, .bool, _, _, _, _, _, _, _, _, _, hok, _, _ => hok.elim
  | _ :: _, .str, _, _, _, _, _, _, _, _, _, hok, _, _ => hok.elim
  | _ :: _, .raw, _, _, _, _, _, _, _, _, _, hok, _, _ => hok.elim

theorem nodeAt {w : World} {S : Nat → Prop} (p : List Nat) (t : Ty) (k : Nat) (x : t.den) (h : Option (List Nat)) (ct : CT) (cs : List Value) (F : Nat → Prop) (b o : Nat)
    (H : Own w S t k x h ct cs F) (hok : okS p t x k) (hc : hclear p h = true) (hl : LocOr p t w b o cs) :
    ∃ cs' F' h', Loc w (addrOf p t ct (b, o)).1 (addrOf p t ct (b, o)).2 cs' ∧
      Own w S (getS p t x).t (dep p t k) (getS p t x).x h' (atCT p t ct) cs' F' ∧ (∀ n, F' n → F n) ∧ h' ≠ some [] ∧ (h = none → h' = none) ∧
      ((addrOf p t ct (b, o)).1 = b ∨ F (addrOf p t ct (b, o)).1) := by
  obtain ⟨cs', F', h', e1, e2, e3, e4, e5, e6⟩ := nodeAt0 p t k x h ct cs F b o H hok (hclear_0 hc) hl
  exact ⟨cs', F', h', e1, e2, e3, e4 hc, e5, e6⟩

end Fer
