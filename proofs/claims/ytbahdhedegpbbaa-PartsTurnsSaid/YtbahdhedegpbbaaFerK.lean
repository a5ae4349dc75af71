/- Slices are built, grown. Over any program. -/
import Derived.Test.YtbahdhedegpbbaaFerJ
import Derived.Great.BuildSlice
namespace Fer
open Go

theorem cellsAt_one {cs : List Value} {t : Ty} (h : cs.length = t.width) : cellsAt cs.toArray (0 * t.width) t.width = cs := by
  simp [cellsAt, ← h]

theorem cellsAt_cong {A B : Array Value} {m o n : Nat} (h : A.toList.take m = B.toList.take m) (hm : o + n ≤ m) : cellsAt A o n = cellsAt B o n := by
  have e : ∀ C : Array Value, cellsAt C o n = cellsAt (C.toList.take m).toArray o n := by
    intro C
    simp only [cellsAt, List.drop_take, List.take_take]
    rw [Nat.min_eq_left (by omega)]
  rw [e A, e B, h]

theorem mul_fit {i n m w : Nat} (hi : i < n) (hn : n ≤ m) : i * w + w ≤ m * w := by
  rw [← Nat.succ_mul]; exact Nat.mul_le_mul_right _ (by omega)

section
variable {P : Program} {w w' : World} {S : Nat → Prop}

/-- A list that is owned, of its block and its elements. -/
theorem own_row {e : Nat} {t : Ty} {k : Nat} {l : List t.den} {b cap : Nat} {arr : Array Value} {kids : Nat → CT} {Fs : Nat → Nat → Prop}
    (hb : w.heap[b]? = some (.cells arr e (0, 0))) (hs : arr.size = cap * t.width) (hl : l.length ≤ cap) (hc : cap ≤ maxLen)
    (hel : ∀ i, i < l.length → Own w S t k (l.getD i t.dflt) none (kids i) (cellsAt arr (i * t.width) t.width) (Fs i))
    (hFb : ∀ i, i < l.length → ¬ Fs i b) (hd : ∀ i j n, i < l.length → j < l.length → Fs i n → Fs j n → i = j) :
    Own w S (.list e t) (k + 1) l none (.node b cap kids) [.slice (some ⟨b, 0, none⟩) l.length cap] (fun n => n = b ∨ ∃ i, i < l.length ∧ Fs i n) :=
  .inr ⟨by simp, rfl, hl, hc, arr, hb, hs, Fs, fun _ => Iff.rfl, hFb, hd, hel⟩

/-- What a list that is owned is made of. -/
theorem own_inv {e : Nat} {t : Ty} {k : Nat} {l : List t.den} {ct : CT} {cs : List Value} {F : Nat → Prop} (H : Own w S (.list e t) (k + 1) l none ct cs F) :
    (ct = .nil ∧ l = [] ∧ cs = [.slice none 0 0] ∧ ∀ n, ¬ F n) ∨
    ∃ (b cap : Nat) (kids : Nat → CT) (arr : Array Value) (Fs : Nat → Nat → Prop), ct = .node b cap kids ∧ cs = [.slice (some ⟨b, 0, none⟩) l.length cap] ∧ l.length ≤ cap ∧ cap ≤ maxLen ∧ w.heap[b]? = some (.cells arr e (0, 0)) ∧ arr.size = cap * t.width ∧
      (∀ n, F n ↔ n = b ∨ ∃ i, i < l.length ∧ Fs i n) ∧ (∀ i, i < l.length → ¬ Fs i b) ∧ (∀ i j n, i < l.length → j < l.length → Fs i n → Fs j n → i = j) ∧
      ∀ i, i < l.length → Own w S t k (l.getD i t.dflt) none (kids i) (cellsAt arr (i * t.width) t.width) (Fs i) := by
  rcases H with H | ⟨_, H⟩
  · simp at H
  · cases ct with
    | nil => exact .inl ⟨rfl, H⟩
    | leaf => exact H.elim
    | pair => exact H.elim
    | node b cap kids =>
      obtain ⟨h1, h2, h3, arr, h4, h5, Fs, g1, g2, g3, g4⟩ := H
      exact .inr ⟨b, cap, kids, arr, Fs, rfl, h1, h2, h3, h4, h5, g1, g2, g3, fun i hi => by simpa using g4 i hi⟩

/-- An owned list as the kit's row. -/
theorem own_rowOf {e : Nat} {t : Ty} {k : Nat} {l : List t.den} {ct : CT} {v : Value} {F : Nat → Prop} (H : Own w S (.list e t) (k + 1) l none ct [v] F) :
    ∃ xs, w.ownsRow 0 e t.width v l.length xs := by
  rcases own_inv H with ⟨_, rfl, h, _⟩ | ⟨b, cap, kids, arr, Fs, _, h, h2, h3, h4, h5, _⟩
  · simp at h; exact ⟨[], by simp, .inl ⟨h, rfl⟩⟩
  · simp at h
    refine ⟨arr.toList.take (l.length * t.width), ?_, .inr ⟨b, cap, arr, h, Nat.zero_le _, h4, h2, h3, h5, rfl⟩⟩
    have h6 : l.length * t.width ≤ arr.toList.length := by rw [show arr.toList.length = arr.size from rfl, h5]; exact Nat.mul_le_mul_right _ h2
    rw [List.length_take]
    exact Nat.min_eq_left h6

theorem getD_append {α : Type} {l y : List α} {i : Nat} {d : α} : (l ++ y).getD i d = if i < l.length then l.getD i d else y.getD (i - l.length) d := by
  split
  · rename_i h; simp [List.getD_eq_getElem?_getD, List.getElem?_append_left h]
  · rename_i h; simp [List.getD_eq_getElem?_getD, List.getElem?_append_right (Nat.le_of_not_lt h)]

/-- What appending to an owned row comes to. -/
theorem append_cases {T e n bytes ty : Nat} {v : Value} {xs : List Value} {inf : TypeInfo} {z : Value} {size : Nat} (hrow : w.ownsRow 0 e size v n xs) (hT : P.underlying T = some (.slice e)) (hi : P.info? e = some inf) (hz : inf.zero = some z) (hsz : inf.size = size) (hby : inf.bytes = bytes) (hzs : z.cells.size = size)
    (ad : Addr) (m c : Nat) (news : List Value) (hl : news.length = m * size) (hnews : ∀ j u, news[j]? = some u → w.cell? (ad.add j) = some u)
    (h1 : ∀ u ∈ news, u.oneCell' = true) (hbytes : (n + m) * bytes ≤ 140737488355328) (h63 : n + m ≤ maxLen) :
    ∃ v' w', (Builtin.append_ #[T, T] ty #[v, .slice (some ad) m c]).run P w = .ok v' w' ∧
      ((v = .slice none 0 0 ∧ n = 0 ∧ m = 0 ∧ v' = v ∧ w' = w) ∨
       (∃ cap cur, v' = .slice (some ⟨w.heap.size, 0, none⟩) (n + m) cap ∧ Grew w w' ∧ w.heap.size < w'.heap.size ∧ w'.heap[w.heap.size]? = some (.cells cur e (0, 0)) ∧ n + m ≤ cap ∧ cap ≤ maxLen ∧ cur.size = cap * size ∧ cur.toList.take ((n + m) * size) = xs ++ news) ∨
       (∃ g cap cur cur', v = .slice (some ⟨g, 0, none⟩) n cap ∧ v' = .slice (some ⟨g, 0, none⟩) (n + m) cap ∧ w.heap[g]? = some (.cells cur e (0, 0)) ∧ w' = w.setRow g cur' ∧ n + m ≤ cap ∧ cap ≤ maxLen ∧ cur'.size = cap * size ∧ cur'.toList.take ((n + m) * size) = xs ++ news)) := by
  subst hsz
  subst hby
  have hsmall : n + m ≤ 9223372036854775807 := by simp only [maxLen] at h63; omega
  have hlen : (xs ++ news).length = (n + m) * inf.size := by rw [List.length_append, hrow.1, hl, Nat.add_mul]
  have grown : ∀ (old : Nat), ∃ cap cur, Value.slice (some ⟨w.heap.size, 0, none⟩) (n + m) (grownCap w (n + m) old e) = .slice (some ⟨w.heap.size, 0, none⟩) (n + m) cap ∧
      Grew w (w.drew.alloc (.cells (xs.toArray ++ news.toArray ++ Builtin.zeroCells z.cells (grownCap w (n + m) old e - (n + m))) e)) ∧
      w.heap.size < (w.drew.alloc (.cells (xs.toArray ++ news.toArray ++ Builtin.zeroCells z.cells (grownCap w (n + m) old e - (n + m))) e)).heap.size ∧
      (w.drew.alloc (.cells (xs.toArray ++ news.toArray ++ Builtin.zeroCells z.cells (grownCap w (n + m) old e - (n + m))) e)).heap[w.heap.size]? = some (.cells cur e (0, 0)) ∧
      n + m ≤ cap ∧ cap ≤ maxLen ∧ cur.size = cap * inf.size ∧ cur.toList.take ((n + m) * inf.size) = xs ++ news := by
    intro old
    have hge := grownCap_ge w (n + m) old e
    have hcm : grownCap w (n + m) old e ≤ maxLen := grownCap_le_maxLen w (n + m) old e h63
    refine ⟨_, _, rfl, (Grew.drew w).trans (Grew.alloc w.drew _ _), by simp, heap_alloc_new w.drew _, hge, hcm, ?_, ?_⟩
    · simp only [Array.size_append, List.size_toArray, size_zeroCells, hzs, hrow.1, hl, ← Nat.add_mul]
      congr 1
      omega
    · simp only [Array.toList_append, List.append_assoc]
      rw [← List.append_assoc, ← hlen]
      exact List.take_left
  rcases hrow.2 with ⟨rfl, rfl⟩ | ⟨g, cap, cur, rfl, hbg, hg, hnc, hcm, hcs, htake⟩
  · have hx : xs = [] := List.eq_nil_of_length_eq_zero (by simpa using hrow.1)
    subst hx
    by_cases hm : m = 0
    · subst hm
      have hn : news = [] := List.eq_nil_of_length_eq_zero (by simpa using hl)
      subst hn
      refine ⟨.slice none 0 0, w, ?_, .inl ⟨rfl, rfl, rfl, rfl, rfl⟩⟩
      simp [Builtin.append_, run_underlying hT, Go.sizeOf, typeInfo, hi, Builtin.lenOf, Builtin.firstCells, loadCells, loadCellsFrom]
    · have hr := run_append_nil (P := P) w T ty e inf z hT hi hz ad m c news hl hnews (by omega) (by omega) (by have hb := hbytes; simp only [Nat.zero_add] at hb; omega)
      have hgr := grown 0
      simp only [Nat.zero_add, List.nil_append, Array.empty_append] at hgr ⊢
      exact ⟨_, _, hr, .inr (.inl hgr)⟩
  · by_cases hroom : n + m ≤ cap
    · have hfit : n * inf.size + news.length ≤ cur.size := by rw [hl, hcs, ← Nat.add_mul]; exact Nat.mul_le_mul_right _ hroom
      have hr := run_append_room (P := P) w T ty e inf hT hi g n cap cur hg ad m c news hl hnews h1 hroom hfit
      refine ⟨_, _, hr, .inr (.inr ⟨g, cap, cur, _, rfl, rfl, hg, rfl, hroom, hcm, ?_, ?_⟩)⟩
      · simp only [List.size_toArray, List.length_append, List.length_take, List.length_drop, Array.length_toList]
        omega
      · rw [htake, ← hlen]
        exact List.take_left
    · have holds : ∀ j u, xs[j]? = some u → w.cell? ((⟨g, 0, none⟩ : Addr).add j) = some u := hrow.cells (g := g) rfl
      have hr := run_append_grow (P := P) w T ty e inf z hT hi hz ⟨g, 0, none⟩ n cap xs hrow.1 holds ad m c news hl hnews (by omega) (by omega) (growslice_fits (by omega) hbytes)
      exact ⟨_, _, hr, .inr (.inl (grown cap))⟩

theorem take_chunk {cur : Array Value} {xs : List Value} {N o n : Nat} (h : cur.toList.take N = xs) (hN : o + n ≤ N) : cellsAt cur o n = cellsAt xs.toArray o n := by
  refine cellsAt_cong (m := N) ?_ hN
  rw [← h]; simp [List.take_take]

theorem chunk_left {xs ys : List Value} {o n : Nat} (h : o + n ≤ xs.length) : cellsAt (xs ++ ys).toArray o n = cellsAt xs.toArray o n := by
  refine cellsAt_cong (m := xs.length) ?_ h
  simp

theorem chunk_right {xs ys : List Value} {o n : Nat} : cellsAt (xs ++ ys).toArray (xs.length + o) n = cellsAt ys.toArray o n := by
  simp only [cellsAt, List.drop_append]
  rw [List.drop_eq_nil_of_le (Nat.le_add_right _ _), List.nil_append, Nat.add_sub_cancel_left]

/-- An owned list grows by elements that lie somewhere. -/
theorem own_append {T : Nat} {e : Nat} {t : Ty} {k : Nat} {l : List t.den} {ct : CT} {v : Value} {F : Nat → Prop} (H : Own w S (.list e t) (k + 1) l none ct [v] F)
    {inf : TypeInfo} {z : Value} {bytes ty : Nat} (hT : P.underlying T = some (.slice e)) (hi : P.info? e = some inf) (hz : inf.zero = some z) (hsz : inf.size = t.width) (hby : inf.bytes = bytes) (hzs : z.cells.toList.length = t.width)
    (ad : Addr) (c : Nat) (news : List Value) {y : List t.den} {kids2 : Nat → CT} {F2 : Nat → Nat → Prop} (hl : news.length = y.length * t.width)
    (hnews : ∀ j u, news[j]? = some u → w.cell? (ad.add j) = some u)
    (hel : ∀ i, i < y.length → Own w S t k (y.getD i t.dflt) none (kids2 i) (cellsAt news.toArray (i * t.width) t.width) (F2 i))
    (hd : ∀ i j n, i < y.length → j < y.length → F2 i n → F2 j n → i = j) (hF2 : ∀ i n, i < y.length → F2 i n → ¬ F n ∧ n < w.heap.size) (hF : ∀ n, F n → n < w.heap.size) (hS : ∀ n, S n → n < w.heap.size ∧ ¬ F n)
    (h1 : ∀ u ∈ news, u.oneCell' = true) (hbytes : (l.length + y.length) * bytes ≤ 140737488355328) (h63 : l.length + y.length ≤ maxLen) :
    ∃ v' w' ct' F', (Builtin.append_ #[T, T] ty #[v, .slice (some ad) y.length c]).run P w = .ok v' w' ∧ Own w' S (.list e t) (k + 1) (l ++ y) none ct' [v'] F' ∧
      (∀ n, F' n → (F n ∨ ∃ i, i < y.length ∧ F2 i n) ∨ (w.heap.size ≤ n ∧ n < w'.heap.size)) ∧
      w'.os = w.os ∧ w'.tape = w.tape ∧ SameOut w w' ∧ w.heap.size ≤ w'.heap.size ∧ ∀ n, n < w.heap.size → ¬ F n → w'.heap[n]? = w.heap[n]? := by
  obtain ⟨xs, hrow⟩ := own_rowOf H
  obtain ⟨v', w', hr, hcase⟩ := append_cases (P := P) (ty := ty) hrow hT hi hz hsz hby (by simpa using hzs) ad y.length c news hl hnews h1 hbytes h63
  have hxl : xs.length = l.length * t.width := hrow.1
  -- the old elements, and where they lie
  have hold : ∃ (kids1 : Nat → CT) (Fs : Nat → Nat → Prop), (∀ i, i < l.length → Own w S t k (l.getD i t.dflt) none (kids1 i) (cellsAt xs.toArray (i * t.width) t.width) (Fs i)) ∧ (∀ i n, i < l.length → Fs i n → F n ∧ v.ownBlock ≠ some n) ∧
      (∀ i j n, i < l.length → j < l.length → Fs i n → Fs j n → i = j) ∧ ∀ g, v.ownBlock = some g → F g := by
    rcases own_inv H with ⟨_, rfl, h, _⟩ | ⟨b, cap, kids, arr, Fs, _, h, h2, h3, h4, h5, g1, g2, g3, g4⟩
    · refine ⟨fun _ => .leaf, fun _ => noF, by simp, by simp, by simp, ?_⟩
      simp at h; subst h; simp [Value.ownBlock]
    · simp at h; subst h
      rcases hrow.2 with ⟨h, _⟩ | ⟨g', cap', cur, h, _, q1, q2, q3, q4, q5⟩
      · simp at h
      · simp only [Value.slice.injEq, Option.some.injEq, Addr.mk.injEq, and_true, true_and] at h
        obtain ⟨rfl, rfl⟩ := h
        rw [h4] at q1
        simp only [Option.some.injEq, Obj.cells.injEq, and_true] at q1
        subst q1
        refine ⟨kids, Fs, fun i hi => ?_, fun i n hi hn => ⟨(g1 n).2 (.inr ⟨i, hi, hn⟩), ?_⟩, g3, ?_⟩
        · rw [← take_chunk q5 (mul_fit hi (Nat.le_refl _))]; exact g4 i hi
        · simp only [Value.ownBlock, ne_eq, Option.some.injEq]; rintro rfl; exact g2 i hi hn
        · simp only [Value.ownBlock, Option.some.injEq]; rintro g rfl; exact (g1 _).2 (.inl rfl)
  obtain ⟨kids1, Fs, o1, o2, o3, o4⟩ := hold
  have build : ∀ (w' : World) (b cap : Nat) (cur : Array Value), (∀ n, n < w.heap.size → n ≠ b → w'.heap[n]? = w.heap[n]?) → (v.ownBlock = some b ∨ b = w.heap.size) → w'.heap[b]? = some (.cells cur e (0, 0)) →
      l.length + y.length ≤ cap → cap ≤ maxLen → cur.size = cap * t.width → cur.toList.take ((l.length + y.length) * t.width) = xs ++ news →
      ∃ ct' F', Own w' S (.list e t) (k + 1) (l ++ y) none ct' [.slice (some ⟨b, 0, none⟩) (l.length + y.length) cap] F' ∧ (∀ n, F' n → n = b ∨ F n ∨ ∃ i, i < y.length ∧ F2 i n) := by
    intro w' b cap cur hw hb hbc hcap hcm hcs htake
    have hbS : ∀ n, S n → n ≠ b := by
      rintro n hn rfl
      rcases hb with hb | rfl
      · exact (hS n hn).2 (o4 n hb)
      · have := (hS _ hn).1; omega
    have hfr : ∀ n, S n → S n ∧ w'.heap[n]? = w.heap[n]? := fun n hn => ⟨hn, hw n (hS n hn).1 (hbS n hn)⟩
    have e1 : ∀ i n, i < l.length → Fs i n → n ≠ b := by
      rintro i n hi hn rfl
      rcases hb with hb | rfl
      · exact (o2 i n hi hn).2 hb
      · have := hF _ (o2 i _ hi hn).1; omega
    have e2 : ∀ i n, i < y.length → F2 i n → n ≠ b := by
      rintro i n hi hn rfl
      rcases hb with hb | rfl
      · exact (hF2 i n hi hn).1 (o4 n hb)
      · have := (hF2 i _ hi hn).2; omega
    have hlen : (l ++ y).length = l.length + y.length := List.length_append
    refine ⟨_, _, by
      have := own_row (w := w') (S := S) (e := e) (t := t) (k := k) (l := l ++ y) (b := b) (cap := cap) (arr := cur) (kids := fun i => if i < l.length then kids1 i else kids2 (i - l.length))
        (Fs := fun i => if i < l.length then Fs i else F2 (i - l.length)) hbc hcs (by rw [hlen]; exact hcap) hcm (fun i hi => ?_) (fun i hi => ?_) (fun i j n hi hj h1 h2 => ?_)
      · rw [hlen] at this; exact this
      · rw [hlen] at hi
        rw [getD_append]
        have hck : cellsAt cur (i * t.width) t.width = cellsAt (xs ++ news).toArray (i * t.width) t.width := take_chunk htake (mul_fit hi (Nat.le_refl _))
        rw [hck]
        by_cases h : i < l.length
        · simp only [if_pos h]
          rw [chunk_left (by rw [hxl]; exact mul_fit h (Nat.le_refl _))]
          exact (o1 i h).frame hfr fun n hn => hw n (hF n (o2 i n h hn).1) (e1 i n h hn)
        · simp only [if_neg h]
          have e3 : i * t.width = xs.length + (i - l.length) * t.width := by
            rw [hxl, ← Nat.add_mul]; congr 1; omega
          rw [e3, chunk_right]
          exact (hel (i - l.length) (by omega)).frame hfr fun n hn => hw n (hF2 _ n (by omega) hn).2 (e2 _ n (by omega) hn)
      · rw [hlen] at hi
        by_cases h : i < l.length
        · simp only [if_pos h]; exact fun hn => e1 i b h hn rfl
        · simp only [if_neg h]; exact fun hn => e2 _ b (by omega) hn rfl
      · rw [hlen] at hi hj
        by_cases hi' : i < l.length <;> by_cases hj' : j < l.length
        · simp only [if_pos hi', if_pos hj'] at h1 h2; exact o3 i j n hi' hj' h1 h2
        · simp only [if_pos hi', if_neg hj'] at h1 h2; exact absurd (o2 i n hi' h1).1 (hF2 _ n (by omega) h2).1
        · simp only [if_neg hi', if_pos hj'] at h1 h2; exact absurd (o2 j n hj' h2).1 (hF2 _ n (by omega) h1).1
        · simp only [if_neg hi', if_neg hj'] at h1 h2; have := hd _ _ n (by omega) (by omega) h1 h2; omega, fun n hn => ?_⟩
    rcases hn with hn | ⟨i, hi, hn⟩
    · exact .inl hn
    · by_cases h : i < l.length
      · simp only [if_pos h] at hn; exact .inr (.inl (o2 i n h hn).1)
      · simp only [if_neg h] at hn; exact .inr (.inr ⟨_, by omega, hn⟩)
  rcases hcase with ⟨rfl, hn, hm, rfl, rfl⟩ | ⟨cap, cur, rfl, g, hlt, hbc, c1, c2, c3, c4⟩ | ⟨b, cap, cur0, cur, rfl, rfl, hb0, rfl, c1, c2, c3, c4⟩
  · have hy : y = [] := List.eq_nil_of_length_eq_zero hm
    subst hy
    exact ⟨_, _, ct, F, hr, by simpa using H, fun n hn => .inl (.inl hn), rfl, rfl, SameOut.refl _, Nat.le_refl _, fun _ _ _ => rfl⟩
  · obtain ⟨ct', F', q1, q2⟩ := build w' w.heap.size cap cur (fun n hn _ => g.old n hn) (.inr rfl) hbc c1 c2 c3 c4
    refine ⟨_, _, ct', F', hr, q1, fun n hn => ?_, g.os, g.tape, g.output, g.size, fun n hn _ => g.old n hn⟩
    rcases q2 n hn with rfl | h | h
    · exact .inr ⟨Nat.le_refl _, hlt⟩
    · exact .inl (.inl h)
    · exact .inl (.inr h)
  · obtain ⟨ct', F', q1, q2⟩ := build (w.setRow b cur) b cap cur (fun n hn hne => setRow_other w b n _ hne) (.inl rfl) (setRow_heap w b cur0 cur e (0, 0) hb0) c1 c2 c3 c4
    refine ⟨_, _, ct', F', hr, q1, fun n hn => ?_, rfl, rfl, sameOut_setRow hb0, by rw [setRow_size]; exact Nat.le_refl _, fun n hn hnF => setRow_other w b n _ fun e => hnF (e ▸ o4 b rfl)⟩
    rcases q2 n hn with rfl | h | h
    · exact .inl (.inl (o4 n rfl))
    · exact .inl (.inl h)
    · exact .inl (.inr h)

end
end Fer
