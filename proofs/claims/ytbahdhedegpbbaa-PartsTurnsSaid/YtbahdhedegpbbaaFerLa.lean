/- An owned list grows by the elements of another owned list, which is given away. Over any program. -/
import Derived.Test.YtbahdhedegpbbaaFerL
namespace Fer
open Go

section
variable {P : Program} {w w' : World} {S : Nat → Prop}

theorem own_relabel {e : Nat} {t : Ty} {k : Nat} {ct : CT} {v : Value} {F : Nat → Prop} (k' : Nat) (H : Own w S (.list e t) (k + 1) [] none ct [v] F) : Own w S (.list e t) (k' + 1) [] none ct [v] F := by
  rcases own_inv H with ⟨rfl, _, hv, hF⟩ | ⟨b, cap, kids, arr, Fs, rfl, hv, q2, q3, h4, h5, g1, g2, g3, g4⟩
  · exact .inr ⟨by simp, rfl, hv, hF⟩
  · exact .inr ⟨by simp, hv, q2, q3, arr, h4, h5, Fs, g1, by simp, by simp, by simp⟩

theorem run_append_none {T e ty : Nat} {inf : TypeInfo} (ht : P.underlying T = some (.slice e)) (hi : P.info? e = some inf)
    {v : Value} {n c : Nat} {xs : List Value} {base size : Nat} (hown : w.ownsRow base e size v n xs) :
    (Builtin.append_ #[T, T] ty #[v, .slice none 0 c]).run P w = .ok v w := by
  rcases hown.2 with ⟨rfl, rfl⟩ | ⟨g, cap, cur, rfl, _, _, hnc, _⟩
  · simp [Builtin.append_, run_underlying ht, Go.sizeOf, typeInfo, hi, Builtin.lenOf, Builtin.firstCells]
  · simp [Builtin.append_, run_underlying ht, Go.sizeOf, typeInfo, hi, Builtin.lenOf, Builtin.firstCells, hnc, storeCells]

theorem Own.oneCell : ∀ {t : Ty} {k : Nat} {x : t.den} {ct : CT} {cs : List Value} {F : Nat → Prop}, Own w S t k x none ct cs F → ∀ u ∈ cs, u.oneCell' = true
  | .int k', _, _, _, _, _, h => by
    obtain ⟨_, h | h⟩ := h
    · cases h.1
    · exact h.2.oneCell
  | .bool, _, _, _, _, _, h => by
    obtain ⟨_, h | h⟩ := h
    · cases h.1
    · exact h.2.oneCell
  | .str, _, _, _, _, _, h => by
    obtain ⟨_, h | h⟩ := h
    · cases h.1
    · exact h.2.oneCell
  | .raw, _, _, _, _, _, h => by
    obtain ⟨_, h | h⟩ := h
    · cases h.1
    · exact h.2.oneCell
  | .list e t, 0, _, _, _, _, h => by
    rcases h with h | ⟨_, h⟩
    · cases h.1
    · exact h.2.1.oneCell
  | .list e t, k + 1, _, _, _, _, h => by
    rcases own_inv h with ⟨_, _, rfl, _⟩ | ⟨_, _, _, _, _, _, rfl, _⟩
    · simp [Value.oneCell']
    · simp [Value.oneCell']
  | .prod a b, k, x, ct, cs, F, h => by
    rcases h with h | ⟨_, h⟩
    · cases h.1
    · cases ct with
      | pair c d =>
        obtain ⟨c1, c2, F1, F2, rfl, _, _, h1, h2⟩ := h
        intro u hu
        rcases List.mem_append.1 hu with hu | hu
        · exact Own.oneCell (t := a) h1 u hu
        · exact Own.oneCell (t := b) h2 u hu
      | nil => exact h.elim
      | leaf => exact h.elim
      | node => exact h.elim

theorem own_cat {T : Nat} {e : Nat} {t : Ty} {k : Nat} {l : List t.den} {ct : CT} {v : Value} {F : Nat → Prop} (H : Own w S (.list e t) (k + 1) l none ct [v] F)
    {y : List t.den} {ct2 : CT} {v2 : Value} {F2 : Nat → Prop} (H2 : Own w S (.list e t) (k + 1) y none ct2 [v2] F2)
    {inf : TypeInfo} {z : Value} {bytes ty : Nat} (hT : P.underlying T = some (.slice e)) (hi : P.info? e = some inf) (hz : inf.zero = some z) (hsz : inf.size = t.width) (hby : inf.bytes = bytes) (hzs : z.cells.toList.length = t.width)
    (hdis : ∀ n, F2 n → ¬ F n) (hF : ∀ n, F n → n < w.heap.size) (hF2 : ∀ n, F2 n → n < w.heap.size) (hS : ∀ n, S n → n < w.heap.size ∧ ¬ F n)
    (hbytes : (l.length + y.length) * bytes ≤ 140737488355328) (h63 : l.length + y.length ≤ maxLen) :
    ∃ v' w' ct' F', (Builtin.append_ #[T, T] ty #[v, v2]).run P w = .ok v' w' ∧ Own w' S (.list e t) (k + 1) (l ++ y) none ct' [v'] F' ∧
      (∀ n, F' n → (F n ∨ F2 n) ∨ (w.heap.size ≤ n ∧ n < w'.heap.size)) ∧
      w'.os = w.os ∧ w'.tape = w.tape ∧ SameOut w w' ∧ w.heap.size ≤ w'.heap.size ∧ ∀ n, n < w.heap.size → ¬ F n → w'.heap[n]? = w.heap[n]? := by
  obtain ⟨ys, hrow2⟩ := own_rowOf H2
  rcases own_inv H2 with ⟨_, rfl, h, _⟩ | ⟨b, cap, kids, arr, Fs, _, h, h2, h3, h4, h5, g1, g2, g3, g4⟩
  · simp at h; subst h
    obtain ⟨xs, hrow⟩ := own_rowOf H
    exact ⟨v, w, ct, F, run_append_none hT hi hrow, by rw [List.append_nil]; exact H, fun n hn => .inl (.inl hn), rfl, rfl, SameOut.refl w, Nat.le_refl _, fun _ _ _ => rfl⟩
  · simp at h; subst h
    have hrw := hrow2
    rcases hrow2.2 with ⟨h, _⟩ | ⟨g', cap', cur, h, _, q1, q2, q3, q4, q5⟩
    · simp at h
    · simp only [Value.slice.injEq, Option.some.injEq, Addr.mk.injEq, and_true, true_and] at h
      obtain ⟨rfl, rfl⟩ := h
      rw [h4] at q1
      simp only [Option.some.injEq, Obj.cells.injEq, and_true] at q1
      subst q1
      have hck : ∀ i, i < y.length → cellsAt ys.toArray (i * t.width) t.width = cellsAt arr (i * t.width) t.width := fun i hi => (take_chunk q5 (mul_fit hi (Nat.le_refl _))).symm
      have h1 : ∀ u ∈ ys, u.oneCell' = true := by
        intro u hu
        obtain ⟨j, hj, rfl⟩ := List.mem_iff_getElem.1 hu
        have hlen : ys.length = y.length * t.width := hrw.1
        have hw : 0 < t.width := by
          rcases Nat.eq_zero_or_pos t.width with h0 | h0
          · rw [h0, Nat.mul_zero] at hlen; omega
          · exact h0
        have hi : j / t.width < y.length := by rw [Nat.div_lt_iff_lt_mul hw]; omega
        have hj2 : ys[j] ∈ cellsAt ys.toArray (j / t.width * t.width) t.width := by
          have e1 : j = j / t.width * t.width + j % t.width := by rw [Nat.mul_comm]; exact (Nat.div_add_mod j t.width).symm
          have e2 : j % t.width < t.width := Nat.mod_lt _ hw
          rw [List.mem_iff_getElem?]
          refine ⟨j % t.width, ?_⟩
          simp only [cellsAt]
          rw [List.getElem?_take, if_pos e2, List.getElem?_drop, ← e1]
          simp
        have := g4 _ hi
        rw [← hck _ hi] at this
        exact this.oneCell _ hj2
      obtain ⟨v', w', ct', F', r1, r2, r3, r4⟩ := own_append (P := P) (ty := ty) H hT hi hz hsz hby hzs ⟨b, 0, none⟩ cap ys (y := y) (kids2 := kids) (F2 := Fs) hrw.1 (hrw.cells (g := b) rfl)
        (fun i hi => by rw [hck i hi]; exact g4 i hi) g3 (fun i n hi hn => ⟨hdis n ((g1 n).2 (.inr ⟨i, hi, hn⟩)), hF2 n ((g1 n).2 (.inr ⟨i, hi, hn⟩))⟩) hF hS h1 hbytes h63
      exact ⟨v', w', ct', F', r1, r2, fun n hn => by
          rcases r3 n hn with (h | ⟨i, hi, h⟩) | h
          · exact .inl (.inl h)
          · exact .inl (.inr ((g1 n).2 (.inr ⟨i, hi, h⟩)))
          · exact .inr h, r4⟩
end
end Fer
