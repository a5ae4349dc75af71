import Derived.Test.YtbahdhedegpbbaaFerMl
/- Plain facts: boxes of a partition. No program in sight. -/
namespace Fer

/-- The places of a row. -/
def rowB (i : Nat) (n : Nat) : List (Int × Int) := (List.range n).map fun (j : Nat) => ((i : Int), (j : Int))
def boxes (p : List Int) : List (Int × Int) := (List.range p.length).flatMap fun i => rowB i (p.getD i 0).toNat
def boxesTo (p : List Int) (i : Nat) : List (Int × Int) := (List.range i).flatMap fun i => rowB i (p.getD i 0).toNat

theorem boxesTo_succ (p : List Int) (i : Nat) : boxesTo p (i + 1) = boxesTo p i ++ rowB i (p.getD i 0).toNat := by
  unfold boxesTo
  rw [List.range_succ, List.flatMap_append]
  simp
theorem rowB_succ (i n : Nat) : rowB i (n + 1) = rowB i n ++ [((i : Int), (n : Int))] := by
  unfold rowB
  rw [List.range_succ, List.map_append]
  rfl
@[simp] theorem rowB_length (i n : Nat) : (rowB i n).length = n := by simp [rowB]
theorem boxesTo_le {p : List Int} {c : Nat} (h : ∀ x ∈ p, 0 ≤ x ∧ x ≤ (c : Int)) : ∀ i, i ≤ p.length → (boxesTo p i).length ≤ i * c
  | 0, _ => by simp [boxesTo]
  | i + 1, hi => by
    have := boxesTo_le h i (by omega)
    have := h _ (getD_mem 0 (show i < p.length by omega))
    rw [boxesTo_succ, List.length_append, rowB_length, Nat.add_mul]
    omega

/-- One box more. -/
def fbOne (out : List Int) (b : Int × Int) : List Int := (out ++ List.replicate (b.1.toNat + 1 - out.length) 0).set b.1.toNat ((out ++ List.replicate (b.1.toNat + 1 - out.length) 0).getD b.1.toNat 0 + 1)
def fromB (l : List (Int × Int)) : List Int := l.foldl fbOne []

theorem fromB_take {l : List (Int × Int)} {i : Nat} (h : i < l.length) : fromB (l.take (i + 1)) = fbOne (fromB (l.take i)) (l.getD i (0, 0)) := foldl_take_succ _ _ _ h
theorem fbOne_length (out : List Int) (b : Int × Int) : (fbOne out b).length = max out.length (b.1.toNat + 1) := by
  unfold fbOne
  rw [List.length_set, List.length_append, List.length_replicate]
  omega
theorem fromB_length {c : Nat} : ∀ (l : List (Int × Int)), (∀ b ∈ l, 0 ≤ b.1 ∧ b.1 < (c : Int)) → ∀ i, i ≤ l.length → (fromB (l.take i)).length ≤ c
  | l, h, 0, _ => by simp [fromB]
  | l, h, i + 1, hi => by
    have := fromB_length l h i (by omega)
    have hm : l.getD i (0, 0) ∈ l := getD_mem _ (by omega)
    have := h _ hm
    rw [fromB_take (by omega), fbOne_length]
    omega
theorem fbOne_val {out : List Int} {b : Int × Int} {c : Int} (h : ∀ k, out.getD k 0 ≤ c) (h0 : 0 ≤ c) : ∀ k, (fbOne out b).getD k 0 ≤ c + 1 := fun k => by
  unfold fbOne
  have hap : ∀ k, (out ++ List.replicate (b.1.toNat + 1 - out.length) 0).getD k 0 ≤ c := fun k => by
    rw [append_getD]
    split
    · exact h k
    · rw [replicate_getD]; exact h0
  rw [getD_set_if 0 (by rw [List.length_append, List.length_replicate]; omega)]
  have := hap k
  have := hap b.1.toNat
  split <;> omega
theorem fromB_val {l : List (Int × Int)} : ∀ i, i ≤ l.length → ∀ k, 0 ≤ (fromB (l.take i)).getD k 0 ∧ (fromB (l.take i)).getD k 0 ≤ i
  | 0, _, k => by simp [fromB]
  | i + 1, hi, k => by
    have ih := fromB_val (l := l) i (by omega)
    rw [fromB_take (by omega)]
    generalize fromB (l.take i) = out at *
    generalize l.getD i (0, 0) = b at *
    have hap : ∀ k, 0 ≤ (out ++ List.replicate (b.1.toNat + 1 - out.length) (0 : Int)).getD k 0 ∧ (out ++ List.replicate (b.1.toNat + 1 - out.length) (0 : Int)).getD k 0 ≤ (i : Int) := fun k => by
      rw [append_getD]
      split
      · exact ih k
      · rw [replicate_getD]; omega
    unfold fbOne
    rw [getD_set_if 0 (by rw [List.length_append, List.length_replicate]; omega)]
    have := hap k
    have := hap b.1.toNat
    split <;> omega

theorem boxes_mem {p : List Int} {c : Nat} (h : ∀ x ∈ p, 0 ≤ x ∧ x ≤ (c : Int)) : ∀ b ∈ boxes p, 0 ≤ b.2 ∧ b.2 < (c : Int) := fun b hb => by
  unfold boxes at hb
  obtain ⟨i, hi, hb⟩ := List.mem_flatMap.1 hb
  unfold rowB at hb
  obtain ⟨j, hj, rfl⟩ := List.mem_map.1 hb
  rw [List.mem_range] at hi hj
  have := h _ (getD_mem 0 hi)
  dsimp only
  omega

end Fer
