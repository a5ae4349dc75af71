/-
  slices.Delete at []int as a contract: the list is given away, and comes back without a part. No condition.
-/
import Derived.Test.YtkmolkldimfoaaaRows
import Derived.Test.YtkmolkldimfoaaaSpec
import Derived.Shelf.Slices.Delete
set_option linter.unusedSimpArgs false
set_option linter.unusedVariables false
namespace Fer
open Go Go.Proofs Go.Shelf Go.Sort

def delRen : Ren := ⟨fun n => if n = 23 then 44 else 0, fun n => if n = 0 then 0 else if n = 3 then 3 else if n = 4 then 4 else if n = 22 then 25 else 0, fun n => n⟩

theorem delLay : Lays2.n23 Try.prog delRen where
  mixed := hm_ok
  f23 := by kernel_rfl
  t0 := Try.underlying0
  a0 := Try.isAgg0
  z0 := Try.sizeOf0
  v0 := Try.zeroValue0
  t3 := Try.underlying3
  a3 := Try.isAgg3
  z3 := Try.sizeOf3
  v3 := Try.zeroValue3
  t4 := Try.underlying4
  a4 := Try.isAgg4
  z4 := Try.sizeOf4
  v4 := Try.zeroValue4
  t22 := Try.underlying25
  a22 := Try.isAgg25
  z22 := Try.sizeOf25
  v22 := Try.zeroValue25
  i3 := by kernel_rfl

def deleteSp : Spec := ⟨[LI, NI, NI], fun args K => match args with
  | [⟨.list _ (.int _), l⟩, ⟨.int _, i⟩, ⟨.int _, j⟩] => 0 ≤ i ∧ i ≤ j ∧ j ≤ (l.length : Nat) ∧ l ≠ [] ∧ K [tL (l.take i.toNat ++ l.drop j.toNat)]
  | _ => False⟩

theorem putCells_at {enc : Int → Value} {d : Array Int} {arr : Array Value} {i : Nat} (hi : i < d.size) (ha : i < arr.size) : cellsAt (putCells enc 0 d arr) (i * 1) 1 = [enc d[i]!] := by
  have hs : (putCells enc 0 d arr).size = arr.size := by simp [putCells]
  have : (putCells enc 0 d arr)[i]? = some (enc d[i]!) := by
    simp [putCells, Array.getElem?_mapIdx, ha, hi]
  unfold cellsAt
  rw [Nat.mul_one]
  rw [List.drop_eq_getElem_cons (by simpa [hs] using ha)]
  simp only [List.take_succ_cons, List.take_zero]
  have h2 : (putCells enc 0 d arr).toList[i]'(by simpa [hs] using ha) = enc d[i]! := by
    have := this
    rw [Array.getElem?_eq_getElem (by rw [hs]; exact ha)] at this
    simpa using this
  rw [h2]

theorem delete_ok : FnMv Try.prog 44 deleteSp := by
  refine ⟨⟨_, Try.func44, by decide, rfl⟩, fun e t ts x args K hps hK w v0 vs ct F H hF hA => ?_⟩
  simp only [deleteSp, List.cons.injEq, Ty.list.injEq] at hps
  obtain ⟨⟨rfl, rfl⟩, rfl⟩ := hps
  obtain ⟨i, j, rfl, h0, h1, h2, hne, hk⟩ : ∃ i j, args = [tI i, tI j] ∧ 0 ≤ i ∧ i ≤ j ∧ j ≤ (x.length : Nat) ∧ x ≠ [] ∧ K [tL (x.take i.toNat ++ x.drop j.toNat)] := by
    cases hA with
    | cons ha hl =>
      cases hl with
      | cons hb hl =>
        cases hl
        exact ⟨_, _, rfl, hK⟩
  have hvs : vs = [.int .i64 i, .int .i64 j] := by
    cases hA with
    | cons ha hl =>
      cases hl with
      | cons hb hl =>
        cases hl
        simp only [RO] at ha hb
        subst ha; subst hb
        rfl
  subst hvs
  rcases own_inv H with ⟨_, rfl, _, _⟩ | ⟨b, cap, kids, arr, Fs, rfl, hv, q2, q3, h4, h5, g1, g2, g3, g4⟩
  · exact absurd rfl hne
  simp only [List.cons.injEq, and_true] at hv
  subst hv
  have hcell : ∀ m, m < x.length → arr[m]? = some (.int .i64 (x.getD m 0)) := by
    intro m hm
    have := (g4 m hm).2
    rcases this with ⟨h, _⟩ | ⟨_, h⟩
    · cases h
    · simp only [RO, Ty.width, Nat.mul_one] at h
      have hlt : m < arr.size := by rw [h5]; simp only [Ty.width]; omega
      unfold cellsAt at h
      rw [List.drop_eq_getElem_cons (by simpa using hlt)] at h
      simp only [List.take_succ_cons, List.take_zero, List.cons.injEq, and_true] at h
      rw [Array.getElem?_eq_getElem hlt]
      exact congrArg some h
  have hH : Holds (Value.int .i64) w b 0 x.toArray := by
    intro m hm
    have hm' : m < x.length := by simpa using hm
    refine ⟨?_, ?_⟩
    · have := hcell m hm'
      simp only [World.cell?, h4, Nat.zero_add]
      rw [this]
      simp [List.getD_eq_getElem?_getD, hm']
    · simp [World.frozen?, h4]
  have hc := Any.slices_Delete_int delLay b 0 cap i.toNat j.toNat x w hH q2 q3 (by omega) (by omega)
  rw [show ((i.toNat : Nat) : Int) = i by omega, show ((j.toNat : Nat) : Int) = j by omega] at hc
  refine Calls.mono hc fun e w' he => ?_
  obtain ⟨rfl, q, rfl⟩ := he
  generalize hD : (x.take i.toNat ++ x.drop j.toNat ++ List.replicate (j.toNat - i.toNat) (0 : Int)) = D
  have hDl : D.length = x.length := by rw [← hD]; simp only [List.length_append, List.length_take, List.length_drop, List.length_replicate]; omega
  have hrl : (x.take i.toNat ++ x.drop j.toNat).length = x.length - (j.toNat - i.toNat) := by simp only [List.length_append, List.length_take, List.length_drop]; omega
  have hbF : F b := (g1 b).2 (.inl rfl)
  have hblt : b < w.heap.size := hF b hbF
  have hother : ∀ n, n ≠ b → (putRow (Value.int .i64) (Go.Sort.ahead w q) b 0 D.toArray).heap[n]? = w.heap[n]? := fun n hn => by
    simp [putRow, mapBlock, Go.Sort.ahead, Array.getElem?_modify, Ne.symm hn]
  have hblk : (putRow (Value.int .i64) (Go.Sort.ahead w q) b 0 D.toArray).heap[b]? = some (.cells (putCells (Value.int .i64) 0 D.toArray arr) 3 (0, 0)) := by
    simp [putRow, mapBlock, Go.Sort.ahead, Array.getElem?_modify, h4, onCells]
  have hcs : (putCells (Value.int .i64) 0 D.toArray arr).size = cap * (Ty.int .i64).width := by rw [← h5]; simp [putCells]
  refine ⟨⟨rfl, rfl, ⟨rfl, fun a => ?_⟩, Nat.le_of_eq (size_putRow _ _ _ _ _).symm, fun n hn => hother n fun e => hn.2 (e ▸ hbF)⟩, [tL (x.take i.toNat ++ x.drop j.toNat)], [.slice (some ⟨b, 0, none⟩) (x.length - (j.toNat - i.toNat)) cap], _, hk, rfl, .cons (F := fun n => n = b ∨ ∃ m, m < (x.take i.toNat ++ x.drop j.toNat).length ∧ noF n) ⟨fun n hn => ?_, .node b cap (fun _ => .leaf), ?_⟩ .nil (fun _ _ h => h)⟩
  · unfold World.frozen?
    by_cases e : a.block = b
    · rw [e, hblk, h4]
    · rw [hother _ e]
  · rcases hn with rfl | ⟨_, _, h⟩
    · exact ⟨fun h => h.2 hbF, by rw [size_putRow]; exact hblt⟩
    · exact h.elim
  · have := own_row (S := noS) (e := 3) (t := .int .i64) (k := 0) (l := x.take i.toNat ++ x.drop j.toNat) (b := b) (cap := cap) (kids := fun _ => .leaf) (Fs := fun _ => noF) hblk hcs (by rw [hrl]; omega) q3
      (fun m hm => ⟨fun _ h => h, .inr ⟨rfl, ?_⟩⟩) (fun _ _ h => h) (fun _ _ _ _ _ h => h.elim)
    · rw [hrl] at this ⊢
      exact this
    · have hm' : m < D.length := by rw [hDl]; rw [hrl] at hm; omega
      have hc := putCells_at (enc := Value.int .i64) (d := D.toArray) (arr := arr) (i := m) (by simpa using hm') (by rw [h5]; simp only [Ty.width]; omega)
      simp only [RO, Ty.width]
      rw [hc]
      have : D[m]'hm' = (x.take i.toNat ++ x.drop j.toNat).getD m 0 := by
        rw [getD_lt 0 hm]
        have : D[m]? = (x.take i.toNat ++ x.drop j.toNat)[m]? := by rw [← hD, List.getElem?_append_left hm]
        rw [List.getElem?_eq_getElem hm', List.getElem?_eq_getElem hm] at this
        exact Option.some.inj this
      show [Value.int .i64 (D.toArray[m]!)] = [Value.int .i64 ((x.take i.toNat ++ x.drop j.toNat).getD m 0)]
      rw [← this]
      simp [hm']
end Fer
