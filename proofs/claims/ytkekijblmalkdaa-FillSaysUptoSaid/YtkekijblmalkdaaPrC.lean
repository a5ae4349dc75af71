/-
  slices.Reverse of pairs, by the library's contract. No condition.
-/
import Derived.Shelf.SlicesQ.Reverse
import Derived.Test.YtkekijblmalkdaaRows
import Derived.Test.YtkekijblmalkdaaPrA
import Derived.Test.YtkekijblmalkdaaFerQ
set_option linter.unusedSimpArgs false
set_option linter.unusedVariables false
namespace Fer
open Go Go.Proofs Go.Sort

def revRen : Go.Shelf.Ren := ⟨fun | 35 => 67 | n => n, fun | 22 => 22 | 23 => 29 | 3 => 3 | 4 => 4 | 0 => 0 | n => n, fun n => n⟩
theorem revLay : SlLaysE0.n35 Try.prog revRen where
  mixed := by kernel_rfl
  f35 := ⟨Try.f67.name, by decide, Try.func67.trans (congrArg some (by kernel_rfl))⟩
  t0 := Try.underlying0
  a0 := Try.isAgg0
  z0 := Try.sizeOf0
  v0 := Try.zeroValue0
  t3 := Try.underlying3
  a3 := Try.isAgg3
  z3 := Try.sizeOf3
  v3 := Try.zeroValue3
  t4 := Try.underlying4
  a4 := Try.isAgg4
  z4 := Try.sizeOf4
  v4 := Try.zeroValue4
  t22 := Try.underlying22
  a22 := Try.isAgg22
  z22 := Try.sizeOf22
  v22 := Try.zeroValue22

def revSp : Spec := ⟨[LPR], fun args K => match args with | [⟨.list _ (.prod (.int _) (.int _)), p⟩] => K [tPR p.reverse] | _ => False⟩

theorem revPr_ok : FnIp Try.prog 67 revSp := by
  refine ⟨⟨_, Try.func67, by decide, rfl⟩, fun e t ts x args K hps hK w v0 vs ct F hO hF hA => ?_⟩
  simp only [revSp, List.cons.injEq, Ty.list.injEq] at hps
  obtain ⟨⟨rfl, rfl⟩, rfl⟩ := hps
  cases hA
  have hk : K [tPR x.reverse] := hK
  by_cases hx : x = []
  · subst hx
    obtain ⟨a, cap, rfl⟩ : ∃ a cap, v0 = .slice a 0 cap := by
      rcases own_inv hO with ⟨_, _, h, _⟩ | ⟨b, cap, kids, arr, Fs, _, h, _⟩
      · exact ⟨none, 0, by simpa using h⟩
      · exact ⟨_, cap, by simpa using h⟩
    have hcon := AnyQ.slices_Reverse_empty revLay a cap w
    refine Calls.mono hcon ?_
    rintro e' w' ⟨rfl, rfl⟩
    exact ⟨rfl, ⟨rfl, rfl, SameOut.refl _, Nat.le_refl _, fun _ _ => rfl⟩, [], ct, F, hk, fun n hn => ⟨fun h => h.2 hn, hF n hn⟩, own_full' (Nat.le_refl _) (Nat.le_refl _) hO⟩
  · obtain ⟨b, cap, arr, rfl, q2, q3, hb, hsz, hFb, hH⟩ := own_holds rfl hO hx
    have hcon := AnyQ.slices_Reverse revLay 2 Try.isAgg29 Try.sizeOf29 (encT (.prod (.int .i64) (.int .i64))) (encT_len _) (fun x v hv => encT_one _ x rfl v hv) b 0 cap x.toArray w hH
      (by have h9 := q3; unfold maxLen at h9; simp only [List.size_toArray]; omega)
    simp only [List.size_toArray] at hcon
    refine Calls.mono hcon ?_
    rintro e' w' ⟨rfl, n, rfl⟩
    have hbF : ∀ m, m ≠ b → (putRowK (encT (.prod (.int .i64) (.int .i64))) 2 (Sort.ahead w n) b 0 x.toArray.reverse).heap[m]? = w.heap[m]? := fun m hm => by
      simp only [putRowK, putRow, mapBlock, Sort.ahead, Array.getElem?_modify, if_neg (Ne.symm hm)]
    have hbb : (putRowK (encT (.prod (.int .i64) (.int .i64))) 2 (Sort.ahead w n) b 0 x.toArray.reverse).heap[b]? = some (.cells (putCells id 0 (flatK (encT (.prod (.int .i64) (.int .i64))) 2 x.reverse.toArray) arr) 29 (0, 0)) := by
      simp only [putRowK, putRow, mapBlock, Sort.ahead, Array.getElem?_modify, if_true, hb, Option.map_some, List.reverse_toArray, onCells]
    obtain ⟨ct', hown⟩ := holds_own (w' := putRowK (encT (.prod (.int .i64) (.int .i64))) 2 (Sort.ahead w n) b 0 x.toArray.reverse) (t := .prod (.int .i64) (.int .i64)) (x' := x.reverse) rfl hbb hsz (by simpa using q2) q3
    have hsize : (putRowK (encT (.prod (.int .i64) (.int .i64))) 2 (Sort.ahead w n) b 0 x.toArray.reverse).heap.size = w.heap.size := by
      simp only [putRowK, putRow, mapBlock, Sort.ahead, Array.size_modify]
    have hfb : F b := (hFb b).2 rfl
    refine ⟨rfl, ⟨rfl, rfl, ⟨rfl, fun a _ => ?_, Nat.le_of_eq hsize.symm, Nat.le_add_right _ _⟩, Nat.le_of_eq hsize.symm, fun m hm => hbF m fun e => hm.2 (e ▸ hfb)⟩, x.reverse, ct', fun n => n = b, hk, fun m hm => ?_, ?_⟩
    · exact (frozen?_putRow id _ b 0 _ a).trans rfl
    · subst hm
      exact ⟨fun h => h.2 hfb, by rw [hsize]; exact hF _ hfb⟩
    · rw [List.length_reverse] at hown
      exact hown

end Fer
