/-
  slices.Grow of no list, at points, as a contract: an empty list. No condition.
-/
import Derived.Test.YtmaahmcdejoclaaRows
import Derived.Test.YtmaahmcdejoclaaPtP
import Derived.Test.YtmaahmcdejoclaaFerS
import Derived.WalkKit
import Derived.Lib.Walk
import Derived.Lib.SliceRun
import Derived.Lib.AppendZerosOnto
set_option linter.unusedSimpArgs false
set_option linter.unusedVariables false
namespace Fer
open Go Go.Proofs Go.Lib

theorem pt_info : ∃ (inf : TypeInfo) (z : Value), Try.prog.info? 89 = some inf ∧ inf.size = 2 ∧ inf.bytes = 16 ∧ inf.zero = some z ∧ z.cells.size = 2 := by
  have h : (Try.prog.info? 89).map (fun i => (i.size, i.bytes, i.zero.map (·.cells.size))) = some (2, 16, some 2) := by kernel_rfl
  cases q : Try.prog.info? 89 with
  | none => rw [q] at h; cases h
  | some i =>
    rw [q] at h
    simp only [Option.map_some, Option.some.injEq, Prod.mk.injEq] at h
    cases z : i.zero with
    | none => rw [z] at h; simp at h
    | some z' =>
      rw [z] at h
      exact ⟨i, z', rfl, h.1, h.2.1, z, by simpa using h.2.2⟩

set_option maxHeartbeats 4000000 in
set_option maxRecDepth 100000 in
theorem grow_zero (w : World) : Calls Try.prog 108 #[.slice none 0 0, .int .i64 0] w fun e w' => e = .returned (.slice none 0 0) ∧ w' = w := by
  have t0 := Try.underlying0; have a0 := Try.isAgg0; have z0 := Try.sizeOf0; have v0 := Try.zeroValue0
  have t3 := Try.underlying3; have a3 := Try.isAgg3; have z3 := Try.sizeOf3; have v3 := Try.zeroValue3
  have t4 := Try.underlying4; have a4 := Try.isAgg4; have z4 := Try.sizeOf4; have v4 := Try.zeroValue4
  have t22 := Try.underlying48; have a22 := Try.isAgg48; have z22 := Try.sizeOf48; have v22 := Try.zeroValue48
  have mixed := hm_ok
  go_enter Try.func108, Try.ntmps108
  go_wp2
  go_ret
  exact ⟨rfl, rfl⟩

set_option maxHeartbeats 4000000 in
set_option maxRecDepth 100000 in
theorem grow_nil (n : Nat) (w : World) (hn : 0 < n) (hbig : n * 16 ≤ 140737488355328) : ∃ (G : Nat) (ROW : Array Value), n ≤ G ∧ G ≤ maxLen ∧ ROW.size = G * 2 ∧
    Calls Try.prog 108 #[.slice none 0 0, .int .i64 n] w fun e w' => e = .returned (.slice (some ⟨w.heap.size, 0, none⟩) 0 G) ∧ w' = w.drew.alloc (.cells ROW 89) := by
  have t0 := Try.underlying0; have a0 := Try.isAgg0; have z0 := Try.sizeOf0; have v0 := Try.zeroValue0
  have t3 := Try.underlying3; have a3 := Try.isAgg3; have z3 := Try.sizeOf3; have v3 := Try.zeroValue3
  have t4 := Try.underlying4; have a4 := Try.isAgg4; have z4 := Try.sizeOf4; have v4 := Try.zeroValue4
  have t22 := Try.underlying48; have a22 := Try.isAgg48; have z22 := Try.sizeOf48; have v22 := Try.zeroValue48
  have zp := Try.sizeOf89
  obtain ⟨inf, z, hinf, hsz, hby, hz, hzs⟩ := pt_info
  have mixed := hm_ok
  obtain ⟨G, hG⟩ : ∃ G, G = grownCap w n 0 89 := ⟨_, rfl⟩
  obtain ⟨ROW, hROW⟩ : ∃ ROW : Array Value, ROW = ([] : List Value).toArray ++ Builtin.zeroCells z.cells n ++ Builtin.zeroCells z.cells (G - n) := ⟨_, rfl⟩
  have hrz : ∀ ty, (Builtin.append_ #[48, 3] ty #[.slice none 0 0, .int .i64 n]).run Try.prog w =
      .ok (.slice (some ⟨w.heap.size, 0, none⟩) n G) (w.drew.alloc (.cells ROW 89)) := fun ty => by
    have h := Lib.run_append_grow_zeros w 48 3 ty 89 inf _ .i64 .i64 t22 t3 hinf hz none 0 0 [] (run_firstCells_none w.drew inf.size 0 0 0) n (by omega) (by omega) (by omega) (by omega) (by rw [hby]; omega) (by rw [hby, Nat.zero_add]; exact growslice_fits (by omega) hbig)
    rw [Nat.zero_add, ← hG, ← hROW] at h
    exact h
  have hGn : n ≤ G := by rw [hG]; exact grownCap_ge w _ _ _
  have hGm : G ≤ maxLen := by rw [hG]; exact grownCap_le_maxLen w n 0 89 (by unfold maxLen; omega)
  have hG63 : G ≤ 9223372036854775807 := by
    have := hGm
    unfold maxLen at this
    omega
  have hRs : ROW.size = G * 2 := by
    rw [hROW]
    simp only [Array.size_append, List.size_toArray, List.length_nil, size_zeroCells, hzs]
    omega
  refine ⟨G, ROW, hGn, hGm, hRs, ?_⟩
  have h1 : ¬ ((n : Int) < 0) := by omega
  have h2 : (0 : Int) < n := by omega
  have h3 : n ≤ 9223372036854775807 := by omega
  clear hG hROW hRs hinf hz hsz hby hzs hGn hGm
  go_enter Try.func108, Try.ntmps108
  go_wp2_with (at_builtin; refine Lib.wpList_append_run _ rfl _ _ _ _ rfl _ _ rfl rfl _ _ (hrz _) ?_)
  go_ret
  exact ⟨rfl, rfl⟩

def growSp : Spec := ⟨[.raw, NI], fun args K => match args with | [⟨.raw, v⟩, ⟨.int _, n⟩] => (v = .slice none 0 0 ∧ 0 ≤ n ∧ n ≤ 1000000000) ∧ K [tPT []] | _ => False⟩
theorem grow_ok : FnOK Try.prog 108 growSp := by
  refine ⟨⟨_, Try.func108, rfl, rfl⟩, fun args K hK w vs hA => ?_⟩
  obtain ⟨n, h0, h1, rfl, hk⟩ : ∃ n : Int, 0 ≤ n ∧ n ≤ 1000000000 ∧ vs = [.slice none 0 0, .int .i64 n] ∧ K [tPT []] := by
    cases hA with
    | @cons _ _ v _ u _ h hl =>
      cases hl with
      | @cons _ _ n _ u2 _ h2 hl2 =>
        cases hl2
        obtain ⟨⟨hv, h3, h4⟩, hk⟩ : (v = Value.slice none 0 0 ∧ 0 ≤ n ∧ n ≤ (1000000000 : Int)) ∧ K [tPT []] := hK
        obtain ⟨rfl, _⟩ := h
        have h2' : u2 = [.int .i64 n] := h2
        subst h2'
        subst hv
        exact ⟨n, h3, h4, rfl, hk⟩
  obtain ⟨m, rfl⟩ := Int.eq_ofNat_of_zero_le h0
  by_cases hm : m = 0
  · subst hm
    refine Calls.mono (grow_zero w) fun e w' he => ?_
    obtain ⟨rfl, rfl⟩ := he
    exact ⟨Grew.refl _, [tPT []], [_], _, hk, rfl, .cons (F := noF) ⟨fun _ h => h.elim, .nil, .inr ⟨by simp, rfl, rfl, fun _ h => h⟩⟩ .nil fun _ h => h.elim⟩
  · obtain ⟨G, ROW, g1, g2, g3, hc⟩ := grow_nil m w (by omega) (by omega)
    refine Calls.mono hc fun e w' he => ?_
    obtain ⟨rfl, rfl⟩ := he
    refine ⟨(Grew.drew w).trans (Grew.alloc w.drew _ _), [tPT []], [_], _, hk, rfl, .cons (F := fun n => n = w.heap.size) ⟨fun n h => ?_, .node w.heap.size G (fun _ => .leaf), ?_⟩ .nil fun _ _ h => h.elim⟩
    · subst h
      exact ⟨fun h => Nat.lt_irrefl _ h, by simp⟩
    · refine .inr ⟨by simp, rfl, Nat.zero_le _, g2, ROW, heap_alloc_new w.drew _, g3, fun _ => noF, fun n => ⟨fun h => .inl h, fun h => h.elim id fun ⟨i, hi, _⟩ => absurd hi (Nat.not_lt_zero _)⟩, fun _ hi => absurd hi (Nat.not_lt_zero _), fun _ _ _ hi => absurd hi (Nat.not_lt_zero _), fun _ hi => absurd hi (Nat.not_lt_zero _)⟩

end Fer
