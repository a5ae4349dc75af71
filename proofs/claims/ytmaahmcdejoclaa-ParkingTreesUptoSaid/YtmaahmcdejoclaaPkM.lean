/-
  slices.Insert at pairs, one pair at a time, as a contract: the list is given away, and comes back with the pair in it. No condition.
-/
import Derived.Test.YtmaahmcdejoclaaRows
import Derived.Test.YtmaahmcdejoclaaPkP
import Derived.Test.YtmaahmcdejoclaaFerQ
import Derived.Shelf.Spec.SlicesInsert
import Derived.Lib.AppendZerosOnto
set_option linter.unusedSimpArgs false
set_option linter.unusedVariables false
namespace Fer
open Go Go.Proofs Go.Lib

section
variable {P : Program}

/-- copy, where elements take several cells: into a row. -/
theorem run_copy_rows (w : World) (dT sT ty elem : TypeId) (g o dLen dCap : Nat) (a : Addr) (sLen sCap : Nat) (cur : Array Value) (t : TypeId) (cs : List Value) (i : TypeInfo) (m : Nat)
    (hu : P.underlying dT = some (.slice elem)) (hs : P.info? elem = some i) (hg : w.heap[g]? = some (.cells cur t (0, 0))) (hm : m = Nat.min sLen dLen) (hn : cs.length = m * i.size)
    (hsrc : ∀ j v, cs[j]? = some v → w.cell? (a.add j) = some v) (hfit : o + cs.length ≤ cur.size) (h1 : ∀ v ∈ cs, v.oneCell' = true) :
    (Builtin.copy_ #[dT, sT] ty #[.slice (some ⟨g, o, none⟩) dLen dCap, .slice (some a) sLen sCap]).run P w =
      .ok (goInt m) (w.setRow g (cur.toList.take o ++ cs ++ cur.toList.drop (o + cs.length)).toArray) := by
  have hl := run_loadCells_list (P := P) w a cs hsrc
  have hst := run_storeCells_at P g o t cs 0 cur w hg (by simpa using hfit) h1
  subst hm
  rw [hn] at hl
  simp [Builtin.copy_, run_underlying hu, Builtin.lenOf, Builtin.firstCells, Go.sizeOf, typeInfo, hs, hl, hst]

end

theorem pr_info : ∃ (inf : TypeInfo) (z : Value), Try.prog.info? 34 = some inf ∧ inf.size = 2 ∧ inf.bytes = 16 ∧ inf.zero = some z ∧ z.cells.size = 2 := by
  have h : (Try.prog.info? 34).map (fun i => (i.size, i.bytes, i.zero.map (·.cells.size))) = some (2, 16, some 2) := by kernel_rfl
  cases q : Try.prog.info? 34 with
  | none => rw [q] at h; cases h
  | some i =>
    rw [q] at h
    simp only [Option.map_some, Option.some.injEq, Prod.mk.injEq] at h
    cases z : i.zero with
    | none => rw [z] at h; simp at h
    | some z' =>
      rw [z] at h
      exact ⟨i, z', rfl, h.1, h.2.1, z, by simpa using h.2.2⟩

set_option maxHeartbeats 4000000 in
set_option maxRecDepth 100000 in
theorem ins_shift (b n c i vb m vc : Nat) (arr va : Array Value) (w : World) (hi : i < n) (hm : 0 < m) (hroom : n + m ≤ c) (hc63 : c ≤ 9223372036854775807) (hvb : vb ≠ b)
    (hb : w.heap[b]? = some (.cells arr 34 (0, 0))) (hs : arr.size = c * 2) (hv : w.heap[vb]? = some (.cells va 34 (0, 0))) (hva : m * 2 ≤ va.size) (h1 : ∀ v ∈ arr.toList.take (n * 2), v.oneCell' = true) (h2 : ∀ v ∈ va.toList.take (m * 2), v.oneCell' = true) :
    Calls Try.prog 73 #[.slice (some ⟨b, 0, none⟩) n c, .int .i64 i, .slice (some ⟨vb, 0, none⟩) m vc] w fun e w' =>
      e = .returned (.slice (some ⟨b, 0, none⟩) (n + m) c) ∧ ∃ A1 A2 : Array Value, A1 = (arr.toList.take ((i + m) * 2) ++ (arr.toList.drop (i * 2)).take ((n - i) * 2) ++ arr.toList.drop ((i + m) * 2 + (n - i) * 2)).toArray ∧ A2 = (A1.toList.take (i * 2) ++ va.toList.take (m * 2) ++ A1.toList.drop (i * 2 + m * 2)).toArray ∧
        w' = (w.drew.setRow b A1).setRow b A2 := by
  have t0 := Try.underlying0; have a0 := Try.isAgg0; have z0 := Try.sizeOf0; have v0 := Try.zeroValue0
  have t3 := Try.underlying3; have a3 := Try.isAgg3; have z3 := Try.sizeOf3; have v3 := Try.zeroValue3
  have t4 := Try.underlying4; have a4 := Try.isAgg4; have z4 := Try.sizeOf4; have v4 := Try.zeroValue4
  have t22 := Try.underlying22; have a22 := Try.isAgg22; have z22 := Try.sizeOf22; have v22 := Try.zeroValue22
  have zp := Try.sizeOf34
  have hz1 : ¬ ((m : Int) = 0) := by omega
  have hz2 : ¬ ((i : Int) = (n : Int)) := by omega
  have hw1 : IntKind.i64.wrap ((i : Int) + (m : Int)) = (i : Int) + (m : Int) := by rw [IntKind.wrap_i64]; omega
  have hb1 : (0 : Int) ≤ (i : Int) + (m : Int) := by omega
  have hin : i ≤ n := by omega
  have htn : ((i : Int) + (m : Int)).toNat = i + m := by omega
  have hb2 : ¬ (c = i + m) := by omega
  have hb3 : (i : Int) ≤ (n : Int) + (m : Int) := by omega
  have hb4 : ¬ (c = i) := by omega
  have hov : ∀ lb cb, (callFunc 93 #[.slice (some ⟨vb, 0, none⟩) m vc, .slice (some ⟨b, (i + m) * 2, none⟩) lb cb]).run Try.prog w = .ok (.value (.bool false)) w := fun lb cb => by
    rw [run_callFunc_extern Try.func93 (by kernel_rfl) (by kernel_rfl) (by kernel_rfl) (e := Extern.SlicesOverlaps.overlaps #[22, 22] #[4]) (by kernel_rfl),
      Lib.run_overlaps_apart w 22 4 34 t22 2 zp ⟨vb, 0, none⟩ ⟨b, (i + m) * 2, none⟩ m vc lb cb hvb 34 34 va.size arr.size (by simp [World.shape?, hv]) (by simp [World.shape?, hb]) (by omega) (by simp [World.frozen?, hv]) (by simp [World.frozen?, hv])]
    rfl
  obtain ⟨inf, z, hinf, hsz, _⟩ := pr_info
  have mixed := hm_ok
  obtain ⟨A1, hA1⟩ : ∃ A1 : Array Value, A1 = (arr.toList.take ((i + m) * 2) ++ (arr.toList.drop (i * 2)).take ((n - i) * 2) ++ arr.toList.drop ((i + m) * 2 + (n - i) * 2)).toArray := ⟨_, rfl⟩
  have hdl : ((arr.toList.drop (i * 2)).take ((n - i) * 2)).length = (n - i) * 2 := by
    simp only [List.length_take, List.length_drop, Array.length_toList, hs]; omega
  have hA1s : A1.size = c * 2 := by
    rw [hA1]; simp only [List.size_toArray, List.length_append, hdl, List.length_take, List.length_drop, Array.length_toList, hs]; omega
  have hcp1 : ∀ ty dc sc, (Builtin.copy_ #[22, 22] ty #[.slice (some ⟨b, (i + m) * 2, none⟩) (n + m - (i + m)) dc, .slice (some ⟨b, i * 2, none⟩) (n + m - i) sc]).run Try.prog w.drew = .ok (goInt (n - i)) (w.drew.setRow b A1) := fun ty dc sc => by
    have := run_copy_rows (P := Try.prog) w.drew 22 22 ty 34 b ((i + m) * 2) (n + m - (i + m)) dc ⟨b, i * 2, none⟩ (n + m - i) sc arr 34 ((arr.toList.drop (i * 2)).take ((n - i) * 2)) inf (n - i) t22 hinf hb (by simp only [Nat.min_def]; split <;> omega) (by rw [hdl, hsz])
      (fun j v hj => by
        rw [Addr.add_lit]
        rw [List.getElem?_take] at hj
        split at hj
        · rw [List.getElem?_drop] at hj
          simp only [World.cell?, World.drew, hb, ← Array.getElem?_toList]
          exact hj
        · cases hj) (by rw [hdl, hs]; omega)
      (fun v hv => h1 v (by
        rw [show n * 2 = i * 2 + (n - i) * 2 by omega, List.take_add]
        exact List.mem_append_right _ hv))
    rw [hdl, ← hA1] at this
    rw [this, show (((n - i : Nat) : Nat) : Int) = (n : Int) - i by omega]
  obtain ⟨A2, hA2⟩ : ∃ A2 : Array Value, A2 = (A1.toList.take (i * 2) ++ va.toList.take (m * 2) ++ A1.toList.drop (i * 2 + m * 2)).toArray := ⟨_, rfl⟩
  have hvl : (va.toList.take (m * 2)).length = m * 2 := by rw [List.length_take, Array.length_toList]; omega
  have hbs : (w.drew.setRow b A1).heap[b]? = some (.cells A1 34 (0, 0)) := setRow_heap w.drew b arr A1 _ (0, 0) hb
  have hcp2 : ∀ ty dc, (Builtin.copy_ #[22, 22] ty #[.slice (some ⟨b, i * 2, none⟩) (n + m - i) dc, .slice (some ⟨vb, 0, none⟩) m vc]).run Try.prog (w.drew.setRow b A1) = .ok (goInt m) ((w.drew.setRow b A1).setRow b A2) := fun ty dc => by
    have := run_copy_rows (P := Try.prog) (w.drew.setRow b A1) 22 22 ty 34 b (i * 2) (n + m - i) dc ⟨vb, 0, none⟩ m vc A1 34 (va.toList.take (m * 2)) inf m t22 hinf hbs (by simp only [Nat.min_def]; split <;> omega) (by rw [hvl, hsz])
      (fun j v hj => by
        rw [Addr.add_lit]
        rw [List.getElem?_take] at hj
        split at hj
        · have : (w.drew.setRow b A1).heap[vb]? = some (.cells va 34 (0, 0)) := by rw [setRow_other _ _ _ _ hvb]; exact hv
          simp only [World.cell?, this, Nat.zero_add, ← Array.getElem?_toList]
          exact hj
        · cases hj) (by rw [hvl, hA1s]; omega) h2
    rw [hvl, ← hA2] at this
    exact this
  refine Calls.mono (R := fun e w' => e = .returned (.slice (some ⟨b, 0, none⟩) (n + m) c) ∧ w' = (w.drew.setRow b A1).setRow b A2) ?_ fun e w' h => ⟨h.1, A1, A2, hA1, hA2, h.2⟩
  clear hA1 hA2 hdl hA1s hvl hbs h1 h2 hv hb hs hinf hsz
  go_enter Try.func73, Try.ntmps73
  go_wp2_with (simp only [hov])
  go_region_law_o (refine step_copy_runI rfl _ _ 22 22 rfl _ _ (by simp [Act.eval, Act.put]) (by simp [Act.eval, Act.put]) (hcp1 _ _ _) ?_)
  go_wp2_with (at_builtin; refine wpList_copy_runI _ rfl _ _ 22 22 rfl _ _ rfl rfl (hcp2 _ _) ?_)
  go_ret
  exact ⟨rfl, rfl⟩

set_option maxHeartbeats 4000000 in
set_option maxRecDepth 100000 in
theorem ins_grow (b n c i vb m vc : Nat) (arr va : Array Value) (w : World) (hi : i < n) (hm : 0 < m) (hnc : n ≤ c) (hroom : c < n + m) (hbig : (n + m) * 16 ≤ 140737488355328) (hvb : vb ≠ b)
    (hb : w.heap[b]? = some (.cells arr 34 (0, 0))) (hs : arr.size = c * 2) (hv : w.heap[vb]? = some (.cells va 34 (0, 0))) (hva : m * 2 ≤ va.size) (h1 : ∀ v ∈ arr.toList.take (n * 2), v.oneCell' = true) (h2 : ∀ v ∈ va.toList.take (m * 2), v.oneCell' = true) :
    ∃ (G : Nat) (ROW R1 R2 : Array Value) (w1 : World), n + m ≤ G ∧ G ≤ maxLen ∧ ROW.size = G * 2 ∧ ROW.toList.take (i * 2) = arr.toList.take (i * 2) ∧ R1 = (ROW.toList.take (i * 2) ++ va.toList.take (m * 2) ++ ROW.toList.drop (i * 2 + m * 2)).toArray ∧
      R2 = (R1.toList.take ((i + m) * 2) ++ (arr.toList.drop (i * 2)).take ((n - i) * 2) ++ R1.toList.drop ((i + m) * 2 + (n - i) * 2)).toArray ∧ w1 = (((w.alloc (.cells ROW 34)).drew.setRow w.heap.size R1).drew).setRow w.heap.size R2 ∧
      Calls Try.prog 73 #[.slice (some ⟨b, 0, none⟩) n c, .int .i64 i, .slice (some ⟨vb, 0, none⟩) m vc] w fun e w' => e = .returned (.slice (some ⟨w.heap.size, 0, none⟩) (n + m) G) ∧ w' = w1 := by
  have t0 := Try.underlying0; have a0 := Try.isAgg0; have z0 := Try.sizeOf0; have v0 := Try.zeroValue0
  have t3 := Try.underlying3; have a3 := Try.isAgg3; have z3 := Try.sizeOf3; have v3 := Try.zeroValue3
  have t4 := Try.underlying4; have a4 := Try.isAgg4; have z4 := Try.sizeOf4; have v4 := Try.zeroValue4
  have t22 := Try.underlying22; have a22 := Try.isAgg22; have z22 := Try.sizeOf22; have v22 := Try.zeroValue22
  have zp := Try.sizeOf34
  obtain ⟨inf, z, hinf, hsz, hby, hz, hzs⟩ := pr_info
  have mixed := hm_ok
  have hz1 : ¬ ((m : Int) = 0) := by omega
  have hz2 : ¬ ((i : Int) = (n : Int)) := by omega
  have hz3 : (c : Int) < (n : Int) + (m : Int) := by omega
  have hbw : b < w.heap.size := (Array.getElem?_eq_some_iff.1 hb).1
  have hvw : vb < w.heap.size := (Array.getElem?_eq_some_iff.1 hv).1
  have hkk : (n : Int) + (m : Int) - (i : Int) = ((n + m - i : Nat) : Int) := by omega
  have hik : i + (n + m - i) = n + m := by omega
  have hol : (arr.toList.take (i * 2)).length = i * 2 := by rw [List.length_take, Array.length_toList]; omega
  have hold : (Builtin.firstCells inf.size i (.slice (some ⟨b, 0, none⟩) i c)).run Try.prog w.drew = .ok (arr.toList.take (i * 2)).toArray w.drew :=
    run_firstCells_some w.drew inf.size i ⟨b, 0, none⟩ i c (arr.toList.take (i * 2)) (by rw [hol, hsz]) (fun j v hj => by
      rw [Addr.add_lit]
      rw [List.getElem?_take] at hj
      split at hj
      · simp only [World.cell?, World.drew, hb, ← Array.getElem?_toList, Nat.zero_add]
        exact hj
      · cases hj)
  obtain ⟨G, hG⟩ : ∃ G, G = grownCap w (n + m) c 34 := ⟨_, rfl⟩
  obtain ⟨ROW, hROW⟩ : ∃ ROW : Array Value, ROW = (arr.toList.take (i * 2)).toArray ++ Builtin.zeroCells z.cells (n + m - i) ++ Builtin.zeroCells z.cells (G - (n + m)) := ⟨_, rfl⟩
  have hrz : ∀ ty, (Builtin.append_ #[22, 3] ty #[.slice (some ⟨b, 0, none⟩) i c, .int .i64 ((n : Int) + (m : Int) - (i : Int))]).run Try.prog w =
      .ok (.slice (some ⟨w.heap.size, 0, none⟩) (n + m) G) (w.drew.alloc (.cells ROW 34)) := fun ty => by
    have h := Lib.run_append_grow_zeros w 22 3 ty 34 inf _ .i64 .i64 t22 t3 hinf hz (some ⟨b, 0, none⟩) i c (arr.toList.take (i * 2)) hold (n + m - i) (by omega) (by omega) (by omega) (by omega) (by rw [hby]; omega) (by rw [hby, hik]; exact growslice_fits hroom hbig)
    rw [hik, ← hG, ← hROW] at h
    rw [hkk]
    exact h
  have hGn : n + m ≤ G := by rw [hG]; exact grownCap_ge w _ _ _
  have hGm : G ≤ maxLen := by rw [hG]; exact grownCap_le_maxLen w (n + m) c 34 (by unfold maxLen; omega)
  have hG63 : G ≤ 9223372036854775807 := by
    have := hGm
    unfold maxLen at this
    omega
  have hRs : ROW.size = G * 2 := by
    rw [hROW]
    simp only [Array.size_append, List.size_toArray, size_zeroCells, hzs, hol]
    omega
  have hRt : ROW.toList.take (i * 2) = arr.toList.take (i * 2) := by
    rw [hROW]
    simp only [Array.toList_append, List.append_assoc]
    rw [List.take_left' hol]
  obtain ⟨R1, hR1⟩ : ∃ R1 : Array Value, R1 = (ROW.toList.take (i * 2) ++ va.toList.take (m * 2) ++ ROW.toList.drop (i * 2 + m * 2)).toArray := ⟨_, rfl⟩
  have hvl : (va.toList.take (m * 2)).length = m * 2 := by rw [List.length_take, Array.length_toList]; omega
  have hR1s : R1.size = G * 2 := by
    rw [hR1]; simp only [List.size_toArray, List.length_append, hvl, List.length_take, List.length_drop, Array.length_toList, hRs]; omega
  have hcpA : ∀ (W : World), W.heap[w.heap.size]? = some (.cells ROW 34 (0, 0)) → W.heap[vb]? = w.heap[vb]? → ∀ ty dc, (Builtin.copy_ #[22, 22] ty #[.slice (some ⟨w.heap.size, i * 2, none⟩) (n + m - i) dc, .slice (some ⟨vb, 0, none⟩) m vc]).run Try.prog W = .ok (goInt m) (W.setRow w.heap.size R1) := fun W hW1 hW2 ty dc => by
    have := run_copy_rows (P := Try.prog) W 22 22 ty 34 w.heap.size (i * 2) (n + m - i) dc ⟨vb, 0, none⟩ m vc ROW 34 (va.toList.take (m * 2)) inf m t22 hinf hW1 (by simp only [Nat.min_def]; split <;> omega) (by rw [hvl, hsz])
      (fun j v hj => by
        rw [Addr.add_lit]
        rw [List.getElem?_take] at hj
        split at hj
        · simp only [World.cell?, hW2, hv, Nat.zero_add, ← Array.getElem?_toList]
          exact hj
        · cases hj) (by rw [hvl, hRs]; omega) h2
    rw [hvl, ← hR1] at this
    exact this
  obtain ⟨R2, hR2⟩ : ∃ R2 : Array Value, R2 = (R1.toList.take ((i + m) * 2) ++ (arr.toList.drop (i * 2)).take ((n - i) * 2) ++ R1.toList.drop ((i + m) * 2 + (n - i) * 2)).toArray := ⟨_, rfl⟩
  have hdl : ((arr.toList.drop (i * 2)).take ((n - i) * 2)).length = (n - i) * 2 := by
    simp only [List.length_take, List.length_drop, Array.length_toList, hs]; omega
  have hcpB : ∀ (W : World), W.heap[w.heap.size]? = some (.cells R1 34 (0, 0)) → W.heap[b]? = w.heap[b]? → ∀ ty dc sc, (Builtin.copy_ #[22, 22] ty #[.slice (some ⟨w.heap.size, (i + m) * 2, none⟩) (n + m - (i + m)) dc, .slice (some ⟨b, i * 2, none⟩) (n - i) sc]).run Try.prog W = .ok (goInt (n - i)) (W.setRow w.heap.size R2) := fun W hW1 hW2 ty dc sc => by
    have := run_copy_rows (P := Try.prog) W 22 22 ty 34 w.heap.size ((i + m) * 2) (n + m - (i + m)) dc ⟨b, i * 2, none⟩ (n - i) sc R1 34 ((arr.toList.drop (i * 2)).take ((n - i) * 2)) inf (n - i) t22 hinf hW1 (by simp only [Nat.min_def]; split <;> omega) (by rw [hdl, hsz])
      (fun j v hj => by
        rw [Addr.add_lit]
        rw [List.getElem?_take] at hj
        split at hj
        · rw [List.getElem?_drop] at hj
          simp only [World.cell?, hW2, hb, ← Array.getElem?_toList]
          exact hj
        · cases hj) (by rw [hdl, hR1s]; omega)
      (fun v hv => h1 v (by
        rw [show n * 2 = i * 2 + (n - i) * 2 by omega, List.take_add]
        exact List.mem_append_right _ hv))
    rw [hdl, ← hR2] at this
    rw [this, show (((n - i : Nat) : Nat) : Int) = (n : Int) - i by omega]
  refine ⟨G, ROW, R1, R2, _, hGn, hGm, hRs, hRt, hR1, hR2, rfl, ?_⟩
  have hGi : ¬ (G = i) := by omega
  have hGim : ¬ (G = i + m) := by omega
  have hci : ¬ (c = i) := by omega
  have hw1 : IntKind.i64.wrap ((i : Int) + (m : Int)) = (i : Int) + (m : Int) := by rw [IntKind.wrap_i64]; omega
  have hb1 : (0 : Int) ≤ (i : Int) + (m : Int) := by omega
  have hin : i ≤ n := by omega
  have htn : ((i : Int) + (m : Int)).toNat = i + m := by omega
  have hb3 : (i : Int) ≤ (n : Int) := by omega
  have hE1 : ((w.alloc (.cells ROW 34)).drew).heap[w.heap.size]? = some (.cells ROW 34 (0, 0)) := heap_alloc_new w _
  have hE2 : ((w.alloc (.cells ROW 34)).drew).heap[vb]? = w.heap[vb]? := by simp only [World.drew, World.alloc]; rw [Array.getElem?_push_lt hvw, Array.getElem?_eq_getElem hvw]
  have hF1 : ((w.alloc (.cells ROW 34)).drew.setRow w.heap.size R1).heap[w.heap.size]? = some (.cells R1 34 (0, 0)) := setRow_heap _ _ ROW R1 _ (0, 0) hE1
  have hF2 : ((w.alloc (.cells ROW 34)).drew.setRow w.heap.size R1).heap[b]? = w.heap[b]? := by
    rw [setRow_other _ _ _ _ (by omega)]; simp only [World.drew, World.alloc]; rw [Array.getElem?_push_lt hbw, Array.getElem?_eq_getElem hbw]
  have hA' := hcpA _ hE1 hE2
  have hB' := hcpB ((w.alloc (.cells ROW 34)).drew.setRow w.heap.size R1).drew hF1 hF2
  clear hcpA hcpB hkk hik hold hROW hG hRs hRt hR1 hR2 hR1s hvl hdl hol h1 h2 hs hbw hvw hb hv hinf hz hsz hby hzs
  go_enter Try.func73, Try.ntmps73
  go_wp2_with (first
    | (at_builtin; refine Lib.wpList_append_run _ rfl _ _ _ _ rfl _ _ rfl rfl _ _ (hrz _) ?_)
    | (at_builtin; refine wpList_copy_runI _ rfl _ _ 22 22 rfl _ _ rfl rfl (hA' _ _) ?_))
  go_region_law_o (refine step_copy_runI rfl _ _ 22 22 rfl (.slice (some ⟨w.heap.size, (i + m) * 2, none⟩) (n + m - (i + m)) (G - (i + m))) (.slice (some ⟨b, i * 2, none⟩) (n - i) (c - i)) (by simp [Act.eval, Act.put]) (by simp [Act.eval, Act.put]) (hB' 3 (G - (i + m)) (c - i)) ?_)
  go_wp2
  go_ret
  exact ⟨rfl, rfl⟩

set_option maxHeartbeats 4000000 in
set_option maxRecDepth 100000 in
theorem ins_end (base : Option Addr) (n c vb m vc : Nat) (w w1 : World) (v' : Value) (hm : 0 < m) (hc63 : n ≤ 9223372036854775807)
    (hr : (Builtin.append_ #[22, 22] 22 #[.slice base n c, .slice (some ⟨vb, 0, none⟩) m vc]).run Try.prog w = .ok v' w1) (hnc : n ≤ c) (hc : c ≤ 9223372036854775807) (hn0 : base = none → n = 0 ∧ c = 0) :
    Calls Try.prog 73 #[.slice base n c, .int .i64 n, .slice (some ⟨vb, 0, none⟩) m vc] w fun e w' => e = .returned v' ∧ w' = w1 := by
  have t0 := Try.underlying0; have a0 := Try.isAgg0; have z0 := Try.sizeOf0; have v0 := Try.zeroValue0
  have t3 := Try.underlying3; have a3 := Try.isAgg3; have z3 := Try.sizeOf3; have v3 := Try.zeroValue3
  have t4 := Try.underlying4; have a4 := Try.isAgg4; have z4 := Try.sizeOf4; have v4 := Try.zeroValue4
  have t22 := Try.underlying22; have a22 := Try.isAgg22; have z22 := Try.sizeOf22; have v22 := Try.zeroValue22
  have zp := Try.sizeOf34
  have mixed := hm_ok
  have hz1 : ¬ ((m : Int) = 0) := by omega
  go_enter Try.func73, Try.ntmps73
  cases base with
  | none =>
    obtain ⟨rfl, rfl⟩ := hn0 rfl
    go_wp2_with (at_builtin; refine Lib.wpList_append_run _ rfl _ _ _ _ rfl _ _ rfl rfl _ _ hr ?_)
    go_ret
    exact ⟨rfl, rfl⟩
  | some a =>
    obtain ⟨ab, ao, asp⟩ := a
    go_wp2_with (at_builtin; refine Lib.wpList_append_run _ rfl _ _ _ _ rfl _ _ rfl rfl _ _ hr ?_)
    all_goals (go_ret; exact ⟨rfl, rfl⟩)

section
variable {w : World} {S : Nat → Prop}
theorem ro_enc : ∀ {t : Ty} {x : t.den} {cs : List Value}, t.num = true → RO w S t x cs → cs = encT t x
  | .int _, _, _, _, h | .bool, _, _, _, h | .str, _, _, _, h => h
  | .raw, _, _, h, _ | .list _ _, _, _, h, _ | .fn _ _, _, _, h, _ | .row _ _, _, _, h, _ => by simp [Ty.num] at h
  | .prod a b, x, cs, h, ⟨c1, c2, e, h1, h2⟩ => by
    simp only [Ty.num, Bool.and_eq_true] at h
    rw [e, ro_enc h.1 h1, ro_enc h.2 h2]; rfl
end

/-- The cells of a list of plain data. -/
def encL (t : Ty) (l : List t.den) : List Value := (l.map (encT t)).flatten
theorem encL_app (t : Ty) (l y : List t.den) : encL t (l ++ y) = encL t l ++ encL t y := by simp [encL]
theorem encL_len (t : Ty) (l : List t.den) : (encL t l).length = l.length * t.width := by
  induction l with
  | nil => simp [encL]
  | cons a l ih =>
    have : encL t (a :: l) = encT t a ++ encL t l := rfl
    rw [this, List.length_append, ih, encT_len, List.length_cons, Nat.succ_mul, Nat.add_comm]
theorem encL_take (t : Ty) (l : List t.den) (i : Nat) (h : i ≤ l.length) : (encL t l).take (i * t.width) = encL t (l.take i) := by
  have := encL_app t (l.take i) (l.drop i)
  rw [List.take_append_drop] at this
  rw [this, List.take_left' (by rw [encL_len, List.length_take, Nat.min_eq_left h])]
theorem encL_drop (t : Ty) (l : List t.den) (i : Nat) (h : i ≤ l.length) : (encL t l).drop (i * t.width) = encL t (l.drop i) := by
  have := encL_app t (l.take i) (l.drop i)
  rw [List.take_append_drop] at this
  rw [this, List.drop_left' (by rw [encL_len, List.length_take, Nat.min_eq_left h])]
theorem encL_of (t : Ty) (l : List t.den) : ∀ (L : List Value), l.length * t.width ≤ L.length → (∀ i, i < l.length → (L.drop (i * t.width)).take t.width = encT t (l.getD i t.dflt)) → L.take (l.length * t.width) = encL t l := by
  induction l with
  | nil => intro L _ _; simp [encL]
  | cons a l ih =>
    intro L hL h
    have e : encL t (a :: l) = encT t a ++ encL t l := rfl
    have h0 := h 0 (by simp)
    simp only [Nat.zero_mul, List.drop_zero, List.getD_cons_zero] at h0
    have hm : (l.length + 1) * t.width = t.width + l.length * t.width := by rw [Nat.succ_mul, Nat.add_comm]
    rw [e, ← h0, List.length_cons, hm, List.take_add]
    congr 1
    refine ih _ ?_ fun i hi => ?_
    · rw [List.length_cons, hm] at hL
      rw [List.length_drop]; omega
    · have := h (i + 1) (by rw [List.length_cons]; omega)
      rw [List.getD_cons_succ] at this
      rw [← this, List.drop_drop]
      congr 2
      rw [Nat.succ_mul, Nat.add_comm]
theorem encL_at (t : Ty) (l : List t.den) (i : Nat) (hi : i < l.length) : ((encL t l).drop (i * t.width)).take t.width = encT t (l.getD i t.dflt) := by
  rw [encL_drop t l i (Nat.le_of_lt hi), List.drop_eq_getElem_cons hi]
  have e : encL t (l[i] :: l.drop (i + 1)) = encT t l[i] ++ encL t (l.drop (i + 1)) := rfl
  rw [e, List.take_left' (encT_len t _), List.getD_eq_getElem?_getD, List.getElem?_eq_getElem hi]
  rfl
theorem encL_one (t : Ty) (l : List t.den) (h : t.num = true) : ∀ v ∈ encL t l, v.oneCell' = true := by
  intro v hv
  obtain ⟨cs, h1, h2⟩ := List.mem_flatten.1 hv
  obtain ⟨x, _, rfl⟩ := List.mem_map.1 h1
  exact encT_one t x h v h2

theorem row_own {w' : World} {e : Nat} {t : Ty} {y : List t.den} {b cap : Nat} {cur : Array Value} (hn : t.num = true) (hb : w'.heap[b]? = some (.cells cur e (0, 0)))
    (hsz : cur.size = cap * t.width) (hl : y.length ≤ cap) (hc : cap ≤ maxLen) (ht : cur.toList.take (y.length * t.width) = encL t y) : ∃ ct, Own w' noS (.list e t) (t.lev + 1) y none ct [.slice (some ⟨b, 0, none⟩) y.length cap] (fun n => n = b) := by
  refine ⟨.node b cap (fun _ => CT.of t), .inr ⟨by simp, rfl, hl, hc, _, hb, hsz, fun _ => noF, fun n => ⟨fun h => .inl h, fun h => h.elim id fun ⟨_, _, h⟩ => h.elim⟩, fun _ _ h => h.elim, fun _ _ _ _ _ h => h.elim, fun i hi => ?_⟩⟩
  rw [hsub_none]
  have hcell : cellsAt cur (i * t.width) t.width = encT t (y.getD i t.dflt) := by
    rw [← encL_at t y i hi, ← ht]
    have hle : i * t.width + t.width ≤ y.length * t.width := by
      have := Nat.mul_le_mul_right t.width (show i + 1 ≤ y.length from hi)
      rwa [Nat.add_mul, Nat.one_mul] at this
    unfold cellsAt
    rw [List.drop_take, List.take_take, Nat.min_eq_left (by omega)]
  rw [hcell]
  exact (enc_ro t _ hn).own (.inl (num_flat hn).1)

def insPrSp : Spec := ⟨[LPR, NI, .row 34 PRt], fun args K => match args with
  | [⟨.list _ (.prod (.int _) (.int _)), l⟩, ⟨.int _, k⟩, ⟨.row _ (.prod (.int _) (.int _)), v⟩] => 0 ≤ k ∧ k ≤ (l.length : Nat) ∧ l.length + v.length ≤ 1000000000000 ∧ v ≠ [] ∧ K [tPR (l.take k.toNat ++ v ++ l.drop k.toNat)]
  | _ => False⟩

theorem shift_cells {L V : List Value} {i m n c : Nat} (hi : i ≤ n) (hr : n + m ≤ c) (hL : L.length = c * 2) (hV : V.length = m * 2) {A1 A2 : List Value} (h1 : A1 = L.take ((i + m) * 2) ++ (L.drop (i * 2)).take ((n - i) * 2) ++ L.drop ((i + m) * 2 + (n - i) * 2)) (h2 : A2 = A1.take (i * 2) ++ V ++ A1.drop (i * 2 + m * 2)) :
    A1.length = c * 2 ∧ A2.length = c * 2 ∧ A2.take ((n + m) * 2) = L.take (i * 2) ++ V ++ (L.drop (i * 2)).take ((n - i) * 2) := by
  have e1 : ((L.drop (i * 2)).take ((n - i) * 2)).length = (n - i) * 2 := by simp only [List.length_take, List.length_drop, hL]; omega
  have e2 : (L.take ((i + m) * 2)).length = (i + m) * 2 := by rw [List.length_take, hL]; omega
  have l1 : A1.length = c * 2 := by rw [h1]; simp only [List.length_append, e1, e2, List.length_drop, hL]; omega
  have l2 : A2.length = c * 2 := by rw [h2]; simp only [List.length_append, List.length_take, List.length_drop, l1, hV]; omega
  refine ⟨l1, l2, ?_⟩
  have a1 : A1.take (i * 2) = L.take (i * 2) := by
    rw [h1, List.append_assoc, List.take_append_of_le_length (by rw [e2]; omega), List.take_take, Nat.min_eq_left (by omega)]
  have a2 : A1.drop (i * 2 + m * 2) = (L.drop (i * 2)).take ((n - i) * 2) ++ L.drop ((i + m) * 2 + (n - i) * 2) := by
    rw [h1, List.append_assoc, List.drop_left' (by rw [e2]; omega)]
  have e3 : (L.take (i * 2)).length = i * 2 := by rw [List.length_take, hL]; omega
  rw [h2, a1, a2, ← List.append_assoc, List.take_left' (by simp only [List.length_append, e1, e3, hV]; omega)]

theorem toLen (a : Array Value) : a.toList.length = a.size := rfl

/-- The list's row comes back as another. -/
theorem mv_row {w w' : World} {F : Nat → Prop} {E : Nat} {t : Ty} {y : List t.den} {b cap : Nat} {cur : Array Value} (hn : t.num = true) (hT : Turned (butF w F) w w') (hbn : ¬ butF w F b) (hb : w'.heap[b]? = some (.cells cur E (0, 0)))
    (hsz : cur.size = cap * t.width) (hl : y.length ≤ cap) (hc : cap ≤ maxLen) (ht : cur.toList.take (y.length * t.width) = encL t y) {K : List TV → Prop} (hk : K [⟨.list E t, y⟩]) :
    Turned (butF w F) w w' ∧ ∃ outs us G, K outs ∧ Value.slice (some ⟨b, 0, none⟩) y.length cap = valOf us ∧ Rets (butF w F) w' outs us G := by
  obtain ⟨ct, H⟩ := row_own (w' := w') (e := E) hn hb hsz hl hc ht
  exact ⟨hT, [⟨.list E t, y⟩], [_], _, hk, rfl, .cons ⟨fun n hn => by subst hn; exact ⟨hbn, (Array.getElem?_eq_some_iff.1 hb).1⟩, ct, H⟩ .nil fun _ _ h => h⟩

theorem insPr_ok : FnMv Try.prog 73 insPrSp := by
  refine ⟨⟨_, Try.func73, by decide, rfl⟩, fun e t ts x args K hps hK w v0 vs ct F H hF hA => ?_⟩
  simp only [insPrSp, List.cons.injEq, Ty.list.injEq] at hps
  obtain ⟨⟨rfl, rfl⟩, rfl⟩ := hps
  obtain ⟨k, v, rfl, h0, h1, hb1, hne, hk⟩ : ∃ k v, args = [tI k, ⟨.row 34 PRt, v⟩] ∧ 0 ≤ k ∧ k ≤ (x.length : Nat) ∧ x.length + v.length ≤ 1000000000000 ∧ v ≠ [] ∧ K [tPR (x.take k.toNat ++ v ++ x.drop k.toNat)] := by
    cases hA with
    | cons ha hl =>
      cases hl with
      | cons hb hl =>
        cases hl
        exact ⟨_, _, rfl, hK⟩
  obtain ⟨vb, vc, va, rfl, q1, q2, q3, q4, q5, q6⟩ : ∃ (vb vc : Nat) (va : Array Value), vs = [.int .i64 k, .slice (some ⟨vb, 0, none⟩) v.length vc] ∧ v.length ≤ vc ∧ vc ≤ maxLen ∧ butF w F vb ∧ w.heap[vb]? = some (.cells va 34 (0, 0)) ∧ va.size = vc * 2 ∧ va.toList.take (v.length * 2) = encL PRt v := by
    cases hA with
    | cons ha hl =>
      cases hl with
      | cons hb hl =>
        cases hl
        simp only [RO] at ha
        subst ha
        obtain ⟨vb, vc, va, rfl, p1, p2, p3, p4, p5, p6⟩ := hb
        exact ⟨vb, vc, va, rfl, p1, p2, p3, p4, p5, encL_of PRt v va.toList (by simp only [Array.length_toList, p5, Ty.width]; omega) fun i hi => ro_enc rfl (p6 i hi)⟩
  obtain ⟨i, rfl⟩ : ∃ i : Nat, k = i := ⟨k.toNat, by omega⟩
  have hi : i ≤ x.length := by omega
  have hm : 0 < v.length := List.length_pos_iff.2 hne
  rw [Int.toNat_natCast] at hk
  have hyl : (x.take i ++ v ++ x.drop i).length = x.length + v.length := by simp only [List.length_append, List.length_take, List.length_drop]; omega
  have hva : v.length * 2 ≤ va.size := by omega
  have hv1 : ∀ u ∈ va.toList.take (v.length * 2), u.oneCell' = true := by rw [q6]; exact encL_one PRt v rfl
  obtain ⟨inf, z, hinf, hsz, hby, hz, hzs⟩ := pr_info
  -- the list's row
  have hrow : (v0 = .slice none 0 0 ∧ x = []) ∨ ∃ b cap arr, v0 = .slice (some ⟨b, 0, none⟩) x.length cap ∧ x.length ≤ cap ∧ cap ≤ maxLen ∧ w.heap[b]? = some (.cells arr 34 (0, 0)) ∧ arr.size = cap * 2 ∧ F b ∧ arr.toList.take (x.length * 2) = encL PRt x := by
    rcases own_inv H with ⟨_, rfl, hv, _⟩ | ⟨b, cap, kids, arr, Fs, _, hv, r2, r3, h4, h5, g1, g2, g3, g4⟩
    · exact .inl ⟨by simpa using hv, rfl⟩
    · exact .inr ⟨b, cap, arr, by simpa using hv, r2, r3, h4, h5, (g1 b).2 (.inl rfl), encL_of PRt x arr.toList (by simp only [Array.length_toList, h5, Ty.width]; omega) fun i hi => (own_enc rfl (g4 i hi)).1⟩
  by_cases hend : i = x.length
  · subst hend
    obtain ⟨xs, hxs, hxe⟩ : ∃ xs, w.ownsRow 0 34 2 v0 x.length xs ∧ xs = encL PRt x := by
      rcases hrow with ⟨rfl, rfl⟩ | ⟨b, cap, arr, rfl, r2, r3, h4, h5, hFb, h6⟩
      · exact ⟨[], ⟨by simp, .inl ⟨rfl, rfl⟩⟩, rfl⟩
      · refine ⟨_, ⟨?_, .inr ⟨b, cap, arr, rfl, Nat.zero_le _, h4, r2, r3, h5, rfl⟩⟩, h6⟩
        rw [List.length_take, toLen arr]; omega
    obtain ⟨v', w1, hr, hcase⟩ := append_cases (P := Try.prog) (T := 22) (ty := 22) (bytes := 16) hxs Try.underlying22 hinf hz hsz hby hzs ⟨vb, 0, none⟩ v.length vc (va.toList.take (v.length * 2)) (by rw [List.length_take, toLen va]; omega)
      (fun j u hj => by
        rw [Addr.add_lit]
        rw [List.getElem?_take] at hj
        split at hj
        · simp only [World.cell?, q4, Nat.zero_add, ← Array.getElem?_toList]
          exact hj
        · cases hj) hv1 (by omega) (by unfold maxLen; omega)
    have hcalls : Calls Try.prog 73 #[v0, .int .i64 (x.length : Nat), .slice (some ⟨vb, 0, none⟩) v.length vc] w fun e w' => e = .returned v' ∧ w' = w1 := by
      rcases hrow with ⟨rfl, rfl⟩ | ⟨b, cap, arr, rfl, r2, r3, h4, h5, hFb, h6⟩
      · exact ins_end none 0 0 vb v.length vc w w1 v' hm (by omega) hr (Nat.le_refl _) (by omega) fun _ => ⟨rfl, rfl⟩
      · exact ins_end (some ⟨b, 0, none⟩) x.length cap vb v.length vc w w1 v' hm (by omega) hr r2 (by unfold maxLen at r3; omega) fun h => by cases h
    refine Calls.mono hcalls fun e w' he => ?_
    obtain ⟨rfl, rfl⟩ := he
    rw [List.take_length, List.drop_length, List.append_nil] at hk hyl
    rcases hcase with ⟨_, _, h, _⟩ | ⟨cap, cur, rfl, g, hlt, hbc, c1, c2, c3, c4⟩ | ⟨b, cap, cur0, cur, hv0, rfl, hb0, rfl, c1, c2, c3, c4⟩
    · omega
    · have hT : Turned (butF w F) w w' := ⟨g.os, g.tape, g.output.all, g.size, fun n hn => g.old n hn.1⟩
      rw [← hyl] at c1 c4 ⊢
      exact mv_row (t := PRt) rfl hT (fun h => absurd h.1 (by omega)) hbc c3 c1 c2 (by rw [show PRt.width = 2 from rfl, c4, hxe, q6, encL_app]) hk
    · have hFb : F b := by
        rcases hrow with ⟨rfl, rfl⟩ | ⟨b', cap', arr, rfl, r2, r3, h4, h5, hFb, h6⟩
        · cases hv0
        · cases hv0; exact hFb
      have hT : Turned (butF w F) w (w.setRow b cur) := ⟨rfl, rfl, sameOut_setRow hb0, by rw [setRow_size]; exact Nat.le_refl _, fun n hn => setRow_other w b n _ fun e => hn.2 (e ▸ hFb)⟩
      rw [← hyl] at c1 c4 ⊢
      exact mv_row (t := PRt) rfl hT (fun h => h.2 hFb) (setRow_heap w b cur0 cur _ (0, 0) hb0) c3 c1 c2 (by rw [show PRt.width = 2 from rfl, c4, hxe, q6, encL_app]) hk
  have hlt : i < x.length := by omega
  rcases hrow with ⟨_, rfl⟩ | ⟨b, cap, arr, rfl, r2, r3, h4, h5, hFb, h6⟩
  · simp at hlt
  have hvb : vb ≠ b := fun e => q3.2 (e ▸ hFb)
  have hx1 : ∀ u ∈ arr.toList.take (x.length * 2), u.oneCell' = true := by rw [h6]; exact encL_one PRt x rfl
  have hc63 : cap ≤ 9223372036854775807 := by unfold maxLen at r3; omega
  have hcut1 : arr.toList.take (i * 2) = encL PRt (x.take i) := by
    rw [← encL_take PRt x i hi, ← h6, show PRt.width = 2 from rfl, List.take_take, Nat.min_eq_left (by omega)]
  have hcut2 : (arr.toList.drop (i * 2)).take ((x.length - i) * 2) = encL PRt (x.drop i) := by
    rw [← encL_drop PRt x i hi, ← h6, show PRt.width = 2 from rfl, List.drop_take, show x.length * 2 - i * 2 = (x.length - i) * 2 by omega]
  by_cases hroom : x.length + v.length ≤ cap
  · refine Calls.mono (ins_shift b x.length cap i vb v.length vc arr va w hlt hm hroom hc63 hvb h4 h5 q4 hva hx1 hv1) fun e w' he => ?_
    obtain ⟨rfl, A1, A2, hA1, hA2, rfl⟩ := he
    obtain ⟨s1, s2, s3⟩ := shift_cells (V := va.toList.take (v.length * 2)) (A1 := A1.toList) (A2 := A2.toList) hi hroom (by rw [toLen, h5]) (by rw [List.length_take, toLen va]; omega) (by rw [hA1]) (by rw [hA2])
    have hb2 : (w.drew.setRow b A1).heap[b]? = some (.cells A1 34 (0, 0)) := setRow_heap w.drew b arr A1 _ (0, 0) h4
    have hT : Turned (butF w F) w ((w.drew.setRow b A1).setRow b A2) := ⟨rfl, rfl, ((sameOut_setRow hb2).trans (sameOut_setRow (w := w.drew) h4)).trans (Grew.drew w).output.all, by rw [setRow_size, setRow_size]; exact Nat.le_refl _, fun n hn => by
      have : n ≠ b := fun e => hn.2 (e ▸ hFb)
      rw [setRow_other _ _ _ _ this, setRow_other _ _ _ _ this]; rfl⟩
    have hres := mv_row (t := PRt) (y := x.take i ++ v ++ x.drop i) (cap := cap) (K := K) rfl hT (fun h => h.2 hFb) (setRow_heap _ b A1 A2 _ (0, 0) hb2) s2 (by rw [hyl]; exact hroom) r3 (by rw [hyl, show PRt.width = 2 from rfl, s3, hcut1, hcut2, q6, encL_app, encL_app]) hk
    rw [hyl] at hres
    exact hres
  · obtain ⟨G, ROW, R1, R2, w1, g1, g2, g3, g4, g5, g6, rfl, hcalls⟩ := ins_grow b x.length cap i vb v.length vc arr va w hlt hm r2 (by omega) (by omega) hvb h4 h5 q4 hva hx1 hv1
    refine Calls.mono hcalls fun e w' he => ?_
    obtain ⟨rfl, rfl⟩ := he
    have l1 : R1.toList.length = G * 2 := by
      rw [g5]; simp only [List.length_append, List.length_take, List.length_drop, Array.length_toList, g3]; omega
    have lv : (va.toList.take (v.length * 2)).length = v.length * 2 := by rw [List.length_take, toLen va]; omega
    have lr : (ROW.toList.take (i * 2)).length = i * 2 := by rw [List.length_take, toLen ROW]; omega
    have ld : ((arr.toList.drop (i * 2)).take ((x.length - i) * 2)).length = (x.length - i) * 2 := by simp only [List.length_take, List.length_drop, Array.length_toList, h5]; omega
    have l1t : R1.toList.take ((i + v.length) * 2) = arr.toList.take (i * 2) ++ va.toList.take (v.length * 2) := by
      rw [g5, ← g4]
      exact List.take_left' (by rw [List.length_append, lr, lv]; omega)
    have l2 : R2.size = G * 2 := by
      rw [g6]; simp only [List.size_toArray, List.length_append, ld, List.length_take, List.length_drop, l1]; omega
    have l2t : R2.toList.take ((x.length + v.length) * 2) = arr.toList.take (i * 2) ++ va.toList.take (v.length * 2) ++ (arr.toList.drop (i * 2)).take ((x.length - i) * 2) := by
      rw [g6, l1t]
      exact List.take_left' (by rw [g4] at lr; simp only [List.length_append, lr, lv, ld]; omega)
    have hn1 : ((w.alloc (.cells ROW 34)).drew).heap[w.heap.size]? = some (.cells ROW 34 (0, 0)) := heap_alloc_new w _
    have hn2 : (((w.alloc (.cells ROW 34)).drew.setRow w.heap.size R1).drew).heap[w.heap.size]? = some (.cells R1 34 (0, 0)) := setRow_heap _ _ ROW R1 _ (0, 0) hn1
    have hT : Turned (butF w F) w ((((w.alloc (.cells ROW 34)).drew.setRow w.heap.size R1).drew).setRow w.heap.size R2) :=
      ⟨rfl, rfl, (sameOut_setRow hn2).trans (((Grew.drew _).output.all).trans ((sameOut_setRow hn1).trans ((((Grew.alloc w _ _).trans (Grew.drew _)).output).all))), by
        rw [setRow_size, show ((w.alloc (.cells ROW 34)).drew.setRow w.heap.size R1).drew.heap.size = ((w.alloc (.cells ROW 34)).drew.setRow w.heap.size R1).heap.size from rfl, setRow_size]
        exact ((Grew.alloc w _ _).trans (Grew.drew _)).size, fun n hn => by
        have hlt := hn.1
        have : n ≠ w.heap.size := by omega
        rw [setRow_other _ _ _ _ this]
        show ((w.alloc (.cells ROW 34)).drew.setRow w.heap.size R1).heap[n]? = _
        rw [setRow_other _ _ _ _ this]
        exact ((Grew.alloc w _ _).trans (Grew.drew _)).old n hlt⟩
    have hres := mv_row (t := PRt) (y := x.take i ++ v ++ x.drop i) (cap := G) (K := K) rfl hT (fun h => absurd h.1 (by omega)) (setRow_heap _ w.heap.size R1 R2 _ (0, 0) hn2) l2 (by rw [hyl]; exact g1) g2 (by rw [hyl, show PRt.width = 2 from rfl, l2t, hcut1, hcut2, q6, encL_app, encL_app]) hk
    rw [hyl] at hres
    exact hres
end Fer
