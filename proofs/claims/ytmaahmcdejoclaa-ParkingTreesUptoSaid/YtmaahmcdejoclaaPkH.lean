/-
  Walk: parking.Tree. No condition.
-/
import Derived.Test.YtmaahmcdejoclaaRows
import Derived.Test.YtmaahmcdejoclaaPkG
set_option linter.unusedSimpArgs false
set_option linter.unusedVariables false
set_option maxHeartbeats 4000000
-- SPECS: tL, tI, tB, LI, NI, LLI, tLL, PRt, LPR, tPR, spL, leafSp, sortedPSp, ptreeSp, List.set_cons_zero, List.getD_cons_zero
namespace Fer
open Go Go.Proofs

def outT (c : List Int) : Bool := c.any fun v => decide (v < 1) || decide ((c.length : Int) + 2 < v)
def ptE (c : List Int) : Int := if 18 < c.length then 2 else if outT c then 1 else 0
/-- The edges, as they come. -/
def ptRaw (c : List Int) : List (Int × Int) := decL ((c.length : Int) + 2) c c.length ++ [(lst ((c.length : Int) + 2) [] (takW ((c.length : Int) + 2) c c.length), lst ((c.length : Int) + 2) [] (takW ((c.length : Int) + 2) c (c.length + 1)))]
def ptL (c : List Int) : List (Int × Int) := if ptE c = 0 then edgedL (ptRaw c) else []
def ptreeSp : Spec := spL fun c K => c.length ≤ 1000000000000000000 ∧ K [tPR (ptL c), tI (ptE c)]
/-- How often each number is still to come; -1: it is taken. -/
def dgL (n : Nat) (rest taken : List Int) : List Int := (List.range (n + 1)).map fun v : Nat => if ((v : Int) ∈ taken) then -1 else ((rest.count (v : Int) : Nat) : Int)
theorem dgL_len (n : Nat) (rest taken : List Int) : (dgL n rest taken).length = n + 1 := by simp [dgL]
theorem dgL_get {n : Nat} {rest taken : List Int} {v : Int} (h0 : 0 ≤ v) (h1 : v ≤ n) : (dgL n rest taken).getD v.toNat 0 = if v ∈ taken then -1 else ((rest.count v : Nat) : Int) := by
  unfold dgL
  rw [List.getD_eq_getElem?_getD, List.getElem?_map, List.getElem?_range (by omega)]
  simp only [Option.map_some, Option.getD_some]
  rw [show ((v.toNat : Nat) : Int) = v by omega]
theorem dgL_zero {n : Nat} {rest taken : List Int} {v : Int} (h0 : 0 ≤ v) (h1 : v ≤ n) : (dgL n rest taken).getD v.toNat 0 = 0 ↔ v ∉ rest ∧ v ∉ taken := by
  rw [dgL_get h0 h1]
  by_cases h : v ∈ taken
  · rw [if_pos h]
    exact ⟨fun e => absurd e (by decide), fun e => absurd h e.2⟩
  · rw [if_neg h]
    constructor
    · intro e
      exact ⟨List.count_eq_zero.1 (by omega), h⟩
    · intro e
      rw [List.count_eq_zero.2 e.1]
      rfl
theorem dgL_zeroV {n : Nat} {rest taken : List Int} (hn : n ≤ 900) (h : (rest.length : Int) + taken.length < n) : zeroV (dgL n rest taken) = lst n rest taken ∧ zeroOk (dgL n rest taken) := by
  obtain ⟨s1, s2, s3, s4, s5⟩ := lst_spec h
  have e : zeroV (dgL n rest taken) = lst n rest taken := by
    unfold zeroV
    rw [dgL_len]
    refine find_least s1 (by omega) (decide_eq_true ((dgL_zero (by omega) s2).2 ⟨s3, s4⟩)) fun u h1 h2 => decide_eq_false fun hc => ?_
    obtain ⟨a, b⟩ := (dgL_zero (by omega) (by omega)).1 hc
    exact (s5 u h1 h2).elim a b
  refine ⟨e, ?_⟩
  unfold zeroOk
  rw [e, dgL_len]
  refine ⟨by omega, s1, by omega, (dgL_zero (by omega) s2).2 ⟨s3, s4⟩, fun u h1 h2 hc => ?_⟩
  obtain ⟨a, b⟩ := (dgL_zero (by omega) (by omega)).1 hc
  exact (s5 u h1 h2).elim a b
theorem dgL_take {n : Nat} {rest taken : List Int} {v : Int} (h0 : 0 ≤ v) (h1 : v ≤ n) : (dgL n rest taken).set v.toNat (-1) = dgL n rest (taken ++ [v]) := by
  apply List.ext_getElem
  · simp [dgL]
  · intro k k1 k2
    simp only [dgL, List.getElem_set, List.getElem_map, List.getElem_range, List.mem_append, List.mem_singleton]
    by_cases e : v.toNat = k
    · rw [if_pos e, if_pos (.inr (by omega))]
    · rw [if_neg e]
      have e2 : ¬ (k : Int) = v := by omega
      simp only [e2, or_false]
theorem dgL_less {n : Nat} {w : Int} {rest taken : List Int} (h0 : 0 ≤ w) (h1 : w ≤ n) (ht : w ∉ taken) : (dgL n (w :: rest) taken).getD w.toNat 0 = (((w :: rest).count w : Nat) : Int) ∧ (dgL n (w :: rest) taken).set w.toNat ((((w :: rest).count w : Nat) : Int) - 1) = dgL n rest taken := by
  refine ⟨by rw [dgL_get h0 h1, if_neg ht], ?_⟩
  apply List.ext_getElem
  · simp [dgL]
  · intro k k1 k2
    simp only [dgL, List.getElem_set, List.getElem_map, List.getElem_range]
    by_cases e : w.toNat = k
    · have ek : (k : Int) = w := by omega
      rw [if_pos e, ek, if_neg ht, List.count_cons, if_pos (by simp)]
      omega
    · rw [if_neg e]
      by_cases kt : (k : Int) ∈ taken
      · rw [if_pos kt, if_pos kt]
      · rw [if_neg kt, if_neg kt, List.count_cons, if_neg (by rw [beq_iff_eq]; omega)]
        rfl
/-- The numbers that were counted so far. -/
def dcL (n : Nat) (c : List Int) (i : Nat) : List Int := (List.range (n + 1)).map fun v : Nat => (((c.take i).count (v : Int) : Nat) : Int)
theorem dcL_len (n : Nat) (c : List Int) (i : Nat) : (dcL n c i).length = n + 1 := by simp [dcL]
theorem dcL_start (n : Nat) (c : List Int) : List.replicate (n + 1) (0 : Int) = dcL n c 0 := by
  apply List.ext_getElem
  · simp [dcL]
  · intro k h1 h2
    simp [dcL]
theorem dcL_inc {n : Nat} {c : List Int} {i : Nat} (hi : i < c.length) (h0 : 0 ≤ c.getD i 0) (h1 : c.getD i 0 ≤ n) : (dcL n c i).getD (c.getD i 0).toNat 0 ≤ i ∧ 0 ≤ (dcL n c i).getD (c.getD i 0).toNat 0 ∧ (dcL n c i).set (c.getD i 0).toNat ((dcL n c i).getD (c.getD i 0).toNat 0 + 1) = dcL n c (i + 1) := by
  have e : (dcL n c i).getD (c.getD i 0).toNat 0 = (((c.take i).count (c.getD i 0) : Nat) : Int) := by
    unfold dcL
    rw [List.getD_eq_getElem?_getD, List.getElem?_map, List.getElem?_range (by omega)]
    simp only [Option.map_some, Option.getD_some]
    rw [show (((c.getD i 0).toNat : Nat) : Int) = c.getD i 0 by omega]
  have hcl : (c.take i).count (c.getD i 0) ≤ (c.take i).length := List.count_le_length
  rw [List.length_take] at hcl
  rw [e]
  refine ⟨by omega, by omega, ?_⟩
  apply List.ext_getElem
  · simp [dcL]
  · intro k k1 k2
    simp only [dcL, List.getElem_set, List.getElem_map, List.getElem_range]
    rw [take_succ_getD 0 hi, List.count_append, List.count_singleton]
    by_cases e2 : (c.getD i 0).toNat = k
    · have ek : (k : Int) = c.getD i 0 := by omega
      rw [if_pos e2, ek, if_pos (by simp)]
      omega
    · rw [if_neg e2, if_neg (by rw [beq_iff_eq]; omega)]
      rfl
theorem dcL_end (n : Nat) (c : List Int) : dcL n c c.length = dgL n c [] := by
  unfold dcL dgL
  refine List.map_congr_left fun v _ => ?_
  rw [List.take_length, if_neg (by simp)]

set_option maxRecDepth 10000 in
theorem ptree_ok : FnOK Try.prog 10 ptreeSp := by
  have hC : CtxOK Try.prog ⟨71, tab, fun f => lk [] f, fun f => lk [(36, sortedPSp)] f, fun f => lk [] f, fun f => lk [] f, fun f => lk [(35, leafSp)] f⟩ := ctx_ok trivial ⟨sortedP_ok, trivial⟩ trivial trivial ⟨leaf_ok, trivial⟩
  refine FnOK_of (C := ⟨71, tab, fun f => lk [] f, fun f => lk [(36, sortedPSp)] f, fun f => lk [] f, fun f => lk [] f, fun f => lk [(35, leafSp)] f⟩) 10 Try.f10 _ [2, 3] ptreeSp Try.func10 rfl (by decide) rfl rfl (Nat.le_of_ble_eq_true rfl) fun args K ht hK w0 => ?_
  obtain ⟨c, rfl, hbig, hk⟩ := at_L ht hK
  by_cases h18 : 18 < c.length
  · have he : ptE c = 2 := if_pos h18
    rw [show ptL c = [] from if_neg (by rw [he]; decide), he] at hk
    repeat' (first | with_reducible refine XW.seq ?_ | with_reducible refine XW.block ?_ | with_reducible refine XW.skip ?_ | with_reducible refine XW.exit ?_ | with_reducible refine XW.ret ?_ | ((first | with_reducible refine XW.region hC (fun K' hK' => ?_) | with_reducible refine XW.text hC hm_ok (by kernel_rfl) (fun K' hK' => ?_)); (try simp only [List.toList_toArray]); repeat' (first | with_reducible refine xrun_cons ?_ | with_reducible refine xtxt_cons ?_ | ((first | with_reducible show xoper _ _ _ _ _ _ _ | with_reducible show xdo _ _ _ _ _ _); simp only [zd, zb, zz, RT.at, RT.ty, RT.sub, RT.cut, RT.wr, getS, setT, Ty.dflt, lk, Int.reduceToNat, Int.reduceEq, reduceCtorEq, Nat.reduceLT, Nat.reduceEqDiff, Nat.reduceAdd, Nat.reduceMul, Nat.reduceLeDiff, Nat.reduceSub, Nat.reduceBEq, Nat.reduceBNe, Nat.reduceBeqDiff, ↓reduceIte, tab, tL, tI, tB, LI, NI, LLI, tLL, PRt, LPR, tPR, spL, leafSp, sortedPSp, ptreeSp, List.set_cons_zero, List.getD_cons_zero]) | with_reducible refine xgd_intro (fun hg => ?_) (fun hg => ?_) <;> (try simp only [zh, zz, reduceCtorEq, bne_iff_ne, beq_iff_eq, ne_eq, Decidable.not_not, beq_eq_false_iff_ne, bne_eq_false_iff_eq] at hg) | ((with_reducible show (_ : Bool) = true); kernel_rfl) | with_reducible refine And.intro ?_ ?_ | with_reducible refine xrun_nil ?_ | with_reducible refine xtxt_nil ?_ | (refine hK' _ ?_; clear hK'; clear K') | (with_reducible intro hg; try simp only [zh, zz, reduceCtorEq, bne_iff_ne, beq_iff_eq, ne_eq, Decidable.not_not, beq_eq_false_iff_ne, bne_eq_false_iff_eq] at hg))) | ((with_reducible show XW _ _ _ _ (.cond _ _ _) _ _); refine XW.cond rfl (fun h => ?_) (fun h => ?_) <;> (try simp only [zh, zz, reduceCtorEq, bne_iff_ne, beq_iff_eq, ne_eq, Decidable.not_not, beq_eq_false_iff_ne, bne_eq_false_iff_eq] at h) <;> (try (exfalso; omega))) | ((with_reducible show XW.thn _ _ _ _); dsimp only [XW.thn]) | ((with_reducible show XW.blk _ _ _ _); simp only [XW.blk, ↓reduceIte, Nat.reduceEqDiff, Nat.zero_ne_one, Nat.one_ne_zero, ne_eq]) | ((with_reducible show retK _ _ _ _); simp only [retK, outsOf, outOf, zb, zz, RT.at, RT.ty, RT.sub, RT.cut, RT.wr, getS, setT, Ty.dflt, lk, Int.reduceToNat, Int.reduceEq, reduceCtorEq, Nat.reduceLT, Nat.reduceEqDiff, Nat.reduceAdd, Nat.reduceMul, Nat.reduceLeDiff, Nat.reduceSub, Nat.reduceBEq, Nat.reduceBNe, Nat.reduceBeqDiff, ↓reduceIte, tab, tL, tI, tB, LI, NI, LLI, tLL, PRt, LPR, tPR, spL, leafSp, sortedPSp, ptreeSp, List.set_cons_zero, List.getD_cons_zero])); all_goals (try (first | omega | with_reducible exact Int.le_refl _ | (show (_ : Int) ≤ _; omega)))
    all_goals first
      | exact hk
      | (exfalso; omega)
  have hT : ((c.length : Int) + 2 + 1).toNat = c.length + 2 + 1 := by omega
  have hdl := dcL_len (c.length + 2) c
  repeat' (first | with_reducible refine XW.seq ?_ | with_reducible refine XW.block ?_ | with_reducible refine XW.skip ?_ | with_reducible refine XW.exit ?_ | with_reducible refine XW.ret ?_ | ((first | with_reducible refine XW.region hC (fun K' hK' => ?_) | with_reducible refine XW.text hC hm_ok (by kernel_rfl) (fun K' hK' => ?_)); (try simp only [List.toList_toArray]); repeat' (first | with_reducible refine xrun_cons ?_ | with_reducible refine xtxt_cons ?_ | ((first | with_reducible show xoper _ _ _ _ _ _ _ | with_reducible show xdo _ _ _ _ _ _); simp only [zd, zb, zz, RT.at, RT.ty, RT.sub, RT.cut, RT.wr, getS, setT, Ty.dflt, lk, Int.reduceToNat, Int.reduceEq, reduceCtorEq, Nat.reduceLT, Nat.reduceEqDiff, Nat.reduceAdd, Nat.reduceMul, Nat.reduceLeDiff, Nat.reduceSub, Nat.reduceBEq, Nat.reduceBNe, Nat.reduceBeqDiff, ↓reduceIte, tab, tL, tI, tB, LI, NI, LLI, tLL, PRt, LPR, tPR, spL, leafSp, sortedPSp, ptreeSp, List.set_cons_zero, List.getD_cons_zero]) | with_reducible refine xgd_intro (fun hg => ?_) (fun hg => ?_) <;> (try simp only [zh, zz, reduceCtorEq, bne_iff_ne, beq_iff_eq, ne_eq, Decidable.not_not, beq_eq_false_iff_ne, bne_eq_false_iff_eq] at hg) | ((with_reducible show (_ : Bool) = true); kernel_rfl) | with_reducible refine And.intro ?_ ?_ | with_reducible refine xrun_nil ?_ | with_reducible refine xtxt_nil ?_ | (refine hK' _ ?_; clear hK'; clear K') | (with_reducible intro hg; try simp only [zh, zz, reduceCtorEq, bne_iff_ne, beq_iff_eq, ne_eq, Decidable.not_not, beq_eq_false_iff_ne, bne_eq_false_iff_eq] at hg))) | ((with_reducible show XW _ _ _ _ (.cond _ _ _) _ _); refine XW.cond rfl (fun h => ?_) (fun h => ?_) <;> (try simp only [zh, zz, reduceCtorEq, bne_iff_ne, beq_iff_eq, ne_eq, Decidable.not_not, beq_eq_false_iff_ne, bne_eq_false_iff_eq] at h) <;> (try (exfalso; omega))) | ((with_reducible show XW.thn _ _ _ _); dsimp only [XW.thn]) | ((with_reducible show XW.blk _ _ _ _); simp only [XW.blk, ↓reduceIte, Nat.reduceEqDiff, Nat.zero_ne_one, Nat.one_ne_zero, ne_eq]) | ((with_reducible show retK _ _ _ _); simp only [retK, outsOf, outOf, zb, zz, RT.at, RT.ty, RT.sub, RT.cut, RT.wr, getS, setT, Ty.dflt, lk, Int.reduceToNat, Int.reduceEq, reduceCtorEq, Nat.reduceLT, Nat.reduceEqDiff, Nat.reduceAdd, Nat.reduceMul, Nat.reduceLeDiff, Nat.reduceSub, Nat.reduceBEq, Nat.reduceBNe, Nat.reduceBeqDiff, ↓reduceIte, tab, tL, tI, tB, LI, NI, LLI, tLL, PRt, LPR, tPR, spL, leafSp, sortedPSp, ptreeSp, List.set_cons_zero, List.getD_cons_zero])); all_goals (try (first | omega | with_reducible exact Int.le_refl _ | (show (_ : Int) ≤ _; omega)))
  all_goals try (exfalso; omega)
  rw [hT, dcL_start (c.length + 2) c]
  refine XW.loop (ι := Nat) (fun i => ⟨[(22, .dat NI (i : Int)), (21, .dat NI (c.length : Int)), (20, .dat LI c), (5, .ptr 0 [0]), (4, .dat NI ((c.length : Int) + 2)), (0, .dat LI c)], [(0, ⟨23, LI, 1, [dcL (c.length + 2) c i], none⟩)], 1, []⟩)
    (fun i => i ≤ c.length ∧ ∀ j, j < i → 1 ≤ c.getD j 0 ∧ c.getD j 0 ≤ (c.length : Int) + 2) (fun i => c.length - i) 0 [(0, 2)] ⟨Nat.zero_le _, fun j hj => absurd hj (Nat.not_lt_zero _)⟩ ?_ fun i hi => ?_
  · simp only [Fits, distinct, fitEnv, fitB, fitL, fitRoots, fitRT, idsOK, AV.ids, zb, zz, RT.at, RT.ty, RT.sub, RT.cut, RT.wr, getS, setT, Ty.dflt, lk, Int.reduceToNat, Int.reduceEq, reduceCtorEq, Nat.reduceLT, Nat.reduceEqDiff, Nat.reduceAdd, Nat.reduceMul, Nat.reduceLeDiff, Nat.reduceSub, Nat.reduceBEq, Nat.reduceBNe, Nat.reduceBeqDiff, ↓reduceIte, tab, tL, tI, tB, LI, NI, LLI, tLL, PRt, LPR, tPR, spL, leafSp, sortedPSp, ptreeSp, List.set_cons_zero, List.getD_cons_zero]
    all_goals first | rfl | exact ⟨rfl, rfl⟩
  obtain ⟨i1, i2⟩ := hi
  have hdi := hdl i
  by_cases hil : i < c.length
  · by_cases hx : 1 ≤ c.getD i 0 ∧ c.getD i 0 ≤ (c.length : Int) + 2
    · obtain ⟨d1, d2, d3⟩ := dcL_inc (n := c.length + 2) hil (by omega) (by omega)
      repeat' (first | with_reducible refine XW.seq ?_ | with_reducible refine XW.block ?_ | with_reducible refine XW.skip ?_ | with_reducible refine XW.exit ?_ | with_reducible refine XW.ret ?_ | ((first | with_reducible refine XW.region hC (fun K' hK' => ?_) | with_reducible refine XW.text hC hm_ok (by kernel_rfl) (fun K' hK' => ?_)); (try simp only [List.toList_toArray]); repeat' (first | with_reducible refine xrun_cons ?_ | with_reducible refine xtxt_cons ?_ | ((first | with_reducible show xoper _ _ _ _ _ _ _ | with_reducible show xdo _ _ _ _ _ _); simp only [zd, zb, zz, RT.at, RT.ty, RT.sub, RT.cut, RT.wr, getS, setT, Ty.dflt, lk, Int.reduceToNat, Int.reduceEq, reduceCtorEq, Nat.reduceLT, Nat.reduceEqDiff, Nat.reduceAdd, Nat.reduceMul, Nat.reduceLeDiff, Nat.reduceSub, Nat.reduceBEq, Nat.reduceBNe, Nat.reduceBeqDiff, ↓reduceIte, tab, tL, tI, tB, LI, NI, LLI, tLL, PRt, LPR, tPR, spL, leafSp, sortedPSp, ptreeSp, List.set_cons_zero, List.getD_cons_zero]) | with_reducible refine xgd_intro (fun hg => ?_) (fun hg => ?_) <;> (try simp only [zh, zz, reduceCtorEq, bne_iff_ne, beq_iff_eq, ne_eq, Decidable.not_not, beq_eq_false_iff_ne, bne_eq_false_iff_eq] at hg) | ((with_reducible show (_ : Bool) = true); kernel_rfl) | with_reducible refine And.intro ?_ ?_ | with_reducible refine xrun_nil ?_ | with_reducible refine xtxt_nil ?_ | (refine hK' _ ?_; clear hK'; clear K') | (with_reducible intro hg; try simp only [zh, zz, reduceCtorEq, bne_iff_ne, beq_iff_eq, ne_eq, Decidable.not_not, beq_eq_false_iff_ne, bne_eq_false_iff_eq] at hg))) | ((with_reducible show XW _ _ _ _ (.cond _ _ _) _ _); refine XW.cond rfl (fun h => ?_) (fun h => ?_) <;> (try simp only [zh, zz, reduceCtorEq, bne_iff_ne, beq_iff_eq, ne_eq, Decidable.not_not, beq_eq_false_iff_ne, bne_eq_false_iff_eq] at h) <;> (try (exfalso; omega))) | ((with_reducible show XW.thn _ _ _ _); dsimp only [XW.thn]) | ((with_reducible show XW.blk _ _ _ _); simp only [XW.blk, ↓reduceIte, Nat.reduceEqDiff, Nat.zero_ne_one, Nat.one_ne_zero, ne_eq]) | ((with_reducible show retK _ _ _ _); simp only [retK, outsOf, outOf, zb, zz, RT.at, RT.ty, RT.sub, RT.cut, RT.wr, getS, setT, Ty.dflt, lk, Int.reduceToNat, Int.reduceEq, reduceCtorEq, Nat.reduceLT, Nat.reduceEqDiff, Nat.reduceAdd, Nat.reduceMul, Nat.reduceLeDiff, Nat.reduceSub, Nat.reduceBEq, Nat.reduceBNe, Nat.reduceBeqDiff, ↓reduceIte, tab, tL, tI, tB, LI, NI, LLI, tLL, PRt, LPR, tPR, spL, leafSp, sortedPSp, ptreeSp, List.set_cons_zero, List.getD_cons_zero])); all_goals (try (first | omega | with_reducible exact Int.le_refl _ | (show (_ : Int) ≤ _; omega)))
      all_goals try (exfalso; omega)
      refine ⟨i + 1, [(0, 0)], ⟨by omega, fun j hj => ?_⟩, by omega, ?_⟩
      · by_cases e : j = i
        · subst e; exact hx
        · exact i2 j (by omega)
      rw [← d3]
      simp only [Fits, distinct, fitEnv, fitB, fitL, fitRoots, fitRT, idsOK, AV.ids, zb, zz, RT.at, RT.ty, RT.sub, RT.cut, RT.wr, getS, setT, Ty.dflt, lk, Int.reduceToNat, Int.reduceEq, reduceCtorEq, Nat.reduceLT, Nat.reduceEqDiff, Nat.reduceAdd, Nat.reduceMul, Nat.reduceLeDiff, Nat.reduceSub, Nat.reduceBEq, Nat.reduceBNe, Nat.reduceBeqDiff, ↓reduceIte, tab, tL, tI, tB, LI, NI, LLI, tLL, PRt, LPR, tPR, spL, leafSp, sortedPSp, ptreeSp, List.set_cons_zero, List.getD_cons_zero]
      all_goals first | rfl | exact ⟨rfl, rfl⟩
    · have hob : outT c = true := by
        unfold outT
        rw [List.any_eq_true]
        refine ⟨_, getD_mem 0 hil, ?_⟩
        simp only [Bool.or_eq_true, decide_eq_true_eq]
        omega
      have he : ptE c = 1 := by unfold ptE; rw [if_neg h18, if_pos hob]
      rw [show ptL c = [] from if_neg (by rw [he]; decide), he] at hk
      repeat' (first | with_reducible refine XW.seq ?_ | with_reducible refine XW.block ?_ | with_reducible refine XW.skip ?_ | with_reducible refine XW.exit ?_ | with_reducible refine XW.ret ?_ | ((first | with_reducible refine XW.region hC (fun K' hK' => ?_) | with_reducible refine XW.text hC hm_ok (by kernel_rfl) (fun K' hK' => ?_)); (try simp only [List.toList_toArray]); repeat' (first | with_reducible refine xrun_cons ?_ | with_reducible refine xtxt_cons ?_ | ((first | with_reducible show xoper _ _ _ _ _ _ _ | with_reducible show xdo _ _ _ _ _ _); simp only [zd, zb, zz, RT.at, RT.ty, RT.sub, RT.cut, RT.wr, getS, setT, Ty.dflt, lk, Int.reduceToNat, Int.reduceEq, reduceCtorEq, Nat.reduceLT, Nat.reduceEqDiff, Nat.reduceAdd, Nat.reduceMul, Nat.reduceLeDiff, Nat.reduceSub, Nat.reduceBEq, Nat.reduceBNe, Nat.reduceBeqDiff, ↓reduceIte, tab, tL, tI, tB, LI, NI, LLI, tLL, PRt, LPR, tPR, spL, leafSp, sortedPSp, ptreeSp, List.set_cons_zero, List.getD_cons_zero]) | with_reducible refine xgd_intro (fun hg => ?_) (fun hg => ?_) <;> (try simp only [zh, zz, reduceCtorEq, bne_iff_ne, beq_iff_eq, ne_eq, Decidable.not_not, beq_eq_false_iff_ne, bne_eq_false_iff_eq] at hg) | ((with_reducible show (_ : Bool) = true); kernel_rfl) | with_reducible refine And.intro ?_ ?_ | with_reducible refine xrun_nil ?_ | with_reducible refine xtxt_nil ?_ | (refine hK' _ ?_; clear hK'; clear K') | (with_reducible intro hg; try simp only [zh, zz, reduceCtorEq, bne_iff_ne, beq_iff_eq, ne_eq, Decidable.not_not, beq_eq_false_iff_ne, bne_eq_false_iff_eq] at hg))) | ((with_reducible show XW _ _ _ _ (.cond _ _ _) _ _); refine XW.cond rfl (fun h => ?_) (fun h => ?_) <;> (try simp only [zh, zz, reduceCtorEq, bne_iff_ne, beq_iff_eq, ne_eq, Decidable.not_not, beq_eq_false_iff_ne, bne_eq_false_iff_eq] at h) <;> (try (exfalso; omega))) | ((with_reducible show XW.thn _ _ _ _); dsimp only [XW.thn]) | ((with_reducible show XW.blk _ _ _ _); simp only [XW.blk, ↓reduceIte, Nat.reduceEqDiff, Nat.zero_ne_one, Nat.one_ne_zero, ne_eq]) | ((with_reducible show retK _ _ _ _); simp only [retK, outsOf, outOf, zb, zz, RT.at, RT.ty, RT.sub, RT.cut, RT.wr, getS, setT, Ty.dflt, lk, Int.reduceToNat, Int.reduceEq, reduceCtorEq, Nat.reduceLT, Nat.reduceEqDiff, Nat.reduceAdd, Nat.reduceMul, Nat.reduceLeDiff, Nat.reduceSub, Nat.reduceBEq, Nat.reduceBNe, Nat.reduceBeqDiff, ↓reduceIte, tab, tL, tI, tB, LI, NI, LLI, tLL, PRt, LPR, tPR, spL, leafSp, sortedPSp, ptreeSp, List.set_cons_zero, List.getD_cons_zero])); all_goals (try (first | omega | with_reducible exact Int.le_refl _ | (show (_ : Int) ≤ _; omega)))
      all_goals first
        | exact hk
        | (exfalso; omega)
  have hie : i = c.length := by omega
  rw [hie] at i2 ⊢
  have hin : ∀ j, j < c.length → 1 ≤ c.getD j 0 ∧ c.getD j 0 ≤ (c.length : Int) + 2 := i2
  have hob : outT c = false := by
    unfold outT
    rw [List.any_eq_false]
    intro x hx
    obtain ⟨j, hj, rfl⟩ := List.mem_iff_getElem.1 hx
    have := hin j hj
    rw [List.getD_eq_getElem?_getD, List.getElem?_eq_getElem hj] at this
    simp only [Option.getD_some] at this
    simp
    omega
  have he : ptE c = 0 := by unfold ptE; rw [if_neg h18, hob]; rfl
  rw [show ptL c = edgedL (ptRaw c) from if_pos he, he] at hk
  clear i1 i2 hdi hil hie hob he
  obtain ⟨N, hN⟩ : ∃ N : Nat, N = c.length + 2 := ⟨_, rfl⟩
  have hNI : (N : Int) = (c.length : Int) + 2 := by omega
  rw [← hN, dcL_end]
  have hgl := dgL_len N
  have hz := fun (rest taken : List Int) (h : (rest.length : Int) + taken.length < N) => dgL_zeroV (n := N) (rest := rest) (taken := taken) (by omega) h
  have htl := takW_len N c
  repeat' (first | with_reducible refine XW.seq ?_ | with_reducible refine XW.block ?_ | with_reducible refine XW.skip ?_ | with_reducible refine XW.exit ?_ | with_reducible refine XW.ret ?_ | ((first | with_reducible refine XW.region hC (fun K' hK' => ?_) | with_reducible refine XW.text hC hm_ok (by kernel_rfl) (fun K' hK' => ?_)); (try simp only [List.toList_toArray]); repeat' (first | with_reducible refine xrun_cons ?_ | with_reducible refine xtxt_cons ?_ | ((first | with_reducible show xoper _ _ _ _ _ _ _ | with_reducible show xdo _ _ _ _ _ _); simp only [zd, zb, zz, RT.at, RT.ty, RT.sub, RT.cut, RT.wr, getS, setT, Ty.dflt, lk, Int.reduceToNat, Int.reduceEq, reduceCtorEq, Nat.reduceLT, Nat.reduceEqDiff, Nat.reduceAdd, Nat.reduceMul, Nat.reduceLeDiff, Nat.reduceSub, Nat.reduceBEq, Nat.reduceBNe, Nat.reduceBeqDiff, ↓reduceIte, tab, tL, tI, tB, LI, NI, LLI, tLL, PRt, LPR, tPR, spL, leafSp, sortedPSp, ptreeSp, List.set_cons_zero, List.getD_cons_zero]) | with_reducible refine xgd_intro (fun hg => ?_) (fun hg => ?_) <;> (try simp only [zh, zz, reduceCtorEq, bne_iff_ne, beq_iff_eq, ne_eq, Decidable.not_not, beq_eq_false_iff_ne, bne_eq_false_iff_eq] at hg) | ((with_reducible show (_ : Bool) = true); kernel_rfl) | with_reducible refine And.intro ?_ ?_ | with_reducible refine xrun_nil ?_ | with_reducible refine xtxt_nil ?_ | (refine hK' _ ?_; clear hK'; clear K') | (with_reducible intro hg; try simp only [zh, zz, reduceCtorEq, bne_iff_ne, beq_iff_eq, ne_eq, Decidable.not_not, beq_eq_false_iff_ne, bne_eq_false_iff_eq] at hg))) | ((with_reducible show XW _ _ _ _ (.cond _ _ _) _ _); refine XW.cond rfl (fun h => ?_) (fun h => ?_) <;> (try simp only [zh, zz, reduceCtorEq, bne_iff_ne, beq_iff_eq, ne_eq, Decidable.not_not, beq_eq_false_iff_ne, bne_eq_false_iff_eq] at h) <;> (try (exfalso; omega))) | ((with_reducible show XW.thn _ _ _ _); dsimp only [XW.thn]) | ((with_reducible show XW.blk _ _ _ _); simp only [XW.blk, ↓reduceIte, Nat.reduceEqDiff, Nat.zero_ne_one, Nat.one_ne_zero, ne_eq]) | ((with_reducible show retK _ _ _ _); simp only [retK, outsOf, outOf, zb, zz, RT.at, RT.ty, RT.sub, RT.cut, RT.wr, getS, setT, Ty.dflt, lk, Int.reduceToNat, Int.reduceEq, reduceCtorEq, Nat.reduceLT, Nat.reduceEqDiff, Nat.reduceAdd, Nat.reduceMul, Nat.reduceLeDiff, Nat.reduceSub, Nat.reduceBEq, Nat.reduceBNe, Nat.reduceBeqDiff, ↓reduceIte, tab, tL, tI, tB, LI, NI, LLI, tLL, PRt, LPR, tPR, spL, leafSp, sortedPSp, ptreeSp, List.set_cons_zero, List.getD_cons_zero])); all_goals (try (first | omega | with_reducible exact Int.le_refl _ | (show (_ : Int) ≤ _; omega)))
  all_goals try (exfalso; omega)
  refine XW.loop (ι := Nat) (fun i => ⟨[(43, .dat NI (i : Int)), (42, .dat NI (c.length : Int)), (41, .dat LI c), (9, .clo 35 [0]), (8, .ref 1 []), (5, .ptr 0 [0]), (0, .dat LI c)], [(0, ⟨23, LI, 1, [dgL N (c.drop i) (takW N c i)], none⟩), (1, ⟨34, PRt, 0, decL N c i, none⟩)], 2, []⟩)
    (fun i => i ≤ c.length) (fun i => c.length - i) 0 [(0, 0), (1, 1)] (Nat.zero_le _) ?_ fun i hi => ?_
  · simp only [Fits, distinct, fitEnv, fitB, fitL, fitRoots, fitRT, idsOK, AV.ids, zb, zz, RT.at, RT.ty, RT.sub, RT.cut, RT.wr, getS, setT, Ty.dflt, lk, Int.reduceToNat, Int.reduceEq, reduceCtorEq, Nat.reduceLT, Nat.reduceEqDiff, Nat.reduceAdd, Nat.reduceMul, Nat.reduceLeDiff, Nat.reduceSub, Nat.reduceBEq, Nat.reduceBNe, Nat.reduceBeqDiff, ↓reduceIte, tab, tL, tI, tB, LI, NI, LLI, tLL, PRt, LPR, tPR, spL, leafSp, sortedPSp, ptreeSp, List.set_cons_zero, List.getD_cons_zero]
    all_goals first | rfl | exact ⟨rfl, rfl⟩ | exact ⟨rfl, rfl, rfl⟩
  have hdl2 : (decL N c i).length = i := by simp [decL]
  obtain ⟨e1, ok1⟩ := hz (c.drop i) (takW N c i) (by rw [List.length_drop, htl]; omega)
  obtain ⟨s1, s2, s3, s4, s5⟩ := lst_spec (n := N) (rest := c.drop i) (taken := takW N c i) (by rw [List.length_drop, htl]; omega)
  have hset := dgL_take (n := N) (rest := c.drop i) (taken := takW N c i) (v := lst N (c.drop i) (takW N c i)) (by omega) s2
  rw [show takW N c i ++ [lst N (c.drop i) (takW N c i)] = takW N c (i + 1) from rfl, ← e1] at hset
  have hin2 := takW_in (n := (N : Int)) (c := c) (by omega) (i + 1)
  by_cases hil : i < c.length
  · have hdr : c.drop i = c.getD i 0 :: c.drop (i + 1) := drop_pred_getD 0 hil
    have hw := hin i hil
    have hwt : c.getD i 0 ∉ takW N c (i + 1) := by
      intro h
      rw [takW, List.mem_append, List.mem_singleton] at h
      rcases h with h | h
      · exact (takW_in (n := (N : Int)) (c := c) (by omega) i (by omega) _ h).2.2 (by rw [hdr]; exact List.mem_cons_self ..)
      · rw [← h] at s3
        exact s3 (by rw [hdr]; exact List.mem_cons_self ..)
    obtain ⟨l1, l2⟩ := dgL_less (n := N) (w := c.getD i 0) (rest := c.drop (i + 1)) (taken := takW N c (i + 1)) (by omega) (by omega) hwt
    rw [← hdr] at l1 l2
    have hcnt : (c.drop i).count (c.getD i 0) ≤ (c.drop i).length := List.count_le_length
    rw [List.length_drop] at hcnt
    have hgl2 := hgl (c.drop i) (takW N c (i + 1))
    rw [← hset] at l1 l2 hgl2
    rw [← l1] at l2
    have hgl3 := hgl (c.drop i) (takW N c i)
    repeat' (first | with_reducible refine XW.seq ?_ | with_reducible refine XW.block ?_ | with_reducible refine XW.skip ?_ | with_reducible refine XW.exit ?_ | with_reducible refine XW.ret ?_ | ((first | with_reducible refine XW.region hC (fun K' hK' => ?_) | with_reducible refine XW.text hC hm_ok (by kernel_rfl) (fun K' hK' => ?_)); (try simp only [List.toList_toArray]); repeat' (first | with_reducible refine xrun_cons ?_ | with_reducible refine xtxt_cons ?_ | ((first | with_reducible show xoper _ _ _ _ _ _ _ | with_reducible show xdo _ _ _ _ _ _); simp only [zd, zb, zz, RT.at, RT.ty, RT.sub, RT.cut, RT.wr, getS, setT, Ty.dflt, lk, Int.reduceToNat, Int.reduceEq, reduceCtorEq, Nat.reduceLT, Nat.reduceEqDiff, Nat.reduceAdd, Nat.reduceMul, Nat.reduceLeDiff, Nat.reduceSub, Nat.reduceBEq, Nat.reduceBNe, Nat.reduceBeqDiff, ↓reduceIte, tab, tL, tI, tB, LI, NI, LLI, tLL, PRt, LPR, tPR, spL, leafSp, sortedPSp, ptreeSp, List.set_cons_zero, List.getD_cons_zero]) | with_reducible refine xgd_intro (fun hg => ?_) (fun hg => ?_) <;> (try simp only [zh, zz, reduceCtorEq, bne_iff_ne, beq_iff_eq, ne_eq, Decidable.not_not, beq_eq_false_iff_ne, bne_eq_false_iff_eq] at hg) | ((with_reducible show (_ : Bool) = true); kernel_rfl) | with_reducible refine And.intro ?_ ?_ | with_reducible refine xrun_nil ?_ | with_reducible refine xtxt_nil ?_ | (refine hK' _ ?_; clear hK'; clear K') | (with_reducible intro hg; try simp only [zh, zz, reduceCtorEq, bne_iff_ne, beq_iff_eq, ne_eq, Decidable.not_not, beq_eq_false_iff_ne, bne_eq_false_iff_eq] at hg))) | ((with_reducible show XW _ _ _ _ (.cond _ _ _) _ _); refine XW.cond rfl (fun h => ?_) (fun h => ?_) <;> (try simp only [zh, zz, reduceCtorEq, bne_iff_ne, beq_iff_eq, ne_eq, Decidable.not_not, beq_eq_false_iff_ne, bne_eq_false_iff_eq] at h) <;> (try (exfalso; omega))) | ((with_reducible show XW.thn _ _ _ _); dsimp only [XW.thn]) | ((with_reducible show XW.blk _ _ _ _); simp only [XW.blk, ↓reduceIte, Nat.reduceEqDiff, Nat.zero_ne_one, Nat.one_ne_zero, ne_eq]) | ((with_reducible show retK _ _ _ _); simp only [retK, outsOf, outOf, zb, zz, RT.at, RT.ty, RT.sub, RT.cut, RT.wr, getS, setT, Ty.dflt, lk, Int.reduceToNat, Int.reduceEq, reduceCtorEq, Nat.reduceLT, Nat.reduceEqDiff, Nat.reduceAdd, Nat.reduceMul, Nat.reduceLeDiff, Nat.reduceSub, Nat.reduceBEq, Nat.reduceBNe, Nat.reduceBeqDiff, ↓reduceIte, tab, tL, tI, tB, LI, NI, LLI, tLL, PRt, LPR, tPR, spL, leafSp, sortedPSp, ptreeSp, List.set_cons_zero, List.getD_cons_zero])); all_goals (try (first | omega | with_reducible exact Int.le_refl _ | (show (_ : Int) ≤ _; omega)))
    all_goals try exact ok1
    all_goals try (exfalso; omega)
    refine ⟨i + 1, [(0, 0), (1, 3)], by omega, by omega, ?_⟩
    rw [← l2, decL_succ, ← e1]
    simp only [Fits, distinct, fitEnv, fitB, fitL, fitRoots, fitRT, idsOK, AV.ids, zb, zz, RT.at, RT.ty, RT.sub, RT.cut, RT.wr, getS, setT, Ty.dflt, lk, Int.reduceToNat, Int.reduceEq, reduceCtorEq, Nat.reduceLT, Nat.reduceEqDiff, Nat.reduceAdd, Nat.reduceMul, Nat.reduceLeDiff, Nat.reduceSub, Nat.reduceBEq, Nat.reduceBNe, Nat.reduceBeqDiff, ↓reduceIte, tab, tL, tI, tB, LI, NI, LLI, tLL, PRt, LPR, tPR, spL, leafSp, sortedPSp, ptreeSp, List.set_cons_zero, List.getD_cons_zero]
    all_goals first | rfl | exact ⟨rfl, rfl⟩ | exact ⟨rfl, rfl, rfl⟩
  obtain rfl : i = c.length := by omega
  obtain ⟨e2, ok2⟩ := hz [] (takW N c (c.length + 1)) (by rw [htl, List.length_nil]; omega)
  rw [List.drop_length] at e1 ok1 hset ⊢
  rw [← hset] at e2 ok2
  have hraw : ptRaw c = decL N c c.length ++ [(lst N [] (takW N c c.length), lst N [] (takW N c (c.length + 1)))] := by unfold ptRaw; rw [hNI]
  rw [← e1, ← e2] at hraw
  rw [hraw] at hk
  have hgl3 := hgl [] (takW N c c.length)
  repeat' (first | with_reducible refine XW.seq ?_ | with_reducible refine XW.block ?_ | with_reducible refine XW.skip ?_ | with_reducible refine XW.exit ?_ | with_reducible refine XW.ret ?_ | ((first | with_reducible refine XW.region hC (fun K' hK' => ?_) | with_reducible refine XW.text hC hm_ok (by kernel_rfl) (fun K' hK' => ?_)); (try simp only [List.toList_toArray]); repeat' (first | with_reducible refine xrun_cons ?_ | with_reducible refine xtxt_cons ?_ | ((first | with_reducible show xoper _ _ _ _ _ _ _ | with_reducible show xdo _ _ _ _ _ _); simp only [zd, zb, zz, RT.at, RT.ty, RT.sub, RT.cut, RT.wr, getS, setT, Ty.dflt, lk, Int.reduceToNat, Int.reduceEq, reduceCtorEq, Nat.reduceLT, Nat.reduceEqDiff, Nat.reduceAdd, Nat.reduceMul, Nat.reduceLeDiff, Nat.reduceSub, Nat.reduceBEq, Nat.reduceBNe, Nat.reduceBeqDiff, ↓reduceIte, tab, tL, tI, tB, LI, NI, LLI, tLL, PRt, LPR, tPR, spL, leafSp, sortedPSp, ptreeSp, List.set_cons_zero, List.getD_cons_zero]) | with_reducible refine xgd_intro (fun hg => ?_) (fun hg => ?_) <;> (try simp only [zh, zz, reduceCtorEq, bne_iff_ne, beq_iff_eq, ne_eq, Decidable.not_not, beq_eq_false_iff_ne, bne_eq_false_iff_eq] at hg) | ((with_reducible show (_ : Bool) = true); kernel_rfl) | with_reducible refine And.intro ?_ ?_ | with_reducible refine xrun_nil ?_ | with_reducible refine xtxt_nil ?_ | (refine hK' _ ?_; clear hK'; clear K') | (with_reducible intro hg; try simp only [zh, zz, reduceCtorEq, bne_iff_ne, beq_iff_eq, ne_eq, Decidable.not_not, beq_eq_false_iff_ne, bne_eq_false_iff_eq] at hg))) | ((with_reducible show XW _ _ _ _ (.cond _ _ _) _ _); refine XW.cond rfl (fun h => ?_) (fun h => ?_) <;> (try simp only [zh, zz, reduceCtorEq, bne_iff_ne, beq_iff_eq, ne_eq, Decidable.not_not, beq_eq_false_iff_ne, bne_eq_false_iff_eq] at h) <;> (try (exfalso; omega))) | ((with_reducible show XW.thn _ _ _ _); dsimp only [XW.thn]) | ((with_reducible show XW.blk _ _ _ _); simp only [XW.blk, ↓reduceIte, Nat.reduceEqDiff, Nat.zero_ne_one, Nat.one_ne_zero, ne_eq]) | ((with_reducible show retK _ _ _ _); simp only [retK, outsOf, outOf, zb, zz, RT.at, RT.ty, RT.sub, RT.cut, RT.wr, getS, setT, Ty.dflt, lk, Int.reduceToNat, Int.reduceEq, reduceCtorEq, Nat.reduceLT, Nat.reduceEqDiff, Nat.reduceAdd, Nat.reduceMul, Nat.reduceLeDiff, Nat.reduceSub, Nat.reduceBEq, Nat.reduceBNe, Nat.reduceBeqDiff, ↓reduceIte, tab, tL, tI, tB, LI, NI, LLI, tLL, PRt, LPR, tPR, spL, leafSp, sortedPSp, ptreeSp, List.set_cons_zero, List.getD_cons_zero])); all_goals (try (first | omega | with_reducible exact Int.le_refl _ | (show (_ : Int) ≤ _; omega)))
  all_goals try exact ok1
  all_goals try exact ok2
  all_goals first
    | exact hk
    | (rw [List.length_append]; simp only [List.length_cons, List.length_nil]; omega)

end Fer
