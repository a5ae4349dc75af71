/-
  Walk: parking.sorted. No condition.
-/
import Derived.Test.YtmaahmcdejoclaaRows
import Derived.Test.YtmaahmcdejoclaaPkS
set_option linter.unusedSimpArgs false
set_option linter.unusedVariables false
set_option maxHeartbeats 4000000
-- SPECS: tL, tI, tB, LI, NI, LLI, tLL, PRt, LPR, tPR, sortPrSp, sortedPSp
namespace Fer
open Go Go.Proofs

def sortedPSp : Spec := ⟨[LPR], fun args K => match args with | [⟨.list _ (.prod (.int _) (.int _)), l⟩] => l.length ≤ 1000000 ∧ K [tPR (edgedL l)] | _ => False⟩
def nrmL (l : List (Int × Int)) (i : Nat) : List (Int × Int) := (l.take i).map nrm ++ l.drop i
theorem nrmL_len (l : List (Int × Int)) {i : Nat} (h : i ≤ l.length) : (nrmL l i).length = l.length := by
  unfold nrmL
  rw [List.length_append, List.length_map, List.length_take, List.length_drop]
  omega
theorem nrmL_get {l : List (Int × Int)} {i : Nat} (h : i < l.length) : (nrmL l i).getD i (0, 0) = l.getD i (0, 0) := by
  unfold nrmL
  rw [List.getD_eq_getElem?_getD, List.getElem?_append_right (by rw [List.length_map, List.length_take]; omega), List.length_map, List.length_take, List.getElem?_drop, List.getD_eq_getElem?_getD]
  congr 2
  omega
theorem nrmL_set {l : List (Int × Int)} {i : Nat} (h : i < l.length) : (nrmL l i).set i (nrm (l.getD i (0, 0))) = nrmL l (i + 1) := by
  unfold nrmL
  rw [List.set_append_right _ _ (by rw [List.length_map, List.length_take]; omega), List.length_map, List.length_take, show i - min i l.length = 0 by omega, List.drop_eq_getElem_cons h, List.set_cons_zero, List.take_succ_eq_append_getElem h, List.map_append, List.getD_eq_getElem?_getD, List.getElem?_eq_getElem h, List.append_assoc]
  rfl

set_option maxRecDepth 10000 in
theorem sortedP_ok : FnMv Try.prog 36 sortedPSp := by
  have hC : CtxOK Try.prog ⟨30, tab, fun f => lk [] f, fun f => lk [] f, fun f => lk [(69, sortPrSp)] f, fun f => lk [] f, fun f => lk [] f⟩ := ctx_ok trivial trivial ⟨sortPr_ok, trivial⟩ trivial trivial
  refine FnMv_of (C := ⟨30, tab, fun f => lk [] f, fun f => lk [] f, fun f => lk [(69, sortPrSp)] f, fun f => lk [] f, fun f => lk [] f⟩) 36 Try.f36 _ [2] sortedPSp Try.func36 rfl (by decide) rfl rfl (Nat.le_of_ble_eq_true rfl) fun ety tty tys xs args K hps ht hK w0 sd => ?_
  simp only [sortedPSp, List.cons.injEq, Ty.list.injEq] at hps
  obtain ⟨⟨rfl, rfl⟩, rfl⟩ := hps
  obtain rfl : args = [] := by simpa using ht
  obtain ⟨hl, hk⟩ : xs.length ≤ 1000000 ∧ K [tPR (edgedL xs)] := hK
  rw [edged_ord] at hk
  repeat' (first | with_reducible refine XW.seq ?_ | with_reducible refine XW.block ?_ | with_reducible refine XW.skip ?_ | with_reducible refine XW.exit ?_ | with_reducible refine XW.ret ?_ | ((first | with_reducible refine XW.region hC (fun K' hK' => ?_) | with_reducible refine XW.text hC hm_ok (by kernel_rfl) (fun K' hK' => ?_)); (try simp only [List.toList_toArray]); repeat' (first | with_reducible refine xrun_cons ?_ | with_reducible refine xtxt_cons ?_ | ((first | with_reducible show xoper _ _ _ _ _ _ _ | with_reducible show xdo _ _ _ _ _ _); simp only [zd, zb, zz, RT.at, RT.ty, RT.sub, RT.cut, RT.wr, getS, setT, Ty.dflt, lk, Int.reduceToNat, Int.reduceEq, reduceCtorEq, Nat.reduceLT, Nat.reduceEqDiff, Nat.reduceAdd, Nat.reduceMul, Nat.reduceLeDiff, Nat.reduceSub, Nat.reduceBEq, Nat.reduceBNe, Nat.reduceBeqDiff, ↓reduceIte, tab, tL, tI, tB, LI, NI, LLI, tLL, PRt, LPR, tPR, sortPrSp, sortedPSp]) | with_reducible refine xgd_intro (fun hg => ?_) (fun hg => ?_) <;> (try simp only [zh, zz, reduceCtorEq, bne_iff_ne, beq_iff_eq, ne_eq, Decidable.not_not, beq_eq_false_iff_ne, bne_eq_false_iff_eq] at hg) | ((with_reducible show (_ : Bool) = true); kernel_rfl) | with_reducible refine And.intro ?_ ?_ | with_reducible refine xrun_nil ?_ | with_reducible refine xtxt_nil ?_ | (refine hK' _ ?_; clear hK'; clear K') | (with_reducible intro hg; try simp only [zh, zz, reduceCtorEq, bne_iff_ne, beq_iff_eq, ne_eq, Decidable.not_not, beq_eq_false_iff_ne, bne_eq_false_iff_eq] at hg))) | ((with_reducible show XW _ _ _ _ (.cond _ _ _) _ _); refine XW.cond rfl (fun h => ?_) (fun h => ?_) <;> (try simp only [zh, zz, reduceCtorEq, bne_iff_ne, beq_iff_eq, ne_eq, Decidable.not_not, beq_eq_false_iff_ne, bne_eq_false_iff_eq] at h) <;> (try (exfalso; omega))) | ((with_reducible show XW.thn _ _ _ _); dsimp only [XW.thn]) | ((with_reducible show XW.blk _ _ _ _); simp only [XW.blk, ↓reduceIte, Nat.reduceEqDiff, Nat.zero_ne_one, Nat.one_ne_zero, ne_eq]) | ((with_reducible show retK _ _ _ _); simp only [retK, outsOf, outOf, zb, zz, RT.at, RT.ty, RT.sub, RT.cut, RT.wr, getS, setT, Ty.dflt, lk, Int.reduceToNat, Int.reduceEq, reduceCtorEq, Nat.reduceLT, Nat.reduceEqDiff, Nat.reduceAdd, Nat.reduceMul, Nat.reduceLeDiff, Nat.reduceSub, Nat.reduceBEq, Nat.reduceBNe, Nat.reduceBeqDiff, ↓reduceIte, tab, tL, tI, tB, LI, NI, LLI, tLL, PRt, LPR, tPR, sortPrSp, sortedPSp])); all_goals (try (first | omega | with_reducible exact Int.le_refl _ | (show (_ : Int) ≤ _; omega)))
  refine XW.loop (ι := Nat) (fun i => ⟨[(7, .dat NI (i : Int)), (6, .dat NI (xs.length : Int)), (5, .ref 0 []), (0, .ref 0 [])], [(0, ⟨34, PRt, 0, nrmL xs i, none⟩)], 1, []⟩)
    (fun i => i ≤ xs.length) (fun i => xs.length - i) 0 [(0, 0)] (Nat.zero_le _) ?_ fun i hi => ?_
  · simp only [Fits, distinct, fitEnv, fitB, fitL, fitRoots, fitRT, idsOK, AV.ids, zb, zz, RT.at, RT.ty, RT.sub, RT.cut, RT.wr, getS, setT, Ty.dflt, lk, Int.reduceToNat, Int.reduceEq, reduceCtorEq, Nat.reduceLT, Nat.reduceEqDiff, Nat.reduceAdd, Nat.reduceMul, Nat.reduceLeDiff, Nat.reduceSub, Nat.reduceBEq, Nat.reduceBNe, Nat.reduceBeqDiff, ↓reduceIte, tab, tL, tI, tB, LI, NI, LLI, tLL, PRt, LPR, tPR, sortPrSp, sortedPSp]
    all_goals rfl
  have hnl := nrmL_len xs hi
  by_cases hil : i < xs.length
  · have hg1 := nrmL_get hil
    have hs1 := nrmL_set hil
    rw [← hg1] at hs1
    repeat' (first | with_reducible refine XW.seq ?_ | with_reducible refine XW.block ?_ | with_reducible refine XW.skip ?_ | with_reducible refine XW.exit ?_ | with_reducible refine XW.ret ?_ | ((first | with_reducible refine XW.region hC (fun K' hK' => ?_) | with_reducible refine XW.text hC hm_ok (by kernel_rfl) (fun K' hK' => ?_)); (try simp only [List.toList_toArray]); repeat' (first | with_reducible refine xrun_cons ?_ | with_reducible refine xtxt_cons ?_ | ((first | with_reducible show xoper _ _ _ _ _ _ _ | with_reducible show xdo _ _ _ _ _ _); simp only [zd, zb, zz, RT.at, RT.ty, RT.sub, RT.cut, RT.wr, getS, setT, Ty.dflt, lk, Int.reduceToNat, Int.reduceEq, reduceCtorEq, Nat.reduceLT, Nat.reduceEqDiff, Nat.reduceAdd, Nat.reduceMul, Nat.reduceLeDiff, Nat.reduceSub, Nat.reduceBEq, Nat.reduceBNe, Nat.reduceBeqDiff, ↓reduceIte, tab, tL, tI, tB, LI, NI, LLI, tLL, PRt, LPR, tPR, sortPrSp, sortedPSp]) | with_reducible refine xgd_intro (fun hg => ?_) (fun hg => ?_) <;> (try simp only [zh, zz, reduceCtorEq, bne_iff_ne, beq_iff_eq, ne_eq, Decidable.not_not, beq_eq_false_iff_ne, bne_eq_false_iff_eq] at hg) | ((with_reducible show (_ : Bool) = true); kernel_rfl) | with_reducible refine And.intro ?_ ?_ | with_reducible refine xrun_nil ?_ | with_reducible refine xtxt_nil ?_ | (refine hK' _ ?_; clear hK'; clear K') | (with_reducible intro hg; try simp only [zh, zz, reduceCtorEq, bne_iff_ne, beq_iff_eq, ne_eq, Decidable.not_not, beq_eq_false_iff_ne, bne_eq_false_iff_eq] at hg))) | ((with_reducible show XW _ _ _ _ (.cond _ _ _) _ _); refine XW.cond rfl (fun h => ?_) (fun h => ?_) <;> (try simp only [zh, zz, reduceCtorEq, bne_iff_ne, beq_iff_eq, ne_eq, Decidable.not_not, beq_eq_false_iff_ne, bne_eq_false_iff_eq] at h) <;> (try (exfalso; omega))) | ((with_reducible show XW.thn _ _ _ _); dsimp only [XW.thn]) | ((with_reducible show XW.blk _ _ _ _); simp only [XW.blk, ↓reduceIte, Nat.reduceEqDiff, Nat.zero_ne_one, Nat.one_ne_zero, ne_eq]) | ((with_reducible show retK _ _ _ _); simp only [retK, outsOf, outOf, zb, zz, RT.at, RT.ty, RT.sub, RT.cut, RT.wr, getS, setT, Ty.dflt, lk, Int.reduceToNat, Int.reduceEq, reduceCtorEq, Nat.reduceLT, Nat.reduceEqDiff, Nat.reduceAdd, Nat.reduceMul, Nat.reduceLeDiff, Nat.reduceSub, Nat.reduceBEq, Nat.reduceBNe, Nat.reduceBeqDiff, ↓reduceIte, tab, tL, tI, tB, LI, NI, LLI, tLL, PRt, LPR, tPR, sortPrSp, sortedPSp])); all_goals (try (first | omega | with_reducible exact Int.le_refl _ | (show (_ : Int) ≤ _; omega)))
    refine ⟨i + 1, [(0, 0)], by omega, by omega, ?_⟩
    rw [← hs1]
    simp only [Fits, distinct, fitEnv, fitB, fitL, fitRoots, fitRT, idsOK, AV.ids, zb, zz, RT.at, RT.ty, RT.sub, RT.cut, RT.wr, getS, setT, Ty.dflt, lk, Int.reduceToNat, Int.reduceEq, reduceCtorEq, Nat.reduceLT, Nat.reduceEqDiff, Nat.reduceAdd, Nat.reduceMul, Nat.reduceLeDiff, Nat.reduceSub, Nat.reduceBEq, Nat.reduceBNe, Nat.reduceBeqDiff, ↓reduceIte, tab, tL, tI, tB, LI, NI, LLI, tLL, PRt, LPR, tPR, sortPrSp, sortedPSp]
    all_goals first
      | rfl
      | exact ⟨rfl, rfl⟩
  · obtain rfl : i = xs.length := by omega
    rw [show nrmL xs xs.length = xs.map nrm by unfold nrmL; rw [List.take_length, List.drop_length, List.append_nil]]
    repeat' (first | with_reducible refine XW.seq ?_ | with_reducible refine XW.block ?_ | with_reducible refine XW.skip ?_ | with_reducible refine XW.exit ?_ | with_reducible refine XW.ret ?_ | ((first | with_reducible refine XW.region hC (fun K' hK' => ?_) | with_reducible refine XW.text hC hm_ok (by kernel_rfl) (fun K' hK' => ?_)); (try simp only [List.toList_toArray]); repeat' (first | with_reducible refine xrun_cons ?_ | with_reducible refine xtxt_cons ?_ | ((first | with_reducible show xoper _ _ _ _ _ _ _ | with_reducible show xdo _ _ _ _ _ _); simp only [zd, zb, zz, RT.at, RT.ty, RT.sub, RT.cut, RT.wr, getS, setT, Ty.dflt, lk, Int.reduceToNat, Int.reduceEq, reduceCtorEq, Nat.reduceLT, Nat.reduceEqDiff, Nat.reduceAdd, Nat.reduceMul, Nat.reduceLeDiff, Nat.reduceSub, Nat.reduceBEq, Nat.reduceBNe, Nat.reduceBeqDiff, ↓reduceIte, tab, tL, tI, tB, LI, NI, LLI, tLL, PRt, LPR, tPR, sortPrSp, sortedPSp]) | with_reducible refine xgd_intro (fun hg => ?_) (fun hg => ?_) <;> (try simp only [zh, zz, reduceCtorEq, bne_iff_ne, beq_iff_eq, ne_eq, Decidable.not_not, beq_eq_false_iff_ne, bne_eq_false_iff_eq] at hg) | ((with_reducible show (_ : Bool) = true); kernel_rfl) | with_reducible refine And.intro ?_ ?_ | with_reducible refine xrun_nil ?_ | with_reducible refine xtxt_nil ?_ | (refine hK' _ ?_; clear hK'; clear K') | (with_reducible intro hg; try simp only [zh, zz, reduceCtorEq, bne_iff_ne, beq_iff_eq, ne_eq, Decidable.not_not, beq_eq_false_iff_ne, bne_eq_false_iff_eq] at hg))) | ((with_reducible show XW _ _ _ _ (.cond _ _ _) _ _); refine XW.cond rfl (fun h => ?_) (fun h => ?_) <;> (try simp only [zh, zz, reduceCtorEq, bne_iff_ne, beq_iff_eq, ne_eq, Decidable.not_not, beq_eq_false_iff_ne, bne_eq_false_iff_eq] at h) <;> (try (exfalso; omega))) | ((with_reducible show XW.thn _ _ _ _); dsimp only [XW.thn]) | ((with_reducible show XW.blk _ _ _ _); simp only [XW.blk, ↓reduceIte, Nat.reduceEqDiff, Nat.zero_ne_one, Nat.one_ne_zero, ne_eq]) | ((with_reducible show retK _ _ _ _); simp only [retK, outsOf, outOf, zb, zz, RT.at, RT.ty, RT.sub, RT.cut, RT.wr, getS, setT, Ty.dflt, lk, Int.reduceToNat, Int.reduceEq, reduceCtorEq, Nat.reduceLT, Nat.reduceEqDiff, Nat.reduceAdd, Nat.reduceMul, Nat.reduceLeDiff, Nat.reduceSub, Nat.reduceBEq, Nat.reduceBNe, Nat.reduceBeqDiff, ↓reduceIte, tab, tL, tI, tB, LI, NI, LLI, tLL, PRt, LPR, tPR, sortPrSp, sortedPSp])); all_goals (try (first | omega | with_reducible exact Int.le_refl _ | (show (_ : Int) ≤ _; omega)))
    all_goals first
      | exact hk
      | (rw [List.length_map]; omega)

end Fer
