/-
  Walk: ferlaw.PartsMerges. No condition.
-/
import Derived.Test.YtkekijblmalkdaaRows
import Derived.Test.YtkekijblmalkdaaMgD
set_option linter.unusedSimpArgs false
set_option linter.unusedVariables false
set_option maxHeartbeats 2000000
-- SPECS: tL, tI, tB, LI, NI, spL, spII, partSp, mergeSp, splitSp, frkSp, rmergeSp, rsplitSp, rfrkSp, listSp, pmSp, List.set_cons_zero, List.getD_cons_zero
namespace Fer
open Go Go.Proofs Go.Sort

def pmSp : Spec := ⟨[LI], fun _ K => K [tB true]⟩
theorem at_pm {args : List TV} (ht : args.map (·.t) = pmSp.ps) : ∃ p, args = [tL p] := by
  match args, ht with
  | [⟨t, x⟩], ht =>
    simp only [pmSp, List.map_cons, List.map_nil, List.cons.injEq, and_true] at ht
    subst ht
    exact ⟨x, rfl⟩
  | [], ht => simp [pmSp] at ht
  | _ :: _ :: _, ht => simp [pmSp] at ht

set_option maxRecDepth 10000 in
theorem pm_ok : FnOK Try.prog 5 pmSp := by
  have hC : CtxOK Try.prog ⟨106, tab, fun f => lk [(20, mergeSp), (21, splitSp), (22, frkSp), (23, partSp), (24, rmergeSp), (25, rsplitSp), (26, rfrkSp), (19, listSp)] f, fun f => lk [] f, fun f => lk [] f⟩ := ctx_ok ⟨merge_ok, split_ok, frk_ok, rpart_ok, rmerge_ok, rsplit_ok, rfrk_ok, list_ok, trivial⟩ trivial trivial
  refine FnOK_of (C := ⟨106, tab, fun f => lk [(20, mergeSp), (21, splitSp), (22, frkSp), (23, partSp), (24, rmergeSp), (25, rsplitSp), (26, rfrkSp), (19, listSp)] f, fun f => lk [] f, fun f => lk [] f⟩) 5 Try.f5 _ [2] pmSp Try.func5 rfl (by decide) rfl rfl (Nat.le_of_ble_eq_true rfl) fun args K ht hK w0 => ?_
  obtain ⟨p, rfl⟩ := at_pm ht
  have hk : K [tB true] := hK
  have m1 : ¬ mergeE p = 0 → mergeL p = [] := fun h => if_neg h
  have m2 : ¬ splitE p = 0 → splitL p = [] ∧ frkL p = [] ∧ frkB p = false := fun h => ⟨if_neg h, if_neg h, if_neg h⟩
  have e1 : ¬ partE p = 0 → mergeE p = partE p := fun h => if_pos h
  have e2 : ¬ partE p = 0 → splitE p = partE p := fun h => if_pos h
  have n1 : ¬ partE p = 0 → (mergeL p).length = 0 := fun h => by rw [m1 (by rw [e1 h]; exact h)]; rfl
  have n2 : ¬ partE p = 0 → (splitL p).length = 0 := fun h => by rw [(m2 (by rw [e2 h]; exact h)).1]; rfl
  have n3 : ¬ partE p = 0 → (frkL p).length = 0 := fun h => by rw [(m2 (by rw [e2 h]; exact h)).2.1]; rfl
  have n4 : ¬ partE p = 0 → frkB p = false := fun h => (m2 (by rw [e2 h]; exact h)).2.2
  have lt : ∀ (l : List Int) (e : Int), (¬ e = 0 → l = []) → listB l e l e = true := fun l e h => by
    unfold listB
    by_cases he : e = 0
    · rw [if_neg (by omega)]; simp
    · rw [if_pos he]; simp [h he]
  have l1 := lt _ _ m1
  have l2 := lt _ _ fun h => (m2 h).1
  have l3 := lt _ _ fun h => (m2 h).2.1
  repeat' (first | with_reducible refine XW.seq ?_ | with_reducible refine XW.block ?_ | with_reducible refine XW.skip ?_ | with_reducible refine XW.exit ?_ | with_reducible refine XW.ret ?_ | ((first | with_reducible refine XW.region hC (fun K' hK' => ?_) | with_reducible refine XW.text hC hm_ok (by kernel_rfl) (fun K' hK' => ?_)); (try simp only [List.toList_toArray]); repeat' (first | with_reducible refine xrun_cons ?_ | with_reducible refine xtxt_cons ?_ | ((with_reducible show xord _ _ _ (_ :: _) _); refine xord_cons (by simp only [List.getElem?_toArray, List.getElem?_cons_succ, List.getElem?_cons_zero]; rfl) ?_) | ((first | with_reducible show xoper _ _ _ _ _ _ _ | with_reducible show xdo _ _ _ _ _ _); simp only [xoper, xwant, cutAt, bxAV, bld3AV, XS.trunc, XS.inPlace, RT.withX, isNilP, isOneP, fldAV, fldP, fldR, cpAV, Int.toNat_natCast, okB, loOf, hiOf, cutL, List.length_set, Int.reduceToNat, Int.reduceEq, List.getElem?_toArray, List.getElem?_cons_succ, List.getElem?_cons_zero, xgd_true, xgd_false, known, Bool.true_beq, Bool.false_beq, beq_true, beq_false, xdo, mpOp, mpSet, AV.setMp, AV.plain, isMove, nilAt, nilCmp, xpure, xpureT, xmem, XS.ev, constAV, XS.init, XS.initMv, env0, XS.put, XS.get, XS.root, lk, rm, dOK, PF.of, PR.pf, Option.map_some, Option.map_none, Option.bind_some, Option.bind_none, opt2, binAV, idxAV, idxPair, bldAV, idxRO, idxRef, idxSub, idxArr, ldAV, ldPtr, lenAV, slAV, sameAV, convAV, TE.ty, appAV, own1, srcAV, stAV, mkAV, bsAV, alAV, argAV, argsAV, calleeOf, List.size_toArray, Nat.le_refl, Nat.zero_le, datOf, datsOf, retAV, retsAV, retsPut, castL_self, castV_self, fitD_self, List.length_cons, List.length_nil, List.map_cons, List.map_nil, if_true, if_false, true_and, and_true, forall_const, reduceCtorEq, decide_true, decide_false, ↓reduceIte, implies_true, Bool.false_eq_true, false_implies, beq_self_eq_true, dite_true, dite_false, and_self, or_true, true_or, false_or, or_false, not_true_eq_false, not_false_eq_true, ne_eq, and_false, false_and, bne_self_eq_false, Bool.not_true, Bool.not_false, List.all_nil, List.all_cons, List.nil_append, List.cons_append, List.contains_nil, List.contains_cons, Bool.or_true, Bool.true_or, Bool.false_or, Bool.or_false, Bool.and_true, Bool.true_and, Bool.and_self, Ty.list.injEq, Ty.int.injEq, Ty.prod.injEq, List.cons.injEq, List.length_replicate, decide_eq_true_eq, decide_eq_false_iff_not, Option.some.injEq, Nat.zero_add, Nat.lt_add_one, Nat.add_one_sub_one, Nat.add_one_ne_zero, Nat.succ_ne_self, Int.cast_ofNat_Int, binInt, cmpInt, binBool, binStr, Nat.reduceLT, Nat.reduceEqDiff, Nat.reduceAdd, Nat.reduceMul, Nat.reduceLeDiff, Nat.reduceSub, Nat.reduceBEq, Nat.reduceBNe, Nat.reduceBeqDiff, elAt, RT.at, RT.ty, RT.sub, RT.cut, RT.wr, getS, dep, okS, okNode, hclear, TV.len, TV.ew, XS.addRoot, XS.kill, XS.also, XS.setRoot, XS.redo, XS.redo2, XS.wrote, XS.took, pinAlso, nilRT, tchOf, tchOK, XS.pin, qOf, isNil, Ty.flat, Ty.lev, Nat.max_self, Ty.dflt, Ty.width, cutEnv, AV.shallow, shB, safeR, safeP, setT, bnd, capsOf, inR, outsOf, outOf, retK, XW.thn, XW.blk, prodOf, tab, tL, tI, tB, LI, NI, spL, spII, partSp, mergeSp, splitSp, frkSp, rmergeSp, rsplitSp, rfrkSp, listSp, pmSp, List.set_cons_zero, List.getD_cons_zero]) | with_reducible refine xgd_intro (fun hg => ?_) (fun hg => ?_) <;> (try simp only [decide_eq_true_eq, decide_eq_false_iff_not, Bool.not_eq_true', Bool.not_eq_false', Bool.and_eq_true, Bool.or_eq_true, Bool.or_eq_false_iff, Int.not_lt, Int.not_le, Bool.not_eq_true, Int.ofNat_lt, Int.ofNat_le, reduceCtorEq, bne_iff_ne, beq_iff_eq, ne_eq, Decidable.not_not, beq_eq_false_iff_ne, bne_eq_false_iff_eq] at hg) | ((with_reducible show (_ : Bool) = true); kernel_rfl) | with_reducible refine And.intro ?_ ?_ | with_reducible refine xrun_nil ?_ | with_reducible refine xtxt_nil ?_ | with_reducible refine xord_nil ?_ | (refine hK' _ ?_; clear hK'; clear K') | (with_reducible intro hg; try simp only [decide_eq_true_eq, decide_eq_false_iff_not, Bool.not_eq_true', Bool.not_eq_false', Bool.and_eq_true, Bool.or_eq_true, Bool.or_eq_false_iff, Int.not_lt, Int.not_le, Bool.not_eq_true, Int.ofNat_lt, Int.ofNat_le, reduceCtorEq, bne_iff_ne, beq_iff_eq, ne_eq, Decidable.not_not, beq_eq_false_iff_ne, bne_eq_false_iff_eq] at hg))) | ((with_reducible show XW _ _ _ _ (.cond _ _ _) _ _); refine XW.cond rfl (fun h => ?_) (fun h => ?_) <;> (try simp only [decide_eq_true_eq, decide_eq_false_iff_not, Bool.not_eq_true', Bool.not_eq_false', Bool.and_eq_true, Bool.or_eq_true, Bool.or_eq_false_iff, Int.not_lt, Int.not_le, Bool.not_eq_true, Int.ofNat_lt, Int.ofNat_le, reduceCtorEq, bne_iff_ne, beq_iff_eq, ne_eq, Decidable.not_not, beq_eq_false_iff_ne, bne_eq_false_iff_eq] at h) <;> (try (exfalso; omega))) | ((with_reducible show XW.thn _ _ _ _); dsimp only [XW.thn]) | ((with_reducible show XW.blk _ _ _ _); simp only [XW.blk, ↓reduceIte, Nat.reduceEqDiff, Nat.zero_ne_one, Nat.one_ne_zero, ne_eq]) | ((with_reducible show retK _ _ _ _); simp only [retK, outsOf, outOf, Int.toNat_natCast, List.length_set, Int.reduceToNat, Int.reduceEq, List.getElem?_toArray, List.getElem?_cons_succ, List.getElem?_cons_zero, Bool.true_beq, Bool.false_beq, beq_true, beq_false, XS.put, XS.get, XS.root, lk, rm, Option.map_some, Option.map_none, Option.bind_some, Option.bind_none, opt2, List.size_toArray, Nat.le_refl, Nat.zero_le, castL_self, castV_self, fitD_self, List.length_cons, List.length_nil, List.map_cons, List.map_nil, if_true, if_false, true_and, and_true, forall_const, reduceCtorEq, decide_true, decide_false, ↓reduceIte, implies_true, Bool.false_eq_true, false_implies, beq_self_eq_true, dite_true, dite_false, and_self, or_true, true_or, false_or, or_false, not_true_eq_false, not_false_eq_true, ne_eq, and_false, false_and, bne_self_eq_false, Bool.not_true, Bool.not_false, List.all_nil, List.all_cons, List.nil_append, List.cons_append, List.contains_nil, List.contains_cons, Bool.or_true, Bool.true_or, Bool.false_or, Bool.or_false, Bool.and_true, Bool.true_and, Bool.and_self, Ty.list.injEq, Ty.int.injEq, Ty.prod.injEq, List.cons.injEq, List.length_replicate, decide_eq_true_eq, decide_eq_false_iff_not, Option.some.injEq, Nat.zero_add, Nat.lt_add_one, Nat.add_one_sub_one, Nat.add_one_ne_zero, Nat.succ_ne_self, Int.cast_ofNat_Int, Nat.reduceLT, Nat.reduceEqDiff, Nat.reduceAdd, Nat.reduceMul, Nat.reduceLeDiff, Nat.reduceSub, Nat.reduceBEq, Nat.reduceBNe, Nat.reduceBeqDiff, RT.at, RT.ty, RT.sub, RT.cut, RT.wr, getS, dep, okS, hclear, TV.len, XS.addRoot, XS.kill, XS.setRoot, pinAlso, Ty.flat, Ty.lev, Nat.max_self, Ty.dflt, Ty.width, setT, prodOf, tab, tL, tI, tB, LI, NI, spL, spII, partSp, mergeSp, splitSp, frkSp, rmergeSp, rsplitSp, rfrkSp, listSp, pmSp, List.set_cons_zero, List.getD_cons_zero])); all_goals (try (first | omega | with_reducible exact Int.le_refl _ | (show (_ : Int) ≤ _; omega)))
  · rw [n4 h]
    exact hk
  all_goals simp_all only [Bool.true_eq_false]

end Fer
