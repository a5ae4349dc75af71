/-
  Boxes of a tableau in order: slices.SortFunc by the library's contract, its comparison walked. No condition.
-/
import Derived.Shelf.SlSortCmp.NoneTotal
import Derived.Test.YtkekijblmalkdaaRows
import Derived.Test.YtkekijblmalkdaaInsB
import Derived.Test.YtkekijblmalkdaaFerY
import Derived.Test.YtkekijblmalkdaaFerQ
set_option linter.unusedSimpArgs false
set_option linter.unusedVariables false
set_option maxHeartbeats 1000000
-- SPECS: tL, tI, tB, LI, NI, LLI, tLL, BX, LBX, tBX, spL, spLI, spIL, spLL, spII, nanSp, cmpSp, orSp, boxSp, List.set_cons_zero, List.getD_cons_zero
namespace Fer
open Go Go.Proofs Go.Sort

@[reducible] def BX : Ty := .prod (.int .i64) (.prod (.int .i64) (.int .i64))
@[reducible] def LBX : Ty := .list 69 BX
@[reducible] def tBX (l : List (Int × Int × Int)) : TV := ⟨LBX, l⟩
def cmpI (x y : Int) : Int := if x < y then -1 else if y < x then 1 else 0
def orL : List Int → Int
  | [] => 0
  | x :: l => if x ≠ 0 then x else orL l
def cmpSp : Spec := spII fun x y K => K [tI (cmpI x y)]
def orSp : Spec := spL fun l K => K [tI (orL l)]
def cfB (x y : Int × Int × Int) : Int := orL [cmpI x.2.2 y.2.2, cmpI x.2.1 y.2.1]
def boxSp : Spec := ⟨[BX, BX], fun args K => match args with | [⟨.prod (.int _) (.prod (.int _) (.int _)), x⟩, ⟨.prod (.int _) (.prod (.int _) (.int _)), y⟩] => K [tI (cfB x y)] | _ => False⟩

theorem at_II {f : Int → Int → (List TV → Prop) → Prop} {args : List TV} {K : List TV → Prop} (ht : args.map (·.t) = (spII f).ps) (hK : (spII f).wp args K) : ∃ x y, args = [tI x, tI y] ∧ f x y K := by
  match args, ht, hK with
  | [⟨t, x⟩, ⟨u, y⟩], ht, hK =>
    simp only [spII, List.map_cons, List.map_nil, List.cons.injEq, and_true] at ht
    obtain ⟨rfl, rfl⟩ := ht
    exact ⟨x, y, rfl, hK⟩
  | [], ht, _ => simp [spII] at ht
  | [_], ht, _ => simp [spII] at ht
  | _ :: _ :: _ :: _, ht, _ => simp [spII] at ht

set_option maxRecDepth 10000 in
theorem cmp_ok : FnOK Try.prog 60 cmpSp := by
  have hC : CtxOK Try.prog ⟨20, tab, fun f => lk [(73, nanSp)] f, fun f => lk [] f, fun f => lk [] f⟩ := ctx_ok ⟨cNaN_ok, trivial⟩ trivial trivial
  refine FnOK_of (C := ⟨20, tab, fun f => lk [(73, nanSp)] f, fun f => lk [] f, fun f => lk [] f⟩) 60 Try.f60 _ [4] cmpSp Try.func60 rfl (by decide) rfl rfl (Nat.le_of_ble_eq_true rfl) fun args K ht hK w0 => ?_
  obtain ⟨x, y, rfl, hk⟩ := at_II ht hK
  unfold cmpI at hk
  repeat' (first | with_reducible refine XW.seq ?_ | with_reducible refine XW.block ?_ | with_reducible refine XW.skip ?_ | with_reducible refine XW.exit ?_ | with_reducible refine XW.ret ?_ | ((first | with_reducible refine XW.region hC (fun K' hK' => ?_) | with_reducible refine XW.text hC hm_ok (by kernel_rfl) (fun K' hK' => ?_)); (try simp only [List.toList_toArray]); repeat' (first | with_reducible refine xrun_cons ?_ | with_reducible refine xtxt_cons ?_ | ((with_reducible show xord _ _ _ (_ :: _) _); refine xord_cons (by simp only [List.getElem?_toArray, List.getElem?_cons_succ, List.getElem?_cons_zero]; rfl) ?_) | ((first | with_reducible show xoper _ _ _ _ _ _ _ | with_reducible show xdo _ _ _ _ _ _); simp only [xoper, xwant, cutAt, bxAV, bld3AV, XS.trunc, XS.inPlace, RT.withX, isNilP, isOneP, fldAV, fldP, fldR, cpAV, Int.toNat_natCast, okB, loOf, hiOf, cutL, List.length_set, Int.reduceToNat, Int.reduceEq, List.getElem?_toArray, List.getElem?_cons_succ, List.getElem?_cons_zero, xgd_true, xgd_false, known, Bool.true_beq, Bool.false_beq, beq_true, beq_false, xdo, mpOp, mpSet, AV.setMp, AV.plain, isMove, nilAt, nilCmp, xpure, xpureT, xmem, XS.ev, constAV, XS.init, XS.initMv, env0, XS.put, XS.get, XS.root, lk, rm, dOK, PF.of, PR.pf, Option.map_some, Option.map_none, Option.bind_some, Option.bind_none, opt2, binAV, idxAV, idxPair, bldAV, idxRO, idxRef, idxSub, idxArr, ldAV, ldPtr, lenAV, slAV, sameAV, convAV, TE.ty, appAV, own1, srcAV, stAV, mkAV, bsAV, alAV, argAV, argsAV, calleeOf, List.size_toArray, Nat.le_refl, Nat.zero_le, datOf, datsOf, retAV, retsAV, retsPut, castL_self, castV_self, fitD_self, List.length_cons, List.length_nil, List.map_cons, List.map_nil, if_true, if_false, true_and, and_true, forall_const, reduceCtorEq, decide_true, decide_false, ↓reduceIte, implies_true, Bool.false_eq_true, false_implies, beq_self_eq_true, dite_true, dite_false, and_self, or_true, true_or, false_or, or_false, not_true_eq_false, not_false_eq_true, ne_eq, and_false, false_and, bne_self_eq_false, Bool.not_true, Bool.not_false, List.all_nil, List.all_cons, List.nil_append, List.cons_append, List.contains_nil, List.contains_cons, Bool.or_true, Bool.true_or, Bool.false_or, Bool.or_false, Bool.and_true, Bool.true_and, Bool.and_self, Ty.list.injEq, Ty.int.injEq, Ty.prod.injEq, List.cons.injEq, List.length_replicate, decide_eq_true_eq, decide_eq_false_iff_not, Option.some.injEq, Nat.zero_add, Nat.lt_add_one, Nat.add_one_sub_one, Nat.add_one_ne_zero, Nat.succ_ne_self, Int.cast_ofNat_Int, binInt, cmpInt, binBool, binStr, Nat.reduceLT, Nat.reduceEqDiff, Nat.reduceAdd, Nat.reduceMul, Nat.reduceLeDiff, Nat.reduceSub, Nat.reduceBEq, Nat.reduceBNe, Nat.reduceBeqDiff, elAt, RT.at, RT.ty, RT.sub, RT.cut, RT.wr, getS, dep, okS, okNode, hclear, TV.len, TV.ew, XS.addRoot, XS.kill, XS.also, XS.setRoot, XS.redo, XS.redo2, XS.wrote, XS.took, pinAlso, nilRT, tchOf, tchOK, XS.pin, qOf, isNil, Ty.flat, Ty.lev, Nat.max_self, Ty.dflt, Ty.width, cutEnv, AV.shallow, shB, safeR, safeP, setT, bnd, capsOf, inR, outsOf, outOf, retK, XW.thn, XW.blk, prodOf, tab, tL, tI, tB, LI, NI, LLI, tLL, BX, LBX, tBX, spL, spLI, spIL, spLL, spII, nanSp, cmpSp, orSp, boxSp, List.set_cons_zero, List.getD_cons_zero]) | with_reducible refine xgd_intro (fun hg => ?_) (fun hg => ?_) <;> (try simp only [decide_eq_true_eq, decide_eq_false_iff_not, Bool.not_eq_true', Bool.not_eq_false', Bool.and_eq_true, Bool.or_eq_true, Bool.or_eq_false_iff, Int.not_lt, Int.not_le, Bool.not_eq_true, Int.ofNat_lt, Int.ofNat_le, reduceCtorEq, bne_iff_ne, beq_iff_eq, ne_eq, Decidable.not_not, beq_eq_false_iff_ne, bne_eq_false_iff_eq] at hg) | ((with_reducible show (_ : Bool) = true); kernel_rfl) | with_reducible refine And.intro ?_ ?_ | with_reducible refine xrun_nil ?_ | with_reducible refine xtxt_nil ?_ | with_reducible refine xord_nil ?_ | (refine hK' _ ?_; clear hK'; clear K') | (with_reducible intro hg; try simp only [decide_eq_true_eq, decide_eq_false_iff_not, Bool.not_eq_true', Bool.not_eq_false', Bool.and_eq_true, Bool.or_eq_true, Bool.or_eq_false_iff, Int.not_lt, Int.not_le, Bool.not_eq_true, Int.ofNat_lt, Int.ofNat_le, reduceCtorEq, bne_iff_ne, beq_iff_eq, ne_eq, Decidable.not_not, beq_eq_false_iff_ne, bne_eq_false_iff_eq] at hg))) | ((with_reducible show XW _ _ _ _ (.cond _ _ _) _ _); refine XW.cond rfl (fun h => ?_) (fun h => ?_) <;> (try simp only [decide_eq_true_eq, decide_eq_false_iff_not, Bool.not_eq_true', Bool.not_eq_false', Bool.and_eq_true, Bool.or_eq_true, Bool.or_eq_false_iff, Int.not_lt, Int.not_le, Bool.not_eq_true, Int.ofNat_lt, Int.ofNat_le, reduceCtorEq, bne_iff_ne, beq_iff_eq, ne_eq, Decidable.not_not, beq_eq_false_iff_ne, bne_eq_false_iff_eq] at h) <;> (try (exfalso; omega))) | ((with_reducible show XW.thn _ _ _ _); dsimp only [XW.thn]) | ((with_reducible show XW.blk _ _ _ _); simp only [XW.blk, ↓reduceIte, Nat.reduceEqDiff, Nat.zero_ne_one, Nat.one_ne_zero, ne_eq]) | ((with_reducible show retK _ _ _ _); simp only [retK, outsOf, outOf, Int.toNat_natCast, List.length_set, Int.reduceToNat, Int.reduceEq, List.getElem?_toArray, List.getElem?_cons_succ, List.getElem?_cons_zero, Bool.true_beq, Bool.false_beq, beq_true, beq_false, XS.put, XS.get, XS.root, lk, rm, Option.map_some, Option.map_none, Option.bind_some, Option.bind_none, opt2, List.size_toArray, Nat.le_refl, Nat.zero_le, castL_self, castV_self, fitD_self, List.length_cons, List.length_nil, List.map_cons, List.map_nil, if_true, if_false, true_and, and_true, forall_const, reduceCtorEq, decide_true, decide_false, ↓reduceIte, implies_true, Bool.false_eq_true, false_implies, beq_self_eq_true, dite_true, dite_false, and_self, or_true, true_or, false_or, or_false, not_true_eq_false, not_false_eq_true, ne_eq, and_false, false_and, bne_self_eq_false, Bool.not_true, Bool.not_false, List.all_nil, List.all_cons, List.nil_append, List.cons_append, List.contains_nil, List.contains_cons, Bool.or_true, Bool.true_or, Bool.false_or, Bool.or_false, Bool.and_true, Bool.true_and, Bool.and_self, Ty.list.injEq, Ty.int.injEq, Ty.prod.injEq, List.cons.injEq, List.length_replicate, decide_eq_true_eq, decide_eq_false_iff_not, Option.some.injEq, Nat.zero_add, Nat.lt_add_one, Nat.add_one_sub_one, Nat.add_one_ne_zero, Nat.succ_ne_self, Int.cast_ofNat_Int, Nat.reduceLT, Nat.reduceEqDiff, Nat.reduceAdd, Nat.reduceMul, Nat.reduceLeDiff, Nat.reduceSub, Nat.reduceBEq, Nat.reduceBNe, Nat.reduceBeqDiff, RT.at, RT.ty, RT.sub, RT.cut, RT.wr, getS, dep, okS, hclear, TV.len, XS.addRoot, XS.kill, XS.setRoot, pinAlso, Ty.flat, Ty.lev, Nat.max_self, Ty.dflt, Ty.width, setT, prodOf, tab, tL, tI, tB, LI, NI, LLI, tLL, BX, LBX, tBX, spL, spLI, spIL, spLL, spII, nanSp, cmpSp, orSp, boxSp, List.set_cons_zero, List.getD_cons_zero])); all_goals (try (first | omega | with_reducible exact Int.le_refl _ | (show (_ : Int) ≤ _; omega)))
  · rw [if_pos (by omega)] at hk; exact hk
  · rw [if_neg (by omega), if_pos (by omega)] at hk; exact hk
  · rw [if_neg (by omega), if_neg (by omega)] at hk; exact hk

theorem orL_drop {l : List Int} {i : Nat} (h : i < l.length) : orL (l.drop i) = if l.getD i 0 ≠ 0 then l.getD i 0 else orL (l.drop (i + 1)) := by
  rw [drop_pred_getD 0 h]; rfl

set_option maxRecDepth 10000 in
theorem or_ok : FnOK Try.prog 59 orSp := by
  have hC : CtxOK Try.prog ⟨18, tab, fun f => lk [] f, fun f => lk [] f, fun f => lk [] f⟩ := ctx_ok trivial trivial trivial
  refine FnOK_of (C := ⟨18, tab, fun f => lk [] f, fun f => lk [] f, fun f => lk [] f⟩) 59 Try.f59 _ [2] orSp Try.func59 rfl (by decide) rfl rfl (Nat.le_of_ble_eq_true rfl) fun args K ht hK w0 => ?_
  obtain ⟨l, rfl, hk⟩ := at_L ht hK
  repeat' (first | with_reducible refine XW.seq ?_ | with_reducible refine XW.block ?_ | with_reducible refine XW.skip ?_ | with_reducible refine XW.exit ?_ | with_reducible refine XW.ret ?_ | ((first | with_reducible refine XW.region hC (fun K' hK' => ?_) | with_reducible refine XW.text hC hm_ok (by kernel_rfl) (fun K' hK' => ?_)); (try simp only [List.toList_toArray]); repeat' (first | with_reducible refine xrun_cons ?_ | with_reducible refine xtxt_cons ?_ | ((with_reducible show xord _ _ _ (_ :: _) _); refine xord_cons (by simp only [List.getElem?_toArray, List.getElem?_cons_succ, List.getElem?_cons_zero]; rfl) ?_) | ((first | with_reducible show xoper _ _ _ _ _ _ _ | with_reducible show xdo _ _ _ _ _ _); simp only [xoper, xwant, cutAt, bxAV, bld3AV, XS.trunc, XS.inPlace, RT.withX, isNilP, isOneP, fldAV, fldP, fldR, cpAV, Int.toNat_natCast, okB, loOf, hiOf, cutL, List.length_set, Int.reduceToNat, Int.reduceEq, List.getElem?_toArray, List.getElem?_cons_succ, List.getElem?_cons_zero, xgd_true, xgd_false, known, Bool.true_beq, Bool.false_beq, beq_true, beq_false, xdo, mpOp, mpSet, AV.setMp, AV.plain, isMove, nilAt, nilCmp, xpure, xpureT, xmem, XS.ev, constAV, XS.init, XS.initMv, env0, XS.put, XS.get, XS.root, lk, rm, dOK, PF.of, PR.pf, Option.map_some, Option.map_none, Option.bind_some, Option.bind_none, opt2, binAV, idxAV, idxPair, bldAV, idxRO, idxRef, idxSub, idxArr, ldAV, ldPtr, lenAV, slAV, sameAV, convAV, TE.ty, appAV, own1, srcAV, stAV, mkAV, bsAV, alAV, argAV, argsAV, calleeOf, List.size_toArray, Nat.le_refl, Nat.zero_le, datOf, datsOf, retAV, retsAV, retsPut, castL_self, castV_self, fitD_self, List.length_cons, List.length_nil, List.map_cons, List.map_nil, if_true, if_false, true_and, and_true, forall_const, reduceCtorEq, decide_true, decide_false, ↓reduceIte, implies_true, Bool.false_eq_true, false_implies, beq_self_eq_true, dite_true, dite_false, and_self, or_true, true_or, false_or, or_false, not_true_eq_false, not_false_eq_true, ne_eq, and_false, false_and, bne_self_eq_false, Bool.not_true, Bool.not_false, List.all_nil, List.all_cons, List.nil_append, List.cons_append, List.contains_nil, List.contains_cons, Bool.or_true, Bool.true_or, Bool.false_or, Bool.or_false, Bool.and_true, Bool.true_and, Bool.and_self, Ty.list.injEq, Ty.int.injEq, Ty.prod.injEq, List.cons.injEq, List.length_replicate, decide_eq_true_eq, decide_eq_false_iff_not, Option.some.injEq, Nat.zero_add, Nat.lt_add_one, Nat.add_one_sub_one, Nat.add_one_ne_zero, Nat.succ_ne_self, Int.cast_ofNat_Int, binInt, cmpInt, binBool, binStr, Nat.reduceLT, Nat.reduceEqDiff, Nat.reduceAdd, Nat.reduceMul, Nat.reduceLeDiff, Nat.reduceSub, Nat.reduceBEq, Nat.reduceBNe, Nat.reduceBeqDiff, elAt, RT.at, RT.ty, RT.sub, RT.cut, RT.wr, getS, dep, okS, okNode, hclear, TV.len, TV.ew, XS.addRoot, XS.kill, XS.also, XS.setRoot, XS.redo, XS.redo2, XS.wrote, XS.took, pinAlso, nilRT, tchOf, tchOK, XS.pin, qOf, isNil, Ty.flat, Ty.lev, Nat.max_self, Ty.dflt, Ty.width, cutEnv, AV.shallow, shB, safeR, safeP, setT, bnd, capsOf, inR, outsOf, outOf, retK, XW.thn, XW.blk, prodOf, tab, tL, tI, tB, LI, NI, LLI, tLL, BX, LBX, tBX, spL, spLI, spIL, spLL, spII, nanSp, cmpSp, orSp, boxSp, List.set_cons_zero, List.getD_cons_zero]) | with_reducible refine xgd_intro (fun hg => ?_) (fun hg => ?_) <;> (try simp only [decide_eq_true_eq, decide_eq_false_iff_not, Bool.not_eq_true', Bool.not_eq_false', Bool.and_eq_true, Bool.or_eq_true, Bool.or_eq_false_iff, Int.not_lt, Int.not_le, Bool.not_eq_true, Int.ofNat_lt, Int.ofNat_le, reduceCtorEq, bne_iff_ne, beq_iff_eq, ne_eq, Decidable.not_not, beq_eq_false_iff_ne, bne_eq_false_iff_eq] at hg) | ((with_reducible show (_ : Bool) = true); kernel_rfl) | with_reducible refine And.intro ?_ ?_ | with_reducible refine xrun_nil ?_ | with_reducible refine xtxt_nil ?_ | with_reducible refine xord_nil ?_ | (refine hK' _ ?_; clear hK'; clear K') | (with_reducible intro hg; try simp only [decide_eq_true_eq, decide_eq_false_iff_not, Bool.not_eq_true', Bool.not_eq_false', Bool.and_eq_true, Bool.or_eq_true, Bool.or_eq_false_iff, Int.not_lt, Int.not_le, Bool.not_eq_true, Int.ofNat_lt, Int.ofNat_le, reduceCtorEq, bne_iff_ne, beq_iff_eq, ne_eq, Decidable.not_not, beq_eq_false_iff_ne, bne_eq_false_iff_eq] at hg))) | ((with_reducible show XW _ _ _ _ (.cond _ _ _) _ _); refine XW.cond rfl (fun h => ?_) (fun h => ?_) <;> (try simp only [decide_eq_true_eq, decide_eq_false_iff_not, Bool.not_eq_true', Bool.not_eq_false', Bool.and_eq_true, Bool.or_eq_true, Bool.or_eq_false_iff, Int.not_lt, Int.not_le, Bool.not_eq_true, Int.ofNat_lt, Int.ofNat_le, reduceCtorEq, bne_iff_ne, beq_iff_eq, ne_eq, Decidable.not_not, beq_eq_false_iff_ne, bne_eq_false_iff_eq] at h) <;> (try (exfalso; omega))) | ((with_reducible show XW.thn _ _ _ _); dsimp only [XW.thn]) | ((with_reducible show XW.blk _ _ _ _); simp only [XW.blk, ↓reduceIte, Nat.reduceEqDiff, Nat.zero_ne_one, Nat.one_ne_zero, ne_eq]) | ((with_reducible show retK _ _ _ _); simp only [retK, outsOf, outOf, Int.toNat_natCast, List.length_set, Int.reduceToNat, Int.reduceEq, List.getElem?_toArray, List.getElem?_cons_succ, List.getElem?_cons_zero, Bool.true_beq, Bool.false_beq, beq_true, beq_false, XS.put, XS.get, XS.root, lk, rm, Option.map_some, Option.map_none, Option.bind_some, Option.bind_none, opt2, List.size_toArray, Nat.le_refl, Nat.zero_le, castL_self, castV_self, fitD_self, List.length_cons, List.length_nil, List.map_cons, List.map_nil, if_true, if_false, true_and, and_true, forall_const, reduceCtorEq, decide_true, decide_false, ↓reduceIte, implies_true, Bool.false_eq_true, false_implies, beq_self_eq_true, dite_true, dite_false, and_self, or_true, true_or, false_or, or_false, not_true_eq_false, not_false_eq_true, ne_eq, and_false, false_and, bne_self_eq_false, Bool.not_true, Bool.not_false, List.all_nil, List.all_cons, List.nil_append, List.cons_append, List.contains_nil, List.contains_cons, Bool.or_true, Bool.true_or, Bool.false_or, Bool.or_false, Bool.and_true, Bool.true_and, Bool.and_self, Ty.list.injEq, Ty.int.injEq, Ty.prod.injEq, List.cons.injEq, List.length_replicate, decide_eq_true_eq, decide_eq_false_iff_not, Option.some.injEq, Nat.zero_add, Nat.lt_add_one, Nat.add_one_sub_one, Nat.add_one_ne_zero, Nat.succ_ne_self, Int.cast_ofNat_Int, Nat.reduceLT, Nat.reduceEqDiff, Nat.reduceAdd, Nat.reduceMul, Nat.reduceLeDiff, Nat.reduceSub, Nat.reduceBEq, Nat.reduceBNe, Nat.reduceBeqDiff, RT.at, RT.ty, RT.sub, RT.cut, RT.wr, getS, dep, okS, hclear, TV.len, XS.addRoot, XS.kill, XS.setRoot, pinAlso, Ty.flat, Ty.lev, Nat.max_self, Ty.dflt, Ty.width, setT, prodOf, tab, tL, tI, tB, LI, NI, LLI, tLL, BX, LBX, tBX, spL, spLI, spIL, spLL, spII, nanSp, cmpSp, orSp, boxSp, List.set_cons_zero, List.getD_cons_zero])); all_goals (try (first | omega | with_reducible exact Int.le_refl _ | (show (_ : Int) ≤ _; omega)))
  refine XW.loop (ι := Nat) (fun i => ⟨[(8, .dat NI (i : Int)), (7, .dat NI (l.length : Int)), (6, .dat LI l), (3, .dat NI 0)], [], 0, []⟩)
    (fun i => i ≤ l.length ∧ orL l = orL (l.drop i)) (fun i => l.length - i) 0 [] ⟨Nat.zero_le _, rfl⟩ ?_ fun i hi => ?_
  · simp only [Fits, distinct, fitEnv, fitB, fitRoots, fitRT, idsOK, AV.ids, Int.toNat_natCast, List.length_set, Int.reduceToNat, Int.reduceEq, List.getElem?_toArray, List.getElem?_cons_succ, List.getElem?_cons_zero, Bool.true_beq, Bool.false_beq, beq_true, beq_false, XS.put, XS.get, XS.root, lk, rm, Option.map_some, Option.map_none, Option.bind_some, Option.bind_none, opt2, List.size_toArray, Nat.le_refl, Nat.zero_le, castL_self, castV_self, fitD_self, List.length_cons, List.length_nil, List.map_cons, List.map_nil, if_true, if_false, true_and, and_true, forall_const, reduceCtorEq, decide_true, decide_false, ↓reduceIte, implies_true, Bool.false_eq_true, false_implies, beq_self_eq_true, dite_true, dite_false, and_self, or_true, true_or, false_or, or_false, not_true_eq_false, not_false_eq_true, ne_eq, and_false, false_and, bne_self_eq_false, Bool.not_true, Bool.not_false, List.all_nil, List.all_cons, List.nil_append, List.cons_append, List.contains_nil, List.contains_cons, Bool.or_true, Bool.true_or, Bool.false_or, Bool.or_false, Bool.and_true, Bool.true_and, Bool.and_self, Ty.list.injEq, Ty.int.injEq, Ty.prod.injEq, List.cons.injEq, List.length_replicate, decide_eq_true_eq, decide_eq_false_iff_not, Option.some.injEq, Nat.zero_add, Nat.lt_add_one, Nat.add_one_sub_one, Nat.add_one_ne_zero, Nat.succ_ne_self, Int.cast_ofNat_Int, Nat.reduceLT, Nat.reduceEqDiff, Nat.reduceAdd, Nat.reduceMul, Nat.reduceLeDiff, Nat.reduceSub, Nat.reduceBEq, Nat.reduceBNe, Nat.reduceBeqDiff, RT.at, RT.ty, RT.sub, RT.cut, RT.wr, getS, dep, okS, hclear, TV.len, XS.addRoot, XS.kill, XS.setRoot, pinAlso, Ty.flat, Ty.lev, Nat.max_self, Ty.dflt, Ty.width, setT, prodOf, tab, tL, tI, tB, LI, NI, LLI, tLL, BX, LBX, tBX, spL, spLI, spIL, spLL, spII, nanSp, cmpSp, orSp, boxSp, List.set_cons_zero, List.getD_cons_zero]
  obtain ⟨i1, ho⟩ := hi
  have hd := fun h : i < l.length => orL_drop h
  repeat' (first | with_reducible refine XW.seq ?_ | with_reducible refine XW.block ?_ | with_reducible refine XW.skip ?_ | with_reducible refine XW.exit ?_ | with_reducible refine XW.ret ?_ | ((first | with_reducible refine XW.region hC (fun K' hK' => ?_) | with_reducible refine XW.text hC hm_ok (by kernel_rfl) (fun K' hK' => ?_)); (try simp only [List.toList_toArray]); repeat' (first | with_reducible refine xrun_cons ?_ | with_reducible refine xtxt_cons ?_ | ((with_reducible show xord _ _ _ (_ :: _) _); refine xord_cons (by simp only [List.getElem?_toArray, List.getElem?_cons_succ, List.getElem?_cons_zero]; rfl) ?_) | ((first | with_reducible show xoper _ _ _ _ _ _ _ | with_reducible show xdo _ _ _ _ _ _); simp only [xoper, xwant, cutAt, bxAV, bld3AV, XS.trunc, XS.inPlace, RT.withX, isNilP, isOneP, fldAV, fldP, fldR, cpAV, Int.toNat_natCast, okB, loOf, hiOf, cutL, List.length_set, Int.reduceToNat, Int.reduceEq, List.getElem?_toArray, List.getElem?_cons_succ, List.getElem?_cons_zero, xgd_true, xgd_false, known, Bool.true_beq, Bool.false_beq, beq_true, beq_false, xdo, mpOp, mpSet, AV.setMp, AV.plain, isMove, nilAt, nilCmp, xpure, xpureT, xmem, XS.ev, constAV, XS.init, XS.initMv, env0, XS.put, XS.get, XS.root, lk, rm, dOK, PF.of, PR.pf, Option.map_some, Option.map_none, Option.bind_some, Option.bind_none, opt2, binAV, idxAV, idxPair, bldAV, idxRO, idxRef, idxSub, idxArr, ldAV, ldPtr, lenAV, slAV, sameAV, convAV, TE.ty, appAV, own1, srcAV, stAV, mkAV, bsAV, alAV, argAV, argsAV, calleeOf, List.size_toArray, Nat.le_refl, Nat.zero_le, datOf, datsOf, retAV, retsAV, retsPut, castL_self, castV_self, fitD_self, List.length_cons, List.length_nil, List.map_cons, List.map_nil, if_true, if_false, true_and, and_true, forall_const, reduceCtorEq, decide_true, decide_false, ↓reduceIte, implies_true, Bool.false_eq_true, false_implies, beq_self_eq_true, dite_true, dite_false, and_self, or_true, true_or, false_or, or_false, not_true_eq_false, not_false_eq_true, ne_eq, and_false, false_and, bne_self_eq_false, Bool.not_true, Bool.not_false, List.all_nil, List.all_cons, List.nil_append, List.cons_append, List.contains_nil, List.contains_cons, Bool.or_true, Bool.true_or, Bool.false_or, Bool.or_false, Bool.and_true, Bool.true_and, Bool.and_self, Ty.list.injEq, Ty.int.injEq, Ty.prod.injEq, List.cons.injEq, List.length_replicate, decide_eq_true_eq, decide_eq_false_iff_not, Option.some.injEq, Nat.zero_add, Nat.lt_add_one, Nat.add_one_sub_one, Nat.add_one_ne_zero, Nat.succ_ne_self, Int.cast_ofNat_Int, binInt, cmpInt, binBool, binStr, Nat.reduceLT, Nat.reduceEqDiff, Nat.reduceAdd, Nat.reduceMul, Nat.reduceLeDiff, Nat.reduceSub, Nat.reduceBEq, Nat.reduceBNe, Nat.reduceBeqDiff, elAt, RT.at, RT.ty, RT.sub, RT.cut, RT.wr, getS, dep, okS, okNode, hclear, TV.len, TV.ew, XS.addRoot, XS.kill, XS.also, XS.setRoot, XS.redo, XS.redo2, XS.wrote, XS.took, pinAlso, nilRT, tchOf, tchOK, XS.pin, qOf, isNil, Ty.flat, Ty.lev, Nat.max_self, Ty.dflt, Ty.width, cutEnv, AV.shallow, shB, safeR, safeP, setT, bnd, capsOf, inR, outsOf, outOf, retK, XW.thn, XW.blk, prodOf, tab, tL, tI, tB, LI, NI, LLI, tLL, BX, LBX, tBX, spL, spLI, spIL, spLL, spII, nanSp, cmpSp, orSp, boxSp, List.set_cons_zero, List.getD_cons_zero]) | with_reducible refine xgd_intro (fun hg => ?_) (fun hg => ?_) <;> (try simp only [decide_eq_true_eq, decide_eq_false_iff_not, Bool.not_eq_true', Bool.not_eq_false', Bool.and_eq_true, Bool.or_eq_true, Bool.or_eq_false_iff, Int.not_lt, Int.not_le, Bool.not_eq_true, Int.ofNat_lt, Int.ofNat_le, reduceCtorEq, bne_iff_ne, beq_iff_eq, ne_eq, Decidable.not_not, beq_eq_false_iff_ne, bne_eq_false_iff_eq] at hg) | ((with_reducible show (_ : Bool) = true); kernel_rfl) | with_reducible refine And.intro ?_ ?_ | with_reducible refine xrun_nil ?_ | with_reducible refine xtxt_nil ?_ | with_reducible refine xord_nil ?_ | (refine hK' _ ?_; clear hK'; clear K') | (with_reducible intro hg; try simp only [decide_eq_true_eq, decide_eq_false_iff_not, Bool.not_eq_true', Bool.not_eq_false', Bool.and_eq_true, Bool.or_eq_true, Bool.or_eq_false_iff, Int.not_lt, Int.not_le, Bool.not_eq_true, Int.ofNat_lt, Int.ofNat_le, reduceCtorEq, bne_iff_ne, beq_iff_eq, ne_eq, Decidable.not_not, beq_eq_false_iff_ne, bne_eq_false_iff_eq] at hg))) | ((with_reducible show XW _ _ _ _ (.cond _ _ _) _ _); refine XW.cond rfl (fun h => ?_) (fun h => ?_) <;> (try simp only [decide_eq_true_eq, decide_eq_false_iff_not, Bool.not_eq_true', Bool.not_eq_false', Bool.and_eq_true, Bool.or_eq_true, Bool.or_eq_false_iff, Int.not_lt, Int.not_le, Bool.not_eq_true, Int.ofNat_lt, Int.ofNat_le, reduceCtorEq, bne_iff_ne, beq_iff_eq, ne_eq, Decidable.not_not, beq_eq_false_iff_ne, bne_eq_false_iff_eq] at h) <;> (try (exfalso; omega))) | ((with_reducible show XW.thn _ _ _ _); dsimp only [XW.thn]) | ((with_reducible show XW.blk _ _ _ _); simp only [XW.blk, ↓reduceIte, Nat.reduceEqDiff, Nat.zero_ne_one, Nat.one_ne_zero, ne_eq]) | ((with_reducible show retK _ _ _ _); simp only [retK, outsOf, outOf, Int.toNat_natCast, List.length_set, Int.reduceToNat, Int.reduceEq, List.getElem?_toArray, List.getElem?_cons_succ, List.getElem?_cons_zero, Bool.true_beq, Bool.false_beq, beq_true, beq_false, XS.put, XS.get, XS.root, lk, rm, Option.map_some, Option.map_none, Option.bind_some, Option.bind_none, opt2, List.size_toArray, Nat.le_refl, Nat.zero_le, castL_self, castV_self, fitD_self, List.length_cons, List.length_nil, List.map_cons, List.map_nil, if_true, if_false, true_and, and_true, forall_const, reduceCtorEq, decide_true, decide_false, ↓reduceIte, implies_true, Bool.false_eq_true, false_implies, beq_self_eq_true, dite_true, dite_false, and_self, or_true, true_or, false_or, or_false, not_true_eq_false, not_false_eq_true, ne_eq, and_false, false_and, bne_self_eq_false, Bool.not_true, Bool.not_false, List.all_nil, List.all_cons, List.nil_append, List.cons_append, List.contains_nil, List.contains_cons, Bool.or_true, Bool.true_or, Bool.false_or, Bool.or_false, Bool.and_true, Bool.true_and, Bool.and_self, Ty.list.injEq, Ty.int.injEq, Ty.prod.injEq, List.cons.injEq, List.length_replicate, decide_eq_true_eq, decide_eq_false_iff_not, Option.some.injEq, Nat.zero_add, Nat.lt_add_one, Nat.add_one_sub_one, Nat.add_one_ne_zero, Nat.succ_ne_self, Int.cast_ofNat_Int, Nat.reduceLT, Nat.reduceEqDiff, Nat.reduceAdd, Nat.reduceMul, Nat.reduceLeDiff, Nat.reduceSub, Nat.reduceBEq, Nat.reduceBNe, Nat.reduceBeqDiff, RT.at, RT.ty, RT.sub, RT.cut, RT.wr, getS, dep, okS, hclear, TV.len, XS.addRoot, XS.kill, XS.setRoot, pinAlso, Ty.flat, Ty.lev, Nat.max_self, Ty.dflt, Ty.width, setT, prodOf, tab, tL, tI, tB, LI, NI, LLI, tLL, BX, LBX, tBX, spL, spLI, spIL, spLL, spII, nanSp, cmpSp, orSp, boxSp, List.set_cons_zero, List.getD_cons_zero])); all_goals (try (first | omega | with_reducible exact Int.le_refl _ | (show (_ : Int) ≤ _; omega)))
  · rw [ho, hd (by assumption), if_pos h] at hk; exact hk
  · refine ⟨i + 1, [], ⟨by omega, ?_⟩, by omega, ?_⟩
    · rw [ho, hd (by assumption), if_neg (by omega)]
    · simp only [Fits, distinct, fitEnv, fitB, fitRoots, fitRT, idsOK, AV.ids, Int.toNat_natCast, List.length_set, Int.reduceToNat, Int.reduceEq, List.getElem?_toArray, List.getElem?_cons_succ, List.getElem?_cons_zero, Bool.true_beq, Bool.false_beq, beq_true, beq_false, XS.put, XS.get, XS.root, lk, rm, Option.map_some, Option.map_none, Option.bind_some, Option.bind_none, opt2, List.size_toArray, Nat.le_refl, Nat.zero_le, castL_self, castV_self, fitD_self, List.length_cons, List.length_nil, List.map_cons, List.map_nil, if_true, if_false, true_and, and_true, forall_const, reduceCtorEq, decide_true, decide_false, ↓reduceIte, implies_true, Bool.false_eq_true, false_implies, beq_self_eq_true, dite_true, dite_false, and_self, or_true, true_or, false_or, or_false, not_true_eq_false, not_false_eq_true, ne_eq, and_false, false_and, bne_self_eq_false, Bool.not_true, Bool.not_false, List.all_nil, List.all_cons, List.nil_append, List.cons_append, List.contains_nil, List.contains_cons, Bool.or_true, Bool.true_or, Bool.false_or, Bool.or_false, Bool.and_true, Bool.true_and, Bool.and_self, Ty.list.injEq, Ty.int.injEq, Ty.prod.injEq, List.cons.injEq, List.length_replicate, decide_eq_true_eq, decide_eq_false_iff_not, Option.some.injEq, Nat.zero_add, Nat.lt_add_one, Nat.add_one_sub_one, Nat.add_one_ne_zero, Nat.succ_ne_self, Int.cast_ofNat_Int, Nat.reduceLT, Nat.reduceEqDiff, Nat.reduceAdd, Nat.reduceMul, Nat.reduceLeDiff, Nat.reduceSub, Nat.reduceBEq, Nat.reduceBNe, Nat.reduceBeqDiff, RT.at, RT.ty, RT.sub, RT.cut, RT.wr, getS, dep, okS, hclear, TV.len, XS.addRoot, XS.kill, XS.setRoot, pinAlso, Ty.flat, Ty.lev, Nat.max_self, Ty.dflt, Ty.width, setT, prodOf, tab, tL, tI, tB, LI, NI, LLI, tLL, BX, LBX, tBX, spL, spLI, spIL, spLL, spII, nanSp, cmpSp, orSp, boxSp, List.set_cons_zero, List.getD_cons_zero]
      rfl
  · rw [ho, List.drop_eq_nil_of_le (by omega)] at hk; exact hk

set_option maxRecDepth 10000 in
theorem box_ok : FnOK Try.prog 58 boxSp := by
  have hC : CtxOK Try.prog ⟨17, tab, fun f => lk [(60, cmpSp), (59, orSp)] f, fun f => lk [] f, fun f => lk [] f⟩ := ctx_ok ⟨cmp_ok, or_ok, trivial⟩ trivial trivial
  refine FnOK_of (C := ⟨17, tab, fun f => lk [(60, cmpSp), (59, orSp)] f, fun f => lk [] f, fun f => lk [] f⟩) 58 Try.f58 _ [4] boxSp Try.func58 rfl (by decide) rfl rfl (Nat.le_of_ble_eq_true rfl) fun args K ht hK w0 => ?_
  obtain ⟨x, y, rfl, hk⟩ : ∃ x y, args = [⟨BX, x⟩, ⟨BX, y⟩] ∧ K [tI (cfB x y)] := by
    match args, ht, hK with
    | [⟨t, x⟩, ⟨u, y⟩], ht, hK =>
      simp only [boxSp, List.map_cons, List.map_nil, List.cons.injEq, and_true] at ht
      obtain ⟨rfl, rfl⟩ := ht
      exact ⟨x, y, rfl, hK⟩
    | [], ht, _ => simp [boxSp] at ht
    | [_], ht, _ => simp [boxSp] at ht
    | _ :: _ :: _ :: _, ht, _ => simp [boxSp] at ht
  repeat' (first | with_reducible refine XW.seq ?_ | with_reducible refine XW.block ?_ | with_reducible refine XW.skip ?_ | with_reducible refine XW.exit ?_ | with_reducible refine XW.ret ?_ | ((first | ((with_reducible show XW _ _ _ _ (.region _ _ true) _ _); refine XW.tree hC hm_ok (.one 0 (.one 1 (.one 2 (.one 3 (.one 5 (.one 6 (.one 7 (.one 8 (.one 4 (.one 9 (.one 10 (.one 11 (.one 12 .nil))))))))))))) (by decide +kernel) (fun K' hK' => ?_)) | with_reducible refine XW.region hC (fun K' hK' => ?_) | with_reducible refine XW.text hC hm_ok (by kernel_rfl) (fun K' hK' => ?_)); (try simp only [List.toList_toArray]); repeat' (first | with_reducible refine xrun_cons ?_ | with_reducible refine xtree_two ?_ ?_ | with_reducible refine xtree_nil ?_ | ((with_reducible show xtree _ _ _ (.one _ _) _); refine xtree_one (by simp only [List.getElem?_toArray, List.getElem?_cons_succ, List.getElem?_cons_zero]; rfl) ?_) | with_reducible refine xtxt_cons ?_ | ((with_reducible show xord _ _ _ (_ :: _) _); refine xord_cons (by simp only [List.getElem?_toArray, List.getElem?_cons_succ, List.getElem?_cons_zero]; rfl) ?_) | ((first | with_reducible show xoper _ _ _ _ _ _ _ | with_reducible show xdo _ _ _ _ _ _); simp only [xoper, xwant, cutAt, bxAV, bld3AV, XS.trunc, XS.inPlace, RT.withX, isNilP, isOneP, fldAV, fldP, fldR, cpAV, Int.toNat_natCast, okB, loOf, hiOf, cutL, List.length_set, Int.reduceToNat, Int.reduceEq, List.getElem?_toArray, List.getElem?_cons_succ, List.getElem?_cons_zero, xgd_true, xgd_false, known, Bool.true_beq, Bool.false_beq, beq_true, beq_false, xdo, mpOp, mpSet, AV.setMp, AV.plain, isMove, nilAt, nilCmp, xpure, xpureT, xmem, XS.ev, constAV, XS.init, XS.initMv, env0, XS.put, XS.get, XS.root, lk, rm, dOK, PF.of, PR.pf, Option.map_some, Option.map_none, Option.bind_some, Option.bind_none, opt2, binAV, idxAV, idxPair, bldAV, idxRO, idxRef, idxSub, idxArr, ldAV, ldPtr, lenAV, slAV, sameAV, convAV, TE.ty, appAV, own1, srcAV, stAV, mkAV, bsAV, alAV, argAV, argsAV, calleeOf, List.size_toArray, Nat.le_refl, Nat.zero_le, datOf, datsOf, retAV, retsAV, retsPut, castL_self, castV_self, fitD_self, List.length_cons, List.length_nil, List.map_cons, List.map_nil, if_true, if_false, true_and, and_true, forall_const, reduceCtorEq, decide_true, decide_false, ↓reduceIte, implies_true, Bool.false_eq_true, false_implies, beq_self_eq_true, dite_true, dite_false, and_self, or_true, true_or, false_or, or_false, not_true_eq_false, not_false_eq_true, ne_eq, and_false, false_and, bne_self_eq_false, Bool.not_true, Bool.not_false, List.all_nil, List.all_cons, List.nil_append, List.cons_append, List.contains_nil, List.contains_cons, Bool.or_true, Bool.true_or, Bool.false_or, Bool.or_false, Bool.and_true, Bool.true_and, Bool.and_self, Ty.list.injEq, Ty.int.injEq, Ty.prod.injEq, List.cons.injEq, List.length_replicate, decide_eq_true_eq, decide_eq_false_iff_not, Option.some.injEq, Nat.zero_add, Nat.lt_add_one, Nat.add_one_sub_one, Nat.add_one_ne_zero, Nat.succ_ne_self, Int.cast_ofNat_Int, binInt, cmpInt, binBool, binStr, Nat.reduceLT, Nat.reduceEqDiff, Nat.reduceAdd, Nat.reduceMul, Nat.reduceLeDiff, Nat.reduceSub, Nat.reduceBEq, Nat.reduceBNe, Nat.reduceBeqDiff, elAt, RT.at, RT.ty, RT.sub, RT.cut, RT.wr, getS, dep, okS, okNode, hclear, TV.len, TV.ew, XS.addRoot, XS.kill, XS.also, XS.setRoot, XS.redo, XS.redo2, XS.wrote, XS.took, pinAlso, nilRT, tchOf, tchOK, XS.pin, qOf, isNil, Ty.flat, Ty.lev, Nat.max_self, Ty.dflt, Ty.width, cutEnv, AV.shallow, shB, safeR, safeP, setT, bnd, capsOf, inR, outsOf, outOf, retK, XW.thn, XW.blk, prodOf, tab, tL, tI, tB, LI, NI, LLI, tLL, BX, LBX, tBX, spL, spLI, spIL, spLL, spII, nanSp, cmpSp, orSp, boxSp, List.set_cons_zero, List.getD_cons_zero]) | with_reducible refine xgd_intro (fun hg => ?_) (fun hg => ?_) <;> (try simp only [decide_eq_true_eq, decide_eq_false_iff_not, Bool.not_eq_true', Bool.not_eq_false', Bool.and_eq_true, Bool.or_eq_true, Bool.or_eq_false_iff, Int.not_lt, Int.not_le, Bool.not_eq_true, Int.ofNat_lt, Int.ofNat_le, reduceCtorEq, bne_iff_ne, beq_iff_eq, ne_eq, Decidable.not_not, beq_eq_false_iff_ne, bne_eq_false_iff_eq] at hg) | ((with_reducible show (_ : Bool) = true); kernel_rfl) | with_reducible refine And.intro ?_ ?_ | with_reducible refine xrun_nil ?_ | with_reducible refine xtxt_nil ?_ | with_reducible refine xord_nil ?_ | (refine hK' _ ?_; clear hK'; clear K') | (with_reducible intro hg; try simp only [decide_eq_true_eq, decide_eq_false_iff_not, Bool.not_eq_true', Bool.not_eq_false', Bool.and_eq_true, Bool.or_eq_true, Bool.or_eq_false_iff, Int.not_lt, Int.not_le, Bool.not_eq_true, Int.ofNat_lt, Int.ofNat_le, reduceCtorEq, bne_iff_ne, beq_iff_eq, ne_eq, Decidable.not_not, beq_eq_false_iff_ne, bne_eq_false_iff_eq] at hg))) | ((with_reducible show XW _ _ _ _ (.cond _ _ _) _ _); refine XW.cond rfl (fun h => ?_) (fun h => ?_) <;> (try simp only [decide_eq_true_eq, decide_eq_false_iff_not, Bool.not_eq_true', Bool.not_eq_false', Bool.and_eq_true, Bool.or_eq_true, Bool.or_eq_false_iff, Int.not_lt, Int.not_le, Bool.not_eq_true, Int.ofNat_lt, Int.ofNat_le, reduceCtorEq, bne_iff_ne, beq_iff_eq, ne_eq, Decidable.not_not, beq_eq_false_iff_ne, bne_eq_false_iff_eq] at h) <;> (try (exfalso; omega))) | ((with_reducible show XW.thn _ _ _ _); dsimp only [XW.thn]) | ((with_reducible show XW.blk _ _ _ _); simp only [XW.blk, ↓reduceIte, Nat.reduceEqDiff, Nat.zero_ne_one, Nat.one_ne_zero, ne_eq]) | ((with_reducible show retK _ _ _ _); simp only [retK, outsOf, outOf, Int.toNat_natCast, List.length_set, Int.reduceToNat, Int.reduceEq, List.getElem?_toArray, List.getElem?_cons_succ, List.getElem?_cons_zero, Bool.true_beq, Bool.false_beq, beq_true, beq_false, XS.put, XS.get, XS.root, lk, rm, Option.map_some, Option.map_none, Option.bind_some, Option.bind_none, opt2, List.size_toArray, Nat.le_refl, Nat.zero_le, castL_self, castV_self, fitD_self, List.length_cons, List.length_nil, List.map_cons, List.map_nil, if_true, if_false, true_and, and_true, forall_const, reduceCtorEq, decide_true, decide_false, ↓reduceIte, implies_true, Bool.false_eq_true, false_implies, beq_self_eq_true, dite_true, dite_false, and_self, or_true, true_or, false_or, or_false, not_true_eq_false, not_false_eq_true, ne_eq, and_false, false_and, bne_self_eq_false, Bool.not_true, Bool.not_false, List.all_nil, List.all_cons, List.nil_append, List.cons_append, List.contains_nil, List.contains_cons, Bool.or_true, Bool.true_or, Bool.false_or, Bool.or_false, Bool.and_true, Bool.true_and, Bool.and_self, Ty.list.injEq, Ty.int.injEq, Ty.prod.injEq, List.cons.injEq, List.length_replicate, decide_eq_true_eq, decide_eq_false_iff_not, Option.some.injEq, Nat.zero_add, Nat.lt_add_one, Nat.add_one_sub_one, Nat.add_one_ne_zero, Nat.succ_ne_self, Int.cast_ofNat_Int, Nat.reduceLT, Nat.reduceEqDiff, Nat.reduceAdd, Nat.reduceMul, Nat.reduceLeDiff, Nat.reduceSub, Nat.reduceBEq, Nat.reduceBNe, Nat.reduceBeqDiff, RT.at, RT.ty, RT.sub, RT.cut, RT.wr, getS, dep, okS, hclear, TV.len, XS.addRoot, XS.kill, XS.setRoot, pinAlso, Ty.flat, Ty.lev, Nat.max_self, Ty.dflt, Ty.width, setT, prodOf, tab, tL, tI, tB, LI, NI, LLI, tLL, BX, LBX, tBX, spL, spLI, spIL, spLL, spII, nanSp, cmpSp, orSp, boxSp, List.set_cons_zero, List.getD_cons_zero])); all_goals (try (first | omega | with_reducible exact Int.le_refl _ | (show (_ : Int) ≤ _; omega)))
  exact hk

def bxRen : Go.Shelf.Ren := ⟨fun | 6 => 57 | 15 => 72 | 14 => 71 | 28 => 85 | 29 => 86 | 20 => 77 | 21 => 78 | 22 => 79 | 23 => 80 | 24 => 81 | 25 => 82 | 26 => 83 | 27 => 84 | 46 => 97 | 47 => 98 | 48 => 99 | 49 => 100 | 50 => 101 | 57 => 105 | n => n, fun | 22 => 67 | 24 => 69 | 25 => 73 | 3 => 3 | 39 => 79 | 0 => 0 | 53 => 93 | 55 => 95 | 4 => 4 | 46 => 87 | 45 => 86 | 50 => 81 | 5 => 5 | 9 => 9 | 66 => 102 | 70 => 106 | 76 => 110 | 77 => 111 | n => n, fun n => n⟩
set_option maxRecDepth 100000 in
theorem bxLay : SlLaysF0.n6 Try.prog bxRen where
  mixed := by kernel_rfl
  f6 := ⟨Try.f57.name, by decide, Try.func57.trans (congrArg some (by kernel_rfl))⟩
  f14 := ⟨Try.f71.name, by decide, Try.func71.trans (congrArg some (by kernel_rfl))⟩
  f15 := Try.func72.trans (congrArg some (by kernel_rfl))
  f20 := ⟨Try.f77.name, by decide, Try.func77.trans (congrArg some (by kernel_rfl))⟩
  f21 := ⟨Try.f78.name, by decide, Try.func78.trans (congrArg some (by kernel_rfl))⟩
  f22 := ⟨Try.f79.name, by decide, Try.func79.trans (congrArg some (by kernel_rfl))⟩
  f23 := ⟨Try.f80.name, by decide, Try.func80.trans (congrArg some (by kernel_rfl))⟩
  f24 := ⟨Try.f81.name, by decide, Try.func81.trans (congrArg some (by kernel_rfl))⟩
  f25 := ⟨Try.f82.name, by decide, Try.func82.trans (congrArg some (by kernel_rfl))⟩
  f26 := ⟨Try.f83.name, by decide, Try.func83.trans (congrArg some (by kernel_rfl))⟩
  f27 := ⟨Try.f84.name, by decide, Try.func84.trans (congrArg some (by kernel_rfl))⟩
  f28 := Try.func85.trans (congrArg some (by kernel_rfl))
  f29 := Try.func86.trans (congrArg some (by kernel_rfl))
  f46 := ⟨Try.f97.name, by decide, Try.func97.trans (congrArg some (by kernel_rfl))⟩
  f47 := Try.func98.trans (congrArg some (by kernel_rfl))
  f48 := Try.func99.trans (congrArg some (by kernel_rfl))
  f49 := ⟨Try.f100.name, by decide, Try.func100.trans (congrArg some (by kernel_rfl))⟩
  f50 := ⟨Try.f101.name, by decide, Try.func101.trans (congrArg some (by kernel_rfl))⟩
  f57 := ⟨Try.f105.name, by decide, Try.func105.trans (congrArg some (by kernel_rfl))⟩
  t0 := Try.underlying0
  a0 := Try.isAgg0
  z0 := Try.sizeOf0
  v0 := Try.zeroValue0
  t3 := Try.underlying3
  a3 := Try.isAgg3
  z3 := Try.sizeOf3
  v3 := Try.zeroValue3
  t4 := Try.underlying4
  a4 := Try.isAgg4
  z4 := Try.sizeOf4
  v4 := Try.zeroValue4
  t5 := Try.underlying5
  a5 := Try.isAgg5
  z5 := Try.sizeOf5
  v5 := Try.zeroValue5
  t9 := Try.underlying9
  a9 := Try.isAgg9
  z9 := Try.sizeOf9
  v9 := Try.zeroValue9
  t22 := Try.underlying67
  a22 := Try.isAgg67
  z22 := Try.sizeOf67
  v22 := Try.zeroValue67
  t25 := Try.underlying73
  a25 := Try.isAgg73
  z25 := Try.sizeOf73
  v25 := Try.zeroValue73
  t39 := Try.underlying79
  a39 := Try.isAgg79
  z39 := Try.sizeOf79
  v39 := Try.zeroValue79
  t45 := Try.underlying86
  a45 := Try.isAgg86
  z45 := Try.sizeOf86
  v45 := Try.zeroValue86
  t46 := Try.underlying87
  a46 := Try.isAgg87
  z46 := Try.sizeOf87
  v46 := Try.zeroValue87
  t50 := Try.underlying81
  a50 := Try.isAgg81
  z50 := Try.sizeOf81
  v50 := Try.zeroValue81
  t53 := Try.underlying93
  a53 := Try.isAgg93
  z53 := Try.sizeOf93
  v53 := Try.zeroValue93
  t55 := Try.underlying95
  a55 := Try.isAgg95
  z55 := Try.sizeOf95
  v55 := Try.zeroValue95
  t66 := Try.underlying102
  a66 := Try.isAgg102
  z66 := Try.sizeOf102
  v66 := Try.zeroValue102
  t70 := Try.underlying106
  a70 := Try.isAgg106
  z70 := Try.sizeOf106
  v70 := Try.zeroValue106
  t76 := Try.underlying110
  a76 := Try.isAgg110
  z76 := Try.sizeOf110
  v76 := Try.zeroValue110
  t77 := Try.underlying111
  a77 := Try.isAgg111
  z77 := Try.sizeOf111
  v77 := Try.zeroValue111

def sortBxSp : Spec := ⟨[LBX, .raw], fun args K => match args with
  | [⟨.list _ (.prod (.int _) (.prod (.int _) (.int _))), l⟩, ⟨.raw, fv⟩] => fv = .func (.func 58) #[] #[] ∧ l.length ≤ 1000000 ∧ ∀ l' : List (Int × Int × Int), l'.Perm l → SortedL (α := BX.den) cfB l' → K [tBX l']
  | _ => False⟩

theorem cfB_lt (x y : Int × Int × Int) : ltOf cfB x y = decide (x.2.2 < y.2.2 ∨ x.2.2 = y.2.2 ∧ x.2.1 < y.2.1) := by
  unfold ltOf cfB orL orL orL cmpI
  by_cases h1 : x.2.2 < y.2.2
  · simp [h1]
  · by_cases h2 : y.2.2 < x.2.2
    · rw [if_neg h1, if_pos h2]
      simp only [ne_eq, Int.one_ne_zero, not_false_eq_true, if_true]
      refine decide_eq_decide.2 ?_
      omega
    · rw [if_neg h1, if_neg h2]
      simp only [ne_eq, not_true_eq_false, if_false]
      refine decide_eq_decide.2 ?_
      by_cases h3 : x.2.1 < y.2.1
      · rw [if_pos h3]; simp; omega
      · rw [if_neg h3]
        by_cases h4 : y.2.1 < x.2.1
        · rw [if_pos h4]; simp; omega
        · rw [if_neg h4]; simp; omega
theorem cfB_swo : SWO (ltOf cfB) where
  irrefl x := by rw [cfB_lt]; simp
  trans x y z h1 h2 := by
    rw [cfB_lt] at *
    simp only [decide_eq_true_eq] at *
    omega
  ntrans x y z h1 h2 := by
    rw [cfB_lt] at *
    simp only [decide_eq_false_iff_not] at *
    omega

theorem sortBx_ok : FnIp Try.prog 57 sortBxSp :=
  sort_ip (ρ := bxRen) (t := BX) bxLay rfl rfl Try.isAgg69 Try.sizeOf69 (g := 58) box_ok rfl (cf := cfB) (fun _ _ _ h => h) cfB_swo ⟨_, Try.func57, by decide, rfl⟩ rfl (fun _ _ _ h => h)

end Fer
