/-
  Walk: ferlaw.Same of texts; what is left of a box (plain).
-/
import Derived.Test.YtmaahmcdejoclaaDoorRows
import Derived.Test.YtmaahmcdejoclaaDoorComB
import Derived.Test.YtmaahmcdejoclaaDoorCbE
import Derived.Test.YtmaahmcdejoclaaDoorCbH
set_option linter.unusedSimpArgs false
set_option linter.unusedVariables false
set_option maxHeartbeats 8000000
-- SPECS: tL, tI, tB, LI, NI, LLI, tLL, tSL, SL, spWW, sameWSp
namespace Fer
open Go Go.Proofs

def spWW (f : List ByteArray → List ByteArray → (List TV → Prop) → Prop) : Spec := ⟨[SL, SL], fun args K => match args with | [⟨.list _ .str, l⟩, ⟨.list _ .str, m⟩] => f l m K | _ => False⟩
theorem at_WW {f : List ByteArray → List ByteArray → (List TV → Prop) → Prop} {args : List TV} {K : List TV → Prop} (ht : args.map (·.t) = (spWW f).ps) (hK : (spWW f).wp args K) : ∃ l m : List ByteArray, args = [⟨SL, l⟩, ⟨SL, m⟩] ∧ f l m K := by
  match args, ht, hK with
  | [⟨t, x⟩, ⟨u, y⟩], ht, hK =>
    simp only [spWW, List.map_cons, List.map_nil, List.cons.injEq, and_true] at ht
    obtain ⟨rfl, rfl⟩ := ht
    exact ⟨x, y, rfl, hK⟩
  | [], ht, _ => simp [spWW] at ht
  | [_], ht, _ => simp [spWW] at ht
  | _ :: _ :: _ :: _, ht, _ => simp [spWW] at ht
theorem ba_inj {x y : ByteArray} (h : x.toList = y.toList) : x = y := by
  rw [bsL_of x, bsL_of y, bsL_toList, bsL_toList] at h
  rw [bsL_of x, bsL_of y, h]
def sameWSp : Spec := spWW fun p q K => K [tB (decide (p = q))]

set_option maxRecDepth 10000 in
theorem sameW_ok : FnOK Tryd.prog 13 sameWSp := by
  have hC : CtxOK Tryd.prog ⟨26, tab, fun f => lk [] f, fun f => lk [] f, fun f => lk [] f, fun f => lk [] f, fun f => lk [] f⟩ := ctx_ok trivial trivial trivial trivial trivial
  refine FnOK_of (C := ⟨26, tab, fun f => lk [] f, fun f => lk [] f, fun f => lk [] f, fun f => lk [] f, fun f => lk [] f⟩) 13 Tryd.f13 _ [4] sameWSp Tryd.func13 rfl (by decide) rfl rfl (Nat.le_of_ble_eq_true rfl) fun args K ht hK w0 => ?_
  obtain ⟨p, q, rfl, hk⟩ := at_WW ht hK
  repeat' (first | with_reducible refine XW.seq ?_ | with_reducible refine XW.block ?_ | with_reducible refine XW.skip ?_ | with_reducible refine XW.exit ?_ | with_reducible refine XW.ret ?_ | ((first | with_reducible refine XW.region hC (fun K' hK' => ?_) | with_reducible refine XW.text hC hm_ok (by kernel_rfl) (fun K' hK' => ?_)); (try simp only [List.toList_toArray]); repeat' (first | with_reducible refine xrun_cons ?_ | with_reducible refine xtxt_cons ?_ | ((with_reducible show xord _ _ _ (_ :: _) _); refine xord_cons (by simp only [List.getElem?_toArray, List.getElem?_cons_succ, List.getElem?_cons_zero]; rfl) ?_) | ((first | with_reducible show xoper _ _ _ _ _ _ _ | with_reducible show xdo _ _ _ _ _ _); simp only [zz, stCall, stBox, oneOf, oneIn, named, locOf, locIn, stRoots, killAll, capAV, stVals, stBoxes, noP, isBoxP, stKeep, stCut, stAdd, distinctL, evs, XS.initS, envS, rtsS, locS, Option.map_some, wholeAV, noPin, capTV, XS.initC, envC, xoper, xwant, cutAt, bxAV, bld3AV, bld0AV, strIdx, XS.trunc, XS.inPlace, RT.withX, isNilP, isOneP, fldAV, fldP, fldR, cpAV, okB, loOf, hiOf, cutL, List.length_set, Int.reduceToNat, Int.reduceEq, List.getElem?_toArray, List.getElem?_cons_succ, List.getElem?_cons_zero, xgd_true, xgd_false, known, beq_true, beq_false, xdo, mpOp, mpSet, AV.setMp, AV.plain, isMove, nilAt, nilCmp, xpure, xpureT, xmem, XS.ev, constAV, XS.init, XS.initMv, env0, XS.put, XS.get, XS.root, lk, rm, dOK, PF.of, PR.pf, Option.map_none, Option.bind_some, Option.bind_none, opt2, binAV, idxAV, idxPair, bldAV, idxRO, idxRef, idxSub, idxArr, ldAV, ldPtr, lenAV, slAV, sameAV, convAV, TE.ty, appAV, own1, srcAV, stAV, mkAV, bsAV, alAV, argAV, argsAV, calleeOf, List.size_toArray, datOf, datsOf, retAV, retsAV, retsPut, castL_self, castV_self, fitD_self, List.length_cons, List.length_nil, List.map_cons, List.map_nil, if_true, if_false, forall_const, reduceCtorEq, ↓reduceIte, beq_self_eq_true, dite_true, dite_false, ne_eq, bne_self_eq_false, List.all_nil, List.all_cons, List.nil_append, List.cons_append, List.contains_nil, List.contains_cons, Ty.list.injEq, Ty.int.injEq, Ty.prod.injEq, List.cons.injEq, List.length_replicate, Option.some.injEq, Int.cast_ofNat_Int, binInt, cmpInt, binBool, binStr, Nat.reduceLT, Nat.reduceEqDiff, Nat.reduceAdd, Nat.reduceMul, Nat.reduceLeDiff, Nat.reduceSub, Nat.reduceBEq, Nat.reduceBNe, Nat.reduceBeqDiff, elAt, RT.at, RT.ty, RT.sub, RT.cut, RT.wr, getS, dep, okS, okNode, hclear, TV.len, TV.ew, XS.addRoot, XS.kill, XS.also, XS.setRoot, XS.redo, XS.redo2, XS.wrote, XS.took, pinAlso, nilRT, tchOf, tchOK, XS.pin, qOf, isNil, Ty.flat, Ty.lev, Ty.dflt, Ty.width, cutEnv, AV.shallow, shB, safeR, safeP, setT, bnd, capsOf, inR, outsOf, outOf, retK, XW.thn, XW.blk, prodOf, tab, tL, tI, tB, LI, NI, LLI, tLL, tSL, SL, spWW, sameWSp]) | with_reducible refine xgd_intro (fun hg => ?_) (fun hg => ?_) <;> (try simp only [zh, zz, reduceCtorEq, bne_iff_ne, beq_iff_eq, ne_eq, Decidable.not_not, beq_eq_false_iff_ne, bne_eq_false_iff_eq] at hg) | ((with_reducible show (_ : Bool) = true); kernel_rfl) | with_reducible refine And.intro ?_ ?_ | with_reducible refine xrun_nil ?_ | with_reducible refine xtxt_nil ?_ | with_reducible refine xord_nil ?_ | (refine hK' _ ?_; clear hK'; clear K') | (with_reducible intro hg; try simp only [zh, zz, reduceCtorEq, bne_iff_ne, beq_iff_eq, ne_eq, Decidable.not_not, beq_eq_false_iff_ne, bne_eq_false_iff_eq] at hg))) | ((with_reducible show XW _ _ _ _ (.cond _ _ _) _ _); refine XW.cond rfl (fun h => ?_) (fun h => ?_) <;> (try simp only [zh, zz, reduceCtorEq, bne_iff_ne, beq_iff_eq, ne_eq, Decidable.not_not, beq_eq_false_iff_ne, bne_eq_false_iff_eq] at h) <;> (try (exfalso; omega))) | ((with_reducible show XW.thn _ _ _ _); dsimp only [XW.thn]) | ((with_reducible show XW.blk _ _ _ _); simp only [XW.blk, ↓reduceIte, Nat.reduceEqDiff, Nat.zero_ne_one, Nat.one_ne_zero, ne_eq]) | ((with_reducible show retK _ _ _ _); simp only [retK, outsOf, outOf, zz, Option.map_some, List.length_set, Int.reduceToNat, Int.reduceEq, List.getElem?_toArray, List.getElem?_cons_succ, List.getElem?_cons_zero, beq_true, beq_false, XS.put, XS.get, XS.root, lk, rm, Option.map_none, Option.bind_some, Option.bind_none, opt2, List.size_toArray, castL_self, castV_self, fitD_self, List.length_cons, List.length_nil, List.map_cons, List.map_nil, if_true, if_false, forall_const, reduceCtorEq, ↓reduceIte, beq_self_eq_true, dite_true, dite_false, ne_eq, bne_self_eq_false, List.all_nil, List.all_cons, List.nil_append, List.cons_append, List.contains_nil, List.contains_cons, Ty.list.injEq, Ty.int.injEq, Ty.prod.injEq, List.cons.injEq, List.length_replicate, Option.some.injEq, Int.cast_ofNat_Int, Nat.reduceLT, Nat.reduceEqDiff, Nat.reduceAdd, Nat.reduceMul, Nat.reduceLeDiff, Nat.reduceSub, Nat.reduceBEq, Nat.reduceBNe, Nat.reduceBeqDiff, RT.at, RT.ty, RT.sub, RT.cut, RT.wr, getS, dep, okS, hclear, TV.len, XS.addRoot, XS.kill, XS.setRoot, pinAlso, Ty.flat, Ty.lev, Ty.dflt, Ty.width, setT, prodOf, tab, tL, tI, tB, LI, NI, LLI, tLL, tSL, SL, spWW, sameWSp])); all_goals (try (first | omega | with_reducible exact Int.le_refl _ | (show (_ : Int) ≤ _; omega)))
  · rw [decide_eq_false (by rintro rfl; exact h rfl)] at hk
    exact hk
  refine XW.loop (ι := Int) (fun i => ⟨[(13, .dat NI i), (12, .dat NI (p.length : Int)), (0, .dat SL p), (1, .dat SL q)], [], 0, []⟩) (fun i => 0 ≤ i ∧ i ≤ p.length ∧ p.take i.toNat = q.take i.toNat) (fun i => (p.length - i).toNat) 0 [] ⟨by omega, by omega, by simp⟩ ?_ fun i hi => ?_
  · simp only [Fits, distinct, fitEnv, fitB, fitL, fitRoots, fitRT, idsOK, AV.ids, zz, Option.map_some, List.length_set, Int.reduceToNat, Int.reduceEq, List.getElem?_toArray, List.getElem?_cons_succ, List.getElem?_cons_zero, beq_true, beq_false, XS.put, XS.get, XS.root, lk, rm, Option.map_none, Option.bind_some, Option.bind_none, opt2, List.size_toArray, castL_self, castV_self, fitD_self, List.length_cons, List.length_nil, List.map_cons, List.map_nil, if_true, if_false, forall_const, reduceCtorEq, ↓reduceIte, beq_self_eq_true, dite_true, dite_false, ne_eq, bne_self_eq_false, List.all_nil, List.all_cons, List.nil_append, List.cons_append, List.contains_nil, List.contains_cons, Ty.list.injEq, Ty.int.injEq, Ty.prod.injEq, List.cons.injEq, List.length_replicate, Option.some.injEq, Int.cast_ofNat_Int, Nat.reduceLT, Nat.reduceEqDiff, Nat.reduceAdd, Nat.reduceMul, Nat.reduceLeDiff, Nat.reduceSub, Nat.reduceBEq, Nat.reduceBNe, Nat.reduceBeqDiff, RT.at, RT.ty, RT.sub, RT.cut, RT.wr, getS, dep, okS, hclear, TV.len, XS.addRoot, XS.kill, XS.setRoot, pinAlso, Ty.flat, Ty.lev, Ty.dflt, Ty.width, setT, prodOf, tab, tL, tI, tB, LI, NI, LLI, tLL, tSL, SL, spWW, sameWSp]
  repeat' (first | with_reducible refine XW.seq ?_ | with_reducible refine XW.block ?_ | with_reducible refine XW.skip ?_ | with_reducible refine XW.exit ?_ | with_reducible refine XW.ret ?_ | ((first | with_reducible refine XW.region hC (fun K' hK' => ?_) | with_reducible refine XW.text hC hm_ok (by kernel_rfl) (fun K' hK' => ?_)); (try simp only [List.toList_toArray]); repeat' (first | with_reducible refine xrun_cons ?_ | with_reducible refine xtxt_cons ?_ | ((with_reducible show xord _ _ _ (_ :: _) _); refine xord_cons (by simp only [List.getElem?_toArray, List.getElem?_cons_succ, List.getElem?_cons_zero]; rfl) ?_) | ((first | with_reducible show xoper _ _ _ _ _ _ _ | with_reducible show xdo _ _ _ _ _ _); simp only [zz, stCall, stBox, oneOf, oneIn, named, locOf, locIn, stRoots, killAll, capAV, stVals, stBoxes, noP, isBoxP, stKeep, stCut, stAdd, distinctL, evs, XS.initS, envS, rtsS, locS, Option.map_some, wholeAV, noPin, capTV, XS.initC, envC, xoper, xwant, cutAt, bxAV, bld3AV, bld0AV, strIdx, XS.trunc, XS.inPlace, RT.withX, isNilP, isOneP, fldAV, fldP, fldR, cpAV, okB, loOf, hiOf, cutL, List.length_set, Int.reduceToNat, Int.reduceEq, List.getElem?_toArray, List.getElem?_cons_succ, List.getElem?_cons_zero, xgd_true, xgd_false, known, beq_true, beq_false, xdo, mpOp, mpSet, AV.setMp, AV.plain, isMove, nilAt, nilCmp, xpure, xpureT, xmem, XS.ev, constAV, XS.init, XS.initMv, env0, XS.put, XS.get, XS.root, lk, rm, dOK, PF.of, PR.pf, Option.map_none, Option.bind_some, Option.bind_none, opt2, binAV, idxAV, idxPair, bldAV, idxRO, idxRef, idxSub, idxArr, ldAV, ldPtr, lenAV, slAV, sameAV, convAV, TE.ty, appAV, own1, srcAV, stAV, mkAV, bsAV, alAV, argAV, argsAV, calleeOf, List.size_toArray, datOf, datsOf, retAV, retsAV, retsPut, castL_self, castV_self, fitD_self, List.length_cons, List.length_nil, List.map_cons, List.map_nil, if_true, if_false, forall_const, reduceCtorEq, ↓reduceIte, beq_self_eq_true, dite_true, dite_false, ne_eq, bne_self_eq_false, List.all_nil, List.all_cons, List.nil_append, List.cons_append, List.contains_nil, List.contains_cons, Ty.list.injEq, Ty.int.injEq, Ty.prod.injEq, List.cons.injEq, List.length_replicate, Option.some.injEq, Int.cast_ofNat_Int, binInt, cmpInt, binBool, binStr, Nat.reduceLT, Nat.reduceEqDiff, Nat.reduceAdd, Nat.reduceMul, Nat.reduceLeDiff, Nat.reduceSub, Nat.reduceBEq, Nat.reduceBNe, Nat.reduceBeqDiff, elAt, RT.at, RT.ty, RT.sub, RT.cut, RT.wr, getS, dep, okS, okNode, hclear, TV.len, TV.ew, XS.addRoot, XS.kill, XS.also, XS.setRoot, XS.redo, XS.redo2, XS.wrote, XS.took, pinAlso, nilRT, tchOf, tchOK, XS.pin, qOf, isNil, Ty.flat, Ty.lev, Ty.dflt, Ty.width, cutEnv, AV.shallow, shB, safeR, safeP, setT, bnd, capsOf, inR, outsOf, outOf, retK, XW.thn, XW.blk, prodOf, tab, tL, tI, tB, LI, NI, LLI, tLL, tSL, SL, spWW, sameWSp]) | with_reducible refine xgd_intro (fun hg => ?_) (fun hg => ?_) <;> (try simp only [zh, zz, reduceCtorEq, bne_iff_ne, beq_iff_eq, ne_eq, Decidable.not_not, beq_eq_false_iff_ne, bne_eq_false_iff_eq] at hg) | ((with_reducible show (_ : Bool) = true); kernel_rfl) | with_reducible refine And.intro ?_ ?_ | with_reducible refine xrun_nil ?_ | with_reducible refine xtxt_nil ?_ | with_reducible refine xord_nil ?_ | (refine hK' _ ?_; clear hK'; clear K') | (with_reducible intro hg; try simp only [zh, zz, reduceCtorEq, bne_iff_ne, beq_iff_eq, ne_eq, Decidable.not_not, beq_eq_false_iff_ne, bne_eq_false_iff_eq] at hg))) | ((with_reducible show XW _ _ _ _ (.cond _ _ _) _ _); refine XW.cond rfl (fun h => ?_) (fun h => ?_) <;> (try simp only [zh, zz, reduceCtorEq, bne_iff_ne, beq_iff_eq, ne_eq, Decidable.not_not, beq_eq_false_iff_ne, bne_eq_false_iff_eq] at h) <;> (try (exfalso; omega))) | ((with_reducible show XW.thn _ _ _ _); dsimp only [XW.thn]) | ((with_reducible show XW.blk _ _ _ _); simp only [XW.blk, ↓reduceIte, Nat.reduceEqDiff, Nat.zero_ne_one, Nat.one_ne_zero, ne_eq]) | ((with_reducible show retK _ _ _ _); simp only [retK, outsOf, outOf, zz, Option.map_some, List.length_set, Int.reduceToNat, Int.reduceEq, List.getElem?_toArray, List.getElem?_cons_succ, List.getElem?_cons_zero, beq_true, beq_false, XS.put, XS.get, XS.root, lk, rm, Option.map_none, Option.bind_some, Option.bind_none, opt2, List.size_toArray, castL_self, castV_self, fitD_self, List.length_cons, List.length_nil, List.map_cons, List.map_nil, if_true, if_false, forall_const, reduceCtorEq, ↓reduceIte, beq_self_eq_true, dite_true, dite_false, ne_eq, bne_self_eq_false, List.all_nil, List.all_cons, List.nil_append, List.cons_append, List.contains_nil, List.contains_cons, Ty.list.injEq, Ty.int.injEq, Ty.prod.injEq, List.cons.injEq, List.length_replicate, Option.some.injEq, Int.cast_ofNat_Int, Nat.reduceLT, Nat.reduceEqDiff, Nat.reduceAdd, Nat.reduceMul, Nat.reduceLeDiff, Nat.reduceSub, Nat.reduceBEq, Nat.reduceBNe, Nat.reduceBeqDiff, RT.at, RT.ty, RT.sub, RT.cut, RT.wr, getS, dep, okS, hclear, TV.len, XS.addRoot, XS.kill, XS.setRoot, pinAlso, Ty.flat, Ty.lev, Ty.dflt, Ty.width, setT, prodOf, tab, tL, tI, tB, LI, NI, LLI, tLL, tSL, SL, spWW, sameWSp])); all_goals (try (first | omega | with_reducible exact Int.le_refl _ | (show (_ : Int) ≤ _; omega)))
  · rw [decide_eq_false (by rintro rfl; exact h rfl)] at hk
    exact hk
  · refine ⟨i + 1, [], ⟨by omega, by omega, ?_⟩, by omega, ?_⟩
    · rw [show (i + 1).toNat = i.toNat + 1 by omega, take_succ_getD ByteArray.empty (by omega), take_succ_getD ByteArray.empty (by omega), hi.2.2, ba_inj h]
    · simp only [Fits, distinct, fitEnv, fitB, fitL, fitRoots, fitRT, idsOK, AV.ids, zz, Option.map_some, List.length_set, Int.reduceToNat, Int.reduceEq, List.getElem?_toArray, List.getElem?_cons_succ, List.getElem?_cons_zero, beq_true, beq_false, XS.put, XS.get, XS.root, lk, rm, Option.map_none, Option.bind_some, Option.bind_none, opt2, List.size_toArray, castL_self, castV_self, fitD_self, List.length_cons, List.length_nil, List.map_cons, List.map_nil, if_true, if_false, forall_const, reduceCtorEq, ↓reduceIte, beq_self_eq_true, dite_true, dite_false, ne_eq, bne_self_eq_false, List.all_nil, List.all_cons, List.nil_append, List.cons_append, List.contains_nil, List.contains_cons, Ty.list.injEq, Ty.int.injEq, Ty.prod.injEq, List.cons.injEq, List.length_replicate, Option.some.injEq, Int.cast_ofNat_Int, Nat.reduceLT, Nat.reduceEqDiff, Nat.reduceAdd, Nat.reduceMul, Nat.reduceLeDiff, Nat.reduceSub, Nat.reduceBEq, Nat.reduceBNe, Nat.reduceBeqDiff, RT.at, RT.ty, RT.sub, RT.cut, RT.wr, getS, dep, okS, hclear, TV.len, XS.addRoot, XS.kill, XS.setRoot, pinAlso, Ty.flat, Ty.lev, Ty.dflt, Ty.width, setT, prodOf, tab, tL, tI, tB, LI, NI, LLI, tLL, tSL, SL, spWW, sameWSp]
  · have e := hi.2.2
    rw [List.take_of_length_le (by omega), List.take_of_length_le (by omega)] at e
    rw [decide_eq_true e] at hk
    exact hk

/-! ### What is left of a box -/
theorem takeWhile_all {α : Type} {f : α → Bool} : ∀ {l : List α}, (∀ r ∈ l, f r = true) → l.takeWhile f = l
  | [], _ => rfl
  | a :: l, h => by rw [List.takeWhile_cons, if_pos (h a (List.mem_cons_self ..)), takeWhile_all fun r hr => h r (List.mem_cons_of_mem _ hr)]
theorem mirC_across {p : List (List Int)} {z : Int} (h : pileP p z) : across p = mirC p := by
  unfold across mirC
  refine List.map_congr_left fun j hj => ?_
  have hj' := List.mem_range.1 hj
  unfold colC
  congr 1
  refine takeWhile_all fun r hr => decide_eq_true ?_
  obtain ⟨i, hi, rfl⟩ := List.mem_iff_getElem.1 hr
  have := pile_row h hi
  rw [List.getD_eq_getElem?_getD, List.getElem?_eq_getElem hi] at this
  simp only [Option.getD_some] at this
  omega
/-- i rows of the left-over pile stand, and j boxes of the next. -/
def gS (p : List (List Int)) (z : Int) (y w i j : Nat) : Nat → Nat → Int := fun r k =>
  if y - 1 - r < i then z - gv p (y - 1 - r) (w - 1 - k) else if y - 1 - r = i ∧ w - 1 - k < j then z - gv p (y - 1 - r) (w - 1 - k) else gv p r k
theorem gS_start {p : List (List Int)} {z : Int} (h : pileP p z) : p = gridF p.length (p.getD 0 []).length (gS p z p.length (p.getD 0 []).length 0 0) := by
  apply List.ext_getElem
  · rw [gridF_len]
  · intro r h1 h2
    have e := gridF_get (z := (p.getD 0 []).length) (gS p z p.length (p.getD 0 []).length 0 0) h1
    rw [List.getD_eq_getElem?_getD, List.getElem?_eq_getElem h2] at e
    simp only [Option.getD_some] at e
    rw [e]
    have hl := pile_row h h1
    rw [List.getD_eq_getElem?_getD, List.getElem?_eq_getElem h1] at hl
    simp only [Option.getD_some] at hl
    apply List.ext_getElem
    · rw [rowF_len]; exact hl
    · intro k k1 k2
      have hk : k < (p.getD 0 []).length := by omega
      have e2 := rowF_get (gS p z p.length (p.getD 0 []).length 0 0 r) hk
      rw [List.getD_eq_getElem?_getD, List.getElem?_eq_getElem k2] at e2
      simp only [Option.getD_some] at e2
      rw [e2]
      unfold gS gv
      rw [if_neg (Nat.not_lt_zero _), if_neg (fun c => Nat.not_lt_zero _ c.2), List.getD_eq_getElem?_getD, List.getD_eq_getElem?_getD, List.getElem?_eq_getElem h1]
      simp only [Option.getD_some]
      rw [List.getElem?_eq_getElem k1]
      rfl
theorem gS_next (p : List (List Int)) (z : Int) (y w i : Nat) : gridF y w (gS p z y w i w) = gridF y w (gS p z y w (i + 1) 0) :=
  gridF_ext fun r hr j hj => by
    unfold gS
    by_cases e : y - 1 - r < i
    · rw [if_pos e, if_pos (by omega)]
    · rw [if_neg e]
      by_cases e2 : y - 1 - r = i
      · rw [if_pos (show y - 1 - r = i ∧ w - 1 - j < w from ⟨e2, by omega⟩), if_pos (by omega)]
      · rw [if_neg (fun c => e2 c.1), if_neg (by omega), if_neg (fun c => Nat.not_lt_zero _ c.2)]
theorem gS_inc (p : List (List Int)) (z : Int) {y w i j : Nat} (hi : i < y) (hj : j < w) : (gridF y w (gS p z y w i j)).set (y - 1 - i) ((rowF w (gS p z y w i j (y - 1 - i))).set (w - 1 - j) (z - gv p i j)) = gridF y w (gS p z y w i (j + 1)) :=
  gridF_set (by omega) (by omega) fun r hr k hk => by
    unfold gS
    by_cases e : y - 1 - r < i
    · rw [if_pos e, if_pos e, if_neg (show ¬ (r = y - 1 - i ∧ k = w - 1 - j) from fun c => by omega)]
    · rw [if_neg e, if_neg e]
      by_cases e2 : y - 1 - r = i
      · by_cases e3 : k = w - 1 - j
        · rw [if_pos (show y - 1 - r = i ∧ w - 1 - k < j + 1 from ⟨e2, by omega⟩), if_pos (show r = y - 1 - i ∧ k = w - 1 - j from ⟨by omega, e3⟩), e2, show w - 1 - k = j by omega]
        · rw [if_neg (show ¬ (r = y - 1 - i ∧ k = w - 1 - j) from fun c => e3 c.2)]
          by_cases e4 : w - 1 - k < j
          · rw [if_pos (show y - 1 - r = i ∧ w - 1 - k < j + 1 from ⟨e2, by omega⟩), if_pos (show y - 1 - r = i ∧ w - 1 - k < j from ⟨e2, e4⟩)]
          · rw [if_neg (show ¬ (y - 1 - r = i ∧ w - 1 - k < j + 1) from fun c => by omega), if_neg (show ¬ (y - 1 - r = i ∧ w - 1 - k < j) from fun c => e4 c.2)]
      · rw [if_neg (show ¬ (y - 1 - r = i ∧ w - 1 - k < j + 1) from fun c => e2 c.1), if_neg (show ¬ (r = y - 1 - i ∧ k = w - 1 - j) from fun c => by omega), if_neg (show ¬ (y - 1 - r = i ∧ w - 1 - k < j) from fun c => e2 c.1)]
theorem gS_end {p : List (List Int)} {z : Int} (h : pileP p z) : gridF p.length (p.getD 0 []).length (gS p z p.length (p.getD 0 []).length p.length 0) = restC p z := by
  unfold gridF restC
  apply List.ext_getElem
  · simp
  · intro r h1 h2
    have hr : r < p.length := by simpa using h1
    have hl := pile_row h (show p.length - 1 - r < p.length by omega)
    have hq : p.getD (p.length - 1 - r) [] = p[p.length - 1 - r]'(by omega) := by
      rw [List.getD_eq_getElem?_getD, List.getElem?_eq_getElem (show p.length - 1 - r < p.length by omega)]; rfl
    rw [hq] at hl
    simp only [List.getElem_map, List.getElem_range, List.getElem_reverse]
    unfold rowF rs
    apply List.ext_getElem
    · simp only [List.length_map, List.length_range, List.length_reverse]; exact hl.symm
    · intro k k1 k2
      have hk : k < (p.getD 0 []).length := by simpa using k1
      simp only [List.getElem_map, List.getElem_range, List.getElem_reverse]
      unfold gS gv
      rw [if_pos (by omega), hq, ← hl, List.getD_eq_getElem?_getD, List.getElem?_eq_getElem (show (p[p.length - 1 - r]'(by omega)).length - 1 - k < (p[p.length - 1 - r]'(by omega)).length by omega)]
      rfl

end Fer
