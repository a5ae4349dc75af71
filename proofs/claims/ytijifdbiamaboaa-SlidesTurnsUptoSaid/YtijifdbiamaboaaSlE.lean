/-
  Walk: ferref.Slid. No condition.
-/
import Derived.Test.YtijifdbiamaboaaRows
import Derived.Test.YtijifdbiamaboaaSlD
set_option linter.unusedSimpArgs false
set_option linter.unusedVariables false
set_option maxHeartbeats 8000000
-- SPECS: tL, tI, tB, LI, NI, LLI, tLL, spL, spLI, spIL, spLL, spT, spTT, spTI, spII, twinSp, slidSp, rslidSp, tPr, List.set_cons_zero, List.getD_cons_zero
namespace Fer
open Go Go.Proofs

set_option maxRecDepth 10000 in
theorem rslid_ok : FnOK Try.prog 24 rslidSp := by
  have hC : CtxOK Try.prog ⟨107, tab, fun f => lk [(38, twinSp)] f, fun f => lk [] f, fun f => lk [] f, fun f => lk [] f⟩ := ctx_ok ⟨rtwin_ok, trivial⟩ trivial trivial trivial
  refine FnOK_ofC (C := ⟨107, tab, fun f => lk [(38, twinSp)] f, fun f => lk [] f, fun f => lk [] f, fun f => lk [] f⟩) 24 Try.f24 _ [.tmp 6, .cell 7 39] rslidSp tab_ok Try.func24 rfl (by decide) rfl rfl (Nat.le_of_ble_eq_true rfl) fun args K ht hK w0 => ?_
  obtain ⟨t, i0, j0, rfl, ⟨q0, q1, q2, q3, q4, q5, q6⟩, hnn0, hk⟩ : ∃ t i0 j0, args = [tLL t, tI i0, tI j0] ∧ slPre t i0 j0 ∧ (∀ k l, 0 ≤ vl t k l) ∧ K [tLL (slN 100 t i0.toNat j0.toNat).1, tPr ((slN 100 t i0.toNat j0.toNat).2.1, (slN 100 t i0.toNat j0.toNat).2.2)] := by
    match args, ht, hK with
    | [⟨t, x⟩, ⟨u, y⟩, ⟨v, z⟩], ht, hK =>
      simp only [rslidSp, List.map_cons, List.map_nil, List.cons.injEq, and_true] at ht
      obtain ⟨rfl, rfl, rfl⟩ := ht
      exact ⟨x, y, z, rfl, hK⟩
    | [], ht, _ => simp [rslidSp] at ht
    | [_], ht, _ => simp [rslidSp] at ht
    | [_, _], ht, _ => simp [rslidSp] at ht
    | _ :: _ :: _ :: _ :: _, ht, _ => simp [rslidSp] at ht
  obtain ⟨i1, rfl⟩ : ∃ i1 : Nat, i0 = i1 := ⟨i0.toNat, by omega⟩
  obtain ⟨j1, rfl⟩ : ∃ j1 : Nat, j0 = j1 := ⟨j0.toNat, by omega⟩
  simp only [Int.toNat_natCast] at hk q6
  obtain ⟨R, hR⟩ : ∃ R, R = slN 100 t i1 j1 := ⟨_, rfl⟩
  rw [← hR] at hk
  have hrl : ∀ k, k < t.length → (t.getD k []).length ≤ 1000000 := fun k _ => by
    have : ln t k ≤ ln t 0 := anti_le q1 (Nat.zero_le k)
    show ln t k ≤ _
    omega
  repeat' (first | with_reducible refine XW.seq ?_ | with_reducible refine XW.block ?_ | with_reducible refine XW.skip ?_ | with_reducible refine XW.exit ?_ | with_reducible refine XW.ret ?_ | ((first | with_reducible refine XW.region hC (fun K' hK' => ?_) | with_reducible refine XW.text hC hm_ok (by kernel_rfl) (fun K' hK' => ?_)); (try simp only [List.toList_toArray]); repeat' (first | with_reducible refine xrun_cons ?_ | with_reducible refine xtxt_cons ?_ | ((with_reducible show xord _ _ _ (_ :: _) _); refine xord_cons (by simp only [List.getElem?_toArray, List.getElem?_cons_succ, List.getElem?_cons_zero]; rfl) ?_) | ((first | with_reducible show xoper _ _ _ _ _ _ _ | with_reducible show xdo _ _ _ _ _ _); simp only [zz, wholeAV, noPin, capTV, XS.initC, envC, xoper, xwant, cutAt, bxAV, bld3AV, bld0AV, strIdx, XS.trunc, XS.inPlace, RT.withX, isNilP, isOneP, fldAV, fldP, fldR, cpAV, okB, loOf, hiOf, cutL, List.length_set, Int.reduceToNat, Int.reduceEq, List.getElem?_toArray, List.getElem?_cons_succ, List.getElem?_cons_zero, xgd_true, xgd_false, known, beq_true, beq_false, xdo, mpOp, mpSet, AV.setMp, AV.plain, isMove, nilAt, nilCmp, xpure, xpureT, xmem, XS.ev, constAV, XS.init, XS.initMv, env0, XS.put, XS.get, XS.root, lk, rm, dOK, PF.of, PR.pf, Option.map_some, Option.map_none, Option.bind_some, Option.bind_none, opt2, binAV, idxAV, idxPair, bldAV, idxRO, idxRef, idxSub, idxArr, ldAV, ldPtr, lenAV, slAV, sameAV, convAV, TE.ty, appAV, own1, srcAV, stAV, mkAV, bsAV, alAV, argAV, argsAV, calleeOf, List.size_toArray, datOf, datsOf, retAV, retsAV, retsPut, castL_self, castV_self, fitD_self, List.length_cons, List.length_nil, List.map_cons, List.map_nil, if_true, if_false, forall_const, reduceCtorEq, ↓reduceIte, beq_self_eq_true, dite_true, dite_false, ne_eq, bne_self_eq_false, List.all_nil, List.all_cons, List.nil_append, List.cons_append, List.contains_nil, List.contains_cons, Ty.list.injEq, Ty.int.injEq, Ty.prod.injEq, List.cons.injEq, List.length_replicate, Option.some.injEq, Int.cast_ofNat_Int, binInt, cmpInt, binBool, binStr, Nat.reduceLT, Nat.reduceEqDiff, Nat.reduceAdd, Nat.reduceMul, Nat.reduceLeDiff, Nat.reduceSub, Nat.reduceBEq, Nat.reduceBNe, Nat.reduceBeqDiff, elAt, RT.at, RT.ty, RT.sub, RT.cut, RT.wr, getS, dep, okS, okNode, hclear, TV.len, TV.ew, XS.addRoot, XS.kill, XS.also, XS.setRoot, XS.redo, XS.redo2, XS.wrote, XS.took, pinAlso, nilRT, tchOf, tchOK, XS.pin, qOf, isNil, Ty.flat, Ty.lev, Ty.dflt, Ty.width, cutEnv, AV.shallow, shB, safeR, safeP, setT, bnd, capsOf, inR, outsOf, outOf, retK, XW.thn, XW.blk, prodOf, tab, tL, tI, tB, LI, NI, LLI, tLL, spL, spLI, spIL, spLL, spT, spTT, spTI, spII, twinSp, slidSp, rslidSp, tPr, List.set_cons_zero, List.getD_cons_zero]) | with_reducible refine xgd_intro (fun hg => ?_) (fun hg => ?_) <;> (try simp only [zh, zz, reduceCtorEq, bne_iff_ne, beq_iff_eq, ne_eq, Decidable.not_not, beq_eq_false_iff_ne, bne_eq_false_iff_eq] at hg) | ((with_reducible show (_ : Bool) = true); kernel_rfl) | with_reducible refine And.intro ?_ ?_ | with_reducible refine xrun_nil ?_ | with_reducible refine xtxt_nil ?_ | with_reducible refine xord_nil ?_ | (refine hK' _ ?_; clear hK'; clear K') | (with_reducible intro hg; try simp only [zh, zz, reduceCtorEq, bne_iff_ne, beq_iff_eq, ne_eq, Decidable.not_not, beq_eq_false_iff_ne, bne_eq_false_iff_eq] at hg))) | ((with_reducible show XW _ _ _ _ (.cond _ _ _) _ _); refine XW.cond rfl (fun h => ?_) (fun h => ?_) <;> (try simp only [zh, zz, reduceCtorEq, bne_iff_ne, beq_iff_eq, ne_eq, Decidable.not_not, beq_eq_false_iff_ne, bne_eq_false_iff_eq] at h) <;> (try (exfalso; omega))) | ((with_reducible show XW.thn _ _ _ _); dsimp only [XW.thn]) | ((with_reducible show XW.blk _ _ _ _); simp only [XW.blk, ↓reduceIte, Nat.reduceEqDiff, Nat.zero_ne_one, Nat.one_ne_zero, ne_eq]) | ((with_reducible show retC _ _ _ _ _); simp only [retC, outsV, outV, outsOf, outOf, TE.ty, prodOf, Option.bind_some, zz, List.length_set, Int.reduceToNat, Int.reduceEq, List.getElem?_toArray, List.getElem?_cons_succ, List.getElem?_cons_zero, beq_true, beq_false, XS.put, XS.get, XS.root, lk, rm, Option.map_some, Option.map_none, Option.bind_some, Option.bind_none, opt2, List.size_toArray, castL_self, castV_self, fitD_self, List.length_cons, List.length_nil, List.map_cons, List.map_nil, if_true, if_false, forall_const, reduceCtorEq, ↓reduceIte, beq_self_eq_true, dite_true, dite_false, ne_eq, bne_self_eq_false, List.all_nil, List.all_cons, List.nil_append, List.cons_append, List.contains_nil, List.contains_cons, Ty.list.injEq, Ty.int.injEq, Ty.prod.injEq, List.cons.injEq, List.length_replicate, Option.some.injEq, Int.cast_ofNat_Int, Nat.reduceLT, Nat.reduceEqDiff, Nat.reduceAdd, Nat.reduceMul, Nat.reduceLeDiff, Nat.reduceSub, Nat.reduceBEq, Nat.reduceBNe, Nat.reduceBeqDiff, RT.at, RT.ty, RT.sub, RT.cut, RT.wr, getS, dep, okS, hclear, TV.len, XS.addRoot, XS.kill, XS.setRoot, pinAlso, Ty.flat, Ty.lev, Ty.dflt, Ty.width, setT, prodOf, tab, tL, tI, tB, LI, NI, LLI, tLL, spL, spLI, spIL, spLL, spT, spTT, spTI, spII, twinSp, slidSp, rslidSp, tPr, List.set_cons_zero, List.getD_cons_zero])); all_goals (try (first | omega | with_reducible exact Int.le_refl _ | (show (_ : Int) ≤ _; omega)))
  · exact hrl _ (by omega)
  refine XW.loop (ι := Nat × Nat × Nat × List (List Int)) (fun q => ⟨[(1, .dat NI (q.1 : Int)), (2, .dat NI (q.2.1 : Int)), (8, .ref 0 []), (7, .ptr 1 [0])], [(0, ⟨30, LI, 1, q.2.2.2, none⟩), (1, ⟨39, .prod NI NI, 0, [(0, 0)], none⟩)], 2, []⟩)
    (fun q => q.2.2.2.length = t.length ∧ (∀ k, ln q.2.2.2 k = ln t k) ∧ q.1 < t.length ∧ q.2.1 < ln t q.1 ∧ 100 + i1 + j1 ≤ q.2.2.1 + q.1 + q.2.1 ∧ slN q.2.2.1 q.2.2.2 q.1 q.2.1 = R ∧ ∀ k l, 0 ≤ vl q.2.2.2 k l) (fun q => q.2.2.1) (i1, j1, 100, t) [(0, 2), (1, 1)]
    ⟨rfl, fun _ => rfl, by simp only; omega, by simp only; omega, by simp only; omega, hR.symm, hnn0⟩ ?_ ?_
  · simp only [Fits, distinct, fitEnv, fitB, fitL, fitRoots, fitRT, idsOK, AV.ids, zz, List.length_set, Int.reduceToNat, Int.reduceEq, List.getElem?_toArray, List.getElem?_cons_succ, List.getElem?_cons_zero, beq_true, beq_false, XS.put, XS.get, XS.root, lk, rm, Option.map_some, Option.map_none, Option.bind_some, Option.bind_none, opt2, List.size_toArray, castL_self, castV_self, fitD_self, List.length_cons, List.length_nil, List.map_cons, List.map_nil, if_true, if_false, forall_const, reduceCtorEq, ↓reduceIte, beq_self_eq_true, dite_true, dite_false, ne_eq, bne_self_eq_false, List.all_nil, List.all_cons, List.nil_append, List.cons_append, List.contains_nil, List.contains_cons, Ty.list.injEq, Ty.int.injEq, Ty.prod.injEq, List.cons.injEq, List.length_replicate, Option.some.injEq, Int.cast_ofNat_Int, Nat.reduceLT, Nat.reduceEqDiff, Nat.reduceAdd, Nat.reduceMul, Nat.reduceLeDiff, Nat.reduceSub, Nat.reduceBEq, Nat.reduceBNe, Nat.reduceBeqDiff, RT.at, RT.ty, RT.sub, RT.cut, RT.wr, getS, dep, okS, hclear, TV.len, XS.addRoot, XS.kill, XS.setRoot, pinAlso, Ty.flat, Ty.lev, Ty.dflt, Ty.width, setT, prodOf, tab, tL, tI, tB, LI, NI, LLI, tLL, spL, spLI, spIL, spLL, spT, spTT, spTI, spII, twinSp, slidSp, rslidSp, tPr, List.set_cons_zero, List.getD_cons_zero]
    skip
  rintro ⟨i, j, f, s⟩ ⟨h1, h2, h3, h4, h5, h6, hnn⟩
  simp only at h1 h2 h3 h4 h5 h6 hnn ⊢
  have hl0 : ln t i ≤ ln t 0 := anti_le q1 (Nat.zero_le i)
  obtain ⟨g, rfl⟩ : ∃ g, f = g + 1 := ⟨f - 1, by omega⟩
  have hsl : i < s.length := by omega
  have hsj : j < ln s i := by rw [h2]; exact h4
  have hdi := q1 i
  have hli : (s.getD i []).length = ln t i := h2 i
  have hli1 : (s.getD (i + 1) []).length = ln t (i + 1) := h2 (i + 1)
  have hi1 : i + 1 < s.length ∨ ln t (i + 1) = 0 := by
    by_cases e : i + 1 < s.length
    · exact .inl e
    · exact .inr (ln_out (by omega))
  have e1 : ((i : Int) + 1).toNat = i + 1 := by omega
  have e2 : ((j : Int) + 1).toNat = j + 1 := by omega
  have hli1' : (s.getD ((i : Int) + 1).toNat []).length = ln t (i + 1) := by rw [e1]; exact hli1
  have hright : ¬ (j : Int) + 1 < ((s.getD i []).length : Int) → List.getD (s.getD i []) ((j : Int) + 1).toNat 0 = 0 := fun h => by
    rw [e2]
    exact vl_out (show (s.getD i []).length ≤ j + 1 by omega)
  have hbelow : ¬ j < (s.getD ((i : Int) + 1).toNat []).length → List.getD (s.getD ((i : Int) + 1).toNat []) j 0 = 0 := fun h => by
    rw [e1] at h ⊢
    exact vl_out (show (s.getD (i + 1) []).length ≤ j by omega)
  have hbel2 : ¬ (i : Int) + 1 < (s.length : Int) → List.getD (s.getD ((i : Int) + 1).toNat []) j 0 = 0 := fun h => hbelow (by omega)
  unfold slN vl at h6
  rw [← e1, ← e2] at h6
  have hd : (0 < List.getD (s.getD ((i : Int) + 1).toNat []) j 0 ∧ (List.getD (s.getD i []) ((j : Int) + 1).toNat 0 = 0 ∨ List.getD (s.getD ((i : Int) + 1).toNat []) j 0 ≤ List.getD (s.getD i []) ((j : Int) + 1).toNat 0)) → slN g (s.set i ((s.getD i []).set j (List.getD (s.getD ((i : Int) + 1).toNat []) j 0))) (i + 1) j = R := fun h => by
    rw [if_pos h, e1] at h6
    rw [e1]
    exact h6
  have hr : ¬ (0 < List.getD (s.getD ((i : Int) + 1).toNat []) j 0 ∧ (List.getD (s.getD i []) ((j : Int) + 1).toNat 0 = 0 ∨ List.getD (s.getD ((i : Int) + 1).toNat []) j 0 ≤ List.getD (s.getD i []) ((j : Int) + 1).toNat 0)) → 0 < List.getD (s.getD i []) ((j : Int) + 1).toNat 0 → slN g (s.set i ((s.getD i []).set j (List.getD (s.getD i []) ((j : Int) + 1).toNat 0))) i (j + 1) = R := fun h h' => by
    rw [if_neg h, if_pos h', e2] at h6
    rw [e2]
    exact h6
  have hn1 : 0 ≤ List.getD (s.getD ((i : Int) + 1).toNat []) j 0 := hnn _ _
  have hn2 : 0 ≤ List.getD (s.getD i []) ((j : Int) + 1).toNat 0 := hnn _ _
  have hns : ∀ v : Int, 0 ≤ v → ∀ k l, 0 ≤ vl (s.set i ((s.getD i []).set j v)) k l := fun v hv k l => by
    rw [vl_set hsl hsj]
    split
    · exact hv
    · exact hnn k l
  have hk0 : ¬ (0 < List.getD (s.getD ((i : Int) + 1).toNat []) j 0 ∧ (List.getD (s.getD i []) ((j : Int) + 1).toNat 0 = 0 ∨ List.getD (s.getD ((i : Int) + 1).toNat []) j 0 ≤ List.getD (s.getD i []) ((j : Int) + 1).toNat 0)) → ¬ 0 < List.getD (s.getD i []) ((j : Int) + 1).toNat 0 → (j : Int) = 0 → K [tLL (List.take i (s.set i (List.take j (s.getD i [])))), tPr ((i : Int), (j : Int))] := fun h h' h0 => by
    rw [if_neg h, if_neg h'] at h6
    rw [← h6] at hk
    rw [List.take_set_of_le (Nat.le_refl _)]
    have e : slC s i j = s.take i := if_pos (by omega)
    rw [e] at hk
    exact hk
  have hk1 : ¬ (0 < List.getD (s.getD ((i : Int) + 1).toNat []) j 0 ∧ (List.getD (s.getD i []) ((j : Int) + 1).toNat 0 = 0 ∨ List.getD (s.getD ((i : Int) + 1).toNat []) j 0 ≤ List.getD (s.getD i []) ((j : Int) + 1).toNat 0)) → ¬ 0 < List.getD (s.getD i []) ((j : Int) + 1).toNat 0 → ¬ (j : Int) = 0 → K [tLL (s.set i (List.take j (s.getD i []))), tPr ((i : Int), (j : Int))] := fun h h' h0 => by
    rw [if_neg h, if_neg h'] at h6
    rw [← h6] at hk
    have e : slC s i j = s.set i (List.take j (s.getD i [])) := if_neg (by omega)
    rw [e] at hk
    exact hk
  clear h6
  repeat' (first | with_reducible refine XW.seq ?_ | with_reducible refine XW.block ?_ | with_reducible refine XW.skip ?_ | with_reducible refine XW.exit ?_ | with_reducible refine XW.ret ?_ | ((first | with_reducible refine XW.region hC (fun K' hK' => ?_) | with_reducible refine XW.text hC hm_ok (by kernel_rfl) (fun K' hK' => ?_)); (try simp only [List.toList_toArray]); repeat' (first | with_reducible refine xrun_cons ?_ | with_reducible refine xtxt_cons ?_ | ((with_reducible show xord _ _ _ (_ :: _) _); refine xord_cons (by simp only [List.getElem?_toArray, List.getElem?_cons_succ, List.getElem?_cons_zero]; rfl) ?_) | ((first | with_reducible show xoper _ _ _ _ _ _ _ | with_reducible show xdo _ _ _ _ _ _); simp only [zz, wholeAV, noPin, capTV, XS.initC, envC, xoper, xwant, cutAt, bxAV, bld3AV, bld0AV, strIdx, XS.trunc, XS.inPlace, RT.withX, isNilP, isOneP, fldAV, fldP, fldR, cpAV, okB, loOf, hiOf, cutL, List.length_set, Int.reduceToNat, Int.reduceEq, List.getElem?_toArray, List.getElem?_cons_succ, List.getElem?_cons_zero, xgd_true, xgd_false, known, beq_true, beq_false, xdo, mpOp, mpSet, AV.setMp, AV.plain, isMove, nilAt, nilCmp, xpure, xpureT, xmem, XS.ev, constAV, XS.init, XS.initMv, env0, XS.put, XS.get, XS.root, lk, rm, dOK, PF.of, PR.pf, Option.map_some, Option.map_none, Option.bind_some, Option.bind_none, opt2, binAV, idxAV, idxPair, bldAV, idxRO, idxRef, idxSub, idxArr, ldAV, ldPtr, lenAV, slAV, sameAV, convAV, TE.ty, appAV, own1, srcAV, stAV, mkAV, bsAV, alAV, argAV, argsAV, calleeOf, List.size_toArray, datOf, datsOf, retAV, retsAV, retsPut, castL_self, castV_self, fitD_self, List.length_cons, List.length_nil, List.map_cons, List.map_nil, if_true, if_false, forall_const, reduceCtorEq, ↓reduceIte, beq_self_eq_true, dite_true, dite_false, ne_eq, bne_self_eq_false, List.all_nil, List.all_cons, List.nil_append, List.cons_append, List.contains_nil, List.contains_cons, Ty.list.injEq, Ty.int.injEq, Ty.prod.injEq, List.cons.injEq, List.length_replicate, Option.some.injEq, Int.cast_ofNat_Int, binInt, cmpInt, binBool, binStr, Nat.reduceLT, Nat.reduceEqDiff, Nat.reduceAdd, Nat.reduceMul, Nat.reduceLeDiff, Nat.reduceSub, Nat.reduceBEq, Nat.reduceBNe, Nat.reduceBeqDiff, elAt, RT.at, RT.ty, RT.sub, RT.cut, RT.wr, getS, dep, okS, okNode, hclear, TV.len, TV.ew, XS.addRoot, XS.kill, XS.also, XS.setRoot, XS.redo, XS.redo2, XS.wrote, XS.took, pinAlso, nilRT, tchOf, tchOK, XS.pin, qOf, isNil, Ty.flat, Ty.lev, Ty.dflt, Ty.width, cutEnv, AV.shallow, shB, safeR, safeP, setT, bnd, capsOf, inR, outsOf, outOf, retK, XW.thn, XW.blk, prodOf, tab, tL, tI, tB, LI, NI, LLI, tLL, spL, spLI, spIL, spLL, spT, spTT, spTI, spII, twinSp, slidSp, rslidSp, tPr, List.set_cons_zero, List.getD_cons_zero]) | with_reducible refine xgd_intro (fun hg => ?_) (fun hg => ?_) <;> (try simp only [zh, zz, reduceCtorEq, bne_iff_ne, beq_iff_eq, ne_eq, Decidable.not_not, beq_eq_false_iff_ne, bne_eq_false_iff_eq] at hg) | ((with_reducible show (_ : Bool) = true); kernel_rfl) | with_reducible refine And.intro ?_ ?_ | with_reducible refine xrun_nil ?_ | with_reducible refine xtxt_nil ?_ | with_reducible refine xord_nil ?_ | (refine hK' _ ?_; clear hK'; clear K') | (with_reducible intro hg; try simp only [zh, zz, reduceCtorEq, bne_iff_ne, beq_iff_eq, ne_eq, Decidable.not_not, beq_eq_false_iff_ne, bne_eq_false_iff_eq] at hg))) | ((with_reducible show XW _ _ _ _ (.cond _ _ _) _ _); refine XW.cond rfl (fun h => ?_) (fun h => ?_) <;> (try simp only [zh, zz, reduceCtorEq, bne_iff_ne, beq_iff_eq, ne_eq, Decidable.not_not, beq_eq_false_iff_ne, bne_eq_false_iff_eq] at h) <;> (try (exfalso; omega))) | ((with_reducible show XW.thn _ _ _ _); dsimp only [XW.thn]) | ((with_reducible show XW.blk _ _ _ _); simp only [XW.blk, ↓reduceIte, Nat.reduceEqDiff, Nat.zero_ne_one, Nat.one_ne_zero, ne_eq]) | ((with_reducible show retC _ _ _ _ _); simp only [retC, outsV, outV, outsOf, outOf, TE.ty, prodOf, Option.bind_some, zz, List.length_set, Int.reduceToNat, Int.reduceEq, List.getElem?_toArray, List.getElem?_cons_succ, List.getElem?_cons_zero, beq_true, beq_false, XS.put, XS.get, XS.root, lk, rm, Option.map_some, Option.map_none, Option.bind_some, Option.bind_none, opt2, List.size_toArray, castL_self, castV_self, fitD_self, List.length_cons, List.length_nil, List.map_cons, List.map_nil, if_true, if_false, forall_const, reduceCtorEq, ↓reduceIte, beq_self_eq_true, dite_true, dite_false, ne_eq, bne_self_eq_false, List.all_nil, List.all_cons, List.nil_append, List.cons_append, List.contains_nil, List.contains_cons, Ty.list.injEq, Ty.int.injEq, Ty.prod.injEq, List.cons.injEq, List.length_replicate, Option.some.injEq, Int.cast_ofNat_Int, Nat.reduceLT, Nat.reduceEqDiff, Nat.reduceAdd, Nat.reduceMul, Nat.reduceLeDiff, Nat.reduceSub, Nat.reduceBEq, Nat.reduceBNe, Nat.reduceBeqDiff, RT.at, RT.ty, RT.sub, RT.cut, RT.wr, getS, dep, okS, hclear, TV.len, XS.addRoot, XS.kill, XS.setRoot, pinAlso, Ty.flat, Ty.lev, Ty.dflt, Ty.width, setT, prodOf, tab, tL, tI, tB, LI, NI, LLI, tLL, spL, spLI, spIL, spLL, spT, spTT, spTI, spII, twinSp, slidSp, rslidSp, tPr, List.set_cons_zero, List.getD_cons_zero])); all_goals (try (first | omega | with_reducible exact Int.le_refl _ | (show (_ : Int) ≤ _; omega)))
  all_goals first
    | (refine ⟨(i + 1, j, g, s.set i ((s.getD i []).set j (List.getD (s.getD ((i : Int) + 1).toNat []) j 0))), [(0, 0), (1, 1)], ⟨by simpa using h1, fun k => (ln_set2 hsl _ k).trans (h2 k), by simp only; omega, by simp only; omega, by simp only; omega, hd (by omega), hns _ hn1⟩, by simp only; omega, ?_⟩
       simp only [Fits, distinct, fitEnv, fitB, fitL, fitRoots, fitRT, idsOK, AV.ids, zz, List.length_set, Int.reduceToNat, Int.reduceEq, List.getElem?_toArray, List.getElem?_cons_succ, List.getElem?_cons_zero, beq_true, beq_false, XS.put, XS.get, XS.root, lk, rm, Option.map_some, Option.map_none, Option.bind_some, Option.bind_none, opt2, List.size_toArray, castL_self, castV_self, fitD_self, List.length_cons, List.length_nil, List.map_cons, List.map_nil, if_true, if_false, forall_const, reduceCtorEq, ↓reduceIte, beq_self_eq_true, dite_true, dite_false, ne_eq, bne_self_eq_false, List.all_nil, List.all_cons, List.nil_append, List.cons_append, List.contains_nil, List.contains_cons, Ty.list.injEq, Ty.int.injEq, Ty.prod.injEq, List.cons.injEq, List.length_replicate, Option.some.injEq, Int.cast_ofNat_Int, Nat.reduceLT, Nat.reduceEqDiff, Nat.reduceAdd, Nat.reduceMul, Nat.reduceLeDiff, Nat.reduceSub, Nat.reduceBEq, Nat.reduceBNe, Nat.reduceBeqDiff, RT.at, RT.ty, RT.sub, RT.cut, RT.wr, getS, dep, okS, hclear, TV.len, XS.addRoot, XS.kill, XS.setRoot, pinAlso, Ty.flat, Ty.lev, Ty.dflt, Ty.width, setT, prodOf, tab, tL, tI, tB, LI, NI, LLI, tLL, spL, spLI, spIL, spLL, spT, spTT, spTI, spII, twinSp, slidSp, rslidSp, tPr, List.set_cons_zero, List.getD_cons_zero]
       rfl)
    | (refine ⟨(i, j + 1, g, s.set i ((s.getD i []).set j (List.getD (s.getD i []) ((j : Int) + 1).toNat 0))), [(0, 0), (1, 1)], ⟨by simpa using h1, fun k => (ln_set2 hsl _ k).trans (h2 k), by simp only; omega, by simp only; omega, by simp only; omega, hr (by omega) (by omega), hns _ hn2⟩, by simp only; omega, ?_⟩
       simp only [Fits, distinct, fitEnv, fitB, fitL, fitRoots, fitRT, idsOK, AV.ids, zz, List.length_set, Int.reduceToNat, Int.reduceEq, List.getElem?_toArray, List.getElem?_cons_succ, List.getElem?_cons_zero, beq_true, beq_false, XS.put, XS.get, XS.root, lk, rm, Option.map_some, Option.map_none, Option.bind_some, Option.bind_none, opt2, List.size_toArray, castL_self, castV_self, fitD_self, List.length_cons, List.length_nil, List.map_cons, List.map_nil, if_true, if_false, forall_const, reduceCtorEq, ↓reduceIte, beq_self_eq_true, dite_true, dite_false, ne_eq, bne_self_eq_false, List.all_nil, List.all_cons, List.nil_append, List.cons_append, List.contains_nil, List.contains_cons, Ty.list.injEq, Ty.int.injEq, Ty.prod.injEq, List.cons.injEq, List.length_replicate, Option.some.injEq, Int.cast_ofNat_Int, Nat.reduceLT, Nat.reduceEqDiff, Nat.reduceAdd, Nat.reduceMul, Nat.reduceLeDiff, Nat.reduceSub, Nat.reduceBEq, Nat.reduceBNe, Nat.reduceBeqDiff, RT.at, RT.ty, RT.sub, RT.cut, RT.wr, getS, dep, okS, hclear, TV.len, XS.addRoot, XS.kill, XS.setRoot, pinAlso, Ty.flat, Ty.lev, Ty.dflt, Ty.width, setT, prodOf, tab, tL, tI, tB, LI, NI, LLI, tLL, spL, spLI, spIL, spLL, spT, spTT, spTI, spII, twinSp, slidSp, rslidSp, tPr, List.set_cons_zero, List.getD_cons_zero]
       rfl)
    | exact hk0 (by omega) (by omega) (by omega)
    | exact hk1 (by omega) (by omega) (by omega)

end Fer
