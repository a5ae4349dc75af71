/-
  The walk of ferlaw.PathsFamilies: it answers true of starts and ends of at most 10^6 points together. No other condition.
-/
import Derived.Test.YtmaahmcdejoclaaRows
import Derived.Test.YtmaahmcdejoclaaPtJ
import Derived.Test.YtmaahmcdejoclaaPtK
set_option linter.unusedSimpArgs false
set_option linter.unusedVariables false
set_option maxHeartbeats 8000000
-- SPECS: tL, tI, tB, LI, NI, LLI, tLL, PTt, LPT, tPT, GT, tG, SLt, apartSp, firstSp, sidesSp, lookedSp, sameSSp, isOrdSp, spL, spW2, List.set_cons_zero, List.getD_cons_zero
namespace Fer
open Go Go.Proofs

theorem fam0_of {W H : Int} {b s t : List Pt} {way : List Int} (h : sideE W H b s t = 0) (hw : way.length = s.length ∨ way = [0, 1, 2, 3]) (hy : ∀ i : Nat, i < s.length → 0 ≤ way.getD i 0 ∧ way.getD i 0 < s.length) :
    FamOK (FV.mk0 W H s t way) := by
  obtain ⟨⟨⟨g1, g2, g3, g4⟩, g5, g6⟩, h2, h3, h4, h5⟩ := side_zero h
  exact ⟨g1, g2, g3, g4, h2, h3, h5, h4.symm, hw, hy⟩
theorem run_looked {W H : Int} {b s t : List Pt} (h : sideE W H b s t = 0) (way : List Int) : (runP W H b s t way false).2 = lookedV b s t way 1000000 := by
  obtain ⟨⟨⟨g1, g2, g3, g4⟩, g5, g6⟩, h2, h3, h4, h5⟩ := side_zero h
  unfold runP lookedV nxt
  by_cases hs : s = []
  · subst hs
    rfl
  · have hl : 0 < s.length := List.length_pos_iff.2 hs
    rw [if_pos (show (0 : Int) < (s.length : Int) by omega), if_neg hs]
    exact congrArg Prod.snd (srch_PR (E := ⟨s, t, way, 1000000, false⟩) ⟨g1, g2, g3, g4, h2, h3⟩ 65 0 _ _ b [] _ (Int.le_refl _) (getD_in g1 g2 h2 0))
theorem run_stop {W H : Int} {b s t : List Pt} (h : sideE W H b s t = 0) (way : List Int) : runP W H b s t way true = nxt blkR addR ⟨s, t, way, 1000000, true⟩ 65 0 b [] ⟨0, 0, [], 0⟩ := by
  obtain ⟨⟨⟨g1, g2, g3, g4⟩, g5, g6⟩, h2, h3, h4, h5⟩ := side_zero h
  unfold runP nxt
  by_cases hs : s = []
  · subst hs
    rfl
  · have hl : 0 < s.length := List.length_pos_iff.2 hs
    rw [if_pos (show (0 : Int) < (s.length : Int) by omega), if_pos (show (0 : Int) < (s.length : Int) by omega)]
    exact srch_PR (E := ⟨s, t, way, 1000000, true⟩) ⟨g1, g2, g3, g4, h2, h3⟩ 65 0 _ _ b [] _ (Int.le_refl _) (getD_in g1 g2 h2 0)

/-- What First answers, beside what is looked for. -/
theorem first_looked {W H : Int} {b s t : List Pt} (h : sideE W H b s t = 0) :
    firstV W H b s t = if 0 < (lookedV b s t [0, 1, 2, 3] 1000000).found ∨ s = [] then ((lookedV b s t [0, 1, 2, 3] 1000000).first, 0) else if 1000000 < (lookedV b s t [0, 1, 2, 3] 1000000).steps then ([], 2) else ([], 5) := by
  unfold firstV
  rw [if_neg (fun hn => hn h), run_stop h]
  by_cases hs : s = []
  · subst hs
    rw [if_pos (Or.inr rfl)]
    rfl
  · have hl : 0 < s.length := List.length_pos_iff.2 hs
    unfold nxt lookedV
    rw [if_pos (show (0 : Int) < (s.length : Int) by omega)]
    simp only [if_neg hs]
    have hi := srch_inv (blk := blkR) (add := addR) (E := ⟨s, t, [0, 1, 2, 3], 1000000, false⟩) 65 0 (s.getD 0 (0, 0)) ByteArray.empty b [] ⟨0, 0, [], 0⟩ ⟨Int.le_refl _, Int.le_refl _, by show (0 : Int) ≤ 1000000 + 1; omega, .inl ⟨rfl, rfl⟩⟩ (by show (0 : Int) ≤ 1000000; omega)
    have hst := srch_stop (blk := blkR) (add := addR) (E := ⟨s, t, [0, 1, 2, 3], 1000000, false⟩) (E' := ⟨s, t, [0, 1, 2, 3], 1000000, true⟩) rfl rfl 65 0 (s.getD 0 (0, 0)) ByteArray.empty b [] ⟨0, 0, [], 0⟩ rfl
    have hf := hi.1.fd
    generalize srch blkR addR ⟨s, t, [0, 1, 2, 3], 1000000, false⟩ 65 0 (s.getD 0 (0, 0)) ByteArray.empty b [] ⟨0, 0, [], 0⟩ = r at hi hst hf ⊢
    show (if 0 < (srch blkR addR ⟨s, t, [0, 1, 2, 3], 1000000, true⟩ 65 0 (s.getD 0 (0, 0)) ByteArray.empty b [] ⟨0, 0, [], 0⟩).2.n then ((srch blkR addR ⟨s, t, [0, 1, 2, 3], 1000000, true⟩ 65 0 (s.getD 0 (0, 0)) ByteArray.empty b [] ⟨0, 0, [], 0⟩).2.first, 0) else if 1000000 < (srch blkR addR ⟨s, t, [0, 1, 2, 3], 1000000, true⟩ 65 0 (s.getD 0 (0, 0)) ByteArray.empty b [] ⟨0, 0, [], 0⟩).2.steps then ([], 2) else ([], 5)) = _
    generalize srch blkR addR ⟨s, t, [0, 1, 2, 3], 1000000, true⟩ 65 0 (s.getD 0 (0, 0)) ByteArray.empty b [] ⟨0, 0, [], 0⟩ = q at hst ⊢
    rcases hst with ⟨h1, rfl⟩ | ⟨h1, h2, h3, h4⟩
    · rcases hf with ⟨h5, h6⟩ | ⟨h5, h6⟩
      · rw [if_neg (by rw [h1]; omega), if_neg (show ¬ (0 < q.2.found ∨ s = []) by rw [h6]; simp [hs])]
      · omega
    · rcases hf with ⟨h5, h6⟩ | ⟨h5, h6⟩
      · omega
      · rw [if_pos (by rw [h3]; omega), if_pos (Or.inl h6), h4]
theorem apart_looked {W H : Int} {b s t : List Pt} {way : List Int} (h : sideE W H b s t = 0) (ho : ordE way s.length = 0) :
    apartV W H b s t way = if 1000000 < (lookedV b s t way 1000000).steps then (0, 2) else ((lookedV b s t way 1000000).n, 0) := by
  unfold apartV
  rw [if_neg (fun hn => hn h), if_neg (fun hn => hn ho), run_looked h]

theorem apart_bad {W H : Int} {b s t : List Pt} {way : List Int} (h : sideE W H b s t = 0) {e : Int} (ho : ordE way s.length = e) (he : e ≠ 0) : apartV W H b s t way = (0, e) := by
  unfold apartV
  rw [if_neg (fun hn => hn h), if_pos (by rw [ho]; exact he), ho]

noncomputable def pfSp : Spec := ⟨[GT, LPT, LPT, .list 3 (.int .i64)], fun args K => match args with
  | [⟨.prod (.int _) (.prod (.int _) (.list _ (.prod (.int _) (.int _)))), g⟩, ⟨.list _ (.prod (.int _) (.int _)), s⟩, ⟨.list _ (.prod (.int _) (.int _)), t⟩, ⟨.list _ (.int _), way⟩] =>
    ([s, t].flatten.length ≤ 1000000) ∧ K [tB true]
  | _ => False⟩
theorem at_pf {args : List TV} {K : List TV → Prop} (ht : args.map (·.t) = pfSp.ps) (hK : pfSp.wp args K) :
    ∃ W H b s t way, args = [tG W H b, tPT s, tPT t, tL way] ∧ [s, t].flatten.length ≤ 1000000 ∧ K [tB true] := by
  match args, ht, hK with
  | [⟨t, x⟩, ⟨u, y⟩, ⟨v, z⟩, ⟨w, q⟩], ht, hK =>
    simp only [pfSp, List.map_cons, List.map_nil, List.cons.injEq, and_true] at ht
    obtain ⟨rfl, rfl, rfl, rfl⟩ := ht
    exact ⟨x.1, x.2.1, x.2.2, y, z, q, rfl, hK⟩
  | [], ht, _ => simp [pfSp] at ht
  | [_], ht, _ => simp [pfSp] at ht
  | [_, _], ht, _ => simp [pfSp] at ht
  | [_, _, _], ht, _ => simp [pfSp] at ht
  | _ :: _ :: _ :: _ :: _ :: _, ht, _ => simp [pfSp] at ht

theorem getD4 {i n : Nat} (hi : i < n) (hn : n ≤ 4) : 0 ≤ ([0, 1, 2, 3] : List Int).getD i 0 ∧ ([0, 1, 2, 3] : List Int).getD i 0 < n := by
  have : i = 0 ∨ i = 1 ∨ i = 2 ∨ i = 3 := by omega
  rcases this with rfl | rfl | rfl | rfl <;> exact ⟨by decide, by simp; omega⟩

set_option maxRecDepth 10000 in
theorem pf_ok : FnOK Try.prog 5 pfSp := by
  have hC : ∀ {w0 : World} {S0 : Nat → Prop}, CtxOK Try.prog ⟨149, tab, fun f => lk [(24, apartSp), (25, firstSp), (26, sidesSp), (27, lookedSp), (28, sameSSp), (29, isOrdSp)] f, fun f => lk [] f, fun f => lk [] f, fun f => lk [] f, fun f => lk [] f⟩ w0 S0 := ctx_ok ⟨apart_ok, first_ok, rsides_ok, looked_ok, sameS_ok, isord_ok, trivial⟩ trivial trivial trivial trivial
  refine FnOK_of (C := ⟨149, tab, fun f => lk [(24, apartSp), (25, firstSp), (26, sidesSp), (27, lookedSp), (28, sameSSp), (29, isOrdSp)] f, fun f => lk [] f, fun f => lk [] f, fun f => lk [] f, fun f => lk [] f⟩) 5 Try.f5 _ [8] pfSp Try.func5 rfl (by decide) rfl rfl (Nat.le_of_ble_eq_true rfl) fun args K ht hK w0 => ?_
  classical
  obtain ⟨W, H, b, sa, ta, way, rfl, hl, hk⟩ := at_pf ht hK
  by_cases hs : sideE W H b sa ta = 0
  rotate_left
  · have hA : apartV W H b sa ta way = (0, sideE W H b sa ta) := if_pos hs
    have hF : firstV W H b sa ta = ([], sideE W H b sa ta) := if_pos hs
    repeat' (first | with_reducible refine XW.seq ?_ | with_reducible refine XW.block ?_ | with_reducible refine XW.skip ?_ | with_reducible refine XW.exit ?_ | with_reducible refine XW.ret ?_ | ((first | with_reducible refine XW.region hC (fun K' hK' => ?_) | with_reducible refine XW.text hC hm_ok (by kernel_rfl) (fun K' hK' => ?_)); (try simp only [List.toList_toArray]); repeat' (first | with_reducible refine xrun_cons ?_ | with_reducible refine xtxt_cons ?_ | ((first | with_reducible show xoper _ _ _ _ _ _ _ | with_reducible show xdo _ _ _ _ _ _); simp only [zd, zb, zz, RT.at, RT.ty, RT.sub, RT.cut, RT.wr, getS, setT, Ty.dflt, lk, Ty.st, stV, unV, prodTV, Int.reduceToNat, Int.reduceEq, reduceCtorEq, Nat.reduceLT, Nat.reduceEqDiff, Nat.reduceAdd, Nat.reduceMul, Nat.reduceLeDiff, Nat.reduceSub, Nat.reduceBEq, Nat.reduceBNe, Nat.reduceBeqDiff, ↓reduceIte, tab, tL, tI, tB, LI, NI, LLI, tLL, PTt, LPT, tPT, GT, tG, SLt, apartSp, firstSp, sidesSp, lookedSp, sameSSp, isOrdSp, spL, spW2, List.set_cons_zero, List.getD_cons_zero, hA, hF]) | with_reducible refine xgd_intro (fun hg => ?_) (fun hg => ?_) <;> (try simp only [zh, zz, reduceCtorEq, bne_iff_ne, beq_iff_eq, ne_eq, Decidable.not_not, beq_eq_false_iff_ne, bne_eq_false_iff_eq] at hg) | ((with_reducible show (_ : Bool) = true); kernel_rfl) | with_reducible refine And.intro ?_ ?_ | with_reducible refine xrun_nil ?_ | with_reducible refine xtxt_nil ?_ | (refine hK' _ ?_; clear hK'; clear K') | (with_reducible intro hg; try simp only [zh, zz, reduceCtorEq, bne_iff_ne, beq_iff_eq, ne_eq, Decidable.not_not, beq_eq_false_iff_ne, bne_eq_false_iff_eq] at hg))) | ((with_reducible show XW _ _ _ _ (.cond _ _ _) _ _); refine XW.cond rfl (fun h => ?_) (fun h => ?_) <;> (try simp only [zh, zz, reduceCtorEq, bne_iff_ne, beq_iff_eq, ne_eq, Decidable.not_not, beq_eq_false_iff_ne, bne_eq_false_iff_eq] at h) <;> (try (exfalso; omega))) | ((with_reducible show XW.thn _ _ _ _); dsimp only [XW.thn]) | ((with_reducible show XW.blk _ _ _ _); simp only [XW.blk, ↓reduceIte, Nat.reduceEqDiff, Nat.zero_ne_one, Nat.one_ne_zero, ne_eq]) | ((with_reducible show retK _ _ _ _); simp only [retK, outsOf, outOf, zb, zz, RT.at, RT.ty, RT.sub, RT.cut, RT.wr, getS, setT, Ty.dflt, lk, Ty.st, stV, unV, prodTV, Int.reduceToNat, Int.reduceEq, reduceCtorEq, Nat.reduceLT, Nat.reduceEqDiff, Nat.reduceAdd, Nat.reduceMul, Nat.reduceLeDiff, Nat.reduceSub, Nat.reduceBEq, Nat.reduceBNe, Nat.reduceBeqDiff, ↓reduceIte, tab, tL, tI, tB, LI, NI, LLI, tLL, PTt, LPT, tPT, GT, tG, SLt, apartSp, firstSp, sidesSp, lookedSp, sameSSp, isOrdSp, spL, spW2, List.set_cons_zero, List.getD_cons_zero, hA, hF])); all_goals (try (first | omega | with_reducible exact Int.le_refl _ | (show (_ : Int) ≤ _; omega)))
    all_goals first
      | exact hk
      | exact hl
      | exact absurd (by assumption) hs
      | skip
  have hgr := (side_zero hs).1
  have hs4 := (side_zero hs).2.2.2.2
  have hF := first_looked hs
  have hfam : FamOK (FV.mk0 W H sa ta [0, 1, 2, 3]) := fam0_of hs (.inr rfl) fun i hi => getD4 hi hs4
  have cutB : ∀ s, (∃ (x : Unit) (ren : List (Nat × Nat)), (fun _x => True) x ∧ Fits ren s ((fun _x => (⟨[(1, .dat LPT sa), (2, .dat LPT ta), (3, .dat LI way), (4, .ptr 0 [0]), (9, .dat NI (apartV W H b sa ta way).1), (10, .dat NI (apartV W H b sa ta way).2)], [(0, ⟨50, GT, 0, [(W, H, b)], none⟩)], 1, []⟩ : XS)) x)) → XW Try.prog ⟨149, tab, fun f => lk [(24, apartSp), (25, firstSp), (26, sidesSp), (27, lookedSp), (28, sameSSp), (29, isOrdSp)] f, fun f => lk [] f, fun f => lk [] f, fun f => lk [] f, fun f => lk [] f⟩ w0 (oldS w0) (tl 7 (Try.f5.body.getD .skip)) (retK [8] K) s := XW.cut (fun _x => (⟨[(1, .dat LPT sa), (2, .dat LPT ta), (3, .dat LI way), (4, .ptr 0 [0]), (9, .dat NI (apartV W H b sa ta way).1), (10, .dat NI (apartV W H b sa ta way).2)], [(0, ⟨50, GT, 0, [(W, H, b)], none⟩)], 1, []⟩ : XS)) (fun _x => True) fun _x hI => by
    dsimp only [tl, Try.f5, Option.getD]
    by_cases ho : (way.length : Int) = sa.length
    rotate_left
    · have hA : apartV W H b sa ta way = (0, 3) := apart_bad hs (if_pos ho) (by decide)
      repeat' (first | with_reducible refine XW.seq ?_ | with_reducible refine XW.block ?_ | with_reducible refine XW.skip ?_ | with_reducible refine XW.exit ?_ | with_reducible refine XW.ret ?_ | ((first | with_reducible refine XW.region hC (fun K' hK' => ?_) | with_reducible refine XW.text hC hm_ok (by kernel_rfl) (fun K' hK' => ?_)); (try simp only [List.toList_toArray]); repeat' (first | with_reducible refine xrun_cons ?_ | with_reducible refine xtxt_cons ?_ | ((first | with_reducible show xoper _ _ _ _ _ _ _ | with_reducible show xdo _ _ _ _ _ _); simp only [zd, zb, zz, RT.at, RT.ty, RT.sub, RT.cut, RT.wr, getS, setT, Ty.dflt, lk, Ty.st, stV, unV, prodTV, Int.reduceToNat, Int.reduceEq, reduceCtorEq, Nat.reduceLT, Nat.reduceEqDiff, Nat.reduceAdd, Nat.reduceMul, Nat.reduceLeDiff, Nat.reduceSub, Nat.reduceBEq, Nat.reduceBNe, Nat.reduceBeqDiff, ↓reduceIte, tab, tL, tI, tB, LI, NI, LLI, tLL, PTt, LPT, tPT, GT, tG, SLt, apartSp, firstSp, sidesSp, lookedSp, sameSSp, isOrdSp, spL, spW2, List.set_cons_zero, List.getD_cons_zero, hA]) | with_reducible refine xgd_intro (fun hg => ?_) (fun hg => ?_) <;> (try simp only [zh, zz, reduceCtorEq, bne_iff_ne, beq_iff_eq, ne_eq, Decidable.not_not, beq_eq_false_iff_ne, bne_eq_false_iff_eq] at hg) | ((with_reducible show (_ : Bool) = true); kernel_rfl) | with_reducible refine And.intro ?_ ?_ | with_reducible refine xrun_nil ?_ | with_reducible refine xtxt_nil ?_ | (refine hK' _ ?_; clear hK'; clear K') | (with_reducible intro hg; try simp only [zh, zz, reduceCtorEq, bne_iff_ne, beq_iff_eq, ne_eq, Decidable.not_not, beq_eq_false_iff_ne, bne_eq_false_iff_eq] at hg))) | ((with_reducible show XW _ _ _ _ (.cond _ _ _) _ _); refine XW.cond rfl (fun h => ?_) (fun h => ?_) <;> (try simp only [zh, zz, reduceCtorEq, bne_iff_ne, beq_iff_eq, ne_eq, Decidable.not_not, beq_eq_false_iff_ne, bne_eq_false_iff_eq] at h) <;> (try (exfalso; omega))) | ((with_reducible show XW.thn _ _ _ _); dsimp only [XW.thn]) | ((with_reducible show XW.blk _ _ _ _); simp only [XW.blk, ↓reduceIte, Nat.reduceEqDiff, Nat.zero_ne_one, Nat.one_ne_zero, ne_eq]) | ((with_reducible show retK _ _ _ _); simp only [retK, outsOf, outOf, zb, zz, RT.at, RT.ty, RT.sub, RT.cut, RT.wr, getS, setT, Ty.dflt, lk, Ty.st, stV, unV, prodTV, Int.reduceToNat, Int.reduceEq, reduceCtorEq, Nat.reduceLT, Nat.reduceEqDiff, Nat.reduceAdd, Nat.reduceMul, Nat.reduceLeDiff, Nat.reduceSub, Nat.reduceBEq, Nat.reduceBNe, Nat.reduceBeqDiff, ↓reduceIte, tab, tL, tI, tB, LI, NI, LLI, tLL, PTt, LPT, tPT, GT, tG, SLt, apartSp, firstSp, sidesSp, lookedSp, sameSSp, isOrdSp, spL, spW2, List.set_cons_zero, List.getD_cons_zero, hA])); all_goals (try (first | omega | with_reducible exact Int.le_refl _ | (show (_ : Int) ≤ _; omega)))
      all_goals first
        | exact hk
        | (exfalso; omega)
        | skip
    by_cases ho2 : ordP way
    rotate_left
    · have hA : apartV W H b sa ta way = (0, 1) := apart_bad hs ((if_neg (fun h => h ho)).trans (if_neg ho2)) (by decide)
      have hI : decide (isOrd way) = false := decide_eq_false fun h => ho2 ((ord_iff way).2 h)
      repeat' (first | with_reducible refine XW.seq ?_ | with_reducible refine XW.block ?_ | with_reducible refine XW.skip ?_ | with_reducible refine XW.exit ?_ | with_reducible refine XW.ret ?_ | ((first | with_reducible refine XW.region hC (fun K' hK' => ?_) | with_reducible refine XW.text hC hm_ok (by kernel_rfl) (fun K' hK' => ?_)); (try simp only [List.toList_toArray]); repeat' (first | with_reducible refine xrun_cons ?_ | with_reducible refine xtxt_cons ?_ | ((first | with_reducible show xoper _ _ _ _ _ _ _ | with_reducible show xdo _ _ _ _ _ _); simp only [zd, zb, zz, RT.at, RT.ty, RT.sub, RT.cut, RT.wr, getS, setT, Ty.dflt, lk, Ty.st, stV, unV, prodTV, Int.reduceToNat, Int.reduceEq, reduceCtorEq, Nat.reduceLT, Nat.reduceEqDiff, Nat.reduceAdd, Nat.reduceMul, Nat.reduceLeDiff, Nat.reduceSub, Nat.reduceBEq, Nat.reduceBNe, Nat.reduceBeqDiff, ↓reduceIte, tab, tL, tI, tB, LI, NI, LLI, tLL, PTt, LPT, tPT, GT, tG, SLt, apartSp, firstSp, sidesSp, lookedSp, sameSSp, isOrdSp, spL, spW2, List.set_cons_zero, List.getD_cons_zero, hA, hI]) | with_reducible refine xgd_intro (fun hg => ?_) (fun hg => ?_) <;> (try simp only [zh, zz, reduceCtorEq, bne_iff_ne, beq_iff_eq, ne_eq, Decidable.not_not, beq_eq_false_iff_ne, bne_eq_false_iff_eq] at hg) | ((with_reducible show (_ : Bool) = true); kernel_rfl) | with_reducible refine And.intro ?_ ?_ | with_reducible refine xrun_nil ?_ | with_reducible refine xtxt_nil ?_ | (refine hK' _ ?_; clear hK'; clear K') | (with_reducible intro hg; try simp only [zh, zz, reduceCtorEq, bne_iff_ne, beq_iff_eq, ne_eq, Decidable.not_not, beq_eq_false_iff_ne, bne_eq_false_iff_eq] at hg))) | ((with_reducible show XW _ _ _ _ (.cond _ _ _) _ _); refine XW.cond rfl (fun h => ?_) (fun h => ?_) <;> (try simp only [zh, zz, reduceCtorEq, bne_iff_ne, beq_iff_eq, ne_eq, Decidable.not_not, beq_eq_false_iff_ne, bne_eq_false_iff_eq] at h) <;> (try (exfalso; omega))) | ((with_reducible show XW.thn _ _ _ _); dsimp only [XW.thn]) | ((with_reducible show XW.blk _ _ _ _); simp only [XW.blk, ↓reduceIte, Nat.reduceEqDiff, Nat.zero_ne_one, Nat.one_ne_zero, ne_eq]) | ((with_reducible show retK _ _ _ _); simp only [retK, outsOf, outOf, zb, zz, RT.at, RT.ty, RT.sub, RT.cut, RT.wr, getS, setT, Ty.dflt, lk, Ty.st, stV, unV, prodTV, Int.reduceToNat, Int.reduceEq, reduceCtorEq, Nat.reduceLT, Nat.reduceEqDiff, Nat.reduceAdd, Nat.reduceMul, Nat.reduceLeDiff, Nat.reduceSub, Nat.reduceBEq, Nat.reduceBNe, Nat.reduceBeqDiff, ↓reduceIte, tab, tL, tI, tB, LI, NI, LLI, tLL, PTt, LPT, tPT, GT, tG, SLt, apartSp, firstSp, sidesSp, lookedSp, sameSSp, isOrdSp, spL, spW2, List.set_cons_zero, List.getD_cons_zero, hA, hI])); all_goals (try (first | omega | with_reducible exact Int.le_refl _ | (show (_ : Int) ≤ _; omega)))
      all_goals first
        | exact hk
        | (exfalso; omega)
        | skip
    have hoe : ordE way sa.length = 0 := by
      unfold ordE
      rw [if_neg (fun h => h ho), if_pos ho2]
    have hA := apart_looked hs hoe
    have hI : decide (isOrd way) = true := decide_eq_true ((ord_iff way).1 ho2)
    have hfw : FamOK (FV.mk0 W H sa ta way) := fam0_of hs (.inl (by omega)) fun i hi => ⟨(ho2 i (by omega)).1, by have := (ho2 i (by omega)).2.1; omega⟩
    obtain ⟨R, hR⟩ : ∃ R, lookedV b sa ta way 1000000 = R := ⟨_, rfl⟩
    rw [hR] at hA
    obtain ⟨r0, r1, r2, r3⟩ := R
    by_cases hl3 : 1000000 < r0
    · have hA : apartV W H b sa ta way = (0, 2) := by rw [hA]; exact if_pos hl3
      repeat' (first | with_reducible refine XW.seq ?_ | with_reducible refine XW.block ?_ | with_reducible refine XW.skip ?_ | with_reducible refine XW.exit ?_ | with_reducible refine XW.ret ?_ | ((first | with_reducible refine XW.region hC (fun K' hK' => ?_) | with_reducible refine XW.text hC hm_ok (by kernel_rfl) (fun K' hK' => ?_)); (try simp only [List.toList_toArray]); repeat' (first | with_reducible refine xrun_cons ?_ | with_reducible refine xtxt_cons ?_ | ((first | with_reducible show xoper _ _ _ _ _ _ _ | with_reducible show xdo _ _ _ _ _ _); simp only [zd, zb, zz, RT.at, RT.ty, RT.sub, RT.cut, RT.wr, getS, setT, Ty.dflt, lk, Ty.st, stV, unV, prodTV, Int.reduceToNat, Int.reduceEq, reduceCtorEq, Nat.reduceLT, Nat.reduceEqDiff, Nat.reduceAdd, Nat.reduceMul, Nat.reduceLeDiff, Nat.reduceSub, Nat.reduceBEq, Nat.reduceBNe, Nat.reduceBeqDiff, ↓reduceIte, tab, tL, tI, tB, LI, NI, LLI, tLL, PTt, LPT, tPT, GT, tG, SLt, apartSp, firstSp, sidesSp, lookedSp, sameSSp, isOrdSp, spL, spW2, List.set_cons_zero, List.getD_cons_zero, hA, hI, hR]) | with_reducible refine xgd_intro (fun hg => ?_) (fun hg => ?_) <;> (try simp only [zh, zz, reduceCtorEq, bne_iff_ne, beq_iff_eq, ne_eq, Decidable.not_not, beq_eq_false_iff_ne, bne_eq_false_iff_eq] at hg) | ((with_reducible show (_ : Bool) = true); kernel_rfl) | with_reducible refine And.intro ?_ ?_ | with_reducible refine xrun_nil ?_ | with_reducible refine xtxt_nil ?_ | (refine hK' _ ?_; clear hK'; clear K') | (with_reducible intro hg; try simp only [zh, zz, reduceCtorEq, bne_iff_ne, beq_iff_eq, ne_eq, Decidable.not_not, beq_eq_false_iff_ne, bne_eq_false_iff_eq] at hg))) | ((with_reducible show XW _ _ _ _ (.cond _ _ _) _ _); refine XW.cond rfl (fun h => ?_) (fun h => ?_) <;> (try simp only [zh, zz, reduceCtorEq, bne_iff_ne, beq_iff_eq, ne_eq, Decidable.not_not, beq_eq_false_iff_ne, bne_eq_false_iff_eq] at h) <;> (try (exfalso; omega))) | ((with_reducible show XW.thn _ _ _ _); dsimp only [XW.thn]) | ((with_reducible show XW.blk _ _ _ _); simp only [XW.blk, ↓reduceIte, Nat.reduceEqDiff, Nat.zero_ne_one, Nat.one_ne_zero, ne_eq]) | ((with_reducible show retK _ _ _ _); simp only [retK, outsOf, outOf, zb, zz, RT.at, RT.ty, RT.sub, RT.cut, RT.wr, getS, setT, Ty.dflt, lk, Ty.st, stV, unV, prodTV, Int.reduceToNat, Int.reduceEq, reduceCtorEq, Nat.reduceLT, Nat.reduceEqDiff, Nat.reduceAdd, Nat.reduceMul, Nat.reduceLeDiff, Nat.reduceSub, Nat.reduceBEq, Nat.reduceBNe, Nat.reduceBeqDiff, ↓reduceIte, tab, tL, tI, tB, LI, NI, LLI, tLL, PTt, LPT, tPT, GT, tG, SLt, apartSp, firstSp, sidesSp, lookedSp, sameSSp, isOrdSp, spL, spW2, List.set_cons_zero, List.getD_cons_zero, hA, hI, hR])); all_goals (try (first | omega | with_reducible exact Int.le_refl _ | (show (_ : Int) ≤ _; omega)))
      all_goals first
        | exact hk
        | exact ⟨hgr, hfw, by omega, by omega⟩
        | (exfalso; omega)
        | skip
    · have hA : apartV W H b sa ta way = (r1, 0) := by rw [hA]; exact if_neg hl3
      repeat' (first | with_reducible refine XW.seq ?_ | with_reducible refine XW.block ?_ | with_reducible refine XW.skip ?_ | with_reducible refine XW.exit ?_ | with_reducible refine XW.ret ?_ | ((first | with_reducible refine XW.region hC (fun K' hK' => ?_) | with_reducible refine XW.text hC hm_ok (by kernel_rfl) (fun K' hK' => ?_)); (try simp only [List.toList_toArray]); repeat' (first | with_reducible refine xrun_cons ?_ | with_reducible refine xtxt_cons ?_ | ((first | with_reducible show xoper _ _ _ _ _ _ _ | with_reducible show xdo _ _ _ _ _ _); simp only [zd, zb, zz, RT.at, RT.ty, RT.sub, RT.cut, RT.wr, getS, setT, Ty.dflt, lk, Ty.st, stV, unV, prodTV, Int.reduceToNat, Int.reduceEq, reduceCtorEq, Nat.reduceLT, Nat.reduceEqDiff, Nat.reduceAdd, Nat.reduceMul, Nat.reduceLeDiff, Nat.reduceSub, Nat.reduceBEq, Nat.reduceBNe, Nat.reduceBeqDiff, ↓reduceIte, tab, tL, tI, tB, LI, NI, LLI, tLL, PTt, LPT, tPT, GT, tG, SLt, apartSp, firstSp, sidesSp, lookedSp, sameSSp, isOrdSp, spL, spW2, List.set_cons_zero, List.getD_cons_zero, hA, hI, hR]) | with_reducible refine xgd_intro (fun hg => ?_) (fun hg => ?_) <;> (try simp only [zh, zz, reduceCtorEq, bne_iff_ne, beq_iff_eq, ne_eq, Decidable.not_not, beq_eq_false_iff_ne, bne_eq_false_iff_eq] at hg) | ((with_reducible show (_ : Bool) = true); kernel_rfl) | with_reducible refine And.intro ?_ ?_ | with_reducible refine xrun_nil ?_ | with_reducible refine xtxt_nil ?_ | (refine hK' _ ?_; clear hK'; clear K') | (with_reducible intro hg; try simp only [zh, zz, reduceCtorEq, bne_iff_ne, beq_iff_eq, ne_eq, Decidable.not_not, beq_eq_false_iff_ne, bne_eq_false_iff_eq] at hg))) | ((with_reducible show XW _ _ _ _ (.cond _ _ _) _ _); refine XW.cond rfl (fun h => ?_) (fun h => ?_) <;> (try simp only [zh, zz, reduceCtorEq, bne_iff_ne, beq_iff_eq, ne_eq, Decidable.not_not, beq_eq_false_iff_ne, bne_eq_false_iff_eq] at h) <;> (try (exfalso; omega))) | ((with_reducible show XW.thn _ _ _ _); dsimp only [XW.thn]) | ((with_reducible show XW.blk _ _ _ _); simp only [XW.blk, ↓reduceIte, Nat.reduceEqDiff, Nat.zero_ne_one, Nat.one_ne_zero, ne_eq]) | ((with_reducible show retK _ _ _ _); simp only [retK, outsOf, outOf, zb, zz, RT.at, RT.ty, RT.sub, RT.cut, RT.wr, getS, setT, Ty.dflt, lk, Ty.st, stV, unV, prodTV, Int.reduceToNat, Int.reduceEq, reduceCtorEq, Nat.reduceLT, Nat.reduceEqDiff, Nat.reduceAdd, Nat.reduceMul, Nat.reduceLeDiff, Nat.reduceSub, Nat.reduceBEq, Nat.reduceBNe, Nat.reduceBeqDiff, ↓reduceIte, tab, tL, tI, tB, LI, NI, LLI, tLL, PTt, LPT, tPT, GT, tG, SLt, apartSp, firstSp, sidesSp, lookedSp, sameSSp, isOrdSp, spL, spW2, List.set_cons_zero, List.getD_cons_zero, hA, hI, hR])); all_goals (try (first | omega | with_reducible exact Int.le_refl _ | (show (_ : Int) ≤ _; omega)))
      all_goals first
        | exact hk
        | exact ⟨hgr, hfw, by omega, by omega⟩
        | (exfalso; omega)
        | skip
  dsimp only [tl, Try.f5, Option.getD] at cutB
  obtain ⟨R, hR⟩ : ∃ R, lookedV b sa ta [0, 1, 2, 3] 1000000 = R := ⟨_, rfl⟩
  rw [hR] at hF
  obtain ⟨r0, r1, r2, r3⟩ := R
  by_cases h1 : 0 < r3 ∨ sa = []
  · have hF : firstV W H b sa ta = (r2, 0) := by rw [hF]; exact if_pos h1
    have h2 : 0 < r3 ∨ sa.length = 0 := h1.imp id fun h => by rw [h]; rfl
    repeat' (first | with_reducible refine cutB _ ?_ | with_reducible refine XW.seq ?_ | with_reducible refine XW.block ?_ | with_reducible refine XW.skip ?_ | with_reducible refine XW.exit ?_ | with_reducible refine XW.ret ?_ | ((first | with_reducible refine XW.region hC (fun K' hK' => ?_) | with_reducible refine XW.text hC hm_ok (by kernel_rfl) (fun K' hK' => ?_)); (try simp only [List.toList_toArray]); repeat' (first | with_reducible refine xrun_cons ?_ | with_reducible refine xtxt_cons ?_ | ((first | with_reducible show xoper _ _ _ _ _ _ _ | with_reducible show xdo _ _ _ _ _ _); simp only [zd, zb, zz, RT.at, RT.ty, RT.sub, RT.cut, RT.wr, getS, setT, Ty.dflt, lk, Ty.st, stV, unV, prodTV, Int.reduceToNat, Int.reduceEq, reduceCtorEq, Nat.reduceLT, Nat.reduceEqDiff, Nat.reduceAdd, Nat.reduceMul, Nat.reduceLeDiff, Nat.reduceSub, Nat.reduceBEq, Nat.reduceBNe, Nat.reduceBeqDiff, ↓reduceIte, tab, tL, tI, tB, LI, NI, LLI, tLL, PTt, LPT, tPT, GT, tG, SLt, apartSp, firstSp, sidesSp, lookedSp, sameSSp, isOrdSp, spL, spW2, List.set_cons_zero, List.getD_cons_zero, hs, hF, hR]) | with_reducible refine xgd_intro (fun hg => ?_) (fun hg => ?_) <;> (try simp only [zh, zz, reduceCtorEq, bne_iff_ne, beq_iff_eq, ne_eq, Decidable.not_not, beq_eq_false_iff_ne, bne_eq_false_iff_eq] at hg) | ((with_reducible show (_ : Bool) = true); kernel_rfl) | with_reducible refine And.intro ?_ ?_ | with_reducible refine xrun_nil ?_ | with_reducible refine xtxt_nil ?_ | (refine hK' _ ?_; clear hK'; clear K') | (with_reducible intro hg; try simp only [zh, zz, reduceCtorEq, bne_iff_ne, beq_iff_eq, ne_eq, Decidable.not_not, beq_eq_false_iff_ne, bne_eq_false_iff_eq] at hg))) | ((with_reducible show XW _ _ _ _ (.cond _ _ _) _ _); refine XW.cond rfl (fun h => ?_) (fun h => ?_) <;> (try simp only [zh, zz, reduceCtorEq, bne_iff_ne, beq_iff_eq, ne_eq, Decidable.not_not, beq_eq_false_iff_ne, bne_eq_false_iff_eq] at h) <;> (try (exfalso; omega))) | ((with_reducible show XW.thn _ _ _ _); dsimp only [XW.thn]) | ((with_reducible show XW.blk _ _ _ _); simp only [XW.blk, ↓reduceIte, Nat.reduceEqDiff, Nat.zero_ne_one, Nat.one_ne_zero, ne_eq]) | ((with_reducible show retK _ _ _ _); simp only [retK, outsOf, outOf, zb, zz, RT.at, RT.ty, RT.sub, RT.cut, RT.wr, getS, setT, Ty.dflt, lk, Ty.st, stV, unV, prodTV, Int.reduceToNat, Int.reduceEq, reduceCtorEq, Nat.reduceLT, Nat.reduceEqDiff, Nat.reduceAdd, Nat.reduceMul, Nat.reduceLeDiff, Nat.reduceSub, Nat.reduceBEq, Nat.reduceBNe, Nat.reduceBeqDiff, ↓reduceIte, tab, tL, tI, tB, LI, NI, LLI, tLL, PTt, LPT, tPT, GT, tG, SLt, apartSp, firstSp, sidesSp, lookedSp, sameSSp, isOrdSp, spL, spW2, List.set_cons_zero, List.getD_cons_zero, hs, hF, hR])); all_goals (try (first | omega | with_reducible exact Int.le_refl _ | (show (_ : Int) ≤ _; omega)))
    all_goals first
      | exact hl
      | exact ⟨hgr, hfam, by omega, by omega⟩
      | (refine ⟨(), [(0, 0)], trivial, ?_⟩; simp only [Fits, distinct, fitEnv, fitB, fitL, fitRoots, fitRT, idsOK, AV.ids, zb, zz, RT.at, RT.ty, RT.sub, RT.cut, RT.wr, getS, setT, Ty.dflt, lk, Ty.st, stV, unV, prodTV, Int.reduceToNat, Int.reduceEq, reduceCtorEq, Nat.reduceLT, Nat.reduceEqDiff, Nat.reduceAdd, Nat.reduceMul, Nat.reduceLeDiff, Nat.reduceSub, Nat.reduceBEq, Nat.reduceBNe, Nat.reduceBeqDiff, ↓reduceIte, tab, tL, tI, tB, LI, NI, LLI, tLL, PTt, LPT, tPT, GT, tG, SLt, apartSp, firstSp, sidesSp, lookedSp, sameSSp, isOrdSp, spL, spW2, List.set_cons_zero, List.getD_cons_zero]; done)
      | (refine ⟨(), [(0, 0)], trivial, ?_⟩; simp only [Fits, distinct, fitEnv, fitB, fitL, fitRoots, fitRT, idsOK, AV.ids, zb, zz, RT.at, RT.ty, RT.sub, RT.cut, RT.wr, getS, setT, Ty.dflt, lk, Ty.st, stV, unV, prodTV, Int.reduceToNat, Int.reduceEq, reduceCtorEq, Nat.reduceLT, Nat.reduceEqDiff, Nat.reduceAdd, Nat.reduceMul, Nat.reduceLeDiff, Nat.reduceSub, Nat.reduceBEq, Nat.reduceBNe, Nat.reduceBeqDiff, ↓reduceIte, tab, tL, tI, tB, LI, NI, LLI, tLL, PTt, LPT, tPT, GT, tG, SLt, apartSp, firstSp, sidesSp, lookedSp, sameSSp, isOrdSp, spL, spW2, List.set_cons_zero, List.getD_cons_zero]; first | rfl | exact ⟨rfl, rfl⟩ | exact ⟨rfl, rfl, rfl⟩)
      | (exfalso; omega)
      | skip
  have h2 : ¬ 0 < r3 := fun h => h1 (.inl h)
  have h3 : sa.length ≠ 0 := fun h => h1 (.inr (List.length_eq_zero_iff.1 h))
  by_cases h4 : 1000000 < r0
  · have hF : firstV W H b sa ta = ([], 2) := by rw [hF]; exact (if_neg h1).trans (if_pos h4)
    repeat' (first | with_reducible refine cutB _ ?_ | with_reducible refine XW.seq ?_ | with_reducible refine XW.block ?_ | with_reducible refine XW.skip ?_ | with_reducible refine XW.exit ?_ | with_reducible refine XW.ret ?_ | ((first | with_reducible refine XW.region hC (fun K' hK' => ?_) | with_reducible refine XW.text hC hm_ok (by kernel_rfl) (fun K' hK' => ?_)); (try simp only [List.toList_toArray]); repeat' (first | with_reducible refine xrun_cons ?_ | with_reducible refine xtxt_cons ?_ | ((first | with_reducible show xoper _ _ _ _ _ _ _ | with_reducible show xdo _ _ _ _ _ _); simp only [zd, zb, zz, RT.at, RT.ty, RT.sub, RT.cut, RT.wr, getS, setT, Ty.dflt, lk, Ty.st, stV, unV, prodTV, Int.reduceToNat, Int.reduceEq, reduceCtorEq, Nat.reduceLT, Nat.reduceEqDiff, Nat.reduceAdd, Nat.reduceMul, Nat.reduceLeDiff, Nat.reduceSub, Nat.reduceBEq, Nat.reduceBNe, Nat.reduceBeqDiff, ↓reduceIte, tab, tL, tI, tB, LI, NI, LLI, tLL, PTt, LPT, tPT, GT, tG, SLt, apartSp, firstSp, sidesSp, lookedSp, sameSSp, isOrdSp, spL, spW2, List.set_cons_zero, List.getD_cons_zero, hs, hF, hR]) | with_reducible refine xgd_intro (fun hg => ?_) (fun hg => ?_) <;> (try simp only [zh, zz, reduceCtorEq, bne_iff_ne, beq_iff_eq, ne_eq, Decidable.not_not, beq_eq_false_iff_ne, bne_eq_false_iff_eq] at hg) | ((with_reducible show (_ : Bool) = true); kernel_rfl) | with_reducible refine And.intro ?_ ?_ | with_reducible refine xrun_nil ?_ | with_reducible refine xtxt_nil ?_ | (refine hK' _ ?_; clear hK'; clear K') | (with_reducible intro hg; try simp only [zh, zz, reduceCtorEq, bne_iff_ne, beq_iff_eq, ne_eq, Decidable.not_not, beq_eq_false_iff_ne, bne_eq_false_iff_eq] at hg))) | ((with_reducible show XW _ _ _ _ (.cond _ _ _) _ _); refine XW.cond rfl (fun h => ?_) (fun h => ?_) <;> (try simp only [zh, zz, reduceCtorEq, bne_iff_ne, beq_iff_eq, ne_eq, Decidable.not_not, beq_eq_false_iff_ne, bne_eq_false_iff_eq] at h) <;> (try (exfalso; omega))) | ((with_reducible show XW.thn _ _ _ _); dsimp only [XW.thn]) | ((with_reducible show XW.blk _ _ _ _); simp only [XW.blk, ↓reduceIte, Nat.reduceEqDiff, Nat.zero_ne_one, Nat.one_ne_zero, ne_eq]) | ((with_reducible show retK _ _ _ _); simp only [retK, outsOf, outOf, zb, zz, RT.at, RT.ty, RT.sub, RT.cut, RT.wr, getS, setT, Ty.dflt, lk, Ty.st, stV, unV, prodTV, Int.reduceToNat, Int.reduceEq, reduceCtorEq, Nat.reduceLT, Nat.reduceEqDiff, Nat.reduceAdd, Nat.reduceMul, Nat.reduceLeDiff, Nat.reduceSub, Nat.reduceBEq, Nat.reduceBNe, Nat.reduceBeqDiff, ↓reduceIte, tab, tL, tI, tB, LI, NI, LLI, tLL, PTt, LPT, tPT, GT, tG, SLt, apartSp, firstSp, sidesSp, lookedSp, sameSSp, isOrdSp, spL, spW2, List.set_cons_zero, List.getD_cons_zero, hs, hF, hR])); all_goals (try (first | omega | with_reducible exact Int.le_refl _ | (show (_ : Int) ≤ _; omega)))
    all_goals first
      | exact hl
      | exact ⟨hgr, hfam, by omega, by omega⟩
      | (refine ⟨(), [(0, 0)], trivial, ?_⟩; simp only [Fits, distinct, fitEnv, fitB, fitL, fitRoots, fitRT, idsOK, AV.ids, zb, zz, RT.at, RT.ty, RT.sub, RT.cut, RT.wr, getS, setT, Ty.dflt, lk, Ty.st, stV, unV, prodTV, Int.reduceToNat, Int.reduceEq, reduceCtorEq, Nat.reduceLT, Nat.reduceEqDiff, Nat.reduceAdd, Nat.reduceMul, Nat.reduceLeDiff, Nat.reduceSub, Nat.reduceBEq, Nat.reduceBNe, Nat.reduceBeqDiff, ↓reduceIte, tab, tL, tI, tB, LI, NI, LLI, tLL, PTt, LPT, tPT, GT, tG, SLt, apartSp, firstSp, sidesSp, lookedSp, sameSSp, isOrdSp, spL, spW2, List.set_cons_zero, List.getD_cons_zero]; done)
      | (refine ⟨(), [(0, 0)], trivial, ?_⟩; simp only [Fits, distinct, fitEnv, fitB, fitL, fitRoots, fitRT, idsOK, AV.ids, zb, zz, RT.at, RT.ty, RT.sub, RT.cut, RT.wr, getS, setT, Ty.dflt, lk, Ty.st, stV, unV, prodTV, Int.reduceToNat, Int.reduceEq, reduceCtorEq, Nat.reduceLT, Nat.reduceEqDiff, Nat.reduceAdd, Nat.reduceMul, Nat.reduceLeDiff, Nat.reduceSub, Nat.reduceBEq, Nat.reduceBNe, Nat.reduceBeqDiff, ↓reduceIte, tab, tL, tI, tB, LI, NI, LLI, tLL, PTt, LPT, tPT, GT, tG, SLt, apartSp, firstSp, sidesSp, lookedSp, sameSSp, isOrdSp, spL, spW2, List.set_cons_zero, List.getD_cons_zero]; first | rfl | exact ⟨rfl, rfl⟩ | exact ⟨rfl, rfl, rfl⟩)
      | (exfalso; omega)
      | skip
  · have hF : firstV W H b sa ta = ([], 5) := by rw [hF]; exact (if_neg h1).trans (if_neg h4)
    repeat' (first | with_reducible refine cutB _ ?_ | with_reducible refine XW.seq ?_ | with_reducible refine XW.block ?_ | with_reducible refine XW.skip ?_ | with_reducible refine XW.exit ?_ | with_reducible refine XW.ret ?_ | ((first | with_reducible refine XW.region hC (fun K' hK' => ?_) | with_reducible refine XW.text hC hm_ok (by kernel_rfl) (fun K' hK' => ?_)); (try simp only [List.toList_toArray]); repeat' (first | with_reducible refine xrun_cons ?_ | with_reducible refine xtxt_cons ?_ | ((first | with_reducible show xoper _ _ _ _ _ _ _ | with_reducible show xdo _ _ _ _ _ _); simp only [zd, zb, zz, RT.at, RT.ty, RT.sub, RT.cut, RT.wr, getS, setT, Ty.dflt, lk, Ty.st, stV, unV, prodTV, Int.reduceToNat, Int.reduceEq, reduceCtorEq, Nat.reduceLT, Nat.reduceEqDiff, Nat.reduceAdd, Nat.reduceMul, Nat.reduceLeDiff, Nat.reduceSub, Nat.reduceBEq, Nat.reduceBNe, Nat.reduceBeqDiff, ↓reduceIte, tab, tL, tI, tB, LI, NI, LLI, tLL, PTt, LPT, tPT, GT, tG, SLt, apartSp, firstSp, sidesSp, lookedSp, sameSSp, isOrdSp, spL, spW2, List.set_cons_zero, List.getD_cons_zero, hs, hF, hR]) | with_reducible refine xgd_intro (fun hg => ?_) (fun hg => ?_) <;> (try simp only [zh, zz, reduceCtorEq, bne_iff_ne, beq_iff_eq, ne_eq, Decidable.not_not, beq_eq_false_iff_ne, bne_eq_false_iff_eq] at hg) | ((with_reducible show (_ : Bool) = true); kernel_rfl) | with_reducible refine And.intro ?_ ?_ | with_reducible refine xrun_nil ?_ | with_reducible refine xtxt_nil ?_ | (refine hK' _ ?_; clear hK'; clear K') | (with_reducible intro hg; try simp only [zh, zz, reduceCtorEq, bne_iff_ne, beq_iff_eq, ne_eq, Decidable.not_not, beq_eq_false_iff_ne, bne_eq_false_iff_eq] at hg))) | ((with_reducible show XW _ _ _ _ (.cond _ _ _) _ _); refine XW.cond rfl (fun h => ?_) (fun h => ?_) <;> (try simp only [zh, zz, reduceCtorEq, bne_iff_ne, beq_iff_eq, ne_eq, Decidable.not_not, beq_eq_false_iff_ne, bne_eq_false_iff_eq] at h) <;> (try (exfalso; omega))) | ((with_reducible show XW.thn _ _ _ _); dsimp only [XW.thn]) | ((with_reducible show XW.blk _ _ _ _); simp only [XW.blk, ↓reduceIte, Nat.reduceEqDiff, Nat.zero_ne_one, Nat.one_ne_zero, ne_eq]) | ((with_reducible show retK _ _ _ _); simp only [retK, outsOf, outOf, zb, zz, RT.at, RT.ty, RT.sub, RT.cut, RT.wr, getS, setT, Ty.dflt, lk, Ty.st, stV, unV, prodTV, Int.reduceToNat, Int.reduceEq, reduceCtorEq, Nat.reduceLT, Nat.reduceEqDiff, Nat.reduceAdd, Nat.reduceMul, Nat.reduceLeDiff, Nat.reduceSub, Nat.reduceBEq, Nat.reduceBNe, Nat.reduceBeqDiff, ↓reduceIte, tab, tL, tI, tB, LI, NI, LLI, tLL, PTt, LPT, tPT, GT, tG, SLt, apartSp, firstSp, sidesSp, lookedSp, sameSSp, isOrdSp, spL, spW2, List.set_cons_zero, List.getD_cons_zero, hs, hF, hR])); all_goals (try (first | omega | with_reducible exact Int.le_refl _ | (show (_ : Int) ≤ _; omega)))
    all_goals first
      | exact hl
      | exact ⟨hgr, hfam, by omega, by omega⟩
      | (refine ⟨(), [(0, 0)], trivial, ?_⟩; simp only [Fits, distinct, fitEnv, fitB, fitL, fitRoots, fitRT, idsOK, AV.ids, zb, zz, RT.at, RT.ty, RT.sub, RT.cut, RT.wr, getS, setT, Ty.dflt, lk, Ty.st, stV, unV, prodTV, Int.reduceToNat, Int.reduceEq, reduceCtorEq, Nat.reduceLT, Nat.reduceEqDiff, Nat.reduceAdd, Nat.reduceMul, Nat.reduceLeDiff, Nat.reduceSub, Nat.reduceBEq, Nat.reduceBNe, Nat.reduceBeqDiff, ↓reduceIte, tab, tL, tI, tB, LI, NI, LLI, tLL, PTt, LPT, tPT, GT, tG, SLt, apartSp, firstSp, sidesSp, lookedSp, sameSSp, isOrdSp, spL, spW2, List.set_cons_zero, List.getD_cons_zero]; done)
      | (refine ⟨(), [(0, 0)], trivial, ?_⟩; simp only [Fits, distinct, fitEnv, fitB, fitL, fitRoots, fitRT, idsOK, AV.ids, zb, zz, RT.at, RT.ty, RT.sub, RT.cut, RT.wr, getS, setT, Ty.dflt, lk, Ty.st, stV, unV, prodTV, Int.reduceToNat, Int.reduceEq, reduceCtorEq, Nat.reduceLT, Nat.reduceEqDiff, Nat.reduceAdd, Nat.reduceMul, Nat.reduceLeDiff, Nat.reduceSub, Nat.reduceBEq, Nat.reduceBNe, Nat.reduceBeqDiff, ↓reduceIte, tab, tL, tI, tB, LI, NI, LLI, tLL, PTt, LPT, tPT, GT, tG, SLt, apartSp, firstSp, sidesSp, lookedSp, sameSSp, isOrdSp, spL, spW2, List.set_cons_zero, List.getD_cons_zero]; first | rfl | exact ⟨rfl, rfl⟩ | exact ⟨rfl, rfl, rfl⟩)
      | (exfalso; omega)
      | skip

end Fer
