/-
  Walks: Apart, First. No condition.
-/
import Derived.Test.YtmaahmcdejoclaaRows
import Derived.Test.YtmaahmcdejoclaaPtE
set_option linter.unusedSimpArgs false
set_option linter.unusedVariables false
set_option maxHeartbeats 16000000
-- SPECS: tL, tI, tB, LI, NI, LLI, tLL, PTt, LPT, tPT, GT, tG, SLt, LBt, ROP, ROI, FAMt, FV, tFam, sidesSp, spLI, ordSp, openSp, nextSp, apartSp, firstSp, spL, List.set_cons_zero, List.getD_cons_zero
namespace Fer
open Go Go.Proofs

noncomputable def runP (W H : Int) (b s t : List Pt) (way : List Int) (stop : Bool) : Bool × SSt := nxt (blkP W) (addP W) ⟨s, t, way, 1000000, stop⟩ 65 0 (freeOf W H b) [] ⟨0, 0, [], 0⟩
noncomputable def apartV (W H : Int) (b s t : List Pt) (way : List Int) : Int × Int :=
  if sideE W H b s t ≠ 0 then (0, sideE W H b s t) else if ordE way s.length ≠ 0 then (0, ordE way s.length) else
  if 1000000 < (runP W H b s t way false).2.steps then (0, 2) else ((runP W H b s t way false).2.n, 0)
noncomputable def firstV (W H : Int) (b s t : List Pt) : List ByteArray × Int :=
  if sideE W H b s t ≠ 0 then ([], sideE W H b s t) else
  if 0 < (runP W H b s t [0, 1, 2, 3] true).2.n then ((runP W H b s t [0, 1, 2, 3] true).2.first, 0) else
  if 1000000 < (runP W H b s t [0, 1, 2, 3] true).2.steps then ([], 2) else ([], 5)
noncomputable def apartSp : Spec := ⟨[GT, LPT, LPT, .list 3 (.int .i64)], fun args K => match args with
  | [⟨.prod (.int _) (.prod (.int _) (.list _ (.prod (.int _) (.int _)))), g⟩, ⟨.list _ (.prod (.int _) (.int _)), s⟩, ⟨.list _ (.prod (.int _) (.int _)), t⟩, ⟨.list _ (.int _), way⟩] =>
    ([s, t].flatten.length ≤ 1000000) ∧ K [tI (apartV g.1 g.2.1 g.2.2 s t way).1, tI (apartV g.1 g.2.1 g.2.2 s t way).2]
  | _ => False⟩
noncomputable def firstSp : Spec := ⟨[GT, LPT, LPT], fun args K => match args with
  | [⟨.prod (.int _) (.prod (.int _) (.list _ (.prod (.int _) (.int _)))), g⟩, ⟨.list _ (.prod (.int _) (.int _)), s⟩, ⟨.list _ (.prod (.int _) (.int _)), t⟩] =>
    ([s, t].flatten.length ≤ 1000000) ∧ K [⟨SLt, (firstV g.1 g.2.1 g.2.2 s t).1⟩, tI (firstV g.1 g.2.1 g.2.2 s t).2]
  | _ => False⟩
theorem at_apart {args : List TV} {K : List TV → Prop} (ht : args.map (·.t) = apartSp.ps) (hK : apartSp.wp args K) :
    ∃ W H b s t way, args = [tG W H b, tPT s, tPT t, tL way] ∧ [s, t].flatten.length ≤ 1000000 ∧ K [tI (apartV W H b s t way).1, tI (apartV W H b s t way).2] := by
  match args, ht, hK with
  | [⟨t, x⟩, ⟨u, y⟩, ⟨v, z⟩, ⟨w, q⟩], ht, hK =>
    simp only [apartSp, List.map_cons, List.map_nil, List.cons.injEq, and_true] at ht
    obtain ⟨rfl, rfl, rfl, rfl⟩ := ht
    exact ⟨x.1, x.2.1, x.2.2, y, z, q, rfl, hK⟩
  | [], ht, _ => simp [apartSp] at ht
  | [_], ht, _ => simp [apartSp] at ht
  | [_, _], ht, _ => simp [apartSp] at ht
  | [_, _, _], ht, _ => simp [apartSp] at ht
  | _ :: _ :: _ :: _ :: _ :: _, ht, _ => simp [apartSp] at ht
theorem at_first {args : List TV} {K : List TV → Prop} (ht : args.map (·.t) = firstSp.ps) (hK : firstSp.wp args K) :
    ∃ W H b s t, args = [tG W H b, tPT s, tPT t] ∧ [s, t].flatten.length ≤ 1000000 ∧ K [⟨SLt, (firstV W H b s t).1⟩, tI (firstV W H b s t).2] := by
  match args, ht, hK with
  | [⟨t, x⟩, ⟨u, y⟩, ⟨v, z⟩], ht, hK =>
    simp only [firstSp, List.map_cons, List.map_nil, List.cons.injEq, and_true] at ht
    obtain ⟨rfl, rfl, rfl⟩ := ht
    exact ⟨x.1, x.2.1, x.2.2, y, z, rfl, hK⟩
  | [], ht, _ => simp [firstSp] at ht
  | [_], ht, _ => simp [firstSp] at ht
  | [_, _], ht, _ => simp [firstSp] at ht
  | _ :: _ :: _ :: _ :: _, ht, _ => simp [firstSp] at ht
theorem ord_zero {way : List Int} {n : Int} (h : ordE way n = 0) : (way.length : Int) = n ∧ ordP way := by
  unfold ordE at h
  split at h
  · cases h
  · rename_i h1
    split at h
    · rename_i h2
      exact ⟨Classical.not_not.1 h1, h2⟩
    · cases h
theorem castV_ne {t u : Ty} {v : t.den} (h : t ≠ u) : castV t u v = none := dif_neg h
theorem side_zero {W H : Int} {b s t : List Pt} (h : sideE W H b s t = 0) : gridOK W H b ∧ (∀ p ∈ s, inG W H p) ∧ (∀ p ∈ t, inG W H p) ∧ s.length = t.length ∧ s.length ≤ 4 := by
  unfold sideE at h
  split at h
  · cases h
  · rename_i h1
    have h1 := Classical.not_not.1 h1
    split at h
    · cases h
    · rename_i h2
      split at h
      · cases h
      · exact ⟨gridB_ok h1.1, (in_flat.1 h1.2).1, (in_flat.1 h1.2).2, Classical.not_not.1 h2, by omega⟩
theorem free_count {W H : Int} {b : List Pt} (h : gridOK W H b) : cntT (freeOf W H b) < 65 := by
  have h1 : cntT (freeOf W H b) ≤ (freeOf W H b).length := List.count_le_length
  rw [freeOf_len] at h1
  obtain ⟨⟨g1, g2, g3, g4⟩, _⟩ := h
  have : W * H ≤ 8 * 8 := Int.mul_le_mul g3 g4 (by omega) (by omega)
  omega
theorem fam_of {W H : Int} {b s t : List Pt} {way : List Int} {vb v1 v2 v3 : Value} (h : sideE W H b s t = 0) (hw : way.length = s.length ∨ way = [0, 1, 2, 3]) (hy : ∀ i : Nat, i < s.length → 0 ≤ way.getD i 0 ∧ way.getD i 0 < s.length) :
    FamOK ⟨W, H, ⟨vb, b⟩, ⟨v1, s⟩, ⟨v2, t⟩, ⟨v3, way⟩⟩ := by
  obtain ⟨⟨⟨g1, g2, g3, g4⟩, g5, g6⟩, h2, h3, h4, h5⟩ := side_zero h
  exact ⟨g1, g2, g3, g4, h2, h3, h5, h4.symm, hw, hy⟩
theorem step_of {W H : Int} {b : List Pt} {F : FV} (hF : F.W = W ∧ F.H = H) (h : gridOK W H b) {most : Int} (hm : most = 0 ∨ most = 1) : StepOK F (freeOf W H b) [] most 0 0 65 := by
  have hc := free_count h
  exact ⟨by rw [freeOf_len, hF.1, hF.2], hc, by show 0 + cntT (freeOf W H b) ≤ 1000; omega, hm, Int.le_refl _, Int.le_refl _, by omega⟩

set_option maxRecDepth 10000 in
theorem apart_of (ih : FnSt Try.prog 61 (nextSp 65)) : FnOK Try.prog 24 apartSp := by
  have hC : ∀ {w0 : World} {S0 : Nat → Prop}, CtxOK Try.prog ⟨46, tab, fun f => lk [(58, sidesSp), (59, ordSp), (60, openSp)] f, fun f => lk [] f, fun f => lk [] f, fun f => lk [] f, fun f => lk [(61, nextSp 65)] f⟩ w0 S0 := ctx_ok ⟨psides_ok, ord_ok, open_ok, trivial⟩ trivial trivial trivial ⟨ih, trivial⟩
  refine FnOK_of (C := ⟨46, tab, fun f => lk [(58, sidesSp), (59, ordSp), (60, openSp)] f, fun f => lk [] f, fun f => lk [] f, fun f => lk [] f, fun f => lk [(61, nextSp 65)] f⟩) 24 Try.f24 _ [8, 9] apartSp Try.func24 rfl (by decide) rfl rfl (Nat.le_of_ble_eq_true rfl) fun args K ht hK w0 => ?_
  obtain ⟨W, H, b, s, t, way, rfl, hl, hk⟩ := at_apart ht hK
  unfold apartV at hk
  by_cases hs : sideE W H b s t = 0
  rotate_left
  · rw [if_pos hs] at hk
    repeat' (first | with_reducible refine XW.seq ?_ | with_reducible refine XW.block ?_ | with_reducible refine XW.skip ?_ | with_reducible refine XW.exit ?_ | with_reducible refine XW.ret ?_ | ((first | with_reducible refine XW.region hC (fun K' hK' => ?_) | with_reducible refine XW.text hC hm_ok (by kernel_rfl) (fun K' hK' => ?_)); (try simp only [List.toList_toArray]); repeat' (first | with_reducible refine xrun_cons ?_ | with_reducible refine xtxt_cons ?_ | ((first | with_reducible show xoper _ _ _ _ _ _ _ | with_reducible show xdo _ _ _ _ _ _); simp only [zd, zb, zz, RT.at, RT.ty, RT.sub, RT.cut, RT.wr, getS, setT, Ty.dflt, lk, Ty.st, stV, unV, prodTV, Int.reduceToNat, Int.reduceEq, reduceCtorEq, Nat.reduceLT, Nat.reduceEqDiff, Nat.reduceAdd, Nat.reduceMul, Nat.reduceLeDiff, Nat.reduceSub, Nat.reduceBEq, Nat.reduceBNe, Nat.reduceBeqDiff, ↓reduceIte, tab, tL, tI, tB, LI, NI, LLI, tLL, PTt, LPT, tPT, GT, tG, SLt, LBt, ROP, ROI, FAMt, FV, tFam, sidesSp, spLI, ordSp, openSp, nextSp, apartSp, firstSp, spL, List.set_cons_zero, List.getD_cons_zero]) | with_reducible refine xgd_intro (fun hg => ?_) (fun hg => ?_) <;> (try simp only [zh, zz, reduceCtorEq, bne_iff_ne, beq_iff_eq, ne_eq, Decidable.not_not, beq_eq_false_iff_ne, bne_eq_false_iff_eq] at hg) | ((with_reducible show (_ : Bool) = true); kernel_rfl) | with_reducible refine And.intro ?_ ?_ | with_reducible refine xrun_nil ?_ | with_reducible refine xtxt_nil ?_ | (refine hK' _ ?_; clear hK'; clear K') | (with_reducible intro hg; try simp only [zh, zz, reduceCtorEq, bne_iff_ne, beq_iff_eq, ne_eq, Decidable.not_not, beq_eq_false_iff_ne, bne_eq_false_iff_eq] at hg))) | ((with_reducible show XW _ _ _ _ (.cond _ _ _) _ _); refine XW.cond rfl (fun h => ?_) (fun h => ?_) <;> (try simp only [zh, zz, reduceCtorEq, bne_iff_ne, beq_iff_eq, ne_eq, Decidable.not_not, beq_eq_false_iff_ne, bne_eq_false_iff_eq] at h) <;> (try (exfalso; omega))) | ((with_reducible show XW.thn _ _ _ _); dsimp only [XW.thn]) | ((with_reducible show XW.blk _ _ _ _); simp only [XW.blk, ↓reduceIte, Nat.reduceEqDiff, Nat.zero_ne_one, Nat.one_ne_zero, ne_eq]) | ((with_reducible show retK _ _ _ _); simp only [retK, outsOf, outOf, zb, zz, RT.at, RT.ty, RT.sub, RT.cut, RT.wr, getS, setT, Ty.dflt, lk, Ty.st, stV, unV, prodTV, Int.reduceToNat, Int.reduceEq, reduceCtorEq, Nat.reduceLT, Nat.reduceEqDiff, Nat.reduceAdd, Nat.reduceMul, Nat.reduceLeDiff, Nat.reduceSub, Nat.reduceBEq, Nat.reduceBNe, Nat.reduceBeqDiff, ↓reduceIte, tab, tL, tI, tB, LI, NI, LLI, tLL, PTt, LPT, tPT, GT, tG, SLt, LBt, ROP, ROI, FAMt, FV, tFam, sidesSp, spLI, ordSp, openSp, nextSp, apartSp, firstSp, spL, List.set_cons_zero, List.getD_cons_zero])); all_goals (try (first | omega | with_reducible exact Int.le_refl _ | (show (_ : Int) ≤ _; omega)))
    all_goals first
      | exact hk
      | exact hl
      | exact absurd (by assumption) hs
  rw [if_neg (fun h => h hs)] at hk
  by_cases ho : ordE way s.length = 0
  rotate_left
  · rw [if_pos ho] at hk
    repeat' (first | with_reducible refine XW.seq ?_ | with_reducible refine XW.block ?_ | with_reducible refine XW.skip ?_ | with_reducible refine XW.exit ?_ | with_reducible refine XW.ret ?_ | ((first | with_reducible refine XW.region hC (fun K' hK' => ?_) | with_reducible refine XW.text hC hm_ok (by kernel_rfl) (fun K' hK' => ?_)); (try simp only [List.toList_toArray]); repeat' (first | with_reducible refine xrun_cons ?_ | with_reducible refine xtxt_cons ?_ | ((first | with_reducible show xoper _ _ _ _ _ _ _ | with_reducible show xdo _ _ _ _ _ _); simp only [zd, zb, zz, RT.at, RT.ty, RT.sub, RT.cut, RT.wr, getS, setT, Ty.dflt, lk, Ty.st, stV, unV, prodTV, Int.reduceToNat, Int.reduceEq, reduceCtorEq, Nat.reduceLT, Nat.reduceEqDiff, Nat.reduceAdd, Nat.reduceMul, Nat.reduceLeDiff, Nat.reduceSub, Nat.reduceBEq, Nat.reduceBNe, Nat.reduceBeqDiff, ↓reduceIte, tab, tL, tI, tB, LI, NI, LLI, tLL, PTt, LPT, tPT, GT, tG, SLt, LBt, ROP, ROI, FAMt, FV, tFam, sidesSp, spLI, ordSp, openSp, nextSp, apartSp, firstSp, spL, List.set_cons_zero, List.getD_cons_zero, hs]) | with_reducible refine xgd_intro (fun hg => ?_) (fun hg => ?_) <;> (try simp only [zh, zz, reduceCtorEq, bne_iff_ne, beq_iff_eq, ne_eq, Decidable.not_not, beq_eq_false_iff_ne, bne_eq_false_iff_eq] at hg) | ((with_reducible show (_ : Bool) = true); kernel_rfl) | with_reducible refine And.intro ?_ ?_ | with_reducible refine xrun_nil ?_ | with_reducible refine xtxt_nil ?_ | (refine hK' _ ?_; clear hK'; clear K') | (with_reducible intro hg; try simp only [zh, zz, reduceCtorEq, bne_iff_ne, beq_iff_eq, ne_eq, Decidable.not_not, beq_eq_false_iff_ne, bne_eq_false_iff_eq] at hg))) | ((with_reducible show XW _ _ _ _ (.cond _ _ _) _ _); refine XW.cond rfl (fun h => ?_) (fun h => ?_) <;> (try simp only [zh, zz, reduceCtorEq, bne_iff_ne, beq_iff_eq, ne_eq, Decidable.not_not, beq_eq_false_iff_ne, bne_eq_false_iff_eq] at h) <;> (try (exfalso; omega))) | ((with_reducible show XW.thn _ _ _ _); dsimp only [XW.thn]) | ((with_reducible show XW.blk _ _ _ _); simp only [XW.blk, ↓reduceIte, Nat.reduceEqDiff, Nat.zero_ne_one, Nat.one_ne_zero, ne_eq]) | ((with_reducible show retK _ _ _ _); simp only [retK, outsOf, outOf, zb, zz, RT.at, RT.ty, RT.sub, RT.cut, RT.wr, getS, setT, Ty.dflt, lk, Ty.st, stV, unV, prodTV, Int.reduceToNat, Int.reduceEq, reduceCtorEq, Nat.reduceLT, Nat.reduceEqDiff, Nat.reduceAdd, Nat.reduceMul, Nat.reduceLeDiff, Nat.reduceSub, Nat.reduceBEq, Nat.reduceBNe, Nat.reduceBeqDiff, ↓reduceIte, tab, tL, tI, tB, LI, NI, LLI, tLL, PTt, LPT, tPT, GT, tG, SLt, LBt, ROP, ROI, FAMt, FV, tFam, sidesSp, spLI, ordSp, openSp, nextSp, apartSp, firstSp, spL, List.set_cons_zero, List.getD_cons_zero, hs])); all_goals (try (first | omega | with_reducible exact Int.le_refl _ | (show (_ : Int) ≤ _; omega)))
    all_goals first
      | exact hk
      | exact hl
      | exact absurd (by assumption) ho
  rw [if_neg (fun h => h ho)] at hk
  have hgr := (side_zero hs).1
  obtain ⟨ow, oP⟩ := ord_zero ho
  repeat' (first | with_reducible refine XW.seq ?_ | with_reducible refine XW.block ?_ | with_reducible refine XW.skip ?_ | with_reducible refine XW.exit ?_ | with_reducible refine XW.ret ?_ | ((first | with_reducible refine XW.region hC (fun K' hK' => ?_) | with_reducible refine XW.text hC hm_ok (by kernel_rfl) (fun K' hK' => ?_)); (try simp only [List.toList_toArray]); repeat' (first | with_reducible refine xrun_cons ?_ | with_reducible refine xtxt_cons ?_ | ((first | with_reducible show xoper _ _ _ _ _ _ _ | with_reducible show xdo _ _ _ _ _ _); simp only [zd, zb, zz, RT.at, RT.ty, RT.sub, RT.cut, RT.wr, getS, setT, Ty.dflt, lk, Ty.st, stV, unV, prodTV, Int.reduceToNat, Int.reduceEq, reduceCtorEq, Nat.reduceLT, Nat.reduceEqDiff, Nat.reduceAdd, Nat.reduceMul, Nat.reduceLeDiff, Nat.reduceSub, Nat.reduceBEq, Nat.reduceBNe, Nat.reduceBeqDiff, ↓reduceIte, tab, tL, tI, tB, LI, NI, LLI, tLL, PTt, LPT, tPT, GT, tG, SLt, LBt, ROP, ROI, FAMt, FV, tFam, sidesSp, spLI, ordSp, openSp, nextSp, apartSp, firstSp, spL, List.set_cons_zero, List.getD_cons_zero, Nat.zero_max, Nat.max_zero, castV_ne, hs, ho]) | with_reducible refine xgd_intro (fun hg => ?_) (fun hg => ?_) <;> (try simp only [zh, zz, reduceCtorEq, bne_iff_ne, beq_iff_eq, ne_eq, Decidable.not_not, beq_eq_false_iff_ne, bne_eq_false_iff_eq] at hg) | ((with_reducible show (_ : Bool) = true); kernel_rfl) | with_reducible refine And.intro ?_ ?_ | with_reducible refine xrun_nil ?_ | with_reducible refine xtxt_nil ?_ | (refine hK' _ ?_; clear hK'; clear K') | (with_reducible intro hg; try simp only [zh, zz, reduceCtorEq, bne_iff_ne, beq_iff_eq, ne_eq, Decidable.not_not, beq_eq_false_iff_ne, bne_eq_false_iff_eq] at hg))) | ((with_reducible show XW _ _ _ _ (.cond _ _ _) _ _); refine XW.cond rfl (fun h => ?_) (fun h => ?_) <;> (try simp only [zh, zz, reduceCtorEq, bne_iff_ne, beq_iff_eq, ne_eq, Decidable.not_not, beq_eq_false_iff_ne, bne_eq_false_iff_eq] at h) <;> (try (exfalso; omega))) | ((with_reducible show XW.thn _ _ _ _); dsimp only [XW.thn]) | ((with_reducible show XW.blk _ _ _ _); simp only [XW.blk, ↓reduceIte, Nat.reduceEqDiff, Nat.zero_ne_one, Nat.one_ne_zero, ne_eq]) | ((with_reducible show retK _ _ _ _); simp only [retK, outsOf, outOf, zb, zz, RT.at, RT.ty, RT.sub, RT.cut, RT.wr, getS, setT, Ty.dflt, lk, Ty.st, stV, unV, prodTV, Int.reduceToNat, Int.reduceEq, reduceCtorEq, Nat.reduceLT, Nat.reduceEqDiff, Nat.reduceAdd, Nat.reduceMul, Nat.reduceLeDiff, Nat.reduceSub, Nat.reduceBEq, Nat.reduceBNe, Nat.reduceBeqDiff, ↓reduceIte, tab, tL, tI, tB, LI, NI, LLI, tLL, PTt, LPT, tPT, GT, tG, SLt, LBt, ROP, ROI, FAMt, FV, tFam, sidesSp, spLI, ordSp, openSp, nextSp, apartSp, firstSp, spL, List.set_cons_zero, List.getD_cons_zero, Nat.zero_max, Nat.max_zero, castV_ne, hs, ho])); all_goals (try (first | omega | with_reducible exact Int.le_refl _ | (show (_ : Int) ≤ _; omega)))
  all_goals first
    | exact hl
    | exact hgr
    | exact fam_of hs (.inl (by omega)) fun i hi => ⟨(oP i (by omega)).1, by have := (oP i (by omega)).2.1; omega⟩
    | exact step_of ⟨rfl, rfl⟩ hgr (.inl rfl)
    | (rw [if_pos (show 1000000 < (runP W H b s t way false).2.steps by assumption)] at hk; exact hk)
    | (rw [if_neg (show ¬ 1000000 < (runP W H b s t way false).2.steps from Int.not_lt.2 (by assumption))] at hk; exact hk)

set_option maxRecDepth 10000 in
theorem first_of (ih : FnSt Try.prog 61 (nextSp 65)) : FnOK Try.prog 25 firstSp := by
  have hC : ∀ {w0 : World} {S0 : Nat → Prop}, CtxOK Try.prog ⟨43, tab, fun f => lk [(58, sidesSp), (60, openSp)] f, fun f => lk [] f, fun f => lk [] f, fun f => lk [] f, fun f => lk [(61, nextSp 65)] f⟩ w0 S0 := ctx_ok ⟨psides_ok, open_ok, trivial⟩ trivial trivial trivial ⟨ih, trivial⟩
  refine FnOK_of (C := ⟨43, tab, fun f => lk [(58, sidesSp), (60, openSp)] f, fun f => lk [] f, fun f => lk [] f, fun f => lk [] f, fun f => lk [(61, nextSp 65)] f⟩) 25 Try.f25 _ [6, 7] firstSp Try.func25 rfl (by decide) rfl rfl (Nat.le_of_ble_eq_true rfl) fun args K ht hK w0 => ?_
  obtain ⟨W, H, b, s, t, rfl, hl, hk⟩ := at_first ht hK
  unfold firstV at hk
  by_cases hs : sideE W H b s t = 0
  rotate_left
  · rw [if_pos hs] at hk
    repeat' (first | with_reducible refine XW.seq ?_ | with_reducible refine XW.block ?_ | with_reducible refine XW.skip ?_ | with_reducible refine XW.exit ?_ | with_reducible refine XW.ret ?_ | ((first | with_reducible refine XW.region hC (fun K' hK' => ?_) | with_reducible refine XW.text hC hm_ok (by kernel_rfl) (fun K' hK' => ?_)); (try simp only [List.toList_toArray]); repeat' (first | with_reducible refine xrun_cons ?_ | with_reducible refine xtxt_cons ?_ | ((first | with_reducible show xoper _ _ _ _ _ _ _ | with_reducible show xdo _ _ _ _ _ _); simp only [zd, zb, zz, RT.at, RT.ty, RT.sub, RT.cut, RT.wr, getS, setT, Ty.dflt, lk, Ty.st, stV, unV, prodTV, Int.reduceToNat, Int.reduceEq, reduceCtorEq, Nat.reduceLT, Nat.reduceEqDiff, Nat.reduceAdd, Nat.reduceMul, Nat.reduceLeDiff, Nat.reduceSub, Nat.reduceBEq, Nat.reduceBNe, Nat.reduceBeqDiff, ↓reduceIte, tab, tL, tI, tB, LI, NI, LLI, tLL, PTt, LPT, tPT, GT, tG, SLt, LBt, ROP, ROI, FAMt, FV, tFam, sidesSp, spLI, ordSp, openSp, nextSp, apartSp, firstSp, spL, List.set_cons_zero, List.getD_cons_zero]) | with_reducible refine xgd_intro (fun hg => ?_) (fun hg => ?_) <;> (try simp only [zh, zz, reduceCtorEq, bne_iff_ne, beq_iff_eq, ne_eq, Decidable.not_not, beq_eq_false_iff_ne, bne_eq_false_iff_eq] at hg) | ((with_reducible show (_ : Bool) = true); kernel_rfl) | with_reducible refine And.intro ?_ ?_ | with_reducible refine xrun_nil ?_ | with_reducible refine xtxt_nil ?_ | (refine hK' _ ?_; clear hK'; clear K') | (with_reducible intro hg; try simp only [zh, zz, reduceCtorEq, bne_iff_ne, beq_iff_eq, ne_eq, Decidable.not_not, beq_eq_false_iff_ne, bne_eq_false_iff_eq] at hg))) | ((with_reducible show XW _ _ _ _ (.cond _ _ _) _ _); refine XW.cond rfl (fun h => ?_) (fun h => ?_) <;> (try simp only [zh, zz, reduceCtorEq, bne_iff_ne, beq_iff_eq, ne_eq, Decidable.not_not, beq_eq_false_iff_ne, bne_eq_false_iff_eq] at h) <;> (try (exfalso; omega))) | ((with_reducible show XW.thn _ _ _ _); dsimp only [XW.thn]) | ((with_reducible show XW.blk _ _ _ _); simp only [XW.blk, ↓reduceIte, Nat.reduceEqDiff, Nat.zero_ne_one, Nat.one_ne_zero, ne_eq]) | ((with_reducible show retK _ _ _ _); simp only [retK, outsOf, outOf, zb, zz, RT.at, RT.ty, RT.sub, RT.cut, RT.wr, getS, setT, Ty.dflt, lk, Ty.st, stV, unV, prodTV, Int.reduceToNat, Int.reduceEq, reduceCtorEq, Nat.reduceLT, Nat.reduceEqDiff, Nat.reduceAdd, Nat.reduceMul, Nat.reduceLeDiff, Nat.reduceSub, Nat.reduceBEq, Nat.reduceBNe, Nat.reduceBeqDiff, ↓reduceIte, tab, tL, tI, tB, LI, NI, LLI, tLL, PTt, LPT, tPT, GT, tG, SLt, LBt, ROP, ROI, FAMt, FV, tFam, sidesSp, spLI, ordSp, openSp, nextSp, apartSp, firstSp, spL, List.set_cons_zero, List.getD_cons_zero])); all_goals (try (first | omega | with_reducible exact Int.le_refl _ | (show (_ : Int) ≤ _; omega)))
    all_goals first
      | exact hk
      | exact hl
      | exact absurd (by assumption) hs
  rw [if_neg (fun h => h hs)] at hk
  have hgr := (side_zero hs).1
  have hs4 := (side_zero hs).2.2.2.2
  repeat' (first | with_reducible refine XW.seq ?_ | with_reducible refine XW.block ?_ | with_reducible refine XW.skip ?_ | with_reducible refine XW.exit ?_ | with_reducible refine XW.ret ?_ | ((first | ((with_reducible show XW _ _ _ _ (.region _ _ true) _ _); refine XW.tree hC hm_ok (.one 0 (.one 1 (.one 2 (.two 3 (.one 4 (.one 5 (.one 6 (.one 7 (.one 8 .nil))))) 4 (.two 3 (.one 5 (.one 6 (.one 7 (.one 8 .nil)))) 5 (.one 3 (.one 6 (.one 7 (.one 8 .nil))))))))) (by decide +kernel) (fun K' hK' => ?_)) | with_reducible refine XW.region hC (fun K' hK' => ?_) | with_reducible refine XW.text hC hm_ok (by kernel_rfl) (fun K' hK' => ?_)); (try simp only [List.toList_toArray]); repeat' (first | with_reducible refine xrun_cons ?_ | with_reducible refine xtree_two ?_ ?_ | with_reducible refine xtree_nil ?_ | ((with_reducible show xtree _ _ _ (.one _ _) _); refine xtree_one (by simp only [List.getElem?_toArray, List.getElem?_cons_succ, List.getElem?_cons_zero]; rfl) ?_) | with_reducible refine xtxt_cons ?_ | ((with_reducible show xord _ _ _ (_ :: _) _); refine xord_cons (by simp only [List.getElem?_toArray, List.getElem?_cons_succ, List.getElem?_cons_zero]; rfl) ?_) | ((first | with_reducible show xoper _ _ _ _ _ _ _ | with_reducible show xdo _ _ _ _ _ _); simp only [zd, zb, zz, RT.at, RT.ty, RT.sub, RT.cut, RT.wr, getS, setT, Ty.dflt, lk, Ty.st, stV, unV, prodTV, Int.reduceToNat, Int.reduceEq, reduceCtorEq, Nat.reduceLT, Nat.reduceEqDiff, Nat.reduceAdd, Nat.reduceMul, Nat.reduceLeDiff, Nat.reduceSub, Nat.reduceBEq, Nat.reduceBNe, Nat.reduceBeqDiff, ↓reduceIte, tab, tL, tI, tB, LI, NI, LLI, tLL, PTt, LPT, tPT, GT, tG, SLt, LBt, ROP, ROI, FAMt, FV, tFam, sidesSp, spLI, ordSp, openSp, nextSp, apartSp, firstSp, spL, List.set_cons_zero, List.getD_cons_zero, Nat.zero_max, Nat.max_zero, castV_ne, hs]) | with_reducible refine xgd_intro (fun hg => ?_) (fun hg => ?_) <;> (try simp only [zh, zz, reduceCtorEq, bne_iff_ne, beq_iff_eq, ne_eq, Decidable.not_not, beq_eq_false_iff_ne, bne_eq_false_iff_eq] at hg) | ((with_reducible show (_ : Bool) = true); kernel_rfl) | with_reducible refine And.intro ?_ ?_ | with_reducible refine xrun_nil ?_ | with_reducible refine xtxt_nil ?_ | with_reducible refine xord_nil ?_ | (refine hK' _ ?_; clear hK'; clear K') | (with_reducible intro hg; try simp only [zh, zz, reduceCtorEq, bne_iff_ne, beq_iff_eq, ne_eq, Decidable.not_not, beq_eq_false_iff_ne, bne_eq_false_iff_eq] at hg))) | ((with_reducible show XW _ _ _ _ (.cond _ _ _) _ _); refine XW.cond rfl (fun h => ?_) (fun h => ?_) <;> (try simp only [zh, zz, reduceCtorEq, bne_iff_ne, beq_iff_eq, ne_eq, Decidable.not_not, beq_eq_false_iff_ne, bne_eq_false_iff_eq] at h) <;> (try (exfalso; omega))) | ((with_reducible show XW.thn _ _ _ _); dsimp only [XW.thn]) | ((with_reducible show XW.blk _ _ _ _); simp only [XW.blk, ↓reduceIte, Nat.reduceEqDiff, Nat.zero_ne_one, Nat.one_ne_zero, ne_eq]) | ((with_reducible show retK _ _ _ _); simp only [retK, outsOf, outOf, zb, zz, RT.at, RT.ty, RT.sub, RT.cut, RT.wr, getS, setT, Ty.dflt, lk, Ty.st, stV, unV, prodTV, Int.reduceToNat, Int.reduceEq, reduceCtorEq, Nat.reduceLT, Nat.reduceEqDiff, Nat.reduceAdd, Nat.reduceMul, Nat.reduceLeDiff, Nat.reduceSub, Nat.reduceBEq, Nat.reduceBNe, Nat.reduceBeqDiff, ↓reduceIte, tab, tL, tI, tB, LI, NI, LLI, tLL, PTt, LPT, tPT, GT, tG, SLt, LBt, ROP, ROI, FAMt, FV, tFam, sidesSp, spLI, ordSp, openSp, nextSp, apartSp, firstSp, spL, List.set_cons_zero, List.getD_cons_zero, Nat.zero_max, Nat.max_zero, castV_ne, hs])); all_goals (try (first | omega | with_reducible exact Int.le_refl _ | (show (_ : Int) ≤ _; omega)))
  all_goals first
    | exact hl
    | exact hgr
    | exact fam_of hs (.inr rfl) fun i hi => by
        have : i = 0 ∨ i = 1 ∨ i = 2 ∨ i = 3 := by omega
        rcases this with rfl | rfl | rfl | rfl <;> exact ⟨by decide, by simp; omega⟩
    | exact step_of ⟨rfl, rfl⟩ hgr (.inr rfl)
    | (rw [if_pos (show 0 < (runP W H b s t [0, 1, 2, 3] true).2.n by assumption)] at hk; exact hk)
    | (rw [if_neg (show ¬ 0 < (runP W H b s t [0, 1, 2, 3] true).2.n from Int.not_lt.2 (by assumption)), if_pos (show 1000000 < (runP W H b s t [0, 1, 2, 3] true).2.steps by assumption)] at hk; exact hk)
    | (rw [if_neg (show ¬ 0 < (runP W H b s t [0, 1, 2, 3] true).2.n from Int.not_lt.2 (by assumption)), if_neg (show ¬ 1000000 < (runP W H b s t [0, 1, 2, 3] true).2.steps from Int.not_lt.2 (by assumption))] at hk; exact hk)
    | (simp only [zd, zb, zz, RT.at, RT.ty, RT.sub, RT.cut, RT.wr, getS, setT, Ty.dflt, lk, Ty.st, stV, unV, prodTV, Int.reduceToNat, Int.reduceEq, reduceCtorEq, Nat.reduceLT, Nat.reduceEqDiff, Nat.reduceAdd, Nat.reduceMul, Nat.reduceLeDiff, Nat.reduceSub, Nat.reduceBEq, Nat.reduceBNe, Nat.reduceBeqDiff, ↓reduceIte, tab, tL, tI, tB, LI, NI, LLI, tLL, PTt, LPT, tPT, GT, tG, SLt, LBt, ROP, ROI, FAMt, FV, tFam, sidesSp, spLI, ordSp, openSp, nextSp, apartSp, firstSp, spL, List.set_cons_zero, List.getD_cons_zero]
       rw [if_pos (show 0 < (runP W H b s t [0, 1, 2, 3] true).2.n by assumption)] at hk
       exact hk)

end Fer
