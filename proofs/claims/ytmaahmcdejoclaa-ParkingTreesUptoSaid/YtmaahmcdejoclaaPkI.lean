/-
  Walk: ferref.Coded's closure. No condition.
-/
import Derived.Test.YtmaahmcdejoclaaRows
import Derived.Test.YtmaahmcdejoclaaPkH
set_option linter.unusedSimpArgs false
set_option linter.unusedVariables false
set_option maxHeartbeats 4000000
-- SPECS: tL, tI, tB, LI, NI, LLI, tLL, PRt, LPR, tPR, spL, spLI, containsSp, leastSp, List.set_cons_zero, List.getD_cons_zero
namespace Fer
open Go Go.Proofs

def leastSp : Spec := ⟨[LI], fun args K => match args with
  | [⟨.list _ (.int _), left⟩, ⟨.int _, n⟩, ⟨.list _ (.int _), taken⟩] => n ≤ 1000 ∧ K [tI (lst n left taken)]
  | _ => False⟩
theorem lst_none {n : Int} {rest taken : List Int} (h : ∀ u, 1 ≤ u → u ≤ n → u ∈ rest ∨ u ∈ taken) : lst n rest taken = 0 := by
  unfold lst
  rw [List.find?_eq_none.2]
  · rfl
  · intro x hx
    obtain ⟨a, b⟩ := irange_mem.1 hx
    simp only [decide_eq_true_eq]
    exact fun hc => (h x a b).elim hc.1 hc.2

set_option maxRecDepth 10000 in
theorem least_ok : FnCl Try.prog 37 (leastSp, [NI, LI]) := by
  have hC : CtxOK Try.prog ⟨22, tab, fun f => lk [(33, containsSp)] f, fun f => lk [] f, fun f => lk [] f, fun f => lk [] f, fun f => lk [] f⟩ := ctx_ok ⟨contains_ok, trivial⟩ trivial trivial trivial trivial
  refine FnCl_of (C := ⟨22, tab, fun f => lk [(33, containsSp)] f, fun f => lk [] f, fun f => lk [] f, fun f => lk [] f, fun f => lk [] f⟩) 37 Try.f37 _ [4] leastSp [NI, LI] Try.func37 rfl (by decide) rfl rfl (Nat.le_of_ble_eq_true rfl) fun args caps K ht hc hK w0 => ?_
  obtain ⟨left, n, taken, rfl, rfl, hn, hk⟩ : ∃ left n taken, args = [tL left] ∧ caps = [tI n, tL taken] ∧ n ≤ 1000 ∧ K [tI (lst n left taken)] := by
    match args, caps, ht, hc, hK with
    | [⟨t1, left⟩], [⟨t2, n⟩, ⟨t3, taken⟩], ht, hc, hK =>
      simp only [leastSp, List.map_cons, List.map_nil, List.cons.injEq, and_true] at ht hc
      obtain ⟨rfl, rfl⟩ := hc
      subst ht
      exact ⟨left, n, taken, rfl, rfl, hK⟩
    | [], _, ht, _, _ => simp [leastSp] at ht
    | _ :: _ :: _, _, ht, _, _ => simp [leastSp] at ht
    | _, [], _, hc, _ => simp at hc
    | _, [_], _, hc, _ => simp at hc
    | _, _ :: _ :: _ :: _, _, hc, _ => simp at hc
  simp only [XS.initC, envC, env0, List.length_cons, List.length_nil, List.cons_append, List.nil_append]
  repeat' (first | with_reducible refine XW.seq ?_ | with_reducible refine XW.block ?_ | with_reducible refine XW.skip ?_ | with_reducible refine XW.exit ?_ | with_reducible refine XW.ret ?_ | ((first | with_reducible refine XW.region hC (fun K' hK' => ?_) | with_reducible refine XW.text hC hm_ok (by kernel_rfl) (fun K' hK' => ?_)); (try simp only [List.toList_toArray]); repeat' (first | with_reducible refine xrun_cons ?_ | with_reducible refine xtxt_cons ?_ | ((first | with_reducible show xoper _ _ _ _ _ _ _ | with_reducible show xdo _ _ _ _ _ _); simp only [zd, zb, zz, RT.at, RT.ty, RT.sub, RT.cut, RT.wr, getS, setT, Ty.dflt, lk, Int.reduceToNat, Int.reduceEq, reduceCtorEq, Nat.reduceLT, Nat.reduceEqDiff, Nat.reduceAdd, Nat.reduceMul, Nat.reduceLeDiff, Nat.reduceSub, Nat.reduceBEq, Nat.reduceBNe, Nat.reduceBeqDiff, ↓reduceIte, tab, tL, tI, tB, LI, NI, LLI, tLL, PRt, LPR, tPR, spL, spLI, containsSp, leastSp, List.set_cons_zero, List.getD_cons_zero]) | with_reducible refine xgd_intro (fun hg => ?_) (fun hg => ?_) <;> (try simp only [zh, zz, reduceCtorEq, bne_iff_ne, beq_iff_eq, ne_eq, Decidable.not_not, beq_eq_false_iff_ne, bne_eq_false_iff_eq] at hg) | ((with_reducible show (_ : Bool) = true); kernel_rfl) | with_reducible refine And.intro ?_ ?_ | with_reducible refine xrun_nil ?_ | with_reducible refine xtxt_nil ?_ | (refine hK' _ ?_; clear hK'; clear K') | (with_reducible intro hg; try simp only [zh, zz, reduceCtorEq, bne_iff_ne, beq_iff_eq, ne_eq, Decidable.not_not, beq_eq_false_iff_ne, bne_eq_false_iff_eq] at hg))) | ((with_reducible show XW _ _ _ _ (.cond _ _ _) _ _); refine XW.cond rfl (fun h => ?_) (fun h => ?_) <;> (try simp only [zh, zz, reduceCtorEq, bne_iff_ne, beq_iff_eq, ne_eq, Decidable.not_not, beq_eq_false_iff_ne, bne_eq_false_iff_eq] at h) <;> (try (exfalso; omega))) | ((with_reducible show XW.thn _ _ _ _); dsimp only [XW.thn]) | ((with_reducible show XW.blk _ _ _ _); simp only [XW.blk, ↓reduceIte, Nat.reduceEqDiff, Nat.zero_ne_one, Nat.one_ne_zero, ne_eq]) | ((with_reducible show retK _ _ _ _); simp only [retK, outsOf, outOf, zb, zz, RT.at, RT.ty, RT.sub, RT.cut, RT.wr, getS, setT, Ty.dflt, lk, Int.reduceToNat, Int.reduceEq, reduceCtorEq, Nat.reduceLT, Nat.reduceEqDiff, Nat.reduceAdd, Nat.reduceMul, Nat.reduceLeDiff, Nat.reduceSub, Nat.reduceBEq, Nat.reduceBNe, Nat.reduceBeqDiff, ↓reduceIte, tab, tL, tI, tB, LI, NI, LLI, tLL, PRt, LPR, tPR, spL, spLI, containsSp, leastSp, List.set_cons_zero, List.getD_cons_zero])); all_goals (try (first | omega | with_reducible exact Int.le_refl _ | (show (_ : Int) ≤ _; omega)))
  refine XW.loop (ι := Nat) (fun i => ⟨[(5, .dat NI ((i : Int) + 1)), (0, .dat LI left), (1, .rptr NI n), (2, .rptr LI taken)], [], 0, []⟩)
    (fun i => ∀ u : Int, 1 ≤ u → u < (i : Int) + 1 → u ∈ left ∨ u ∈ taken) (fun i => n.toNat + 1 - i) 0 [] (fun u h1 h2 => by omega) ?_ fun i hi => ?_
  · simp only [Fits, distinct, fitEnv, fitB, fitL, fitRoots, fitRT, idsOK, AV.ids, zb, zz, RT.at, RT.ty, RT.sub, RT.cut, RT.wr, getS, setT, Ty.dflt, lk, Int.reduceToNat, Int.reduceEq, reduceCtorEq, Nat.reduceLT, Nat.reduceEqDiff, Nat.reduceAdd, Nat.reduceMul, Nat.reduceLeDiff, Nat.reduceSub, Nat.reduceBEq, Nat.reduceBNe, Nat.reduceBeqDiff, ↓reduceIte, tab, tL, tI, tB, LI, NI, LLI, tLL, PRt, LPR, tPR, spL, spLI, containsSp, leastSp, List.set_cons_zero, List.getD_cons_zero]
    all_goals first | rfl | exact ⟨rfl, rfl⟩
  by_cases hin : (i : Int) + 1 ≤ n
  rotate_left
  · rw [lst_none fun u h1 h2 => hi u h1 (by omega)] at hk
    repeat' (first | with_reducible refine XW.seq ?_ | with_reducible refine XW.block ?_ | with_reducible refine XW.skip ?_ | with_reducible refine XW.exit ?_ | with_reducible refine XW.ret ?_ | ((first | with_reducible refine XW.region hC (fun K' hK' => ?_) | with_reducible refine XW.text hC hm_ok (by kernel_rfl) (fun K' hK' => ?_)); (try simp only [List.toList_toArray]); repeat' (first | with_reducible refine xrun_cons ?_ | with_reducible refine xtxt_cons ?_ | ((first | with_reducible show xoper _ _ _ _ _ _ _ | with_reducible show xdo _ _ _ _ _ _); simp only [zd, zb, zz, RT.at, RT.ty, RT.sub, RT.cut, RT.wr, getS, setT, Ty.dflt, lk, Int.reduceToNat, Int.reduceEq, reduceCtorEq, Nat.reduceLT, Nat.reduceEqDiff, Nat.reduceAdd, Nat.reduceMul, Nat.reduceLeDiff, Nat.reduceSub, Nat.reduceBEq, Nat.reduceBNe, Nat.reduceBeqDiff, ↓reduceIte, tab, tL, tI, tB, LI, NI, LLI, tLL, PRt, LPR, tPR, spL, spLI, containsSp, leastSp, List.set_cons_zero, List.getD_cons_zero]) | with_reducible refine xgd_intro (fun hg => ?_) (fun hg => ?_) <;> (try simp only [zh, zz, reduceCtorEq, bne_iff_ne, beq_iff_eq, ne_eq, Decidable.not_not, beq_eq_false_iff_ne, bne_eq_false_iff_eq] at hg) | ((with_reducible show (_ : Bool) = true); kernel_rfl) | with_reducible refine And.intro ?_ ?_ | with_reducible refine xrun_nil ?_ | with_reducible refine xtxt_nil ?_ | (refine hK' _ ?_; clear hK'; clear K') | (with_reducible intro hg; try simp only [zh, zz, reduceCtorEq, bne_iff_ne, beq_iff_eq, ne_eq, Decidable.not_not, beq_eq_false_iff_ne, bne_eq_false_iff_eq] at hg))) | ((with_reducible show XW _ _ _ _ (.cond _ _ _) _ _); refine XW.cond rfl (fun h => ?_) (fun h => ?_) <;> (try simp only [zh, zz, reduceCtorEq, bne_iff_ne, beq_iff_eq, ne_eq, Decidable.not_not, beq_eq_false_iff_ne, bne_eq_false_iff_eq] at h) <;> (try (exfalso; omega))) | ((with_reducible show XW.thn _ _ _ _); dsimp only [XW.thn]) | ((with_reducible show XW.blk _ _ _ _); simp only [XW.blk, ↓reduceIte, Nat.reduceEqDiff, Nat.zero_ne_one, Nat.one_ne_zero, ne_eq]) | ((with_reducible show retK _ _ _ _); simp only [retK, outsOf, outOf, zb, zz, RT.at, RT.ty, RT.sub, RT.cut, RT.wr, getS, setT, Ty.dflt, lk, Int.reduceToNat, Int.reduceEq, reduceCtorEq, Nat.reduceLT, Nat.reduceEqDiff, Nat.reduceAdd, Nat.reduceMul, Nat.reduceLeDiff, Nat.reduceSub, Nat.reduceBEq, Nat.reduceBNe, Nat.reduceBeqDiff, ↓reduceIte, tab, tL, tI, tB, LI, NI, LLI, tLL, PRt, LPR, tPR, spL, spLI, containsSp, leastSp, List.set_cons_zero, List.getD_cons_zero])); all_goals (try (first | omega | with_reducible exact Int.le_refl _ | (show (_ : Int) ≤ _; omega)))
    all_goals first
      | exact hk
      | (exfalso; omega)
  by_cases hm : (i : Int) + 1 ∉ left ∧ (i : Int) + 1 ∉ taken
  · rw [lst_of (by omega) hin hm.1 hm.2 hi] at hk
    obtain ⟨m1, m2⟩ := hm
    repeat' (first | with_reducible refine XW.seq ?_ | with_reducible refine XW.block ?_ | with_reducible refine XW.skip ?_ | with_reducible refine XW.exit ?_ | with_reducible refine XW.ret ?_ | ((first | with_reducible refine XW.region hC (fun K' hK' => ?_) | with_reducible refine XW.text hC hm_ok (by kernel_rfl) (fun K' hK' => ?_)); (try simp only [List.toList_toArray]); repeat' (first | with_reducible refine xrun_cons ?_ | with_reducible refine xtxt_cons ?_ | ((first | with_reducible show xoper _ _ _ _ _ _ _ | with_reducible show xdo _ _ _ _ _ _); simp only [zd, zb, zz, RT.at, RT.ty, RT.sub, RT.cut, RT.wr, getS, setT, Ty.dflt, lk, Int.reduceToNat, Int.reduceEq, reduceCtorEq, Nat.reduceLT, Nat.reduceEqDiff, Nat.reduceAdd, Nat.reduceMul, Nat.reduceLeDiff, Nat.reduceSub, Nat.reduceBEq, Nat.reduceBNe, Nat.reduceBeqDiff, ↓reduceIte, tab, tL, tI, tB, LI, NI, LLI, tLL, PRt, LPR, tPR, spL, spLI, containsSp, leastSp, List.set_cons_zero, List.getD_cons_zero]) | with_reducible refine xgd_intro (fun hg => ?_) (fun hg => ?_) <;> (try simp only [zh, zz, reduceCtorEq, bne_iff_ne, beq_iff_eq, ne_eq, Decidable.not_not, beq_eq_false_iff_ne, bne_eq_false_iff_eq] at hg) | ((with_reducible show (_ : Bool) = true); kernel_rfl) | with_reducible refine And.intro ?_ ?_ | with_reducible refine xrun_nil ?_ | with_reducible refine xtxt_nil ?_ | (refine hK' _ ?_; clear hK'; clear K') | (with_reducible intro hg; try simp only [zh, zz, reduceCtorEq, bne_iff_ne, beq_iff_eq, ne_eq, Decidable.not_not, beq_eq_false_iff_ne, bne_eq_false_iff_eq] at hg))) | ((with_reducible show XW _ _ _ _ (.cond _ _ _) _ _); refine XW.cond rfl (fun h => ?_) (fun h => ?_) <;> (try simp only [zh, zz, reduceCtorEq, bne_iff_ne, beq_iff_eq, ne_eq, Decidable.not_not, beq_eq_false_iff_ne, bne_eq_false_iff_eq] at h) <;> (try (exfalso; omega))) | ((with_reducible show XW.thn _ _ _ _); dsimp only [XW.thn]) | ((with_reducible show XW.blk _ _ _ _); simp only [XW.blk, ↓reduceIte, Nat.reduceEqDiff, Nat.zero_ne_one, Nat.one_ne_zero, ne_eq]) | ((with_reducible show retK _ _ _ _); simp only [retK, outsOf, outOf, zb, zz, RT.at, RT.ty, RT.sub, RT.cut, RT.wr, getS, setT, Ty.dflt, lk, Int.reduceToNat, Int.reduceEq, reduceCtorEq, Nat.reduceLT, Nat.reduceEqDiff, Nat.reduceAdd, Nat.reduceMul, Nat.reduceLeDiff, Nat.reduceSub, Nat.reduceBEq, Nat.reduceBNe, Nat.reduceBeqDiff, ↓reduceIte, tab, tL, tI, tB, LI, NI, LLI, tLL, PRt, LPR, tPR, spL, spLI, containsSp, leastSp, List.set_cons_zero, List.getD_cons_zero])); all_goals (try (first | omega | with_reducible exact Int.le_refl _ | (show (_ : Int) ≤ _; omega)))
    all_goals first
      | exact hk
      | (exfalso; omega)
      | exact absurd (by assumption) m1
      | exact absurd (by assumption) m2
      | skip
  · have hm1 : (i : Int) + 1 ∉ left → (i : Int) + 1 ∉ taken → False := fun a b => hm ⟨a, b⟩
    have hnext : ∀ u : Int, 1 ≤ u → u < ((i + 1 : Nat) : Int) + 1 → u ∈ left ∨ u ∈ taken := fun u h1 h2 => by
      by_cases e : u = (i : Int) + 1
      · subst e
        exact Classical.byContradiction fun hc => hm ⟨fun h => hc (.inl h), fun h => hc (.inr h)⟩
      · exact hi u h1 (by omega)
    repeat' (first | with_reducible refine XW.seq ?_ | with_reducible refine XW.block ?_ | with_reducible refine XW.skip ?_ | with_reducible refine XW.exit ?_ | with_reducible refine XW.ret ?_ | ((first | with_reducible refine XW.region hC (fun K' hK' => ?_) | with_reducible refine XW.text hC hm_ok (by kernel_rfl) (fun K' hK' => ?_)); (try simp only [List.toList_toArray]); repeat' (first | with_reducible refine xrun_cons ?_ | with_reducible refine xtxt_cons ?_ | ((first | with_reducible show xoper _ _ _ _ _ _ _ | with_reducible show xdo _ _ _ _ _ _); simp only [zd, zb, zz, RT.at, RT.ty, RT.sub, RT.cut, RT.wr, getS, setT, Ty.dflt, lk, Int.reduceToNat, Int.reduceEq, reduceCtorEq, Nat.reduceLT, Nat.reduceEqDiff, Nat.reduceAdd, Nat.reduceMul, Nat.reduceLeDiff, Nat.reduceSub, Nat.reduceBEq, Nat.reduceBNe, Nat.reduceBeqDiff, ↓reduceIte, tab, tL, tI, tB, LI, NI, LLI, tLL, PRt, LPR, tPR, spL, spLI, containsSp, leastSp, List.set_cons_zero, List.getD_cons_zero]) | with_reducible refine xgd_intro (fun hg => ?_) (fun hg => ?_) <;> (try simp only [zh, zz, reduceCtorEq, bne_iff_ne, beq_iff_eq, ne_eq, Decidable.not_not, beq_eq_false_iff_ne, bne_eq_false_iff_eq] at hg) | ((with_reducible show (_ : Bool) = true); kernel_rfl) | with_reducible refine And.intro ?_ ?_ | with_reducible refine xrun_nil ?_ | with_reducible refine xtxt_nil ?_ | (refine hK' _ ?_; clear hK'; clear K') | (with_reducible intro hg; try simp only [zh, zz, reduceCtorEq, bne_iff_ne, beq_iff_eq, ne_eq, Decidable.not_not, beq_eq_false_iff_ne, bne_eq_false_iff_eq] at hg))) | ((with_reducible show XW _ _ _ _ (.cond _ _ _) _ _); refine XW.cond rfl (fun h => ?_) (fun h => ?_) <;> (try simp only [zh, zz, reduceCtorEq, bne_iff_ne, beq_iff_eq, ne_eq, Decidable.not_not, beq_eq_false_iff_ne, bne_eq_false_iff_eq] at h) <;> (try (exfalso; omega))) | ((with_reducible show XW.thn _ _ _ _); dsimp only [XW.thn]) | ((with_reducible show XW.blk _ _ _ _); simp only [XW.blk, ↓reduceIte, Nat.reduceEqDiff, Nat.zero_ne_one, Nat.one_ne_zero, ne_eq]) | ((with_reducible show retK _ _ _ _); simp only [retK, outsOf, outOf, zb, zz, RT.at, RT.ty, RT.sub, RT.cut, RT.wr, getS, setT, Ty.dflt, lk, Int.reduceToNat, Int.reduceEq, reduceCtorEq, Nat.reduceLT, Nat.reduceEqDiff, Nat.reduceAdd, Nat.reduceMul, Nat.reduceLeDiff, Nat.reduceSub, Nat.reduceBEq, Nat.reduceBNe, Nat.reduceBeqDiff, ↓reduceIte, tab, tL, tI, tB, LI, NI, LLI, tLL, PRt, LPR, tPR, spL, spLI, containsSp, leastSp, List.set_cons_zero, List.getD_cons_zero])); all_goals (try (first | omega | with_reducible exact Int.le_refl _ | (show (_ : Int) ≤ _; omega)))
    all_goals try exact (hm1 (by assumption) (by assumption)).elim
    all_goals
      refine ⟨i + 1, [], hnext, by omega, ?_⟩
      simp only [Fits, distinct, fitEnv, fitB, fitL, fitRoots, fitRT, idsOK, AV.ids, zb, zz, RT.at, RT.ty, RT.sub, RT.cut, RT.wr, getS, setT, Ty.dflt, lk, Int.reduceToNat, Int.reduceEq, reduceCtorEq, Nat.reduceLT, Nat.reduceEqDiff, Nat.reduceAdd, Nat.reduceMul, Nat.reduceLeDiff, Nat.reduceSub, Nat.reduceBEq, Nat.reduceBNe, Nat.reduceBeqDiff, ↓reduceIte, tab, tL, tI, tB, LI, NI, LLI, tLL, PRt, LPR, tPR, spL, spLI, containsSp, leastSp, List.set_cons_zero, List.getD_cons_zero]
    all_goals first | rfl | exact ⟨rfl, rfl⟩

end Fer
