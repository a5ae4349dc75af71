/-
  Walk: ferref.Edged. No condition.
-/
import Derived.Test.YtmaahmcdejoclaaRows
import Derived.Test.YtmaahmcdejoclaaPkM
import Derived.Test.YtmaahmcdejoclaaPkE
import Derived.Test.YtmaahmcdejoclaaFerWa
set_option linter.unusedSimpArgs false
set_option linter.unusedVariables false
set_option maxHeartbeats 8000000
-- SPECS: tL, tI, tB, LI, NI, LLI, tLL, PRt, LPR, tPR, edgedSp, insPrSp, List.set_cons_zero, List.getD_cons_zero
namespace Fer
open Go Go.Proofs

def edgedSp : Spec := ⟨[LPR], fun args K => match args with
  | [⟨.list _ (.prod (.int _) (.int _)), l⟩] => l.length < 1000000000000 ∧ K [tPR (edgedL l)]
  | _ => False⟩

/-- How many stand ahead of p. -/
def ahead (o : List (Int × Int)) (p : Int × Int) : Nat := (o.takeWhile (plt · p)).length
theorem ahead_le (o : List (Int × Int)) (p : Int × Int) : ahead o p ≤ o.length := (List.takeWhile_prefix _).length_le
theorem insP_at (o : List (Int × Int)) (p : Int × Int) : insP o p = o.take (ahead o p) ++ [p] ++ o.drop (ahead o p) := by
  have h : o.takeWhile (plt · p) ++ o.dropWhile (plt · p) = o := List.takeWhile_append_dropWhile
  have e1 : o.take (ahead o p) = o.takeWhile (plt · p) := by
    generalize hk : ahead o p = k
    conv => lhs; rw [← h]
    exact List.take_left' hk
  have e2 : o.drop (ahead o p) = o.dropWhile (plt · p) := by
    generalize hk : ahead o p = k
    conv => lhs; rw [← h]
    exact List.drop_left' hk
  rw [e1, e2, List.append_assoc]
  rfl
theorem ahead_go {o : List (Int × Int)} {p : Int × Int} : ∀ {k : Nat}, k < ahead o p → plt (o.getD k (0, 0)) p = true := by
  unfold ahead
  induction o with
  | nil => intro k h; simp at h
  | cons a o ih =>
    intro k h
    rw [List.takeWhile_cons] at h
    by_cases c : plt a p = true
    · rw [if_pos c] at h
      cases k with
      | zero => exact c
      | succ k => exact ih (by simpa using h)
    · rw [if_neg c] at h; simp at h
theorem ahead_end {o : List (Int × Int)} {p : Int × Int} : ahead o p < o.length → ¬ plt (o.getD (ahead o p) (0, 0)) p = true := by
  unfold ahead
  induction o with
  | nil => intro h; simp at h
  | cons a o ih =>
    intro h
    rw [List.takeWhile_cons] at h ⊢
    by_cases c : plt a p = true
    · rw [if_pos c] at h ⊢
      exact ih (by simpa using h)
    · rw [if_neg c]; exact c

set_option maxRecDepth 10000 in
theorem edged_ok : FnOK Try.prog 38 edgedSp := by
  have hC : CtxOK Try.prog ⟨78, tab, fun f => lk [] f, fun f => lk [(73, insPrSp)] f, fun f => lk [] f, fun f => lk [] f, fun f => lk [] f⟩ := ctx_ok trivial ⟨insPr_ok, trivial⟩ trivial trivial trivial
  refine FnOK_of (C := ⟨78, tab, fun f => lk [] f, fun f => lk [(73, insPrSp)] f, fun f => lk [] f, fun f => lk [] f, fun f => lk [] f⟩) 38 Try.f38 _ [2] edgedSp Try.func38 rfl (by decide) rfl rfl (Nat.le_of_ble_eq_true rfl) fun args K ht hK w0 => ?_
  obtain ⟨l, rfl, hbig, hk⟩ := at_P (f := fun l K => l.length < 1000000000000 ∧ K [tPR (edgedL l)]) rfl ht hK
  repeat' (first | with_reducible refine XW.seq ?_ | with_reducible refine XW.block ?_ | with_reducible refine XW.skip ?_ | with_reducible refine XW.exit ?_ | with_reducible refine XW.ret ?_ | ((first | with_reducible refine XW.region hC (fun K' hK' => ?_) | with_reducible refine XW.text hC hm_ok (by kernel_rfl) (fun K' hK' => ?_)); (try simp only [List.toList_toArray]); repeat' (first | with_reducible refine xrun_cons ?_ | with_reducible refine xtxt_cons ?_ | ((first | with_reducible show xoper _ _ _ _ _ _ _ | with_reducible show xdo _ _ _ _ _ _); simp only [zd, zb, zz, RT.at, RT.ty, RT.sub, RT.cut, RT.wr, getS, setT, Ty.dflt, lk, Int.reduceToNat, Int.reduceEq, reduceCtorEq, Nat.reduceLT, Nat.reduceEqDiff, Nat.reduceAdd, Nat.reduceMul, Nat.reduceLeDiff, Nat.reduceSub, Nat.reduceBEq, Nat.reduceBNe, Nat.reduceBeqDiff, ↓reduceIte, tab, tL, tI, tB, LI, NI, LLI, tLL, PRt, LPR, tPR, edgedSp, insPrSp, List.set_cons_zero, List.getD_cons_zero]) | with_reducible refine xgd_intro (fun hg => ?_) (fun hg => ?_) <;> (try simp only [zh, zz, reduceCtorEq, bne_iff_ne, beq_iff_eq, ne_eq, Decidable.not_not, beq_eq_false_iff_ne, bne_eq_false_iff_eq] at hg) | ((with_reducible show (_ : Bool) = true); kernel_rfl) | with_reducible refine And.intro ?_ ?_ | with_reducible refine xrun_nil ?_ | with_reducible refine xtxt_nil ?_ | (refine hK' _ ?_; clear hK'; clear K') | (with_reducible intro hg; try simp only [zh, zz, reduceCtorEq, bne_iff_ne, beq_iff_eq, ne_eq, Decidable.not_not, beq_eq_false_iff_ne, bne_eq_false_iff_eq] at hg))) | ((with_reducible show XW _ _ _ _ (.cond _ _ _) _ _); refine XW.cond rfl (fun h => ?_) (fun h => ?_) <;> (try simp only [zh, zz, reduceCtorEq, bne_iff_ne, beq_iff_eq, ne_eq, Decidable.not_not, beq_eq_false_iff_ne, bne_eq_false_iff_eq] at h) <;> (try (exfalso; omega))) | ((with_reducible show XW.thn _ _ _ _); dsimp only [XW.thn]) | ((with_reducible show XW.blk _ _ _ _); simp only [XW.blk, ↓reduceIte, Nat.reduceEqDiff, Nat.zero_ne_one, Nat.one_ne_zero, ne_eq]) | ((with_reducible show retK _ _ _ _); simp only [retK, outsOf, outOf, zb, zz, RT.at, RT.ty, RT.sub, RT.cut, RT.wr, getS, setT, Ty.dflt, lk, Int.reduceToNat, Int.reduceEq, reduceCtorEq, Nat.reduceLT, Nat.reduceEqDiff, Nat.reduceAdd, Nat.reduceMul, Nat.reduceLeDiff, Nat.reduceSub, Nat.reduceBEq, Nat.reduceBNe, Nat.reduceBeqDiff, ↓reduceIte, tab, tL, tI, tB, LI, NI, LLI, tLL, PRt, LPR, tPR, edgedSp, insPrSp, List.set_cons_zero, List.getD_cons_zero])); all_goals (try (first | omega | with_reducible exact Int.le_refl _ | (show (_ : Int) ≤ _; omega)))
  refine XW.loop (ι := Nat) (fun i => ⟨[(4, .dat NI (i : Int)), (3, .ref 0 []), (0, .dat LPR l)], [(0, ⟨34, PRt, 0, edgedL (l.take i), none⟩)], 1, []⟩)
    (fun i => i ≤ l.length) (fun i => l.length - i) 0 [(0, 1)] (Nat.zero_le _) ?_ fun i hi => ?_
  · simp only [Fits, distinct, fitEnv, fitB, fitL, fitRoots, fitRT, idsOK, AV.ids, zb, zz, RT.at, RT.ty, RT.sub, RT.cut, RT.wr, getS, setT, Ty.dflt, lk, Int.reduceToNat, Int.reduceEq, reduceCtorEq, Nat.reduceLT, Nat.reduceEqDiff, Nat.reduceAdd, Nat.reduceMul, Nat.reduceLeDiff, Nat.reduceSub, Nat.reduceBEq, Nat.reduceBNe, Nat.reduceBeqDiff, ↓reduceIte, tab, tL, tI, tB, LI, NI, LLI, tLL, PRt, LPR, tPR, edgedSp, insPrSp, List.set_cons_zero, List.getD_cons_zero]
    all_goals first | rfl | exact ⟨rfl, rfl⟩ | exact ⟨rfl, rfl, rfl⟩
  by_cases hil : i < l.length
  rotate_left
  · obtain rfl : i = l.length := by omega
    rw [List.take_length]
    repeat' (first | with_reducible refine XW.seq ?_ | with_reducible refine XW.block ?_ | with_reducible refine XW.skip ?_ | with_reducible refine XW.exit ?_ | with_reducible refine XW.ret ?_ | ((first | with_reducible refine XW.region hC (fun K' hK' => ?_) | with_reducible refine XW.text hC hm_ok (by kernel_rfl) (fun K' hK' => ?_)); (try simp only [List.toList_toArray]); repeat' (first | with_reducible refine xrun_cons ?_ | with_reducible refine xtxt_cons ?_ | ((first | with_reducible show xoper _ _ _ _ _ _ _ | with_reducible show xdo _ _ _ _ _ _); simp only [zd, zb, zz, RT.at, RT.ty, RT.sub, RT.cut, RT.wr, getS, setT, Ty.dflt, lk, Int.reduceToNat, Int.reduceEq, reduceCtorEq, Nat.reduceLT, Nat.reduceEqDiff, Nat.reduceAdd, Nat.reduceMul, Nat.reduceLeDiff, Nat.reduceSub, Nat.reduceBEq, Nat.reduceBNe, Nat.reduceBeqDiff, ↓reduceIte, tab, tL, tI, tB, LI, NI, LLI, tLL, PRt, LPR, tPR, edgedSp, insPrSp, List.set_cons_zero, List.getD_cons_zero]) | with_reducible refine xgd_intro (fun hg => ?_) (fun hg => ?_) <;> (try simp only [zh, zz, reduceCtorEq, bne_iff_ne, beq_iff_eq, ne_eq, Decidable.not_not, beq_eq_false_iff_ne, bne_eq_false_iff_eq] at hg) | ((with_reducible show (_ : Bool) = true); kernel_rfl) | with_reducible refine And.intro ?_ ?_ | with_reducible refine xrun_nil ?_ | with_reducible refine xtxt_nil ?_ | (refine hK' _ ?_; clear hK'; clear K') | (with_reducible intro hg; try simp only [zh, zz, reduceCtorEq, bne_iff_ne, beq_iff_eq, ne_eq, Decidable.not_not, beq_eq_false_iff_ne, bne_eq_false_iff_eq] at hg))) | ((with_reducible show XW _ _ _ _ (.cond _ _ _) _ _); refine XW.cond rfl (fun h => ?_) (fun h => ?_) <;> (try simp only [zh, zz, reduceCtorEq, bne_iff_ne, beq_iff_eq, ne_eq, Decidable.not_not, beq_eq_false_iff_ne, bne_eq_false_iff_eq] at h) <;> (try (exfalso; omega))) | ((with_reducible show XW.thn _ _ _ _); dsimp only [XW.thn]) | ((with_reducible show XW.blk _ _ _ _); simp only [XW.blk, ↓reduceIte, Nat.reduceEqDiff, Nat.zero_ne_one, Nat.one_ne_zero, ne_eq]) | ((with_reducible show retK _ _ _ _); simp only [retK, outsOf, outOf, zb, zz, RT.at, RT.ty, RT.sub, RT.cut, RT.wr, getS, setT, Ty.dflt, lk, Int.reduceToNat, Int.reduceEq, reduceCtorEq, Nat.reduceLT, Nat.reduceEqDiff, Nat.reduceAdd, Nat.reduceMul, Nat.reduceLeDiff, Nat.reduceSub, Nat.reduceBEq, Nat.reduceBNe, Nat.reduceBeqDiff, ↓reduceIte, tab, tL, tI, tB, LI, NI, LLI, tLL, PRt, LPR, tPR, edgedSp, insPrSp, List.set_cons_zero, List.getD_cons_zero])); all_goals (try (first | omega | with_reducible exact Int.le_refl _ | (show (_ : Int) ≤ _; omega)))
    all_goals first
      | exact hk
      | (exfalso; omega)
  have hel := edged_len (l.take i)
  rw [List.length_take] at hel
  have htk := edged_take hil
  obtain ⟨o, ho⟩ : ∃ o, o = edgedL (l.take i) := ⟨_, rfl⟩
  rw [← ho] at hel htk ⊢
  rw [insP_at] at htk
  have ha := ahead_le o (nrm (l.getD i (0, 0)))
  repeat' (first | with_reducible refine XW.seq ?_ | with_reducible refine XW.block ?_ | with_reducible refine XW.skip ?_ | with_reducible refine XW.exit ?_ | with_reducible refine XW.ret ?_ | ((first | with_reducible refine XW.region hC (fun K' hK' => ?_) | with_reducible refine XW.text hC hm_ok (by kernel_rfl) (fun K' hK' => ?_)); (try simp only [List.toList_toArray]); repeat' (first | with_reducible refine xrun_cons ?_ | with_reducible refine xtxt_cons ?_ | ((first | with_reducible show xoper _ _ _ _ _ _ _ | with_reducible show xdo _ _ _ _ _ _); simp only [zd, zb, zz, RT.at, RT.ty, RT.sub, RT.cut, RT.wr, getS, setT, Ty.dflt, lk, Int.reduceToNat, Int.reduceEq, reduceCtorEq, Nat.reduceLT, Nat.reduceEqDiff, Nat.reduceAdd, Nat.reduceMul, Nat.reduceLeDiff, Nat.reduceSub, Nat.reduceBEq, Nat.reduceBNe, Nat.reduceBeqDiff, ↓reduceIte, tab, tL, tI, tB, LI, NI, LLI, tLL, PRt, LPR, tPR, edgedSp, insPrSp, List.set_cons_zero, List.getD_cons_zero]) | with_reducible refine xgd_intro (fun hg => ?_) (fun hg => ?_) <;> (try simp only [zh, zz, reduceCtorEq, bne_iff_ne, beq_iff_eq, ne_eq, Decidable.not_not, beq_eq_false_iff_ne, bne_eq_false_iff_eq] at hg) | ((with_reducible show (_ : Bool) = true); kernel_rfl) | with_reducible refine And.intro ?_ ?_ | with_reducible refine xrun_nil ?_ | with_reducible refine xtxt_nil ?_ | (refine hK' _ ?_; clear hK'; clear K') | (with_reducible intro hg; try simp only [zh, zz, reduceCtorEq, bne_iff_ne, beq_iff_eq, ne_eq, Decidable.not_not, beq_eq_false_iff_ne, bne_eq_false_iff_eq] at hg))) | ((with_reducible show XW _ _ _ _ (.cond _ _ _) _ _); refine XW.cond rfl (fun h => ?_) (fun h => ?_) <;> (try simp only [zh, zz, reduceCtorEq, bne_iff_ne, beq_iff_eq, ne_eq, Decidable.not_not, beq_eq_false_iff_ne, bne_eq_false_iff_eq] at h) <;> (try (exfalso; omega))) | ((with_reducible show XW.thn _ _ _ _); dsimp only [XW.thn]) | ((with_reducible show XW.blk _ _ _ _); simp only [XW.blk, ↓reduceIte, Nat.reduceEqDiff, Nat.zero_ne_one, Nat.one_ne_zero, ne_eq]) | ((with_reducible show retK _ _ _ _); simp only [retK, outsOf, outOf, zb, zz, RT.at, RT.ty, RT.sub, RT.cut, RT.wr, getS, setT, Ty.dflt, lk, Int.reduceToNat, Int.reduceEq, reduceCtorEq, Nat.reduceLT, Nat.reduceEqDiff, Nat.reduceAdd, Nat.reduceMul, Nat.reduceLeDiff, Nat.reduceSub, Nat.reduceBEq, Nat.reduceBNe, Nat.reduceBeqDiff, ↓reduceIte, tab, tL, tI, tB, LI, NI, LLI, tLL, PRt, LPR, tPR, edgedSp, insPrSp, List.set_cons_zero, List.getD_cons_zero])); all_goals (try (first | omega | with_reducible exact Int.le_refl _ | (show (_ : Int) ≤ _; omega)))
  refine XW.loop (ι := Nat) (fun k => ⟨[(6, .dat NI (k : Int)), (5, .ptr 1 [0]), (4, .dat NI (i : Int)), (3, .ref 0 []), (0, .dat LPR l)], [(0, ⟨34, PRt, 0, o, none⟩), (1, ⟨34, PRt, 0, [nrm (l.getD i (0, 0))], none⟩)], 2, []⟩)
    (fun k => k ≤ ahead o (nrm (l.getD i (0, 0)))) (fun k => o.length - k) 0 [(0, 0), (1, 1)] (Nat.zero_le _) ?_ fun k hk' => ?_
  · simp only [Fits, distinct, fitEnv, fitB, fitL, fitRoots, fitRT, idsOK, AV.ids, zb, zz, RT.at, RT.ty, RT.sub, RT.cut, RT.wr, getS, setT, Ty.dflt, lk, Int.reduceToNat, Int.reduceEq, reduceCtorEq, Nat.reduceLT, Nat.reduceEqDiff, Nat.reduceAdd, Nat.reduceMul, Nat.reduceLeDiff, Nat.reduceSub, Nat.reduceBEq, Nat.reduceBNe, Nat.reduceBeqDiff, ↓reduceIte, tab, tL, tI, tB, LI, NI, LLI, tLL, PRt, LPR, tPR, edgedSp, insPrSp, List.set_cons_zero, List.getD_cons_zero]
    all_goals first | rfl | exact ⟨rfl, rfl⟩ | exact ⟨rfl, rfl, rfl⟩
  by_cases hka : k = ahead o (nrm (l.getD i (0, 0)))
  · have he := ahead_end (o := o) (p := nrm (l.getD i (0, 0)))
    rw [← hka] at he htk
    rw [plt_iff] at he
    repeat' (first | with_reducible refine XW.seq ?_ | with_reducible refine XW.block ?_ | with_reducible refine XW.skip ?_ | with_reducible refine XW.exit ?_ | with_reducible refine XW.ret ?_ | ((first | with_reducible refine XW.region hC (fun K' hK' => ?_) | with_reducible refine XW.text hC hm_ok (by kernel_rfl) (fun K' hK' => ?_)); (try simp only [List.toList_toArray]); repeat' (first | with_reducible refine xrun_cons ?_ | with_reducible refine xtxt_cons ?_ | ((first | with_reducible show xoper _ _ _ _ _ _ _ | with_reducible show xdo _ _ _ _ _ _); simp only [zd, zb, zz, RT.at, RT.ty, RT.sub, RT.cut, RT.wr, getS, setT, Ty.dflt, lk, Int.reduceToNat, Int.reduceEq, reduceCtorEq, Nat.reduceLT, Nat.reduceEqDiff, Nat.reduceAdd, Nat.reduceMul, Nat.reduceLeDiff, Nat.reduceSub, Nat.reduceBEq, Nat.reduceBNe, Nat.reduceBeqDiff, ↓reduceIte, tab, tL, tI, tB, LI, NI, LLI, tLL, PRt, LPR, tPR, edgedSp, insPrSp, List.set_cons_zero, List.getD_cons_zero]) | with_reducible refine xgd_intro (fun hg => ?_) (fun hg => ?_) <;> (try simp only [zh, zz, reduceCtorEq, bne_iff_ne, beq_iff_eq, ne_eq, Decidable.not_not, beq_eq_false_iff_ne, bne_eq_false_iff_eq] at hg) | ((with_reducible show (_ : Bool) = true); kernel_rfl) | with_reducible refine And.intro ?_ ?_ | with_reducible refine xrun_nil ?_ | with_reducible refine xtxt_nil ?_ | (refine hK' _ ?_; clear hK'; clear K') | (with_reducible intro hg; try simp only [zh, zz, reduceCtorEq, bne_iff_ne, beq_iff_eq, ne_eq, Decidable.not_not, beq_eq_false_iff_ne, bne_eq_false_iff_eq] at hg))) | ((with_reducible show XW _ _ _ _ (.cond _ _ _) _ _); refine XW.cond rfl (fun h => ?_) (fun h => ?_) <;> (try simp only [zh, zz, reduceCtorEq, bne_iff_ne, beq_iff_eq, ne_eq, Decidable.not_not, beq_eq_false_iff_ne, bne_eq_false_iff_eq] at h) <;> (try (exfalso; omega))) | ((with_reducible show XW.thn _ _ _ _); dsimp only [XW.thn]) | ((with_reducible show XW.blk _ _ _ _); simp only [XW.blk, ↓reduceIte, Nat.reduceEqDiff, Nat.zero_ne_one, Nat.one_ne_zero, ne_eq]) | ((with_reducible show retK _ _ _ _); simp only [retK, outsOf, outOf, zb, zz, RT.at, RT.ty, RT.sub, RT.cut, RT.wr, getS, setT, Ty.dflt, lk, Int.reduceToNat, Int.reduceEq, reduceCtorEq, Nat.reduceLT, Nat.reduceEqDiff, Nat.reduceAdd, Nat.reduceMul, Nat.reduceLeDiff, Nat.reduceSub, Nat.reduceBEq, Nat.reduceBNe, Nat.reduceBeqDiff, ↓reduceIte, tab, tL, tI, tB, LI, NI, LLI, tLL, PRt, LPR, tPR, edgedSp, insPrSp, List.set_cons_zero, List.getD_cons_zero])); all_goals (try (first | omega | with_reducible exact Int.le_refl _ | (show (_ : Int) ≤ _; omega)))
    all_goals try (exfalso; omega)
    all_goals try omega
    all_goals refine ⟨i + 1, [(0, 3)], by omega, by omega, ?_⟩
    all_goals rw [htk]
    all_goals simp only [Fits, distinct, fitEnv, fitB, fitL, fitRoots, fitRT, idsOK, AV.ids, zb, zz, RT.at, RT.ty, RT.sub, RT.cut, RT.wr, getS, setT, Ty.dflt, lk, Int.reduceToNat, Int.reduceEq, reduceCtorEq, Nat.reduceLT, Nat.reduceEqDiff, Nat.reduceAdd, Nat.reduceMul, Nat.reduceLeDiff, Nat.reduceSub, Nat.reduceBEq, Nat.reduceBNe, Nat.reduceBeqDiff, ↓reduceIte, tab, tL, tI, tB, LI, NI, LLI, tLL, PRt, LPR, tPR, edgedSp, insPrSp, List.set_cons_zero, List.getD_cons_zero]
    all_goals first | rfl | exact ⟨rfl, rfl⟩ | exact ⟨rfl, rfl, rfl⟩
  · have he := ahead_go (o := o) (p := nrm (l.getD i (0, 0))) (k := k) (by omega)
    rw [plt_iff] at he
    repeat' (first | with_reducible refine XW.seq ?_ | with_reducible refine XW.block ?_ | with_reducible refine XW.skip ?_ | with_reducible refine XW.exit ?_ | with_reducible refine XW.ret ?_ | ((first | with_reducible refine XW.region hC (fun K' hK' => ?_) | with_reducible refine XW.text hC hm_ok (by kernel_rfl) (fun K' hK' => ?_)); (try simp only [List.toList_toArray]); repeat' (first | with_reducible refine xrun_cons ?_ | with_reducible refine xtxt_cons ?_ | ((first | with_reducible show xoper _ _ _ _ _ _ _ | with_reducible show xdo _ _ _ _ _ _); simp only [zd, zb, zz, RT.at, RT.ty, RT.sub, RT.cut, RT.wr, getS, setT, Ty.dflt, lk, Int.reduceToNat, Int.reduceEq, reduceCtorEq, Nat.reduceLT, Nat.reduceEqDiff, Nat.reduceAdd, Nat.reduceMul, Nat.reduceLeDiff, Nat.reduceSub, Nat.reduceBEq, Nat.reduceBNe, Nat.reduceBeqDiff, ↓reduceIte, tab, tL, tI, tB, LI, NI, LLI, tLL, PRt, LPR, tPR, edgedSp, insPrSp, List.set_cons_zero, List.getD_cons_zero]) | with_reducible refine xgd_intro (fun hg => ?_) (fun hg => ?_) <;> (try simp only [zh, zz, reduceCtorEq, bne_iff_ne, beq_iff_eq, ne_eq, Decidable.not_not, beq_eq_false_iff_ne, bne_eq_false_iff_eq] at hg) | ((with_reducible show (_ : Bool) = true); kernel_rfl) | with_reducible refine And.intro ?_ ?_ | with_reducible refine xrun_nil ?_ | with_reducible refine xtxt_nil ?_ | (refine hK' _ ?_; clear hK'; clear K') | (with_reducible intro hg; try simp only [zh, zz, reduceCtorEq, bne_iff_ne, beq_iff_eq, ne_eq, Decidable.not_not, beq_eq_false_iff_ne, bne_eq_false_iff_eq] at hg))) | ((with_reducible show XW _ _ _ _ (.cond _ _ _) _ _); refine XW.cond rfl (fun h => ?_) (fun h => ?_) <;> (try simp only [zh, zz, reduceCtorEq, bne_iff_ne, beq_iff_eq, ne_eq, Decidable.not_not, beq_eq_false_iff_ne, bne_eq_false_iff_eq] at h) <;> (try (exfalso; omega))) | ((with_reducible show XW.thn _ _ _ _); dsimp only [XW.thn]) | ((with_reducible show XW.blk _ _ _ _); simp only [XW.blk, ↓reduceIte, Nat.reduceEqDiff, Nat.zero_ne_one, Nat.one_ne_zero, ne_eq]) | ((with_reducible show retK _ _ _ _); simp only [retK, outsOf, outOf, zb, zz, RT.at, RT.ty, RT.sub, RT.cut, RT.wr, getS, setT, Ty.dflt, lk, Int.reduceToNat, Int.reduceEq, reduceCtorEq, Nat.reduceLT, Nat.reduceEqDiff, Nat.reduceAdd, Nat.reduceMul, Nat.reduceLeDiff, Nat.reduceSub, Nat.reduceBEq, Nat.reduceBNe, Nat.reduceBeqDiff, ↓reduceIte, tab, tL, tI, tB, LI, NI, LLI, tLL, PRt, LPR, tPR, edgedSp, insPrSp, List.set_cons_zero, List.getD_cons_zero])); all_goals (try (first | omega | with_reducible exact Int.le_refl _ | (show (_ : Int) ≤ _; omega)))
    all_goals try (exfalso; omega)
    all_goals refine ⟨k + 1, [(0, 0), (1, 1)], by omega, by omega, ?_⟩
    all_goals simp only [Fits, distinct, fitEnv, fitB, fitL, fitRoots, fitRT, idsOK, AV.ids, zb, zz, RT.at, RT.ty, RT.sub, RT.cut, RT.wr, getS, setT, Ty.dflt, lk, Int.reduceToNat, Int.reduceEq, reduceCtorEq, Nat.reduceLT, Nat.reduceEqDiff, Nat.reduceAdd, Nat.reduceMul, Nat.reduceLeDiff, Nat.reduceSub, Nat.reduceBEq, Nat.reduceBNe, Nat.reduceBeqDiff, ↓reduceIte, tab, tL, tI, tB, LI, NI, LLI, tLL, PRt, LPR, tPR, edgedSp, insPrSp, List.set_cons_zero, List.getD_cons_zero]
    all_goals first | rfl | exact ⟨rfl, rfl⟩ | exact ⟨rfl, rfl, rfl⟩
end Fer
