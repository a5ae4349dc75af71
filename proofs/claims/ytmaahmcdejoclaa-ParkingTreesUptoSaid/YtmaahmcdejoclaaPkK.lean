/-
  Walks: slices.IndexFunc, slices.DeleteFunc with parking.Code's closure. No condition.
-/
import Derived.Test.YtmaahmcdejoclaaRows
import Derived.Test.YtmaahmcdejoclaaPkB
import Derived.Test.YtmaahmcdejoclaaFerQ
set_option linter.unusedSimpArgs false
set_option linter.unusedVariables false
set_option maxHeartbeats 4000000
-- SPECS: tL, tI, tB, LI, NI, LLI, tLL, eqvSp, idxFSp, delFSp, List.set_cons_zero, List.getD_cons_zero
namespace Fer
open Go Go.Proofs

@[reducible] def EV : Ty := .fn 32 NI
def eqvSp : Spec := ⟨[NI], fun args K => match args with
  | [⟨.int _, x⟩, ⟨.int _, v⟩] => K [tB (decide (x = v))]
  | _ => False⟩
def idxFSp : Spec := ⟨[LI, EV], fun args K => match args with
  | [⟨.list _ (.int _), l⟩, ⟨.fn _ (.int _), v⟩] => K [tI (if v ∈ l then (l.idxOf v : Int) else -1)]
  | _ => False⟩
def delFSp : Spec := ⟨[LI, EV], fun args K => match args with
  | [⟨.list _ (.int _), l⟩, ⟨.fn _ (.int _), v⟩] => l.length ≤ 1000 ∧ K [tL (l.filter fun x => decide (x ≠ v))]
  | _ => False⟩

set_option maxRecDepth 10000 in
theorem eqv_ok : FnCl Try.prog 32 (eqvSp, [NI]) := by
  have hC : CtxOK Try.prog ⟨7, tab, fun f => lk [] f, fun f => lk [] f, fun f => lk [] f, fun f => lk [] f, fun f => lk [] f⟩ := ctx_ok trivial trivial trivial trivial trivial
  refine FnCl_of (C := ⟨7, tab, fun f => lk [] f, fun f => lk [] f, fun f => lk [] f, fun f => lk [] f, fun f => lk [] f⟩) 32 Try.f32 _ [3] eqvSp [NI] Try.func32 rfl (by decide) rfl rfl (Nat.le_of_ble_eq_true rfl) fun args caps K ht hc hK w0 => ?_
  obtain ⟨x, v, rfl, rfl, hk⟩ : ∃ x v, args = [tI x] ∧ caps = [tI v] ∧ K [tB (decide (x = v))] := by
    match args, caps, ht, hc, hK with
    | [⟨t1, x⟩], [⟨t2, v⟩], ht, hc, hK =>
      simp only [eqvSp, List.map_cons, List.map_nil, List.cons.injEq, and_true] at ht hc
      subst ht
      subst hc
      exact ⟨x, v, rfl, rfl, hK⟩
    | [], _, ht, _, _ => simp [eqvSp] at ht
    | _ :: _ :: _, _, ht, _, _ => simp [eqvSp] at ht
    | _, [], _, hc, _ => simp at hc
    | _, _ :: _ :: _, _, hc, _ => simp at hc
  simp only [XS.initC, envC, env0, List.length_cons, List.length_nil, List.cons_append, List.nil_append]
  repeat' (first | with_reducible refine XW.seq ?_ | with_reducible refine XW.block ?_ | with_reducible refine XW.skip ?_ | with_reducible refine XW.exit ?_ | with_reducible refine XW.ret ?_ | ((first | with_reducible refine XW.region hC (fun K' hK' => ?_) | with_reducible refine XW.text hC hm_ok (by kernel_rfl) (fun K' hK' => ?_)); (try simp only [List.toList_toArray]); repeat' (first | with_reducible refine xrun_cons ?_ | with_reducible refine xtxt_cons ?_ | ((first | with_reducible show xoper _ _ _ _ _ _ _ | with_reducible show xdo _ _ _ _ _ _); simp only [zd, zb, zz, RT.at, RT.ty, RT.sub, RT.cut, RT.wr, getS, setT, Ty.dflt, lk, Int.reduceToNat, Int.reduceEq, reduceCtorEq, Nat.reduceLT, Nat.reduceEqDiff, Nat.reduceAdd, Nat.reduceMul, Nat.reduceLeDiff, Nat.reduceSub, Nat.reduceBEq, Nat.reduceBNe, Nat.reduceBeqDiff, ↓reduceIte, tab, tL, tI, tB, LI, NI, LLI, tLL, eqvSp, idxFSp, delFSp, List.set_cons_zero, List.getD_cons_zero]) | with_reducible refine xgd_intro (fun hg => ?_) (fun hg => ?_) <;> (try simp only [zh, zz, reduceCtorEq, bne_iff_ne, beq_iff_eq, ne_eq, Decidable.not_not, beq_eq_false_iff_ne, bne_eq_false_iff_eq] at hg) | ((with_reducible show (_ : Bool) = true); kernel_rfl) | with_reducible refine And.intro ?_ ?_ | with_reducible refine xrun_nil ?_ | with_reducible refine xtxt_nil ?_ | (refine hK' _ ?_; clear hK'; clear K') | (with_reducible intro hg; try simp only [zh, zz, reduceCtorEq, bne_iff_ne, beq_iff_eq, ne_eq, Decidable.not_not, beq_eq_false_iff_ne, bne_eq_false_iff_eq] at hg))) | ((with_reducible show XW _ _ _ _ (.cond _ _ _) _ _); refine XW.cond rfl (fun h => ?_) (fun h => ?_) <;> (try simp only [zh, zz, reduceCtorEq, bne_iff_ne, beq_iff_eq, ne_eq, Decidable.not_not, beq_eq_false_iff_ne, bne_eq_false_iff_eq] at h) <;> (try (exfalso; omega))) | ((with_reducible show XW.thn _ _ _ _); dsimp only [XW.thn]) | ((with_reducible show XW.blk _ _ _ _); simp only [XW.blk, ↓reduceIte, Nat.reduceEqDiff, Nat.zero_ne_one, Nat.one_ne_zero, ne_eq]) | ((with_reducible show retK _ _ _ _); simp only [retK, outsOf, outOf, zb, zz, RT.at, RT.ty, RT.sub, RT.cut, RT.wr, getS, setT, Ty.dflt, lk, Int.reduceToNat, Int.reduceEq, reduceCtorEq, Nat.reduceLT, Nat.reduceEqDiff, Nat.reduceAdd, Nat.reduceMul, Nat.reduceLeDiff, Nat.reduceSub, Nat.reduceBEq, Nat.reduceBNe, Nat.reduceBeqDiff, ↓reduceIte, tab, tL, tI, tB, LI, NI, LLI, tLL, eqvSp, idxFSp, delFSp, List.set_cons_zero, List.getD_cons_zero])); all_goals (try (first | omega | with_reducible exact Int.le_refl _ | (show (_ : Int) ≤ _; omega)))
  all_goals exact hk

set_option maxRecDepth 10000 in
theorem idxF_ok : FnOK Try.prog 67 idxFSp := by
  have hC : CtxOK Try.prog ⟨19, tab, fun f => lk [] f, fun f => lk [] f, fun f => lk [] f, fun f => lk [(32, (eqvSp, [NI]))] f, fun f => lk [] f⟩ := ctx_ok trivial trivial trivial ⟨eqv_ok, trivial⟩ trivial
  refine FnOK_of (C := ⟨19, tab, fun f => lk [] f, fun f => lk [] f, fun f => lk [] f, fun f => lk [(32, (eqvSp, [NI]))] f, fun f => lk [] f⟩) 67 Try.f67 _ [4] idxFSp Try.func67 rfl (by decide) rfl rfl (Nat.le_of_ble_eq_true rfl) fun args K ht hK w0 => ?_
  obtain ⟨l, v, rfl, hk⟩ : ∃ l v, args = [tL l, ⟨EV, v⟩] ∧ K [tI (if v ∈ l then (l.idxOf v : Int) else -1)] := by
    match args, ht, hK with
    | [⟨t1, l⟩, ⟨t2, v⟩], ht, hK =>
      simp only [idxFSp, List.map_cons, List.map_nil, List.cons.injEq, and_true] at ht
      obtain ⟨h1, h2⟩ := ht
      subst h1
      subst h2
      exact ⟨l, v, rfl, hK⟩
    | [], ht, _ => simp [idxFSp] at ht
    | [_], ht, _ => simp [idxFSp] at ht
    | _ :: _ :: _ :: _, ht, _ => simp [idxFSp] at ht
  repeat' (first | with_reducible refine XW.seq ?_ | with_reducible refine XW.block ?_ | with_reducible refine XW.skip ?_ | with_reducible refine XW.exit ?_ | with_reducible refine XW.ret ?_ | ((first | with_reducible refine XW.region hC (fun K' hK' => ?_) | with_reducible refine XW.text hC hm_ok (by kernel_rfl) (fun K' hK' => ?_)); (try simp only [List.toList_toArray]); repeat' (first | with_reducible refine xrun_cons ?_ | with_reducible refine xtxt_cons ?_ | ((first | with_reducible show xoper _ _ _ _ _ _ _ | with_reducible show xdo _ _ _ _ _ _); simp only [zd, zb, zz, RT.at, RT.ty, RT.sub, RT.cut, RT.wr, getS, setT, Ty.dflt, lk, Int.reduceToNat, Int.reduceEq, reduceCtorEq, Nat.reduceLT, Nat.reduceEqDiff, Nat.reduceAdd, Nat.reduceMul, Nat.reduceLeDiff, Nat.reduceSub, Nat.reduceBEq, Nat.reduceBNe, Nat.reduceBeqDiff, ↓reduceIte, tab, tL, tI, tB, LI, NI, LLI, tLL, eqvSp, idxFSp, delFSp, List.set_cons_zero, List.getD_cons_zero]) | with_reducible refine xgd_intro (fun hg => ?_) (fun hg => ?_) <;> (try simp only [zh, zz, reduceCtorEq, bne_iff_ne, beq_iff_eq, ne_eq, Decidable.not_not, beq_eq_false_iff_ne, bne_eq_false_iff_eq] at hg) | ((with_reducible show (_ : Bool) = true); kernel_rfl) | with_reducible refine And.intro ?_ ?_ | with_reducible refine xrun_nil ?_ | with_reducible refine xtxt_nil ?_ | (refine hK' _ ?_; clear hK'; clear K') | (with_reducible intro hg; try simp only [zh, zz, reduceCtorEq, bne_iff_ne, beq_iff_eq, ne_eq, Decidable.not_not, beq_eq_false_iff_ne, bne_eq_false_iff_eq] at hg))) | ((with_reducible show XW _ _ _ _ (.cond _ _ _) _ _); refine XW.cond rfl (fun h => ?_) (fun h => ?_) <;> (try simp only [zh, zz, reduceCtorEq, bne_iff_ne, beq_iff_eq, ne_eq, Decidable.not_not, beq_eq_false_iff_ne, bne_eq_false_iff_eq] at h) <;> (try (exfalso; omega))) | ((with_reducible show XW.thn _ _ _ _); dsimp only [XW.thn]) | ((with_reducible show XW.blk _ _ _ _); simp only [XW.blk, ↓reduceIte, Nat.reduceEqDiff, Nat.zero_ne_one, Nat.one_ne_zero, ne_eq]) | ((with_reducible show retK _ _ _ _); simp only [retK, outsOf, outOf, zb, zz, RT.at, RT.ty, RT.sub, RT.cut, RT.wr, getS, setT, Ty.dflt, lk, Int.reduceToNat, Int.reduceEq, reduceCtorEq, Nat.reduceLT, Nat.reduceEqDiff, Nat.reduceAdd, Nat.reduceMul, Nat.reduceLeDiff, Nat.reduceSub, Nat.reduceBEq, Nat.reduceBNe, Nat.reduceBeqDiff, ↓reduceIte, tab, tL, tI, tB, LI, NI, LLI, tLL, eqvSp, idxFSp, delFSp, List.set_cons_zero, List.getD_cons_zero])); all_goals (try (first | omega | with_reducible exact Int.le_refl _ | (show (_ : Int) ≤ _; omega)))
  refine XW.loop (ι := Nat) (fun i => ⟨[(8, .dat NI (i : Int)), (7, .dat NI (l.length : Int)), (6, .dat LI l), (0, .dat LI l), (1, .dat EV v)], [], 0, []⟩) (fun i => i ≤ l.length ∧ v ∉ l.take i) (fun i => l.length - i) 0 [] ⟨Nat.zero_le _, by simp⟩ ?_ fun i hi => ?_
  · simp only [Fits, distinct, fitEnv, fitB, fitL, fitRoots, fitRT, idsOK, AV.ids, zb, zz, RT.at, RT.ty, RT.sub, RT.cut, RT.wr, getS, setT, Ty.dflt, lk, Int.reduceToNat, Int.reduceEq, reduceCtorEq, Nat.reduceLT, Nat.reduceEqDiff, Nat.reduceAdd, Nat.reduceMul, Nat.reduceLeDiff, Nat.reduceSub, Nat.reduceBEq, Nat.reduceBNe, Nat.reduceBeqDiff, ↓reduceIte, tab, tL, tI, tB, LI, NI, LLI, tLL, eqvSp, idxFSp, delFSp, List.set_cons_zero, List.getD_cons_zero]
    all_goals first | rfl | exact ⟨rfl, rfl⟩
  obtain ⟨i1, i2⟩ := hi
  by_cases hil : i < l.length
  rotate_left
  · obtain rfl : i = l.length := by omega
    rw [List.take_length] at i2
    rw [if_neg i2] at hk
    repeat' (first | with_reducible refine XW.seq ?_ | with_reducible refine XW.block ?_ | with_reducible refine XW.skip ?_ | with_reducible refine XW.exit ?_ | with_reducible refine XW.ret ?_ | ((first | with_reducible refine XW.region hC (fun K' hK' => ?_) | with_reducible refine XW.text hC hm_ok (by kernel_rfl) (fun K' hK' => ?_)); (try simp only [List.toList_toArray]); repeat' (first | with_reducible refine xrun_cons ?_ | with_reducible refine xtxt_cons ?_ | ((first | with_reducible show xoper _ _ _ _ _ _ _ | with_reducible show xdo _ _ _ _ _ _); simp only [zd, zb, zz, RT.at, RT.ty, RT.sub, RT.cut, RT.wr, getS, setT, Ty.dflt, lk, Int.reduceToNat, Int.reduceEq, reduceCtorEq, Nat.reduceLT, Nat.reduceEqDiff, Nat.reduceAdd, Nat.reduceMul, Nat.reduceLeDiff, Nat.reduceSub, Nat.reduceBEq, Nat.reduceBNe, Nat.reduceBeqDiff, ↓reduceIte, tab, tL, tI, tB, LI, NI, LLI, tLL, eqvSp, idxFSp, delFSp, List.set_cons_zero, List.getD_cons_zero]) | with_reducible refine xgd_intro (fun hg => ?_) (fun hg => ?_) <;> (try simp only [zh, zz, reduceCtorEq, bne_iff_ne, beq_iff_eq, ne_eq, Decidable.not_not, beq_eq_false_iff_ne, bne_eq_false_iff_eq] at hg) | ((with_reducible show (_ : Bool) = true); kernel_rfl) | with_reducible refine And.intro ?_ ?_ | with_reducible refine xrun_nil ?_ | with_reducible refine xtxt_nil ?_ | (refine hK' _ ?_; clear hK'; clear K') | (with_reducible intro hg; try simp only [zh, zz, reduceCtorEq, bne_iff_ne, beq_iff_eq, ne_eq, Decidable.not_not, beq_eq_false_iff_ne, bne_eq_false_iff_eq] at hg))) | ((with_reducible show XW _ _ _ _ (.cond _ _ _) _ _); refine XW.cond rfl (fun h => ?_) (fun h => ?_) <;> (try simp only [zh, zz, reduceCtorEq, bne_iff_ne, beq_iff_eq, ne_eq, Decidable.not_not, beq_eq_false_iff_ne, bne_eq_false_iff_eq] at h) <;> (try (exfalso; omega))) | ((with_reducible show XW.thn _ _ _ _); dsimp only [XW.thn]) | ((with_reducible show XW.blk _ _ _ _); simp only [XW.blk, ↓reduceIte, Nat.reduceEqDiff, Nat.zero_ne_one, Nat.one_ne_zero, ne_eq]) | ((with_reducible show retK _ _ _ _); simp only [retK, outsOf, outOf, zb, zz, RT.at, RT.ty, RT.sub, RT.cut, RT.wr, getS, setT, Ty.dflt, lk, Int.reduceToNat, Int.reduceEq, reduceCtorEq, Nat.reduceLT, Nat.reduceEqDiff, Nat.reduceAdd, Nat.reduceMul, Nat.reduceLeDiff, Nat.reduceSub, Nat.reduceBEq, Nat.reduceBNe, Nat.reduceBeqDiff, ↓reduceIte, tab, tL, tI, tB, LI, NI, LLI, tLL, eqvSp, idxFSp, delFSp, List.set_cons_zero, List.getD_cons_zero])); all_goals (try (first | omega | with_reducible exact Int.le_refl _ | (show (_ : Int) ≤ _; omega)))
    all_goals first
      | exact hk
      | (exfalso; omega)
  by_cases hv : l.getD i 0 = v
  · have hm : v ∈ l := hv ▸ getD_mem 0 hil
    rw [if_pos hm, idxOf_of hil i2 hv] at hk
    repeat' (first | with_reducible refine XW.seq ?_ | with_reducible refine XW.block ?_ | with_reducible refine XW.skip ?_ | with_reducible refine XW.exit ?_ | with_reducible refine XW.ret ?_ | ((first | with_reducible refine XW.region hC (fun K' hK' => ?_) | with_reducible refine XW.text hC hm_ok (by kernel_rfl) (fun K' hK' => ?_)); (try simp only [List.toList_toArray]); repeat' (first | with_reducible refine xrun_cons ?_ | with_reducible refine xtxt_cons ?_ | ((first | with_reducible show xoper _ _ _ _ _ _ _ | with_reducible show xdo _ _ _ _ _ _); simp only [zd, zb, zz, RT.at, RT.ty, RT.sub, RT.cut, RT.wr, getS, setT, Ty.dflt, lk, Int.reduceToNat, Int.reduceEq, reduceCtorEq, Nat.reduceLT, Nat.reduceEqDiff, Nat.reduceAdd, Nat.reduceMul, Nat.reduceLeDiff, Nat.reduceSub, Nat.reduceBEq, Nat.reduceBNe, Nat.reduceBeqDiff, ↓reduceIte, tab, tL, tI, tB, LI, NI, LLI, tLL, eqvSp, idxFSp, delFSp, List.set_cons_zero, List.getD_cons_zero]) | with_reducible refine xgd_intro (fun hg => ?_) (fun hg => ?_) <;> (try simp only [zh, zz, reduceCtorEq, bne_iff_ne, beq_iff_eq, ne_eq, Decidable.not_not, beq_eq_false_iff_ne, bne_eq_false_iff_eq] at hg) | ((with_reducible show (_ : Bool) = true); kernel_rfl) | with_reducible refine And.intro ?_ ?_ | with_reducible refine xrun_nil ?_ | with_reducible refine xtxt_nil ?_ | (refine hK' _ ?_; clear hK'; clear K') | (with_reducible intro hg; try simp only [zh, zz, reduceCtorEq, bne_iff_ne, beq_iff_eq, ne_eq, Decidable.not_not, beq_eq_false_iff_ne, bne_eq_false_iff_eq] at hg))) | ((with_reducible show XW _ _ _ _ (.cond _ _ _) _ _); refine XW.cond rfl (fun h => ?_) (fun h => ?_) <;> (try simp only [zh, zz, reduceCtorEq, bne_iff_ne, beq_iff_eq, ne_eq, Decidable.not_not, beq_eq_false_iff_ne, bne_eq_false_iff_eq] at h) <;> (try (exfalso; omega))) | ((with_reducible show XW.thn _ _ _ _); dsimp only [XW.thn]) | ((with_reducible show XW.blk _ _ _ _); simp only [XW.blk, ↓reduceIte, Nat.reduceEqDiff, Nat.zero_ne_one, Nat.one_ne_zero, ne_eq]) | ((with_reducible show retK _ _ _ _); simp only [retK, outsOf, outOf, zb, zz, RT.at, RT.ty, RT.sub, RT.cut, RT.wr, getS, setT, Ty.dflt, lk, Int.reduceToNat, Int.reduceEq, reduceCtorEq, Nat.reduceLT, Nat.reduceEqDiff, Nat.reduceAdd, Nat.reduceMul, Nat.reduceLeDiff, Nat.reduceSub, Nat.reduceBEq, Nat.reduceBNe, Nat.reduceBeqDiff, ↓reduceIte, tab, tL, tI, tB, LI, NI, LLI, tLL, eqvSp, idxFSp, delFSp, List.set_cons_zero, List.getD_cons_zero])); all_goals (try (first | omega | with_reducible exact Int.le_refl _ | (show (_ : Int) ≤ _; omega)))
    all_goals first
      | exact hk
      | exact absurd hv (by assumption)
      | (exfalso; omega)
  · repeat' (first | with_reducible refine XW.seq ?_ | with_reducible refine XW.block ?_ | with_reducible refine XW.skip ?_ | with_reducible refine XW.exit ?_ | with_reducible refine XW.ret ?_ | ((first | with_reducible refine XW.region hC (fun K' hK' => ?_) | with_reducible refine XW.text hC hm_ok (by kernel_rfl) (fun K' hK' => ?_)); (try simp only [List.toList_toArray]); repeat' (first | with_reducible refine xrun_cons ?_ | with_reducible refine xtxt_cons ?_ | ((first | with_reducible show xoper _ _ _ _ _ _ _ | with_reducible show xdo _ _ _ _ _ _); simp only [zd, zb, zz, RT.at, RT.ty, RT.sub, RT.cut, RT.wr, getS, setT, Ty.dflt, lk, Int.reduceToNat, Int.reduceEq, reduceCtorEq, Nat.reduceLT, Nat.reduceEqDiff, Nat.reduceAdd, Nat.reduceMul, Nat.reduceLeDiff, Nat.reduceSub, Nat.reduceBEq, Nat.reduceBNe, Nat.reduceBeqDiff, ↓reduceIte, tab, tL, tI, tB, LI, NI, LLI, tLL, eqvSp, idxFSp, delFSp, List.set_cons_zero, List.getD_cons_zero]) | with_reducible refine xgd_intro (fun hg => ?_) (fun hg => ?_) <;> (try simp only [zh, zz, reduceCtorEq, bne_iff_ne, beq_iff_eq, ne_eq, Decidable.not_not, beq_eq_false_iff_ne, bne_eq_false_iff_eq] at hg) | ((with_reducible show (_ : Bool) = true); kernel_rfl) | with_reducible refine And.intro ?_ ?_ | with_reducible refine xrun_nil ?_ | with_reducible refine xtxt_nil ?_ | (refine hK' _ ?_; clear hK'; clear K') | (with_reducible intro hg; try simp only [zh, zz, reduceCtorEq, bne_iff_ne, beq_iff_eq, ne_eq, Decidable.not_not, beq_eq_false_iff_ne, bne_eq_false_iff_eq] at hg))) | ((with_reducible show XW _ _ _ _ (.cond _ _ _) _ _); refine XW.cond rfl (fun h => ?_) (fun h => ?_) <;> (try simp only [zh, zz, reduceCtorEq, bne_iff_ne, beq_iff_eq, ne_eq, Decidable.not_not, beq_eq_false_iff_ne, bne_eq_false_iff_eq] at h) <;> (try (exfalso; omega))) | ((with_reducible show XW.thn _ _ _ _); dsimp only [XW.thn]) | ((with_reducible show XW.blk _ _ _ _); simp only [XW.blk, ↓reduceIte, Nat.reduceEqDiff, Nat.zero_ne_one, Nat.one_ne_zero, ne_eq]) | ((with_reducible show retK _ _ _ _); simp only [retK, outsOf, outOf, zb, zz, RT.at, RT.ty, RT.sub, RT.cut, RT.wr, getS, setT, Ty.dflt, lk, Int.reduceToNat, Int.reduceEq, reduceCtorEq, Nat.reduceLT, Nat.reduceEqDiff, Nat.reduceAdd, Nat.reduceMul, Nat.reduceLeDiff, Nat.reduceSub, Nat.reduceBEq, Nat.reduceBNe, Nat.reduceBeqDiff, ↓reduceIte, tab, tL, tI, tB, LI, NI, LLI, tLL, eqvSp, idxFSp, delFSp, List.set_cons_zero, List.getD_cons_zero])); all_goals (try (first | omega | with_reducible exact Int.le_refl _ | (show (_ : Int) ≤ _; omega)))
    all_goals try exact absurd (by assumption) hv
    refine ⟨i + 1, [], ⟨by omega, ?_⟩, by omega, ?_⟩
    · rw [mem_take_succ 0 hil]
      rintro (h' | h')
      · exact i2 h'
      · exact hv h'.symm
    simp only [Fits, distinct, fitEnv, fitB, fitL, fitRoots, fitRT, idsOK, AV.ids, zb, zz, RT.at, RT.ty, RT.sub, RT.cut, RT.wr, getS, setT, Ty.dflt, lk, Int.reduceToNat, Int.reduceEq, reduceCtorEq, Nat.reduceLT, Nat.reduceEqDiff, Nat.reduceAdd, Nat.reduceMul, Nat.reduceLeDiff, Nat.reduceSub, Nat.reduceBEq, Nat.reduceBNe, Nat.reduceBeqDiff, ↓reduceIte, tab, tL, tI, tB, LI, NI, LLI, tLL, eqvSp, idxFSp, delFSp, List.set_cons_zero, List.getD_cons_zero]
    all_goals first | rfl | exact ⟨rfl, rfl⟩

/-- The list when j numbers have been looked at. -/
def dlF (l : List Int) (v : Int) (j : Nat) : List Int := (l.take j).filter fun x => decide (x ≠ v)
def dlC (l : List Int) (v : Int) (j : Nat) : List Int := dlF l v j ++ l.drop (dlF l v j).length
theorem dlF_le (l : List Int) (v : Int) (j : Nat) : (dlF l v j).length ≤ j := Nat.le_trans (List.length_filter_le _ _) (by rw [List.length_take]; exact Nat.min_le_left ..)
theorem dlC_len {l : List Int} {v : Int} {j : Nat} (h : j ≤ l.length) : (dlC l v j).length = l.length := by
  have := dlF_le l v j
  unfold dlC
  rw [List.length_append, List.length_drop]
  omega
theorem dlC_get {l : List Int} {v : Int} {j : Nat} (h : j < l.length) : (dlC l v j).getD j 0 = l.getD j 0 := by
  have := dlF_le l v j
  unfold dlC
  rw [List.getD_eq_getElem?_getD, List.getElem?_append_right this, List.getElem?_drop, List.getD_eq_getElem?_getD]
  congr 2
  omega
theorem dlF_succ {l : List Int} {v : Int} {j : Nat} (h : j < l.length) : dlF l v (j + 1) = dlF l v j ++ if l.getD j 0 ≠ v then [l.getD j 0] else [] := by
  unfold dlF
  rw [take_succ_getD 0 h, List.filter_append]
  congr 1
  rw [List.filter_cons]
  split
  · rename_i c; rw [if_pos (of_decide_eq_true c)]; rfl
  · rename_i c; rw [if_neg (fun h => c (decide_eq_true h))]; rfl
theorem dlC_set {l : List Int} {v : Int} {j : Nat} (h : j < l.length) (hx : l.getD j 0 ≠ v) : (dlC l v j).set (dlF l v j).length (l.getD j 0) = dlC l v (j + 1) := by
  have := dlF_le l v j
  have e := dlF_succ (v := v) h
  rw [if_pos hx] at e
  unfold dlC
  rw [e, List.set_append_right _ _ (Nat.le_refl _), Nat.sub_self, List.drop_eq_getElem_cons (show (dlF l v j).length < l.length by omega), List.set_cons_zero, List.length_append, List.append_assoc]
  rfl
theorem dlC_skip {l : List Int} {v : Int} {j : Nat} (h : j < l.length) (hx : ¬ l.getD j 0 ≠ v) : dlF l v (j + 1) = dlF l v j ∧ dlC l v (j + 1) = dlC l v j := by
  have e := dlF_succ (v := v) h
  rw [if_neg hx, List.append_nil] at e
  refine ⟨e, ?_⟩
  unfold dlC
  rw [e]
theorem first_occ {v : Int} : ∀ {l : List Int}, v ∈ l → ∃ i, i < l.length ∧ v ∉ l.take i ∧ l.getD i 0 = v
  | [], h => by cases h
  | a :: l, h => by
    by_cases e : a = v
    · exact ⟨0, by simp, by simp, e⟩
    · obtain ⟨i, h1, h2, h3⟩ := first_occ (l := l) ((List.mem_cons.1 h).resolve_left fun h => e h.symm)
      refine ⟨i + 1, by simp; omega, ?_, h3⟩
      rw [List.take_succ_cons, List.mem_cons]
      exact fun hc => hc.elim (fun hc => e hc.symm) h2
theorem dlC_start {l : List Int} {v : Int} (hv : v ∈ l) : dlF l v (l.idxOf v + 1) = l.take (l.idxOf v) ∧ dlC l v (l.idxOf v + 1) = l ∧ l.idxOf v < l.length := by
  obtain ⟨i, h1, h2, h3⟩ := first_occ hv
  rw [idxOf_of h1 h2 h3]
  have e : dlF l v (i + 1) = l.take i := by
    rw [dlF_succ h1, if_neg (fun h => h h3), List.append_nil]
    unfold dlF
    rw [List.filter_eq_self]
    exact fun x hx => decide_eq_true fun e => h2 (e ▸ hx)
  refine ⟨e, ?_, h1⟩
  unfold dlC
  rw [e, List.length_take, Nat.min_eq_left (Nat.le_of_lt h1), List.take_append_drop]
theorem dl_end (l : List Int) (v : Int) (m : List Int) : (cpL (dlC l v l.length) (dlF l v l.length).length l.length m).take (dlF l v l.length).length = l.filter fun x => decide (x ≠ v) := by
  have h1 : dlF l v l.length = l.filter fun x => decide (x ≠ v) := by unfold dlF; rw [List.take_length]
  have h2 := dlF_le l v l.length
  unfold cpL
  have h3 : ((dlC l v l.length).take (dlF l v l.length).length) = dlF l v l.length := by unfold dlC; rw [List.take_left']; rfl
  rw [h3, List.append_assoc, List.take_left' rfl, h1]

set_option maxRecDepth 10000 in
theorem delF_ok : FnMv Try.prog 31 delFSp := by
  have hC : CtxOK Try.prog ⟨42, tab, fun f => lk [(67, idxFSp)] f, fun f => lk [] f, fun f => lk [] f, fun f => lk [(32, (eqvSp, [NI]))] f, fun f => lk [] f⟩ := ctx_ok ⟨idxF_ok, trivial⟩ trivial trivial ⟨eqv_ok, trivial⟩ trivial
  refine FnMv_of (C := ⟨42, tab, fun f => lk [(67, idxFSp)] f, fun f => lk [] f, fun f => lk [] f, fun f => lk [(32, (eqvSp, [NI]))] f, fun f => lk [] f⟩) 31 Try.f31 _ [4] delFSp Try.func31 rfl (by decide) rfl rfl (Nat.le_of_ble_eq_true rfl) fun ety tty tys xs args K hps ht hK w0 sd => ?_
  simp only [delFSp, List.cons.injEq, Ty.list.injEq] at hps
  obtain ⟨⟨rfl, rfl⟩, rfl⟩ := hps
  obtain ⟨v, rfl⟩ : ∃ v, args = [⟨EV, v⟩] := by
    match args, ht with
    | [⟨t1, v⟩], ht =>
      simp only [List.map_cons, List.map_nil, List.cons.injEq, and_true] at ht
      subst ht
      exact ⟨v, rfl⟩
    | [], ht => simp at ht
    | _ :: _ :: _, ht => simp at ht
  obtain ⟨hl, hk⟩ : xs.length ≤ 1000 ∧ K [tL (xs.filter fun x => decide (x ≠ v))] := hK
  by_cases hv : v ∈ xs
  rotate_left
  · rw [List.filter_eq_self.2 (fun x hx => decide_eq_true (by intro e; exact hv (by rw [← e]; exact hx)))] at hk
    have hif : (if v ∈ xs then ((xs.idxOf v : Nat) : Int) else -1) = -1 := if_neg hv
    repeat' (first | with_reducible refine XW.seq ?_ | with_reducible refine XW.block ?_ | with_reducible refine XW.skip ?_ | with_reducible refine XW.exit ?_ | with_reducible refine XW.ret ?_ | ((first | with_reducible refine XW.region hC (fun K' hK' => ?_) | with_reducible refine XW.text hC hm_ok (by kernel_rfl) (fun K' hK' => ?_)); (try simp only [List.toList_toArray]); repeat' (first | with_reducible refine xrun_cons ?_ | with_reducible refine xtxt_cons ?_ | ((first | with_reducible show xoper _ _ _ _ _ _ _ | with_reducible show xdo _ _ _ _ _ _); simp only [zd, zb, zz, RT.at, RT.ty, RT.sub, RT.cut, RT.wr, getS, setT, Ty.dflt, lk, Int.reduceToNat, Int.reduceEq, reduceCtorEq, Nat.reduceLT, Nat.reduceEqDiff, Nat.reduceAdd, Nat.reduceMul, Nat.reduceLeDiff, Nat.reduceSub, Nat.reduceBEq, Nat.reduceBNe, Nat.reduceBeqDiff, ↓reduceIte, tab, tL, tI, tB, LI, NI, LLI, tLL, eqvSp, idxFSp, delFSp, List.set_cons_zero, List.getD_cons_zero]) | with_reducible refine xgd_intro (fun hg => ?_) (fun hg => ?_) <;> (try simp only [zh, zz, reduceCtorEq, bne_iff_ne, beq_iff_eq, ne_eq, Decidable.not_not, beq_eq_false_iff_ne, bne_eq_false_iff_eq] at hg) | ((with_reducible show (_ : Bool) = true); kernel_rfl) | with_reducible refine And.intro ?_ ?_ | with_reducible refine xrun_nil ?_ | with_reducible refine xtxt_nil ?_ | (refine hK' _ ?_; clear hK'; clear K') | (with_reducible intro hg; try simp only [zh, zz, reduceCtorEq, bne_iff_ne, beq_iff_eq, ne_eq, Decidable.not_not, beq_eq_false_iff_ne, bne_eq_false_iff_eq] at hg))) | ((with_reducible show XW _ _ _ _ (.cond _ _ _) _ _); refine XW.cond rfl (fun h => ?_) (fun h => ?_) <;> (try simp only [zh, zz, reduceCtorEq, bne_iff_ne, beq_iff_eq, ne_eq, Decidable.not_not, beq_eq_false_iff_ne, bne_eq_false_iff_eq] at h) <;> (try (exfalso; omega))) | ((with_reducible show XW.thn _ _ _ _); dsimp only [XW.thn]) | ((with_reducible show XW.blk _ _ _ _); simp only [XW.blk, ↓reduceIte, Nat.reduceEqDiff, Nat.zero_ne_one, Nat.one_ne_zero, ne_eq]) | ((with_reducible show retK _ _ _ _); simp only [retK, outsOf, outOf, zb, zz, RT.at, RT.ty, RT.sub, RT.cut, RT.wr, getS, setT, Ty.dflt, lk, Int.reduceToNat, Int.reduceEq, reduceCtorEq, Nat.reduceLT, Nat.reduceEqDiff, Nat.reduceAdd, Nat.reduceMul, Nat.reduceLeDiff, Nat.reduceSub, Nat.reduceBEq, Nat.reduceBNe, Nat.reduceBeqDiff, ↓reduceIte, tab, tL, tI, tB, LI, NI, LLI, tLL, eqvSp, idxFSp, delFSp, List.set_cons_zero, List.getD_cons_zero])); all_goals (try (first | omega | with_reducible exact Int.le_refl _ | (show (_ : Int) ≤ _; omega)))
    all_goals first
      | exact hk
      | exact absurd hif (by assumption)
  obtain ⟨d1, d2, d3⟩ := dlC_start hv
  have hif : (if v ∈ xs then ((xs.idxOf v : Nat) : Int) else -1) = ((xs.idxOf v : Nat) : Int) := if_pos hv
  have hfl : (dlF xs v (xs.idxOf v + 1)).length = xs.idxOf v := by rw [d1, List.length_take]; omega
  repeat' (first | with_reducible refine XW.seq ?_ | with_reducible refine XW.block ?_ | with_reducible refine XW.skip ?_ | with_reducible refine XW.exit ?_ | with_reducible refine XW.ret ?_ | ((first | with_reducible refine XW.region hC (fun K' hK' => ?_) | with_reducible refine XW.text hC hm_ok (by kernel_rfl) (fun K' hK' => ?_)); (try simp only [List.toList_toArray]); repeat' (first | with_reducible refine xrun_cons ?_ | with_reducible refine xtxt_cons ?_ | ((first | with_reducible show xoper _ _ _ _ _ _ _ | with_reducible show xdo _ _ _ _ _ _); simp only [zd, zb, zz, RT.at, RT.ty, RT.sub, RT.cut, RT.wr, getS, setT, Ty.dflt, lk, Int.reduceToNat, Int.reduceEq, reduceCtorEq, Nat.reduceLT, Nat.reduceEqDiff, Nat.reduceAdd, Nat.reduceMul, Nat.reduceLeDiff, Nat.reduceSub, Nat.reduceBEq, Nat.reduceBNe, Nat.reduceBeqDiff, ↓reduceIte, tab, tL, tI, tB, LI, NI, LLI, tLL, eqvSp, idxFSp, delFSp, List.set_cons_zero, List.getD_cons_zero]) | with_reducible refine xgd_intro (fun hg => ?_) (fun hg => ?_) <;> (try simp only [zh, zz, reduceCtorEq, bne_iff_ne, beq_iff_eq, ne_eq, Decidable.not_not, beq_eq_false_iff_ne, bne_eq_false_iff_eq] at hg) | ((with_reducible show (_ : Bool) = true); kernel_rfl) | with_reducible refine And.intro ?_ ?_ | with_reducible refine xrun_nil ?_ | with_reducible refine xtxt_nil ?_ | (refine hK' _ ?_; clear hK'; clear K') | (with_reducible intro hg; try simp only [zh, zz, reduceCtorEq, bne_iff_ne, beq_iff_eq, ne_eq, Decidable.not_not, beq_eq_false_iff_ne, bne_eq_false_iff_eq] at hg))) | ((with_reducible show XW _ _ _ _ (.cond _ _ _) _ _); refine XW.cond rfl (fun h => ?_) (fun h => ?_) <;> (try simp only [zh, zz, reduceCtorEq, bne_iff_ne, beq_iff_eq, ne_eq, Decidable.not_not, beq_eq_false_iff_ne, bne_eq_false_iff_eq] at h) <;> (try (exfalso; omega))) | ((with_reducible show XW.thn _ _ _ _); dsimp only [XW.thn]) | ((with_reducible show XW.blk _ _ _ _); simp only [XW.blk, ↓reduceIte, Nat.reduceEqDiff, Nat.zero_ne_one, Nat.one_ne_zero, ne_eq]) | ((with_reducible show retK _ _ _ _); simp only [retK, outsOf, outOf, zb, zz, RT.at, RT.ty, RT.sub, RT.cut, RT.wr, getS, setT, Ty.dflt, lk, Int.reduceToNat, Int.reduceEq, reduceCtorEq, Nat.reduceLT, Nat.reduceEqDiff, Nat.reduceAdd, Nat.reduceMul, Nat.reduceLeDiff, Nat.reduceSub, Nat.reduceBEq, Nat.reduceBNe, Nat.reduceBeqDiff, ↓reduceIte, tab, tL, tI, tB, LI, NI, LLI, tLL, eqvSp, idxFSp, delFSp, List.set_cons_zero, List.getD_cons_zero])); all_goals (try (first | omega | with_reducible exact Int.le_refl _ | (show (_ : Int) ≤ _; omega)))
  all_goals try (exfalso; omega)
  rw [hif]
  refine XW.loop (ι := Nat) (fun j => ⟨[(6, .dat NI (j : Int)), (5, .dat NI ((dlF xs v j).length : Int)), (0, .ref 0 []), (1, .dat EV v)], [(0, ⟨3, NI, 0, dlC xs v j, none⟩)], 1, []⟩) (fun j => j ≤ xs.length) (fun j => xs.length - j) (xs.idxOf v + 1) [(0, 0)] (by omega) ?_ fun j hj => ?_
  · rw [hfl, d2]
    simp only [Fits, distinct, fitEnv, fitB, fitL, fitRoots, fitRT, idsOK, AV.ids, zb, zz, RT.at, RT.ty, RT.sub, RT.cut, RT.wr, getS, setT, Ty.dflt, lk, Int.reduceToNat, Int.reduceEq, reduceCtorEq, Nat.reduceLT, Nat.reduceEqDiff, Nat.reduceAdd, Nat.reduceMul, Nat.reduceLeDiff, Nat.reduceSub, Nat.reduceBEq, Nat.reduceBNe, Nat.reduceBeqDiff, ↓reduceIte, tab, tL, tI, tB, LI, NI, LLI, tLL, eqvSp, idxFSp, delFSp, List.set_cons_zero, List.getD_cons_zero]
    all_goals first | rfl | exact ⟨rfl, rfl⟩
  have hfle := dlF_le xs v j
  have hcl := dlC_len (v := v) hj
  by_cases hjl : j < xs.length
  · have hcg := dlC_get (v := v) hjl
    have hfs := dlF_succ (v := v) hjl
    by_cases hx : xs.getD j 0 ≠ v
    · have hcs := dlC_set hjl hx
      rw [if_pos hx] at hfs
      have hx2 : (dlC xs v j).getD j 0 ≠ v := by rw [hcg]; exact hx
      rw [← hcg] at hcs
      have hfl2 : ((dlF xs v (j + 1)).length : Int) = ((dlF xs v j).length : Int) + 1 := by rw [hfs, List.length_append]; rfl
      repeat' (first | with_reducible refine XW.seq ?_ | with_reducible refine XW.block ?_ | with_reducible refine XW.skip ?_ | with_reducible refine XW.exit ?_ | with_reducible refine XW.ret ?_ | ((first | with_reducible refine XW.region hC (fun K' hK' => ?_) | with_reducible refine XW.text hC hm_ok (by kernel_rfl) (fun K' hK' => ?_)); (try simp only [List.toList_toArray]); repeat' (first | with_reducible refine xrun_cons ?_ | with_reducible refine xtxt_cons ?_ | ((first | with_reducible show xoper _ _ _ _ _ _ _ | with_reducible show xdo _ _ _ _ _ _); simp only [zd, zb, zz, RT.at, RT.ty, RT.sub, RT.cut, RT.wr, getS, setT, Ty.dflt, lk, Int.reduceToNat, Int.reduceEq, reduceCtorEq, Nat.reduceLT, Nat.reduceEqDiff, Nat.reduceAdd, Nat.reduceMul, Nat.reduceLeDiff, Nat.reduceSub, Nat.reduceBEq, Nat.reduceBNe, Nat.reduceBeqDiff, ↓reduceIte, tab, tL, tI, tB, LI, NI, LLI, tLL, eqvSp, idxFSp, delFSp, List.set_cons_zero, List.getD_cons_zero]) | with_reducible refine xgd_intro (fun hg => ?_) (fun hg => ?_) <;> (try simp only [zh, zz, reduceCtorEq, bne_iff_ne, beq_iff_eq, ne_eq, Decidable.not_not, beq_eq_false_iff_ne, bne_eq_false_iff_eq] at hg) | ((with_reducible show (_ : Bool) = true); kernel_rfl) | with_reducible refine And.intro ?_ ?_ | with_reducible refine xrun_nil ?_ | with_reducible refine xtxt_nil ?_ | (refine hK' _ ?_; clear hK'; clear K') | (with_reducible intro hg; try simp only [zh, zz, reduceCtorEq, bne_iff_ne, beq_iff_eq, ne_eq, Decidable.not_not, beq_eq_false_iff_ne, bne_eq_false_iff_eq] at hg))) | ((with_reducible show XW _ _ _ _ (.cond _ _ _) _ _); refine XW.cond rfl (fun h => ?_) (fun h => ?_) <;> (try simp only [zh, zz, reduceCtorEq, bne_iff_ne, beq_iff_eq, ne_eq, Decidable.not_not, beq_eq_false_iff_ne, bne_eq_false_iff_eq] at h) <;> (try (exfalso; omega))) | ((with_reducible show XW.thn _ _ _ _); dsimp only [XW.thn]) | ((with_reducible show XW.blk _ _ _ _); simp only [XW.blk, ↓reduceIte, Nat.reduceEqDiff, Nat.zero_ne_one, Nat.one_ne_zero, ne_eq]) | ((with_reducible show retK _ _ _ _); simp only [retK, outsOf, outOf, zb, zz, RT.at, RT.ty, RT.sub, RT.cut, RT.wr, getS, setT, Ty.dflt, lk, Int.reduceToNat, Int.reduceEq, reduceCtorEq, Nat.reduceLT, Nat.reduceEqDiff, Nat.reduceAdd, Nat.reduceMul, Nat.reduceLeDiff, Nat.reduceSub, Nat.reduceBEq, Nat.reduceBNe, Nat.reduceBeqDiff, ↓reduceIte, tab, tL, tI, tB, LI, NI, LLI, tLL, eqvSp, idxFSp, delFSp, List.set_cons_zero, List.getD_cons_zero])); all_goals (try (first | omega | with_reducible exact Int.le_refl _ | (show (_ : Int) ≤ _; omega)))
      all_goals try exact absurd (by assumption) hx2
      refine ⟨j + 1, [(0, 0)], by omega, by omega, ?_⟩
      rw [← hcs, hfl2]
      simp only [Fits, distinct, fitEnv, fitB, fitL, fitRoots, fitRT, idsOK, AV.ids, zb, zz, RT.at, RT.ty, RT.sub, RT.cut, RT.wr, getS, setT, Ty.dflt, lk, Int.reduceToNat, Int.reduceEq, reduceCtorEq, Nat.reduceLT, Nat.reduceEqDiff, Nat.reduceAdd, Nat.reduceMul, Nat.reduceLeDiff, Nat.reduceSub, Nat.reduceBEq, Nat.reduceBNe, Nat.reduceBeqDiff, ↓reduceIte, tab, tL, tI, tB, LI, NI, LLI, tLL, eqvSp, idxFSp, delFSp, List.set_cons_zero, List.getD_cons_zero]
      all_goals first | rfl | exact ⟨rfl, rfl⟩
    · obtain ⟨k1, k2⟩ := dlC_skip hjl hx
      have hx2 : (dlC xs v j).getD j 0 = v := by rw [hcg]; exact Decidable.not_not.1 hx
      repeat' (first | with_reducible refine XW.seq ?_ | with_reducible refine XW.block ?_ | with_reducible refine XW.skip ?_ | with_reducible refine XW.exit ?_ | with_reducible refine XW.ret ?_ | ((first | with_reducible refine XW.region hC (fun K' hK' => ?_) | with_reducible refine XW.text hC hm_ok (by kernel_rfl) (fun K' hK' => ?_)); (try simp only [List.toList_toArray]); repeat' (first | with_reducible refine xrun_cons ?_ | with_reducible refine xtxt_cons ?_ | ((first | with_reducible show xoper _ _ _ _ _ _ _ | with_reducible show xdo _ _ _ _ _ _); simp only [zd, zb, zz, RT.at, RT.ty, RT.sub, RT.cut, RT.wr, getS, setT, Ty.dflt, lk, Int.reduceToNat, Int.reduceEq, reduceCtorEq, Nat.reduceLT, Nat.reduceEqDiff, Nat.reduceAdd, Nat.reduceMul, Nat.reduceLeDiff, Nat.reduceSub, Nat.reduceBEq, Nat.reduceBNe, Nat.reduceBeqDiff, ↓reduceIte, tab, tL, tI, tB, LI, NI, LLI, tLL, eqvSp, idxFSp, delFSp, List.set_cons_zero, List.getD_cons_zero]) | with_reducible refine xgd_intro (fun hg => ?_) (fun hg => ?_) <;> (try simp only [zh, zz, reduceCtorEq, bne_iff_ne, beq_iff_eq, ne_eq, Decidable.not_not, beq_eq_false_iff_ne, bne_eq_false_iff_eq] at hg) | ((with_reducible show (_ : Bool) = true); kernel_rfl) | with_reducible refine And.intro ?_ ?_ | with_reducible refine xrun_nil ?_ | with_reducible refine xtxt_nil ?_ | (refine hK' _ ?_; clear hK'; clear K') | (with_reducible intro hg; try simp only [zh, zz, reduceCtorEq, bne_iff_ne, beq_iff_eq, ne_eq, Decidable.not_not, beq_eq_false_iff_ne, bne_eq_false_iff_eq] at hg))) | ((with_reducible show XW _ _ _ _ (.cond _ _ _) _ _); refine XW.cond rfl (fun h => ?_) (fun h => ?_) <;> (try simp only [zh, zz, reduceCtorEq, bne_iff_ne, beq_iff_eq, ne_eq, Decidable.not_not, beq_eq_false_iff_ne, bne_eq_false_iff_eq] at h) <;> (try (exfalso; omega))) | ((with_reducible show XW.thn _ _ _ _); dsimp only [XW.thn]) | ((with_reducible show XW.blk _ _ _ _); simp only [XW.blk, ↓reduceIte, Nat.reduceEqDiff, Nat.zero_ne_one, Nat.one_ne_zero, ne_eq]) | ((with_reducible show retK _ _ _ _); simp only [retK, outsOf, outOf, zb, zz, RT.at, RT.ty, RT.sub, RT.cut, RT.wr, getS, setT, Ty.dflt, lk, Int.reduceToNat, Int.reduceEq, reduceCtorEq, Nat.reduceLT, Nat.reduceEqDiff, Nat.reduceAdd, Nat.reduceMul, Nat.reduceLeDiff, Nat.reduceSub, Nat.reduceBEq, Nat.reduceBNe, Nat.reduceBeqDiff, ↓reduceIte, tab, tL, tI, tB, LI, NI, LLI, tLL, eqvSp, idxFSp, delFSp, List.set_cons_zero, List.getD_cons_zero])); all_goals (try (first | omega | with_reducible exact Int.le_refl _ | (show (_ : Int) ≤ _; omega)))
      all_goals try exact absurd hx2 (by assumption)
      refine ⟨j + 1, [(0, 0)], by omega, by omega, ?_⟩
      rw [k1, k2]
      simp only [Fits, distinct, fitEnv, fitB, fitL, fitRoots, fitRT, idsOK, AV.ids, zb, zz, RT.at, RT.ty, RT.sub, RT.cut, RT.wr, getS, setT, Ty.dflt, lk, Int.reduceToNat, Int.reduceEq, reduceCtorEq, Nat.reduceLT, Nat.reduceEqDiff, Nat.reduceAdd, Nat.reduceMul, Nat.reduceLeDiff, Nat.reduceSub, Nat.reduceBEq, Nat.reduceBNe, Nat.reduceBeqDiff, ↓reduceIte, tab, tL, tI, tB, LI, NI, LLI, tLL, eqvSp, idxFSp, delFSp, List.set_cons_zero, List.getD_cons_zero]
      all_goals first | rfl | exact ⟨rfl, rfl⟩
  obtain rfl : j = xs.length := by omega
  have hend : (cpL (dlC xs v xs.length) (dlF xs v xs.length).length (dlC xs v xs.length).length (List.replicate ((dlC xs v xs.length).length - (dlF xs v xs.length).length) 0)).take (dlF xs v xs.length).length = xs.filter fun x => decide (x ≠ v) := by rw [hcl]; exact dl_end xs v _
  rw [← hend] at hk
  have hcp : (cpL (dlC xs v xs.length) (dlF xs v xs.length).length (dlC xs v xs.length).length (List.replicate ((dlC xs v xs.length).length - (dlF xs v xs.length).length) 0)).length = (dlC xs v xs.length).length := cpL_length (by omega) (Nat.le_refl _)
  repeat' (first | ((with_reducible show XW _ _ _ _ .ret _ _); refine XW.cutRef (i := 4) (r := 0) rfl rfl rfl ?_) | with_reducible refine XW.seq ?_ | with_reducible refine XW.block ?_ | with_reducible refine XW.skip ?_ | with_reducible refine XW.exit ?_ | with_reducible refine XW.ret ?_ | ((first | with_reducible refine XW.region hC (fun K' hK' => ?_) | with_reducible refine XW.text hC hm_ok (by kernel_rfl) (fun K' hK' => ?_)); (try simp only [List.toList_toArray]); repeat' (first | with_reducible refine xrun_cons ?_ | with_reducible refine xtxt_cons ?_ | ((first | with_reducible show xoper _ _ _ _ _ _ _ | with_reducible show xdo _ _ _ _ _ _); simp only [zd, zb, zz, RT.at, RT.ty, RT.sub, RT.cut, RT.wr, getS, setT, Ty.dflt, lk, Int.reduceToNat, Int.reduceEq, reduceCtorEq, Nat.reduceLT, Nat.reduceEqDiff, Nat.reduceAdd, Nat.reduceMul, Nat.reduceLeDiff, Nat.reduceSub, Nat.reduceBEq, Nat.reduceBNe, Nat.reduceBeqDiff, ↓reduceIte, tab, tL, tI, tB, LI, NI, LLI, tLL, eqvSp, idxFSp, delFSp, List.set_cons_zero, List.getD_cons_zero]) | with_reducible refine xgd_intro (fun hg => ?_) (fun hg => ?_) <;> (try simp only [zh, zz, reduceCtorEq, bne_iff_ne, beq_iff_eq, ne_eq, Decidable.not_not, beq_eq_false_iff_ne, bne_eq_false_iff_eq] at hg) | ((with_reducible show (_ : Bool) = true); kernel_rfl) | with_reducible refine And.intro ?_ ?_ | with_reducible refine xrun_nil ?_ | with_reducible refine xtxt_nil ?_ | (refine hK' _ ?_; clear hK'; clear K') | (with_reducible intro hg; try simp only [zh, zz, reduceCtorEq, bne_iff_ne, beq_iff_eq, ne_eq, Decidable.not_not, beq_eq_false_iff_ne, bne_eq_false_iff_eq] at hg))) | ((with_reducible show XW _ _ _ _ (.cond _ _ _) _ _); refine XW.cond rfl (fun h => ?_) (fun h => ?_) <;> (try simp only [zh, zz, reduceCtorEq, bne_iff_ne, beq_iff_eq, ne_eq, Decidable.not_not, beq_eq_false_iff_ne, bne_eq_false_iff_eq] at h) <;> (try (exfalso; omega))) | ((with_reducible show XW.thn _ _ _ _); dsimp only [XW.thn]) | ((with_reducible show XW.blk _ _ _ _); simp only [XW.blk, ↓reduceIte, Nat.reduceEqDiff, Nat.zero_ne_one, Nat.one_ne_zero, ne_eq]) | ((with_reducible show retK _ _ _ _); simp only [retK, outsOf, outOf, zb, zz, RT.at, RT.ty, RT.sub, RT.cut, RT.wr, getS, setT, Ty.dflt, lk, Int.reduceToNat, Int.reduceEq, reduceCtorEq, Nat.reduceLT, Nat.reduceEqDiff, Nat.reduceAdd, Nat.reduceMul, Nat.reduceLeDiff, Nat.reduceSub, Nat.reduceBEq, Nat.reduceBNe, Nat.reduceBeqDiff, ↓reduceIte, tab, tL, tI, tB, LI, NI, LLI, tLL, eqvSp, idxFSp, delFSp, List.set_cons_zero, List.getD_cons_zero])); all_goals (try (first | omega | with_reducible exact Int.le_refl _ | (show (_ : Int) ≤ _; omega)))
  all_goals try (exfalso; omega)
  all_goals try (rw [hcp]; omega)
  all_goals exact hk

end Fer
