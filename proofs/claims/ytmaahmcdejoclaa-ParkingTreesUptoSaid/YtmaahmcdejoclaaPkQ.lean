/-
  Walk: ferref.Parked: its result as nil or not nil. No condition.
-/
import Derived.Test.YtmaahmcdejoclaaRows
import Derived.Test.YtmaahmcdejoclaaPkA
set_option linter.unusedSimpArgs false
set_option linter.unusedVariables false
set_option maxHeartbeats 8000000
-- SPECS: tL, tI, tB, LI, NI, spL, spLI, containsSp, parkMSp, List.set_cons_zero, List.getD_cons_zero
namespace Fer
open Go Go.Proofs

/-- A slot that nil is laid into: as the value. -/
theorem XW.rawNil {P : Program} {C : Ctx} {w0 : World} {S0 : Nat → Prop} {s : XS} {Q : Exit → XS → Prop} {id d : Nat} {o : Oper} (ho : o.op = .assign (.const (.slice none 0 0))) (hg : o.guard = none) (hd : o.dst = some d) (hdn : d < C.n)
    (h : Q .normal (s.put (some d) (.dat .raw (.slice none 0 0)))) : XW P C w0 S0 (.region id #[o] false) Q s := fun a w ⟨S, pl, R⟩ => by
  refine wp_region_list ?_
  show wpList P #[o] _ [o] a w
  refine wpList_plain hg fun K hK => ?_
  refine Out.wp (i := 0) (pc := noPins) (dr := false) (Out.pure (v := .slice none 0 0) (by rw [ho]; rfl) (fun w' => by unfold execOp; rw [ho]; rfl) (hK _ _ ?_))
  rw [hd]
  exact ⟨_, h, S, pl, R.put (fun i hi => by cases hi; exact hdn) ⟨[_], rfl, rfl, rfl⟩ AV.lt_dat⟩

def parkMSp : Spec := spL fun l K => (l.length ≤ 20 ∧ (∀ x ∈ l, 1 ≤ x ∧ x ≤ (l.length : Int)) ∧ l ≠ []) ∧ (parkS l.length l [] = none → K [⟨.raw, .slice none 0 0⟩]) ∧ ∀ r, parkS l.length l [] = some r → r ≠ [] → K [tL r]
theorem freeP_le (out : List Int) (x : Int) : freeP out x ≤ x + out.length := by
  obtain ⟨f1, f2, f3⟩ := freeP_spec out x
  have hlen : (irange x (freeP out x - 1)).length ≤ out.length := (irange_nodup x (freeP out x - 1)).length_le_of_subset fun v hv => by
    have := irange_mem.1 hv
    exact f3 v this.1 (by omega)
  rw [irange_len] at hlen
  omega

set_option maxRecDepth 10000 in
theorem parkM_ok : FnOK Try.prog 15 parkMSp := by
  have hC : CtxOK Try.prog ⟨31, tab, fun f => lk [(33, containsSp)] f, fun f => lk [] f, fun f => lk [] f, fun f => lk [] f, fun f => lk [] f⟩ := ctx_ok ⟨contains_ok, trivial⟩ trivial trivial trivial trivial
  refine FnOK_of (C := ⟨31, tab, fun f => lk [(33, containsSp)] f, fun f => lk [] f, fun f => lk [] f, fun f => lk [] f, fun f => lk [] f⟩) 15 Try.f15 _ [2] parkMSp Try.func15 rfl (by decide) rfl rfl (Nat.le_of_ble_eq_true rfl) fun args K ht hK w0 => ?_
  obtain ⟨l, rfl, ⟨hl20, hrange, hne⟩, hkn, hks⟩ := at_L ht hK
  repeat' (first | with_reducible refine XW.seq ?_ | with_reducible refine XW.block ?_ | with_reducible refine XW.skip ?_ | with_reducible refine XW.exit ?_ | with_reducible refine XW.ret ?_ | ((first | with_reducible refine XW.region hC (fun K' hK' => ?_) | with_reducible refine XW.text hC hm_ok (by kernel_rfl) (fun K' hK' => ?_)); (try simp only [List.toList_toArray]); repeat' (first | with_reducible refine xrun_cons ?_ | with_reducible refine xtxt_cons ?_ | ((first | with_reducible show xoper _ _ _ _ _ _ _ | with_reducible show xdo _ _ _ _ _ _); simp only [zd, zb, zz, RT.at, RT.ty, RT.sub, RT.cut, RT.wr, getS, setT, Ty.dflt, lk, Int.reduceToNat, Int.reduceEq, reduceCtorEq, Nat.reduceLT, Nat.reduceEqDiff, Nat.reduceAdd, Nat.reduceMul, Nat.reduceLeDiff, Nat.reduceSub, Nat.reduceBEq, Nat.reduceBNe, Nat.reduceBeqDiff, ↓reduceIte, tab, tL, tI, tB, LI, NI, spL, spLI, containsSp, parkMSp, List.set_cons_zero, List.getD_cons_zero]) | with_reducible refine xgd_intro (fun hg => ?_) (fun hg => ?_) <;> (try simp only [zh, zz, reduceCtorEq, bne_iff_ne, beq_iff_eq, ne_eq, Decidable.not_not, beq_eq_false_iff_ne, bne_eq_false_iff_eq] at hg) | ((with_reducible show (_ : Bool) = true); kernel_rfl) | with_reducible refine And.intro ?_ ?_ | with_reducible refine xrun_nil ?_ | with_reducible refine xtxt_nil ?_ | (refine hK' _ ?_; clear hK'; clear K') | (with_reducible intro hg; try simp only [zh, zz, reduceCtorEq, bne_iff_ne, beq_iff_eq, ne_eq, Decidable.not_not, beq_eq_false_iff_ne, bne_eq_false_iff_eq] at hg))) | ((with_reducible show XW _ _ _ _ (.cond _ _ _) _ _); refine XW.cond rfl (fun h => ?_) (fun h => ?_) <;> (try simp only [zh, zz, reduceCtorEq, bne_iff_ne, beq_iff_eq, ne_eq, Decidable.not_not, beq_eq_false_iff_ne, bne_eq_false_iff_eq] at h) <;> (try (exfalso; omega))) | ((with_reducible show XW.thn _ _ _ _); dsimp only [XW.thn]) | ((with_reducible show XW.blk _ _ _ _); simp only [XW.blk, ↓reduceIte, Nat.reduceEqDiff, Nat.zero_ne_one, Nat.one_ne_zero, ne_eq]) | ((with_reducible show retC _ _ _ _ _); simp only [retC, outsV, outV, outsOf, outOf, TE.ty, prodOf, Option.bind_some, zb, zz, RT.at, RT.ty, RT.sub, RT.cut, RT.wr, getS, setT, Ty.dflt, lk, Int.reduceToNat, Int.reduceEq, reduceCtorEq, Nat.reduceLT, Nat.reduceEqDiff, Nat.reduceAdd, Nat.reduceMul, Nat.reduceLeDiff, Nat.reduceSub, Nat.reduceBEq, Nat.reduceBNe, Nat.reduceBeqDiff, ↓reduceIte, tab, tL, tI, tB, LI, NI, spL, spLI, containsSp, parkMSp, List.set_cons_zero, List.getD_cons_zero])); all_goals (try (first | omega | with_reducible exact Int.le_refl _ | (show (_ : Int) ≤ _; omega)))
  refine XW.loop (ι := Nat × List Int) (fun x => ⟨[(4, .dat NI (x.1 : Int)), (3, .ref 0 []), (0, .dat LI l)], [(0, ⟨3, NI, 0, x.2, none⟩)], 1, []⟩)
    (fun x => x.1 ≤ l.length ∧ x.2.length = x.1 ∧ parkS l.length l [] = parkS l.length (l.drop x.1) x.2) (fun x => l.length - x.1) (0, []) [(0, 1)] ⟨Nat.zero_le _, rfl, rfl⟩ ?_ fun ⟨i, out⟩ hi => ?_
  · simp only [Fits, distinct, fitEnv, fitB, fitL, fitRoots, fitRT, idsOK, AV.ids, zb, zz, RT.at, RT.ty, RT.sub, RT.cut, RT.wr, getS, setT, Ty.dflt, lk, Int.reduceToNat, Int.reduceEq, reduceCtorEq, Nat.reduceLT, Nat.reduceEqDiff, Nat.reduceAdd, Nat.reduceMul, Nat.reduceLeDiff, Nat.reduceSub, Nat.reduceBEq, Nat.reduceBNe, Nat.reduceBeqDiff, ↓reduceIte, tab, tL, tI, tB, LI, NI, spL, spLI, containsSp, parkMSp, List.set_cons_zero, List.getD_cons_zero]
    all_goals first | rfl | exact ⟨rfl, rfl⟩ | exact ⟨rfl, rfl, rfl⟩
  obtain ⟨i1, i2, i4⟩ := hi
  dsimp only at i1 i2 i4 ⊢
  by_cases hil : i < l.length
  rotate_left
  · rw [List.drop_eq_nil_of_le (by omega), parkS] at i4
    have hk := hks out i4 (fun h => hne (List.length_eq_zero_iff.1 (by rw [h] at i2; simp at i2; omega)))
    repeat' (first | with_reducible refine XW.seq ?_ | with_reducible refine XW.block ?_ | with_reducible refine XW.skip ?_ | with_reducible refine XW.exit ?_ | with_reducible refine XW.ret ?_ | ((first | with_reducible refine XW.region hC (fun K' hK' => ?_) | with_reducible refine XW.text hC hm_ok (by kernel_rfl) (fun K' hK' => ?_)); (try simp only [List.toList_toArray]); repeat' (first | with_reducible refine xrun_cons ?_ | with_reducible refine xtxt_cons ?_ | ((first | with_reducible show xoper _ _ _ _ _ _ _ | with_reducible show xdo _ _ _ _ _ _); simp only [zd, zb, zz, RT.at, RT.ty, RT.sub, RT.cut, RT.wr, getS, setT, Ty.dflt, lk, Int.reduceToNat, Int.reduceEq, reduceCtorEq, Nat.reduceLT, Nat.reduceEqDiff, Nat.reduceAdd, Nat.reduceMul, Nat.reduceLeDiff, Nat.reduceSub, Nat.reduceBEq, Nat.reduceBNe, Nat.reduceBeqDiff, ↓reduceIte, tab, tL, tI, tB, LI, NI, spL, spLI, containsSp, parkMSp, List.set_cons_zero, List.getD_cons_zero]) | with_reducible refine xgd_intro (fun hg => ?_) (fun hg => ?_) <;> (try simp only [zh, zz, reduceCtorEq, bne_iff_ne, beq_iff_eq, ne_eq, Decidable.not_not, beq_eq_false_iff_ne, bne_eq_false_iff_eq] at hg) | ((with_reducible show (_ : Bool) = true); kernel_rfl) | with_reducible refine And.intro ?_ ?_ | with_reducible refine xrun_nil ?_ | with_reducible refine xtxt_nil ?_ | (refine hK' _ ?_; clear hK'; clear K') | (with_reducible intro hg; try simp only [zh, zz, reduceCtorEq, bne_iff_ne, beq_iff_eq, ne_eq, Decidable.not_not, beq_eq_false_iff_ne, bne_eq_false_iff_eq] at hg))) | ((with_reducible show XW _ _ _ _ (.cond _ _ _) _ _); refine XW.cond rfl (fun h => ?_) (fun h => ?_) <;> (try simp only [zh, zz, reduceCtorEq, bne_iff_ne, beq_iff_eq, ne_eq, Decidable.not_not, beq_eq_false_iff_ne, bne_eq_false_iff_eq] at h) <;> (try (exfalso; omega))) | ((with_reducible show XW.thn _ _ _ _); dsimp only [XW.thn]) | ((with_reducible show XW.blk _ _ _ _); simp only [XW.blk, ↓reduceIte, Nat.reduceEqDiff, Nat.zero_ne_one, Nat.one_ne_zero, ne_eq]) | ((with_reducible show retC _ _ _ _ _); simp only [retC, outsV, outV, outsOf, outOf, TE.ty, prodOf, Option.bind_some, zb, zz, RT.at, RT.ty, RT.sub, RT.cut, RT.wr, getS, setT, Ty.dflt, lk, Int.reduceToNat, Int.reduceEq, reduceCtorEq, Nat.reduceLT, Nat.reduceEqDiff, Nat.reduceAdd, Nat.reduceMul, Nat.reduceLeDiff, Nat.reduceSub, Nat.reduceBEq, Nat.reduceBNe, Nat.reduceBeqDiff, ↓reduceIte, tab, tL, tI, tB, LI, NI, spL, spLI, containsSp, parkMSp, List.set_cons_zero, List.getD_cons_zero])); all_goals (try (first | omega | with_reducible exact Int.le_refl _ | (show (_ : Int) ≤ _; omega)))
    all_goals first
      | exact hk
      | (exfalso; omega)
  rw [drop_pred_getD 0 hil, parkS] at i4
  obtain ⟨f1, f2, f3⟩ := freeP_spec out (l.getD i 0)
  have hfl := freeP_le out (l.getD i 0)
  have hr := hrange _ (getD_mem 0 hil)
  repeat' (first | with_reducible refine XW.seq ?_ | with_reducible refine XW.block ?_ | with_reducible refine XW.skip ?_ | with_reducible refine XW.exit ?_ | with_reducible refine XW.ret ?_ | ((first | with_reducible refine XW.region hC (fun K' hK' => ?_) | with_reducible refine XW.text hC hm_ok (by kernel_rfl) (fun K' hK' => ?_)); (try simp only [List.toList_toArray]); repeat' (first | with_reducible refine xrun_cons ?_ | with_reducible refine xtxt_cons ?_ | ((first | with_reducible show xoper _ _ _ _ _ _ _ | with_reducible show xdo _ _ _ _ _ _); simp only [zd, zb, zz, RT.at, RT.ty, RT.sub, RT.cut, RT.wr, getS, setT, Ty.dflt, lk, Int.reduceToNat, Int.reduceEq, reduceCtorEq, Nat.reduceLT, Nat.reduceEqDiff, Nat.reduceAdd, Nat.reduceMul, Nat.reduceLeDiff, Nat.reduceSub, Nat.reduceBEq, Nat.reduceBNe, Nat.reduceBeqDiff, ↓reduceIte, tab, tL, tI, tB, LI, NI, spL, spLI, containsSp, parkMSp, List.set_cons_zero, List.getD_cons_zero]) | with_reducible refine xgd_intro (fun hg => ?_) (fun hg => ?_) <;> (try simp only [zh, zz, reduceCtorEq, bne_iff_ne, beq_iff_eq, ne_eq, Decidable.not_not, beq_eq_false_iff_ne, bne_eq_false_iff_eq] at hg) | ((with_reducible show (_ : Bool) = true); kernel_rfl) | with_reducible refine And.intro ?_ ?_ | with_reducible refine xrun_nil ?_ | with_reducible refine xtxt_nil ?_ | (refine hK' _ ?_; clear hK'; clear K') | (with_reducible intro hg; try simp only [zh, zz, reduceCtorEq, bne_iff_ne, beq_iff_eq, ne_eq, Decidable.not_not, beq_eq_false_iff_ne, bne_eq_false_iff_eq] at hg))) | ((with_reducible show XW _ _ _ _ (.cond _ _ _) _ _); refine XW.cond rfl (fun h => ?_) (fun h => ?_) <;> (try simp only [zh, zz, reduceCtorEq, bne_iff_ne, beq_iff_eq, ne_eq, Decidable.not_not, beq_eq_false_iff_ne, bne_eq_false_iff_eq] at h) <;> (try (exfalso; omega))) | ((with_reducible show XW.thn _ _ _ _); dsimp only [XW.thn]) | ((with_reducible show XW.blk _ _ _ _); simp only [XW.blk, ↓reduceIte, Nat.reduceEqDiff, Nat.zero_ne_one, Nat.one_ne_zero, ne_eq]) | ((with_reducible show retC _ _ _ _ _); simp only [retC, outsV, outV, outsOf, outOf, TE.ty, prodOf, Option.bind_some, zb, zz, RT.at, RT.ty, RT.sub, RT.cut, RT.wr, getS, setT, Ty.dflt, lk, Int.reduceToNat, Int.reduceEq, reduceCtorEq, Nat.reduceLT, Nat.reduceEqDiff, Nat.reduceAdd, Nat.reduceMul, Nat.reduceLeDiff, Nat.reduceSub, Nat.reduceBEq, Nat.reduceBNe, Nat.reduceBeqDiff, ↓reduceIte, tab, tL, tI, tB, LI, NI, spL, spLI, containsSp, parkMSp, List.set_cons_zero, List.getD_cons_zero])); all_goals (try (first | omega | with_reducible exact Int.le_refl _ | (show (_ : Int) ≤ _; omega)))
  all_goals try (exfalso; omega)
  refine XW.loop (ι := Nat) (fun d => ⟨[(5, .dat NI (l.getD i 0 + (d : Int))), (4, .dat NI (i : Int)), (3, .ref 0 []), (0, .dat LI l)], [(0, ⟨3, NI, 0, out, none⟩)], 1, []⟩)
    (fun d => l.getD i 0 + (d : Int) ≤ freeP out (l.getD i 0)) (fun d => l.length + out.length + 1 - d) 0 [(0, 0)] (by omega) ?_ fun d hd => ?_
  · simp only [Fits, distinct, fitEnv, fitB, fitL, fitRoots, fitRT, idsOK, AV.ids, zb, zz, RT.at, RT.ty, RT.sub, RT.cut, RT.wr, getS, setT, Ty.dflt, lk, Int.reduceToNat, Int.reduceEq, reduceCtorEq, Nat.reduceLT, Nat.reduceEqDiff, Nat.reduceAdd, Nat.reduceMul, Nat.reduceLeDiff, Nat.reduceSub, Nat.reduceBEq, Nat.reduceBNe, Nat.reduceBeqDiff, ↓reduceIte, tab, tL, tI, tB, LI, NI, spL, spLI, containsSp, parkMSp, List.set_cons_zero, List.getD_cons_zero]
    all_goals first | rfl | exact ⟨rfl, rfl⟩ | exact ⟨rfl, rfl, rfl⟩ | simp
  by_cases htk : l.getD i 0 + (d : Int) ∈ out
  · have hnf : l.getD i 0 + (d : Int) ≠ freeP out (l.getD i 0) := fun h => f2 (h ▸ htk)
    repeat' (first | with_reducible refine XW.seq ?_ | with_reducible refine XW.block ?_ | with_reducible refine XW.skip ?_ | with_reducible refine XW.exit ?_ | with_reducible refine XW.ret ?_ | ((first | with_reducible refine XW.region hC (fun K' hK' => ?_) | with_reducible refine XW.text hC hm_ok (by kernel_rfl) (fun K' hK' => ?_)); (try simp only [List.toList_toArray]); repeat' (first | with_reducible refine xrun_cons ?_ | with_reducible refine xtxt_cons ?_ | ((first | with_reducible show xoper _ _ _ _ _ _ _ | with_reducible show xdo _ _ _ _ _ _); simp only [zd, zb, zz, RT.at, RT.ty, RT.sub, RT.cut, RT.wr, getS, setT, Ty.dflt, lk, Int.reduceToNat, Int.reduceEq, reduceCtorEq, Nat.reduceLT, Nat.reduceEqDiff, Nat.reduceAdd, Nat.reduceMul, Nat.reduceLeDiff, Nat.reduceSub, Nat.reduceBEq, Nat.reduceBNe, Nat.reduceBeqDiff, ↓reduceIte, tab, tL, tI, tB, LI, NI, spL, spLI, containsSp, parkMSp, List.set_cons_zero, List.getD_cons_zero]) | with_reducible refine xgd_intro (fun hg => ?_) (fun hg => ?_) <;> (try simp only [zh, zz, reduceCtorEq, bne_iff_ne, beq_iff_eq, ne_eq, Decidable.not_not, beq_eq_false_iff_ne, bne_eq_false_iff_eq] at hg) | ((with_reducible show (_ : Bool) = true); kernel_rfl) | with_reducible refine And.intro ?_ ?_ | with_reducible refine xrun_nil ?_ | with_reducible refine xtxt_nil ?_ | (refine hK' _ ?_; clear hK'; clear K') | (with_reducible intro hg; try simp only [zh, zz, reduceCtorEq, bne_iff_ne, beq_iff_eq, ne_eq, Decidable.not_not, beq_eq_false_iff_ne, bne_eq_false_iff_eq] at hg))) | ((with_reducible show XW _ _ _ _ (.cond _ _ _) _ _); refine XW.cond rfl (fun h => ?_) (fun h => ?_) <;> (try simp only [zh, zz, reduceCtorEq, bne_iff_ne, beq_iff_eq, ne_eq, Decidable.not_not, beq_eq_false_iff_ne, bne_eq_false_iff_eq] at h) <;> (try (exfalso; omega))) | ((with_reducible show XW.thn _ _ _ _); dsimp only [XW.thn]) | ((with_reducible show XW.blk _ _ _ _); simp only [XW.blk, ↓reduceIte, Nat.reduceEqDiff, Nat.zero_ne_one, Nat.one_ne_zero, ne_eq]) | ((with_reducible show retC _ _ _ _ _); simp only [retC, outsV, outV, outsOf, outOf, TE.ty, prodOf, Option.bind_some, zb, zz, RT.at, RT.ty, RT.sub, RT.cut, RT.wr, getS, setT, Ty.dflt, lk, Int.reduceToNat, Int.reduceEq, reduceCtorEq, Nat.reduceLT, Nat.reduceEqDiff, Nat.reduceAdd, Nat.reduceMul, Nat.reduceLeDiff, Nat.reduceSub, Nat.reduceBEq, Nat.reduceBNe, Nat.reduceBeqDiff, ↓reduceIte, tab, tL, tI, tB, LI, NI, spL, spLI, containsSp, parkMSp, List.set_cons_zero, List.getD_cons_zero])); all_goals (try (first | omega | with_reducible exact Int.le_refl _ | (show (_ : Int) ≤ _; omega)))
    all_goals try exact absurd htk (by assumption)
    all_goals try (exfalso; omega)
    refine ⟨d + 1, [(0, 0)], by omega, by omega, ?_⟩
    rw [show l.getD i 0 + ((d + 1 : Nat) : Int) = l.getD i 0 + (d : Int) + 1 by omega]
    simp only [Fits, distinct, fitEnv, fitB, fitL, fitRoots, fitRT, idsOK, AV.ids, zb, zz, RT.at, RT.ty, RT.sub, RT.cut, RT.wr, getS, setT, Ty.dflt, lk, Int.reduceToNat, Int.reduceEq, reduceCtorEq, Nat.reduceLT, Nat.reduceEqDiff, Nat.reduceAdd, Nat.reduceMul, Nat.reduceLeDiff, Nat.reduceSub, Nat.reduceBEq, Nat.reduceBNe, Nat.reduceBeqDiff, ↓reduceIte, tab, tL, tI, tB, LI, NI, spL, spLI, containsSp, parkMSp, List.set_cons_zero, List.getD_cons_zero]
    all_goals first | rfl | exact ⟨rfl, rfl⟩ | exact ⟨rfl, rfl, rfl⟩
  have heq : freeP out (l.getD i 0) = l.getD i 0 + (d : Int) := freeP_of (by omega) htk fun u h1 h2 => f3 u h1 (by omega)
  rw [heq] at i4
  by_cases hfull : (l.length : Int) < l.getD i 0 + (d : Int)
  · rw [if_neg (by omega)] at i4
    have hk := hkn i4
    repeat' (first | (refine XW.rawNil rfl rfl rfl (by decide) ?_) | with_reducible refine XW.seq ?_ | with_reducible refine XW.block ?_ | with_reducible refine XW.skip ?_ | with_reducible refine XW.exit ?_ | with_reducible refine XW.ret ?_ | ((first | with_reducible refine XW.region hC (fun K' hK' => ?_) | with_reducible refine XW.text hC hm_ok (by kernel_rfl) (fun K' hK' => ?_)); (try simp only [List.toList_toArray]); repeat' (first | with_reducible refine xrun_cons ?_ | with_reducible refine xtxt_cons ?_ | ((first | with_reducible show xoper _ _ _ _ _ _ _ | with_reducible show xdo _ _ _ _ _ _); simp only [zd, zb, zz, RT.at, RT.ty, RT.sub, RT.cut, RT.wr, getS, setT, Ty.dflt, lk, Int.reduceToNat, Int.reduceEq, reduceCtorEq, Nat.reduceLT, Nat.reduceEqDiff, Nat.reduceAdd, Nat.reduceMul, Nat.reduceLeDiff, Nat.reduceSub, Nat.reduceBEq, Nat.reduceBNe, Nat.reduceBeqDiff, ↓reduceIte, tab, tL, tI, tB, LI, NI, spL, spLI, containsSp, parkMSp, List.set_cons_zero, List.getD_cons_zero]) | with_reducible refine xgd_intro (fun hg => ?_) (fun hg => ?_) <;> (try simp only [zh, zz, reduceCtorEq, bne_iff_ne, beq_iff_eq, ne_eq, Decidable.not_not, beq_eq_false_iff_ne, bne_eq_false_iff_eq] at hg) | ((with_reducible show (_ : Bool) = true); kernel_rfl) | with_reducible refine And.intro ?_ ?_ | with_reducible refine xrun_nil ?_ | with_reducible refine xtxt_nil ?_ | (refine hK' _ ?_; clear hK'; clear K') | (with_reducible intro hg; try simp only [zh, zz, reduceCtorEq, bne_iff_ne, beq_iff_eq, ne_eq, Decidable.not_not, beq_eq_false_iff_ne, bne_eq_false_iff_eq] at hg))) | ((with_reducible show XW _ _ _ _ (.cond _ _ _) _ _); refine XW.cond rfl (fun h => ?_) (fun h => ?_) <;> (try simp only [zh, zz, reduceCtorEq, bne_iff_ne, beq_iff_eq, ne_eq, Decidable.not_not, beq_eq_false_iff_ne, bne_eq_false_iff_eq] at h) <;> (try (exfalso; omega))) | ((with_reducible show XW.thn _ _ _ _); dsimp only [XW.thn]) | ((with_reducible show XW.blk _ _ _ _); simp only [XW.blk, ↓reduceIte, Nat.reduceEqDiff, Nat.zero_ne_one, Nat.one_ne_zero, ne_eq]) | ((with_reducible show retC _ _ _ _ _); simp only [retC, outsV, outV, outsOf, outOf, TE.ty, prodOf, Option.bind_some, zb, zz, RT.at, RT.ty, RT.sub, RT.cut, RT.wr, getS, setT, Ty.dflt, lk, Int.reduceToNat, Int.reduceEq, reduceCtorEq, Nat.reduceLT, Nat.reduceEqDiff, Nat.reduceAdd, Nat.reduceMul, Nat.reduceLeDiff, Nat.reduceSub, Nat.reduceBEq, Nat.reduceBNe, Nat.reduceBeqDiff, ↓reduceIte, tab, tL, tI, tB, LI, NI, spL, spLI, containsSp, parkMSp, List.set_cons_zero, List.getD_cons_zero])); all_goals (try (first | omega | with_reducible exact Int.le_refl _ | (show (_ : Int) ≤ _; omega)))
    all_goals first
      | exact hk
      | exact absurd (by assumption) htk
      | (exfalso; omega)
  · rw [if_pos (by omega)] at i4
    repeat' (first | with_reducible refine XW.seq ?_ | with_reducible refine XW.block ?_ | with_reducible refine XW.skip ?_ | with_reducible refine XW.exit ?_ | with_reducible refine XW.ret ?_ | ((first | with_reducible refine XW.region hC (fun K' hK' => ?_) | with_reducible refine XW.text hC hm_ok (by kernel_rfl) (fun K' hK' => ?_)); (try simp only [List.toList_toArray]); repeat' (first | with_reducible refine xrun_cons ?_ | with_reducible refine xtxt_cons ?_ | ((first | with_reducible show xoper _ _ _ _ _ _ _ | with_reducible show xdo _ _ _ _ _ _); simp only [zd, zb, zz, RT.at, RT.ty, RT.sub, RT.cut, RT.wr, getS, setT, Ty.dflt, lk, Int.reduceToNat, Int.reduceEq, reduceCtorEq, Nat.reduceLT, Nat.reduceEqDiff, Nat.reduceAdd, Nat.reduceMul, Nat.reduceLeDiff, Nat.reduceSub, Nat.reduceBEq, Nat.reduceBNe, Nat.reduceBeqDiff, ↓reduceIte, tab, tL, tI, tB, LI, NI, spL, spLI, containsSp, parkMSp, List.set_cons_zero, List.getD_cons_zero]) | with_reducible refine xgd_intro (fun hg => ?_) (fun hg => ?_) <;> (try simp only [zh, zz, reduceCtorEq, bne_iff_ne, beq_iff_eq, ne_eq, Decidable.not_not, beq_eq_false_iff_ne, bne_eq_false_iff_eq] at hg) | ((with_reducible show (_ : Bool) = true); kernel_rfl) | with_reducible refine And.intro ?_ ?_ | with_reducible refine xrun_nil ?_ | with_reducible refine xtxt_nil ?_ | (refine hK' _ ?_; clear hK'; clear K') | (with_reducible intro hg; try simp only [zh, zz, reduceCtorEq, bne_iff_ne, beq_iff_eq, ne_eq, Decidable.not_not, beq_eq_false_iff_ne, bne_eq_false_iff_eq] at hg))) | ((with_reducible show XW _ _ _ _ (.cond _ _ _) _ _); refine XW.cond rfl (fun h => ?_) (fun h => ?_) <;> (try simp only [zh, zz, reduceCtorEq, bne_iff_ne, beq_iff_eq, ne_eq, Decidable.not_not, beq_eq_false_iff_ne, bne_eq_false_iff_eq] at h) <;> (try (exfalso; omega))) | ((with_reducible show XW.thn _ _ _ _); dsimp only [XW.thn]) | ((with_reducible show XW.blk _ _ _ _); simp only [XW.blk, ↓reduceIte, Nat.reduceEqDiff, Nat.zero_ne_one, Nat.one_ne_zero, ne_eq]) | ((with_reducible show retC _ _ _ _ _); simp only [retC, outsV, outV, outsOf, outOf, TE.ty, prodOf, Option.bind_some, zb, zz, RT.at, RT.ty, RT.sub, RT.cut, RT.wr, getS, setT, Ty.dflt, lk, Int.reduceToNat, Int.reduceEq, reduceCtorEq, Nat.reduceLT, Nat.reduceEqDiff, Nat.reduceAdd, Nat.reduceMul, Nat.reduceLeDiff, Nat.reduceSub, Nat.reduceBEq, Nat.reduceBNe, Nat.reduceBeqDiff, ↓reduceIte, tab, tL, tI, tB, LI, NI, spL, spLI, containsSp, parkMSp, List.set_cons_zero, List.getD_cons_zero])); all_goals (try (first | omega | with_reducible exact Int.le_refl _ | (show (_ : Int) ≤ _; omega)))
    all_goals try exact absurd (by assumption) htk
    all_goals try (exfalso; omega)
    refine ⟨(i + 1, out ++ [l.getD i 0 + (d : Int)]), [(0, 2)], ⟨by dsimp only; omega, by rw [List.length_append, i2]; rfl, i4⟩, by dsimp only; omega, ?_⟩
    dsimp only
    simp only [Fits, distinct, fitEnv, fitB, fitL, fitRoots, fitRT, idsOK, AV.ids, zb, zz, RT.at, RT.ty, RT.sub, RT.cut, RT.wr, getS, setT, Ty.dflt, lk, Int.reduceToNat, Int.reduceEq, reduceCtorEq, Nat.reduceLT, Nat.reduceEqDiff, Nat.reduceAdd, Nat.reduceMul, Nat.reduceLeDiff, Nat.reduceSub, Nat.reduceBEq, Nat.reduceBNe, Nat.reduceBeqDiff, ↓reduceIte, tab, tL, tI, tB, LI, NI, spL, spLI, containsSp, parkMSp, List.set_cons_zero, List.getD_cons_zero]
    all_goals first | rfl | exact ⟨rfl, rfl⟩ | exact ⟨rfl, rfl, rfl⟩

def parkedSp : Spec := spL fun l K => (l.length ≤ 20 ∧ ∀ x ∈ l, 1 ≤ x ∧ x ≤ (l.length : Int)) ∧ (parkS l.length l [] = none → K [⟨.raw, .slice none 0 0⟩]) ∧ ∀ r, parkS l.length l [] = some r → ∀ a n c, K [⟨.raw, .slice (some a) n c⟩]

set_option maxRecDepth 100000 in
/-- Of no cars: an empty list that is not nil. -/
theorem parked_none (w : World) (a : Option Addr) (c : Nat) :
    Calls Try.prog 15 #[.slice a 0 c] w fun e w' => e = .returned (.slice (some ⟨w.heap.size, 0, none⟩) 0 0) ∧ w' = w.alloc (.cells #[] 3) := by
  have t0 := Try.underlying0; have a0 := Try.isAgg0; have z0 := Try.sizeOf0; have v0 := Try.zeroValue0
  have t3 := Try.underlying3; have a3 := Try.isAgg3; have z3 := Try.sizeOf3; have v3 := Try.zeroValue3
  have t4 := Try.underlying4; have a4 := Try.isAgg4; have z4 := Try.sizeOf4; have v4 := Try.zeroValue4
  have t22 := Try.underlying23; have a22 := Try.isAgg23; have z22 := Try.sizeOf23; have v22 := Try.zeroValue23
  have mixed := hm_ok
  go_enter Try.func15, Try.ntmps15
  go_wp2
  refine wp_loop (fun a' w' => a' = _ ∧ w' = _) (fun _ _ => 0) ⟨rfl, rfl⟩ fun a' w' hJ => ?_
  obtain ⟨rfl, rfl⟩ := hJ
  go_wp2
  all_goals (go_ret; exact ⟨rfl, rfl⟩)

theorem parked_ok : FnOK Try.prog 15 parkedSp := by
  refine ⟨parkM_ok.1, fun args K hK w vs hA => ?_⟩
  obtain ⟨l, rfl, ⟨h1, h2⟩, hkn, hks⟩ : ∃ l, args = [tL l] ∧ (l.length ≤ 20 ∧ ∀ x ∈ l, 1 ≤ x ∧ x ≤ (l.length : Int)) ∧ (parkS l.length l [] = none → K [⟨.raw, .slice none 0 0⟩]) ∧ ∀ r, parkS l.length l [] = some r → ∀ a n c, K [⟨.raw, .slice (some a) n c⟩] := by
    cases hA with
    | cons h hl =>
      cases hl
      exact ⟨_, rfl, hK⟩
  by_cases hl : l = []
  · subst hl
    obtain ⟨a, c, rfl⟩ : ∃ a c, vs = [.slice a 0 c] := by
      cases hA with
      | cons h hl =>
        cases hl
        obtain ⟨a, c, rfl, _⟩ := h
        exact ⟨a, c, rfl⟩
    refine Calls.mono (parked_none w a c) fun e w' he => ?_
    obtain ⟨rfl, rfl⟩ := he
    exact ⟨Grew.alloc w _ _, [⟨.raw, .slice (some ⟨w.heap.size, 0, none⟩) 0 0⟩], [_], _, hks [] rfl _ _ _, rfl, .cons (F := noF) ⟨fun _ h => h.elim, fun _ h => h, [_], rfl, rfl, rfl⟩ .nil fun _ h => h.elim⟩
  · refine Calls.mono (parkM_ok.2 [tL l] (fun outs => (parkS l.length l [] = none ∧ outs = [⟨.raw, .slice none 0 0⟩]) ∨ ∃ r, parkS l.length l [] = some r ∧ r ≠ [] ∧ outs = [tL r]) ⟨⟨h1, h2, hl⟩, fun h => .inl ⟨h, rfl⟩, fun r h hr => .inr ⟨r, h, hr, rfl⟩⟩ w vs hA) fun e w' he => ?_
    match e, he with
    | .returned v, ⟨g, outs, us, F, hk, hv, hR⟩ =>
      rcases hk with ⟨h, rfl⟩ | ⟨r, h, hr, rfl⟩
      · exact ⟨g, _, us, F, hkn h, hv, hR⟩
      · cases hR with
        | cons h1 h2 h3 =>
          cases h2
          obtain ⟨hF, ct, H⟩ := h1
          rcases own_inv H with ⟨_, h', _⟩ | ⟨b, cap, kids, arr, Fs, rfl, hu, _⟩
          · exact absurd h' hr
          · simp only [List.cons.injEq, and_true] at hu
            subst hu
            exact ⟨g, [⟨.raw, .slice (some ⟨b, 0, none⟩) r.length cap⟩], [_], _, hks r h _ _ _, hv, .cons (F := noF) ⟨fun _ h => h.elim, fun _ h => h, [_], rfl, rfl, rfl⟩ .nil fun _ h => h.elim⟩
end Fer
