/-
  Walks: the program's search, next and each. No condition.
-/
import Derived.Test.YtmaahmcdejoclaaRows
import Derived.Test.YtmaahmcdejoclaaPtB
import Derived.Test.YtmaahmcdejoclaaPtC
import Derived.Test.YtmaahmcdejoclaaFerS
set_option linter.unusedSimpArgs false
set_option linter.unusedVariables false
set_option maxHeartbeats 8000000
-- SPECS: tL, tI, tB, LI, NI, LLI, tLL, PTt, LPT, tPT, GT, tG, SLt, LBt, ROP, ROI, FAMt, FV, tFam, pixSp, spW1, cloneWSp, nextSp, eachSp, spL, List.set_cons_zero, List.getD_cons_zero
namespace Fer
open Go Go.Proofs

@[reducible] def ROP : Ty := .ro 89 (.prod (.int .i64) (.int .i64))
@[reducible] def ROI : Ty := .ro 3 (.int .i64)
@[reducible] def FAMt : Ty := .prod (.prod (.int .i64) (.prod (.int .i64) ROP)) (.prod ROP (.prod ROP (.prod ROI (.prod LBt (.prod SLt (.prod SLt (.prod (.int .i64) (.prod (.int .i64) (.int .i64)))))))))
/-- What a family's search holds: the grid, the ends; what is free, the paths so far, the first family, how many are wanted, how many there are, steps. -/
structure FV where
  W : Int
  H : Int
  bar : Value × List Pt
  st : Value × List Pt
  en : Value × List Pt
  way : Value × List Int
@[reducible] def tFam (F : FV) (free : List Bool) (now first : List ByteArray) (most n steps : Int) : TV :=
  ⟨FAMt, ((F.W, F.H, F.bar), F.st, F.en, F.way, free, now, first, most, n, steps)⟩
def FV.env (F : FV) (most : Int) : SEnv := ⟨F.st.2, F.en.2, F.way.2, 1000000, decide (most ≠ 0)⟩
/-- The search is of a family that may be searched. -/
structure FamOK (F : FV) : Prop where
  W1 : 1 ≤ F.W
  H1 : 1 ≤ F.H
  W8 : F.W ≤ 8
  H8 : F.H ≤ 8
  st : ∀ p ∈ F.st.2, inG F.W F.H p
  en : ∀ p ∈ F.en.2, inG F.W F.H p
  l4 : F.st.2.length ≤ 4
  le : F.en.2.length = F.st.2.length
  lw : F.way.2.length = F.st.2.length ∨ F.way.2 = [0, 1, 2, 3]
  wy : ∀ i : Nat, i < F.st.2.length → 0 ≤ F.way.2.getD i 0 ∧ F.way.2.getD i 0 < F.st.2.length
/-- A step of it. -/
structure StepOK (F : FV) (free : List Bool) (now : List ByteArray) (most n steps : Int) (f : Nat) : Prop where
  fr : free.length = (F.W * F.H).toNat
  ct : cntT free < f
  nw : now.length + cntT free ≤ 1000
  mo : most = 0 ∨ most = 1
  n0 : 0 ≤ n
  ns : n ≤ steps
  s1 : steps ≤ 1000000

def nextSp (f : Nat) : SpecS := ⟨[.box 85 FAMt, .val (.int .i64)], fun bl vals boxes K => match bl, vals, boxes with
  | [_], [⟨.int _, k⟩], [⟨.prod (.prod (.int _) (.prod (.int _) (.ro _ (.prod (.int _) (.int _))))) (.prod (.ro _ (.prod (.int _) (.int _))) (.prod (.ro _ (.prod (.int _) (.int _))) (.prod (.ro _ (.int _)) (.prod (.list _ .bool) (.prod (.list _ .str) (.prod (.list _ .str) (.prod (.int _) (.prod (.int _) (.int _))))))))), ⟨⟨W, H, bar⟩, st, en, way, free, now, first, most, n, steps⟩⟩] =>
    (FamOK ⟨W, H, bar, st, en, way⟩ ∧ StepOK ⟨W, H, bar, st, en, way⟩ free now most n steps f ∧ 0 ≤ k ∧ k ≤ (st.2.length : Int)) ∧
      K [tB (nxt (blkP W) (addP W) (FV.env ⟨W, H, bar, st, en, way⟩ most) f k free now ⟨steps, n, first, 0⟩).1] [tFam ⟨W, H, bar, st, en, way⟩ free now (nxt (blkP W) (addP W) (FV.env ⟨W, H, bar, st, en, way⟩ most) f k free now ⟨steps, n, first, 0⟩).2.first most (nxt (blkP W) (addP W) (FV.env ⟨W, H, bar, st, en, way⟩ most) f k free now ⟨steps, n, first, 0⟩).2.n (nxt (blkP W) (addP W) (FV.env ⟨W, H, bar, st, en, way⟩ most) f k free now ⟨steps, n, first, 0⟩).2.steps]
  | _, _, _ => False⟩
def eachSp (f : Nat) : SpecS := ⟨[.box 85 FAMt, .val (.int .i64), .val PTt, .val .str], fun bl vals boxes K => match bl, vals, boxes with
  | [_], [⟨.int _, k⟩, ⟨.prod (.int _) (.int _), p⟩, ⟨.str, path⟩], [⟨.prod (.prod (.int _) (.prod (.int _) (.ro _ (.prod (.int _) (.int _))))) (.prod (.ro _ (.prod (.int _) (.int _))) (.prod (.ro _ (.prod (.int _) (.int _))) (.prod (.ro _ (.int _)) (.prod (.list _ .bool) (.prod (.list _ .str) (.prod (.list _ .str) (.prod (.int _) (.prod (.int _) (.int _))))))))), ⟨⟨W, H, bar⟩, st, en, way, free, now, first, most, n, steps⟩⟩] =>
    (FamOK ⟨W, H, bar, st, en, way⟩ ∧ StepOK ⟨W, H, bar, st, en, way⟩ free now most n steps f ∧ (0 ≤ k ∧ k < (st.2.length : Int)) ∧ inG W H p ∧ path.size + cntT free ≤ 1000) ∧
      K [tB (srch (blkP W) (addP W) (FV.env ⟨W, H, bar, st, en, way⟩ most) f k p path free now ⟨steps, n, first, 0⟩).1] [tFam ⟨W, H, bar, st, en, way⟩ free now (srch (blkP W) (addP W) (FV.env ⟨W, H, bar, st, en, way⟩ most) f k p path free now ⟨steps, n, first, 0⟩).2.first most (srch (blkP W) (addP W) (FV.env ⟨W, H, bar, st, en, way⟩ most) f k p path free now ⟨steps, n, first, 0⟩).2.n (srch (blkP W) (addP W) (FV.env ⟨W, H, bar, st, en, way⟩ most) f k p path free now ⟨steps, n, first, 0⟩).2.steps]
  | _, _, _ => False⟩

set_option maxRecDepth 10000 in
theorem next_step (m : Nat) (ih : FnSt Try.prog 88 (eachSp m)) : FnSt Try.prog 61 (nextSp m) := by
  have hC : ∀ {w0 : World} {S0 : Nat → Prop}, CtxOK Try.prog ⟨58, tab, fun f => lk [(89, cloneWSp)] f, fun f => lk [] f, fun f => lk [] f, fun f => lk [] f, fun f => lk [(88, eachSp m)] f⟩ w0 S0 := ctx_ok ⟨cloneW_ok, trivial⟩ trivial trivial trivial ⟨ih, trivial⟩
  refine FnSt_of (C := ⟨58, tab, fun f => lk [(89, cloneWSp)] f, fun f => lk [] f, fun f => lk [] f, fun f => lk [] f, fun f => lk [(88, eachSp m)] f⟩) 61 Try.f61 _ [4] (nextSp m) Try.func61 rfl (by decide) rfl rfl (Nat.le_of_ble_eq_true rfl) fun bl vals boxes K hA hK w0 sd => ?_
  obtain ⟨w1, T1, vs, F1, hA⟩ := hA
  obtain ⟨b, k, F, free, now, first, most, n, steps, rfl, rfl, rfl⟩ : ∃ b, ∃ k : Int, ∃ (F : FV) (free : List Bool) (now first : List ByteArray) (most n steps : Int), bl = [b] ∧ vals = [tI k] ∧ boxes = [tFam F free now first most n steps] := by
    cases hA with
    | @box _ _ x _ _ _ _ _ F2 G b cap kids hv h1 h2 hl =>
      cases hl with
      | @val _ k _ _ _ _ _ _ _ h3 hl2 =>
        cases hl2
        obtain ⟨⟨W, H, bar⟩, st, en, way, free, now, first, most, n, steps⟩ := x
        exact ⟨b, k, ⟨W, H, bar, st, en, way⟩, free, now, first, most, n, steps, rfl, rfl, rfl⟩
  obtain ⟨⟨hF, hS, hk0, hk1⟩, hk⟩ : (FamOK F ∧ StepOK F free now most n steps m ∧ 0 ≤ k ∧ k ≤ (F.st.2.length : Int)) ∧
      K [tB (nxt (blkP F.W) (addP F.W) (F.env most) m k free now ⟨steps, n, first, 0⟩).1] [tFam F free now (nxt (blkP F.W) (addP F.W) (F.env most) m k free now ⟨steps, n, first, 0⟩).2.first most (nxt (blkP F.W) (addP F.W) (F.env most) m k free now ⟨steps, n, first, 0⟩).2.n (nxt (blkP F.W) (addP F.W) (F.env most) m k free now ⟨steps, n, first, 0⟩).2.steps] := hK
  obtain ⟨W, H, ⟨vb, bar⟩, ⟨v1, st⟩, ⟨v2, en⟩, ⟨v3, way⟩⟩ := F
  have hl4 : st.length ≤ 4 := hF.l4
  have hk1' : k ≤ (st.length : Int) := hk1
  have hnw := hS.nw
  have hn0 := hS.n0
  have hns := hS.ns
  have hs1 := hS.s1
  have hmo := hS.mo
  unfold nxt at hk
  by_cases hkl : k < (st.length : Int)
  · rw [if_pos (show k < ((FV.env ⟨W, H, ⟨vb, bar⟩, ⟨v1, st⟩, ⟨v2, en⟩, ⟨v3, way⟩⟩ most).starts.length : Int) from hkl)] at hk
    repeat' (first | with_reducible refine XW.seq ?_ | with_reducible refine XW.block ?_ | with_reducible refine XW.skip ?_ | with_reducible refine XW.exit ?_ | with_reducible refine XW.ret ?_ | ((first | with_reducible refine XW.region hC (fun K' hK' => ?_) | with_reducible refine XW.text hC hm_ok (by kernel_rfl) (fun K' hK' => ?_)); (try simp only [List.toList_toArray]); repeat' (first | with_reducible refine xrun_cons ?_ | with_reducible refine xtxt_cons ?_ | ((first | with_reducible show xoper _ _ _ _ _ _ _ | with_reducible show xdo _ _ _ _ _ _); simp only [zd, zb, zz, RT.at, RT.ty, RT.sub, RT.cut, RT.wr, getS, setT, Ty.dflt, lk, Ty.st, stV, unV, prodTV, Int.reduceToNat, Int.reduceEq, reduceCtorEq, Nat.reduceLT, Nat.reduceEqDiff, Nat.reduceAdd, Nat.reduceMul, Nat.reduceLeDiff, Nat.reduceSub, Nat.reduceBEq, Nat.reduceBNe, Nat.reduceBeqDiff, ↓reduceIte, tab, tL, tI, tB, LI, NI, LLI, tLL, PTt, LPT, tPT, GT, tG, SLt, LBt, ROP, ROI, FAMt, FV, tFam, pixSp, spW1, cloneWSp, nextSp, eachSp, spL, List.set_cons_zero, List.getD_cons_zero, Nat.zero_max, Nat.max_zero]) | with_reducible refine xgd_intro (fun hg => ?_) (fun hg => ?_) <;> (try simp only [zh, zz, reduceCtorEq, bne_iff_ne, beq_iff_eq, ne_eq, Decidable.not_not, beq_eq_false_iff_ne, bne_eq_false_iff_eq] at hg) | ((with_reducible show (_ : Bool) = true); kernel_rfl) | with_reducible refine And.intro ?_ ?_ | with_reducible refine xrun_nil ?_ | with_reducible refine xtxt_nil ?_ | (refine hK' _ ?_; clear hK'; clear K') | (with_reducible intro hg; try simp only [zh, zz, reduceCtorEq, bne_iff_ne, beq_iff_eq, ne_eq, Decidable.not_not, beq_eq_false_iff_ne, bne_eq_false_iff_eq] at hg))) | ((with_reducible show XW _ _ _ _ (.cond _ _ _) _ _); refine XW.cond rfl (fun h => ?_) (fun h => ?_) <;> (try simp only [zh, zz, reduceCtorEq, bne_iff_ne, beq_iff_eq, ne_eq, Decidable.not_not, beq_eq_false_iff_ne, bne_eq_false_iff_eq] at h) <;> (try (exfalso; omega))) | ((with_reducible show XW.thn _ _ _ _); dsimp only [XW.thn]) | ((with_reducible show XW.blk _ _ _ _); simp only [XW.blk, ↓reduceIte, Nat.reduceEqDiff, Nat.zero_ne_one, Nat.one_ne_zero, ne_eq]) | ((with_reducible show retS _ _ _ _ _ _ _); simp only [retS, boxS, outsOf, outOf, List.length_cons, List.length_nil, zb, zz, RT.at, RT.ty, RT.sub, RT.cut, RT.wr, getS, setT, Ty.dflt, lk, Ty.st, stV, unV, prodTV, Int.reduceToNat, Int.reduceEq, reduceCtorEq, Nat.reduceLT, Nat.reduceEqDiff, Nat.reduceAdd, Nat.reduceMul, Nat.reduceLeDiff, Nat.reduceSub, Nat.reduceBEq, Nat.reduceBNe, Nat.reduceBeqDiff, ↓reduceIte, tab, tL, tI, tB, LI, NI, LLI, tLL, PTt, LPT, tPT, GT, tG, SLt, LBt, ROP, ROI, FAMt, FV, tFam, pixSp, spW1, cloneWSp, nextSp, eachSp, spL, List.set_cons_zero, List.getD_cons_zero, Nat.zero_max, Nat.max_zero])); all_goals (try (first | omega | with_reducible exact Int.le_refl _ | (show (_ : Int) ≤ _; omega)))
    all_goals first
      | exact hF
      | exact hS
      | exact getD_in hF.W1 hF.H1 hF.st _
      | (show 0 + cntT free ≤ 1000; omega)
      | exact hk
      | (exfalso; omega)
  · rw [if_neg (show ¬ k < ((FV.env ⟨W, H, ⟨vb, bar⟩, ⟨v1, st⟩, ⟨v2, en⟩, ⟨v3, way⟩⟩ most).starts.length : Int) from hkl)] at hk
    have ek : ∀ (bb : Bool) (fi : List ByteArray), bb = (!decide (most ≠ 0)) → fi = (if n = 0 then now else first) → K [tB bb] [tFam ⟨W, H, ⟨vb, bar⟩, ⟨v1, st⟩, ⟨v2, en⟩, ⟨v3, way⟩⟩ free now fi most (n + 1) steps] := fun bb fi h1 h2 => by
      subst h1 h2
      exact hk
    clear hk
    repeat' (first | with_reducible refine XW.seq ?_ | with_reducible refine XW.block ?_ | with_reducible refine XW.skip ?_ | with_reducible refine XW.exit ?_ | with_reducible refine XW.ret ?_ | ((first | with_reducible refine XW.region hC (fun K' hK' => ?_) | with_reducible refine XW.text hC hm_ok (by kernel_rfl) (fun K' hK' => ?_)); (try simp only [List.toList_toArray]); repeat' (first | with_reducible refine xrun_cons ?_ | with_reducible refine xtxt_cons ?_ | ((first | with_reducible show xoper _ _ _ _ _ _ _ | with_reducible show xdo _ _ _ _ _ _); simp only [zd, zb, zz, RT.at, RT.ty, RT.sub, RT.cut, RT.wr, getS, setT, Ty.dflt, lk, Ty.st, stV, unV, prodTV, Int.reduceToNat, Int.reduceEq, reduceCtorEq, Nat.reduceLT, Nat.reduceEqDiff, Nat.reduceAdd, Nat.reduceMul, Nat.reduceLeDiff, Nat.reduceSub, Nat.reduceBEq, Nat.reduceBNe, Nat.reduceBeqDiff, ↓reduceIte, tab, tL, tI, tB, LI, NI, LLI, tLL, PTt, LPT, tPT, GT, tG, SLt, LBt, ROP, ROI, FAMt, FV, tFam, pixSp, spW1, cloneWSp, nextSp, eachSp, spL, List.set_cons_zero, List.getD_cons_zero, Nat.zero_max, Nat.max_zero]) | with_reducible refine xgd_intro (fun hg => ?_) (fun hg => ?_) <;> (try simp only [zh, zz, reduceCtorEq, bne_iff_ne, beq_iff_eq, ne_eq, Decidable.not_not, beq_eq_false_iff_ne, bne_eq_false_iff_eq] at hg) | ((with_reducible show (_ : Bool) = true); kernel_rfl) | with_reducible refine And.intro ?_ ?_ | with_reducible refine xrun_nil ?_ | with_reducible refine xtxt_nil ?_ | (refine hK' _ ?_; clear hK'; clear K') | (with_reducible intro hg; try simp only [zh, zz, reduceCtorEq, bne_iff_ne, beq_iff_eq, ne_eq, Decidable.not_not, beq_eq_false_iff_ne, bne_eq_false_iff_eq] at hg))) | ((with_reducible show XW _ _ _ _ (.cond _ _ _) _ _); refine XW.cond rfl (fun h => ?_) (fun h => ?_) <;> (try simp only [zh, zz, reduceCtorEq, bne_iff_ne, beq_iff_eq, ne_eq, Decidable.not_not, beq_eq_false_iff_ne, bne_eq_false_iff_eq] at h) <;> (try (exfalso; omega))) | ((with_reducible show XW.thn _ _ _ _); dsimp only [XW.thn]) | ((with_reducible show XW.blk _ _ _ _); simp only [XW.blk, ↓reduceIte, Nat.reduceEqDiff, Nat.zero_ne_one, Nat.one_ne_zero, ne_eq]) | ((with_reducible show retS _ _ _ _ _ _ _); simp only [retS, boxS, outsOf, outOf, List.length_cons, List.length_nil, zb, zz, RT.at, RT.ty, RT.sub, RT.cut, RT.wr, getS, setT, Ty.dflt, lk, Ty.st, stV, unV, prodTV, Int.reduceToNat, Int.reduceEq, reduceCtorEq, Nat.reduceLT, Nat.reduceEqDiff, Nat.reduceAdd, Nat.reduceMul, Nat.reduceLeDiff, Nat.reduceSub, Nat.reduceBEq, Nat.reduceBNe, Nat.reduceBeqDiff, ↓reduceIte, tab, tL, tI, tB, LI, NI, LLI, tLL, PTt, LPT, tPT, GT, tG, SLt, LBt, ROP, ROI, FAMt, FV, tFam, pixSp, spW1, cloneWSp, nextSp, eachSp, spL, List.set_cons_zero, List.getD_cons_zero, Nat.zero_max, Nat.max_zero])); all_goals (try (first | omega | with_reducible exact Int.le_refl _ | (show (_ : Int) ≤ _; omega)))
    all_goals first
      | (exfalso; omega)
      | omega
      | exact ek _ _ (by rw [decide_eq_false (by omega), decide_eq_true (by omega)]; rfl) (by rw [if_pos (by omega)])
      | exact ek _ _ (by rw [decide_eq_false (by omega), decide_eq_true (by omega)]; rfl) (by rw [if_neg (by omega)])
      | exact ek _ _ (by rw [decide_eq_false (show ¬ most ≠ 0 by omega)]; rfl) (by rw [if_pos (by omega)])
      | exact ek _ _ (by rw [decide_eq_false (show ¬ most ≠ 0 by omega)]; rfl) (by rw [if_neg (by omega)])
      | skip

end Fer
