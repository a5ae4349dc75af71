/-
  Walk: the reference's Looked (results in cells). No condition.
-/
import Derived.Test.YtmaahmcdejoclaaRows
import Derived.Test.YtmaahmcdejoclaaPtI
import Derived.Test.YtmaahmcdejoclaaPtH
set_option linter.unusedSimpArgs false
set_option linter.unusedVariables false
set_option maxHeartbeats 16000000
-- SPECS: tL, tI, tB, LI, NI, LLI, tLL, PTt, LPT, tPT, GT, tG, SLt, lookPat, lookSp_pat, lookSp_wp, lookedSp, spL, List.set_cons_zero, List.getD_cons_zero
namespace Fer
open Go Go.Proofs

theorem lookSp_pat (m : Nat) : (lookSp m).pat = lookPat := rfl
theorem lookSp_wp (m : Nat) (bg bs bw bn bi bd : Nat) (k : Int) (p : Pt) (path : ByteArray) (lim cl : Int) (en : List Pt) (ce : Int) (way : List Int) (cw : Int) (st : List Pt) (cs : Int) (fr : Option (Nat × List Nat)) (cf : Int) (gone : List Pt) (steps : Int) (now : List ByteArray) (n : Int) (first : List ByteArray) (found : Int) (K : List TV → List TV → Prop) :
    (lookSp m).wp [bg, bs, bw, bn, bi, bd] [⟨.int .i64, k⟩, ⟨PTt, p⟩, ⟨.str, path⟩, ⟨.int .i64, lim⟩, ⟨.int .i64, cl⟩, ⟨LPT, en⟩, ⟨.int .i64, ce⟩, ⟨.list 3 (.int .i64), way⟩, ⟨.int .i64, cw⟩, ⟨LPT, st⟩, ⟨.int .i64, cs⟩, ⟨.func, fr⟩, ⟨.int .i64, cf⟩]
      [⟨LPT, gone⟩, ⟨.int .i64, steps⟩, ⟨SLt, now⟩, ⟨.int .i64, n⟩, ⟨SLt, first⟩, ⟨.int .i64, found⟩] K =
    (((∃ W H, LookOK W H ⟨st, en, way, lim, false⟩ gone now ⟨steps, n, first, found⟩ m ∧ inG W H p ∧ path.size + cntT (freeOf W H gone) ≤ 1000) ∧ (0 ≤ k ∧ k < (st.length : Int)) ∧
      fr = some (64, [bg, bs, cl.toNat, ce.toNat, cw.toNat, bw, cs.toNat, cf.toNat, bn, bi, bd])) ∧
      K [tB (srch blkR addR ⟨st, en, way, lim, false⟩ m k p path gone now ⟨steps, n, first, found⟩).1] [tPT gone, tI (srch blkR addR ⟨st, en, way, lim, false⟩ m k p path gone now ⟨steps, n, first, found⟩).2.steps, ⟨SLt, now⟩,
        tI (srch blkR addR ⟨st, en, way, lim, false⟩ m k p path gone now ⟨steps, n, first, found⟩).2.n, ⟨SLt, (srch blkR addR ⟨st, en, way, lim, false⟩ m k p path gone now ⟨steps, n, first, found⟩).2.first⟩, tI (srch blkR addR ⟨st, en, way, lim, false⟩ m k p path gone now ⟨steps, n, first, found⟩).2.found]) := rfl
def lookedV (b s t : List Pt) (way : List Int) (lim : Int) : SSt :=
  if s = [] then ⟨0, 1, [], 0⟩ else (srch blkR addR ⟨s, t, way, lim, false⟩ 65 0 (s.getD 0 (0, 0)) ByteArray.empty b [] ⟨0, 0, [], 0⟩).2
noncomputable def lookedSp : Spec := ⟨[GT, LPT, LPT, .list 3 (.int .i64), .int .i64], fun args K => match args with
  | [⟨.prod (.int _) (.prod (.int _) (.list _ (.prod (.int _) (.int _)))), g⟩, ⟨.list _ (.prod (.int _) (.int _)), s⟩, ⟨.list _ (.prod (.int _) (.int _)), t⟩, ⟨.list _ (.int _), way⟩, ⟨.int _, lim⟩] =>
    (gridOK g.1 g.2.1 g.2.2 ∧ FamOK (FV.mk0 g.1 g.2.1 s t way) ∧ 0 ≤ lim ∧ lim ≤ 1000000) ∧
      K [tI (lookedV g.2.2 s t way lim).n, ⟨SLt, (lookedV g.2.2 s t way lim).first⟩, tI (lookedV g.2.2 s t way lim).found, tI (lookedV g.2.2 s t way lim).steps]
  | _ => False⟩

theorem at_looked {args : List TV} {K : List TV → Prop} (ht : args.map (·.t) = lookedSp.ps) (hK : lookedSp.wp args K) :
    ∃ W H b s t way lim, args = [tG W H b, tPT s, tPT t, tL way, tI lim] ∧ (gridOK W H b ∧ FamOK (FV.mk0 W H s t way) ∧ 0 ≤ lim ∧ lim ≤ 1000000) ∧
      K [tI (lookedV b s t way lim).n, ⟨SLt, (lookedV b s t way lim).first⟩, tI (lookedV b s t way lim).found, tI (lookedV b s t way lim).steps] := by
  match args, ht, hK with
  | [⟨t, x⟩, ⟨u, y⟩, ⟨v, z⟩, ⟨w, q⟩, ⟨w2, q2⟩], ht, hK =>
    simp only [lookedSp, List.map_cons, List.map_nil, List.cons.injEq, and_true] at ht
    obtain ⟨rfl, rfl, rfl, rfl, rfl⟩ := ht
    exact ⟨x.1, x.2.1, x.2.2, y, z, q, q2, rfl, hK⟩
  | [], ht, _ => simp [lookedSp] at ht
  | [_], ht, _ => simp [lookedSp] at ht
  | [_, _], ht, _ => simp [lookedSp] at ht
  | [_, _, _], ht, _ => simp [lookedSp] at ht
  | [_, _, _, _], ht, _ => simp [lookedSp] at ht
  | _ :: _ :: _ :: _ :: _ :: _ :: _, ht, _ => simp [lookedSp] at ht

set_option maxRecDepth 10000 in
theorem looked_ok : FnOK Try.prog 27 lookedSp := by
  have hC : ∀ {w0 : World} {S0 : Nat → Prop}, CtxOK Try.prog ⟨33, tab, fun f => lk [] f, fun f => lk [] f, fun f => lk [] f, fun f => lk [] f, fun f => lk [(64, lookSp 65)] f⟩ w0 S0 := ctx_ok trivial trivial trivial trivial ⟨look_ok 65, trivial⟩
  refine FnOK_ofC (C := ⟨33, tab, fun f => lk [] f, fun f => lk [] f, fun f => lk [] f, fun f => lk [] f, fun f => lk [(64, lookSp 65)] f⟩) 27 Try.f27 _ [.cell 10 3, .cell 11 52, .cell 12 3, .cell 13 3] lookedSp tab_ok Try.func27 rfl (by decide) rfl rfl (Nat.le_of_ble_eq_true rfl) fun args K ht hK w0 => ?_
  obtain ⟨W, H, b, s, t, way, lim, rfl, ⟨hgr, hF, hl0, hlm⟩, hk⟩ := at_looked ht hK
  unfold lookedV at hk
  have hbl := bar_len hgr
  have hl4 : s.length ≤ 4 := hF.l4
  by_cases hs : s = []
  · subst hs
    rw [if_pos rfl] at hk
    repeat' (first | with_reducible refine XW.seq ?_ | with_reducible refine XW.block ?_ | with_reducible refine XW.skip ?_ | with_reducible refine XW.exit ?_ | with_reducible refine XW.ret ?_ | ((first | with_reducible refine XW.region hC (fun K' hK' => ?_) | with_reducible refine XW.text hC hm_ok (by kernel_rfl) (fun K' hK' => ?_)); (try simp only [List.toList_toArray]); repeat' (first | with_reducible refine xrun_cons ?_ | with_reducible refine xtxt_cons ?_ | ((first | with_reducible show xoper _ _ _ _ _ _ _ | with_reducible show xdo _ _ _ _ _ _); simp only [zd, zb, zz, RT.at, RT.ty, RT.sub, RT.cut, RT.wr, getS, setT, Ty.dflt, lk, Ty.st, stV, unV, prodTV, Int.reduceToNat, Int.reduceEq, reduceCtorEq, Nat.reduceLT, Nat.reduceEqDiff, Nat.reduceAdd, Nat.reduceMul, Nat.reduceLeDiff, Nat.reduceSub, Nat.reduceBEq, Nat.reduceBNe, Nat.reduceBeqDiff, ↓reduceIte, tab, tL, tI, tB, LI, NI, LLI, tLL, PTt, LPT, tPT, GT, tG, SLt, lookPat, lookSp_pat, lookSp_wp, lookedSp, spL, List.set_cons_zero, List.getD_cons_zero]) | with_reducible refine xgd_intro (fun hg => ?_) (fun hg => ?_) <;> (try simp only [zh, zz, reduceCtorEq, bne_iff_ne, beq_iff_eq, ne_eq, Decidable.not_not, beq_eq_false_iff_ne, bne_eq_false_iff_eq] at hg) | ((with_reducible show (_ : Bool) = true); kernel_rfl) | with_reducible refine And.intro ?_ ?_ | with_reducible refine xrun_nil ?_ | with_reducible refine xtxt_nil ?_ | (refine hK' _ ?_; clear hK'; clear K') | (with_reducible intro hg; try simp only [zh, zz, reduceCtorEq, bne_iff_ne, beq_iff_eq, ne_eq, Decidable.not_not, beq_eq_false_iff_ne, bne_eq_false_iff_eq] at hg))) | ((with_reducible show XW _ _ _ _ (.cond _ _ _) _ _); refine XW.cond rfl (fun h => ?_) (fun h => ?_) <;> (try simp only [zh, zz, reduceCtorEq, bne_iff_ne, beq_iff_eq, ne_eq, Decidable.not_not, beq_eq_false_iff_ne, bne_eq_false_iff_eq] at h) <;> (try (exfalso; omega))) | ((with_reducible show XW.thn _ _ _ _); dsimp only [XW.thn]) | ((with_reducible show XW.blk _ _ _ _); simp only [XW.blk, ↓reduceIte, Nat.reduceEqDiff, Nat.zero_ne_one, Nat.one_ne_zero, ne_eq]) | ((with_reducible show retC _ _ _ _ _); simp only [retC, outsV, outV, outsOf, outOf, TE.ty, prodOf, Option.bind_some, zb, zz, RT.at, RT.ty, RT.sub, RT.cut, RT.wr, getS, setT, Ty.dflt, lk, Ty.st, stV, unV, prodTV, Int.reduceToNat, Int.reduceEq, reduceCtorEq, Nat.reduceLT, Nat.reduceEqDiff, Nat.reduceAdd, Nat.reduceMul, Nat.reduceLeDiff, Nat.reduceSub, Nat.reduceBEq, Nat.reduceBNe, Nat.reduceBeqDiff, ↓reduceIte, tab, tL, tI, tB, LI, NI, LLI, tLL, PTt, LPT, tPT, GT, tG, SLt, lookPat, lookSp_pat, lookSp_wp, lookedSp, spL, List.set_cons_zero, List.getD_cons_zero])); all_goals (try (first | omega | with_reducible exact Int.le_refl _ | (show (_ : Int) ≤ _; omega)))
    all_goals first
      | exact hk
      | (simp only [zd, zb, zz, RT.at, RT.ty, RT.sub, RT.cut, RT.wr, getS, setT, Ty.dflt, lk, Ty.st, stV, unV, prodTV, Int.reduceToNat, Int.reduceEq, reduceCtorEq, Nat.reduceLT, Nat.reduceEqDiff, Nat.reduceAdd, Nat.reduceMul, Nat.reduceLeDiff, Nat.reduceSub, Nat.reduceBEq, Nat.reduceBNe, Nat.reduceBeqDiff, ↓reduceIte, tab, tL, tI, tB, LI, NI, LLI, tLL, PTt, LPT, tPT, GT, tG, SLt, lookPat, lookSp_pat, lookSp_wp, lookedSp, spL, List.set_cons_zero, List.getD_cons_zero]
         exact hk)
  · rw [if_neg hs] at hk
    have hsl : 0 < s.length := List.length_pos_iff.2 hs
    have hfc := free_count hgr
    have hlo : LookOK W H ⟨s, t, way, lim, false⟩ b [] ⟨0, 0, [], 0⟩ 65 := ⟨hF, hlm, hfc, by show 0 + cntT (freeOf W H b) ≤ 1000; omega, by omega, ⟨Int.le_refl _, Int.le_refl _, by show (0 : Int) ≤ lim + 1; omega, .inl ⟨rfl, rfl⟩⟩, hl0⟩
    have hin : inG W H (s.getD 0 (0, 0)) := getD_in hF.W1 hF.H1 hF.st 0
    repeat' (first | with_reducible refine XW.seq ?_ | with_reducible refine XW.block ?_ | with_reducible refine XW.skip ?_ | with_reducible refine XW.exit ?_ | with_reducible refine XW.ret ?_ | ((first | ((with_reducible show XW _ _ _ _ (.region _ _ true) _ _); refine XW.draw hC hm_ok [0, 1, 2, 3, 4] (by decide +kernel) (fun K' hK' => ?_)) | with_reducible refine XW.region hC (fun K' hK' => ?_) | with_reducible refine XW.text hC hm_ok (by kernel_rfl) (fun K' hK' => ?_)); (try simp only [List.toList_toArray]); repeat' (first | with_reducible refine xrun_cons ?_ | with_reducible refine xtxt_cons ?_ | ((with_reducible show xord _ _ _ (_ :: _) _); refine xord_cons (by simp only [List.getElem?_toArray, List.getElem?_cons_succ, List.getElem?_cons_zero]; rfl) ?_) | ((first | with_reducible show xoper _ _ _ _ _ _ _ | with_reducible show xdo _ _ _ _ _ _); simp only [zd, zb, zz, RT.at, RT.ty, RT.sub, RT.cut, RT.wr, getS, setT, Ty.dflt, lk, Ty.st, stV, unV, prodTV, Int.reduceToNat, Int.reduceEq, reduceCtorEq, Nat.reduceLT, Nat.reduceEqDiff, Nat.reduceAdd, Nat.reduceMul, Nat.reduceLeDiff, Nat.reduceSub, Nat.reduceBEq, Nat.reduceBNe, Nat.reduceBeqDiff, ↓reduceIte, tab, tL, tI, tB, LI, NI, LLI, tLL, PTt, LPT, tPT, GT, tG, SLt, lookPat, lookSp_pat, lookSp_wp, lookedSp, spL, List.set_cons_zero, List.getD_cons_zero, castV_ne]) | with_reducible refine xgd_intro (fun hg => ?_) (fun hg => ?_) <;> (try simp only [zh, zz, reduceCtorEq, bne_iff_ne, beq_iff_eq, ne_eq, Decidable.not_not, beq_eq_false_iff_ne, bne_eq_false_iff_eq] at hg) | ((with_reducible show (_ : Bool) = true); kernel_rfl) | with_reducible refine And.intro ?_ ?_ | with_reducible refine xrun_nil ?_ | with_reducible refine xtxt_nil ?_ | with_reducible refine xord_nil ?_ | (refine hK' _ ?_; clear hK'; clear K') | (with_reducible intro hg; try simp only [zh, zz, reduceCtorEq, bne_iff_ne, beq_iff_eq, ne_eq, Decidable.not_not, beq_eq_false_iff_ne, bne_eq_false_iff_eq] at hg))) | ((with_reducible show XW _ _ _ _ (.cond _ _ _) _ _); refine XW.cond rfl (fun h => ?_) (fun h => ?_) <;> (try simp only [zh, zz, reduceCtorEq, bne_iff_ne, beq_iff_eq, ne_eq, Decidable.not_not, beq_eq_false_iff_ne, bne_eq_false_iff_eq] at h) <;> (try (exfalso; omega))) | ((with_reducible show XW.thn _ _ _ _); dsimp only [XW.thn]) | ((with_reducible show XW.blk _ _ _ _); simp only [XW.blk, ↓reduceIte, Nat.reduceEqDiff, Nat.zero_ne_one, Nat.one_ne_zero, ne_eq]) | ((with_reducible show retC _ _ _ _ _); simp only [retC, outsV, outV, outsOf, outOf, TE.ty, prodOf, Option.bind_some, zb, zz, RT.at, RT.ty, RT.sub, RT.cut, RT.wr, getS, setT, Ty.dflt, lk, Ty.st, stV, unV, prodTV, Int.reduceToNat, Int.reduceEq, reduceCtorEq, Nat.reduceLT, Nat.reduceEqDiff, Nat.reduceAdd, Nat.reduceMul, Nat.reduceLeDiff, Nat.reduceSub, Nat.reduceBEq, Nat.reduceBNe, Nat.reduceBeqDiff, ↓reduceIte, tab, tL, tI, tB, LI, NI, LLI, tLL, PTt, LPT, tPT, GT, tG, SLt, lookPat, lookSp_pat, lookSp_wp, lookedSp, spL, List.set_cons_zero, List.getD_cons_zero, castV_ne])); all_goals (try (first | omega | with_reducible exact Int.le_refl _ | (show (_ : Int) ≤ _; omega)))
    all_goals first
      | exact hk
      | exact ⟨W, H, hlo, hin, by show 0 + cntT (freeOf W H b) ≤ 1000; omega⟩
      | (simp only [zd, zb, zz, RT.at, RT.ty, RT.sub, RT.cut, RT.wr, getS, setT, Ty.dflt, lk, Ty.st, stV, unV, prodTV, Int.reduceToNat, Int.reduceEq, reduceCtorEq, Nat.reduceLT, Nat.reduceEqDiff, Nat.reduceAdd, Nat.reduceMul, Nat.reduceLeDiff, Nat.reduceSub, Nat.reduceBEq, Nat.reduceBNe, Nat.reduceBeqDiff, ↓reduceIte, tab, tL, tI, tB, LI, NI, LLI, tLL, PTt, LPT, tPT, GT, tG, SLt, lookPat, lookSp_pat, lookSp_wp, lookedSp, spL, List.set_cons_zero, List.getD_cons_zero]
         exact hk)
      | omega

end Fer
