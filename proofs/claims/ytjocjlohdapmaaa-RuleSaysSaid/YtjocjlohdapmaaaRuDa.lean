import Derived.Test.YtjocjlohdapmaaaRows
import Derived.Test.YtjocjlohdapmaaaRuE
set_option linter.unusedSimpArgs false
set_option linter.unusedVariables false
set_option maxHeartbeats 16000000
namespace Fer
open Go Go.Proofs

@[reducible] def fromNPat : List PA := [.box 72 SRt, .val NI, .val NI, .gho 3 NI]
def fromNSp (m : Nat) : SpecS := ⟨fromNPat, fun bl vals boxes K => match bl, vals, boxes with
  | [_, bn], [⟨.int _, i⟩, ⟨.int _, j⟩], [⟨.prod (.ro _ (.int _)) (.prod (.ro _ (.int _)) (.prod (.ro _ (.int _)) (.prod (.list _ (.list _ (.int _))) (.prod (.list _ (.int _)) (.prod (.list _ (.int _)) .func))))), ⟨a, b, c, rows, left, used, ea⟩⟩, ⟨.int _, n⟩] =>
    ((0 ≤ i ∧ -1 ≤ j) ∧ SrOK m a.2 c.2 rows left used i.toNat (j + 1).toNat ∧ ea = some (19, [bn]) ∧ 0 ≤ n ∧ n + ((lrS (remB a.2 c.2 i.toNat (j + 1).toNat) rows left used).length : Int) ≤ 1000000000000) ∧
      K [tB true] [tSr ⟨a, b, c, ea⟩ rows left used, tI (n + ((lrS (remB a.2 c.2 i.toNat (j + 1).toNat) rows left used).length : Int))]
  | _, _, _ => False⟩
@[reducible] def ctxN (m : Nat) : Ctx := ⟨206, tab, fun f => lk [] f, fun f => lk [] f, fun f => lk [] f, fun f => lk [] f, fun f => lk [(48, fromNSp m), (56, innerSp), (19, num1Sp)] f, fun f => lk [] f⟩
@[reducible] def triS (va vb vc : Value) (a b c : List Int) (rows : Tb) (left used : List Int) (ea : Option (Nat × List Nat)) (n : Int) (bs bn i1 jn x : Nat) : XS :=
  ⟨[(61, .dat NI (x : Int)), (60, .dat NI (left.length : Int)), (1, .dat NI (i1 : Int)), (2, .dat NI (jn : Int)), (0, .ptr 0 [0]), (270, .loc 0 bs), (271, .loc 1 bn)], [(0, ⟨72, SRt, 2, [((va, a), (vb, b), (vc, c), rows, left, used, ea)], none⟩), (1, ⟨3, NI, 0, [n], none⟩)], 2, []⟩
set_option maxRecDepth 10000 in
theorem tryN_ok (m : Nat) {w0 : World} {sd : Nat → Prop} {Q : Exit → XS → Prop} 
    (hC : CtxOK Try.prog (ctxN m) w0 sd) {va vb vc : Value} {a b c : List Int} {rows : Tb} {left used : List Int} {n : Int} {bs bn i1 jn x : Nat}
    (hS1 : SrOK (m + 1) a c rows left used i1 (jn + 1)) (hlt : i1 < c.length) (hbx : (a.getD i1 0).toNat ≤ jn) (hxl : x < left.length) (hn0 : 0 ≤ n) (hn1 : n + ((lrX (remB a c i1 jn) rows left used i1 jn x).length : Int) ≤ 1000000000000)
    (hQ : ∀ s', (∃ ren, Fits ren s' (triS va vb vc a b c rows left used (some (19, [bn])) (n + ((lrX (remB a c i1 jn) rows left used i1 jn x).length : Int)) bs bn i1 jn x)) → Q .normal s') :
    XW Try.prog (ctxN m) w0 sd (sub [true, true, true, false, true, false, true, true, false] (Try.f48.body.getD .skip)) Q (triS va vb vc a b c rows left used (some (19, [bn])) n bs bn i1 jn x) := by
  dsimp only [sub_nil, sub_s0, sub_s1, sub_c0, sub_c1, sub_b, sub_l0, sub_l1, sub_r, sub_q, sub_bn, Try.f48, Option.getD, triS, ctxN]
  dsimp only [ctxN] at hC
  obtain ⟨hb1, hb2, hb3⟩ := hS1.at hlt hbx
  have hjc := hS1.jc hlt
  have hrr := hS1.rr i1
  have hcl := hS1.cl
  have hrl := hS1.rl
  have hll := hS1.ll
  have hl1 := hS1.l1
  have hj1 : jn ≤ 1000 := by have := hS1.j1; omega
  have hrr1 : i1 = 0 ∨ (jn : Int) < ((rows.getD (i1 - 1) []).length : Int) := by
    by_cases h : i1 = 0
    · exact .inl h
    · have := hS1.cd (i1 - 1)
      rw [Nat.sub_add_cancel (by omega)] at this
      have := hS1.rr (i1 - 1)
      exact .inr (by omega)
  have hask := fun Q' hQ' => ask_ok (Q := Q') hC (va := va) (vb := vb) (vc := vc) (a := a) (b := b) (ea := some (19, [bn])) (n := n) (bs := bs) (bn := bn) hxl hl1 hll hlt hcl hrl hrr hjc hrr1 hj1 hQ'
  dsimp only [sub_nil, sub_s0, sub_s1, sub_c0, sub_c1, sub_b, sub_l0, sub_l1, sub_r, sub_q, Try.f48, Option.getD, askS, ansS] at hask
  have ex1 : ((x : Int) - 1).toNat = x - 1 := by omega
  have ej1 : ((jn : Int) + 1).toNat = jn + 1 := by omega
  have ei1 : ((i1 : Int) - 1).toNat = i1 - 1 := by omega
  have ejm : ((jn : Int) - 1 + 1).toNat = jn := by omega
  have hlu := hS1.lu x
  have hGn : ¬ fitX rows left used i1 jn x → lrX (remB a c i1 jn) rows left used i1 jn x = [] := fun hf => if_neg hf
  have hGy : fitX rows left used i1 jn x → lrX (remB a c i1 jn) rows left used i1 jn x = lrS (remB a c i1 jn) (rows.set i1 ((rows.getD i1 []).set jn ((x : Int) + 1))) (left.set x (left.getD x 0 - 1)) (used.set x (used.getD x 0 + 1)) := fun hf => if_pos hf
  have hS2 : fitX rows left used i1 jn x → SrOK m a c (rows.set i1 ((rows.getD i1 []).set jn ((x : Int) + 1))) (left.set x (left.getD x 0 - 1)) (used.set x (used.getD x 0 + 1)) i1 jn := fun hf => hS1.step hlt hbx hxl hf.1 ((x : Int) + 1)
  have m1 : (left.set x (left.getD x 0 - 1)).getD x 0 = left.getD x 0 - 1 := getD_set_eq _ _ _ hxl
  have m2 : (used.set x (used.getD x 0 + 1)).getD x 0 = used.getD x 0 + 1 := getD_set_eq _ _ _ (by omega)
  have m3 : (rows.set i1 ((rows.getD i1 []).set jn ((x : Int) + 1))).getD i1 [] = (rows.getD i1 []).set jn ((x : Int) + 1) := getD_set_eq _ _ _ hb1
  have m4 : ((rows.set i1 ((rows.getD i1 []).set jn ((x : Int) + 1))).getD i1 []).length = (rows.getD i1 []).length := by rw [m3, List.length_set]
  have k1 := setR_back rows ((x : Int) + 1) hb1 hb2 hb3
  unfold setR at k1
  have k2 := dec_inc hxl
  have k3 := inc_dec (l := used) (x := x) (by omega)
  generalize lrX (remB a c i1 jn) rows left used i1 jn x = G at *
  have hbd : fitX rows left used i1 jn x → n + ((lrS (remB a c i1 jn) (rows.set i1 ((rows.getD i1 []).set jn ((x : Int) + 1))) (left.set x (left.getD x 0 - 1)) (used.set x (used.getD x 0 + 1))).length : Int) ≤ 1000000000000 := fun hf => by
    rw [← hGy hf]; omega
  have hl0 : fitX rows left used i1 jn x → left.getD x 0 ≠ 0 := fun hf => hf.1
  repeat' (first | ((with_reducible show XW _ _ _ _ (.seq (.region 10 _ _) _) _ _); refine XW.mid (ansS va vb vc a b c rows left used (some (19, [bn])) n bs bn i1 jn x) (XW.fits (ren := [(0, 0), (1, 1)]) (st := askS va vb vc a b c rows left used (some (19, [bn])) n bs bn i1 jn x) (by dsimp only [askS]; simp only [Fits, distinct, fitEnv, fitB, fitL, fitRoots, fitRT, idsOK, AV.ids, zb, zz, RT.at, RT.ty, RT.sub, RT.cut, RT.wr, getS, setT, Ty.dflt, lk, Ty.st, stV, unV, prodTV, Int.reduceToNat, Int.reduceEq, reduceCtorEq, Nat.reduceLT, Nat.reduceEqDiff, Nat.reduceAdd, Nat.reduceMul, Nat.reduceLeDiff, Nat.reduceSub, Nat.reduceBEq, Nat.reduceBNe, Nat.reduceBeqDiff, ↓reduceIte, tab, tL, tI, tB, LI, NI, LLI, tLL, LTT, tTT, ROL, SRt, SV, tSr, spL, num1Sp, innerSp, fromNPat, fromNSp, List.set_cons_zero, List.getD_cons_zero]) (hask _ fun s' h => h)) ?_; dsimp only [ansS]) | with_reducible (first | refine XW.seq ?_ | refine XW.block ?_ | refine XW.skip ?_ | refine XW.exit ?_ | refine XW.ret ?_) | ((first | with_reducible refine XW.region hC (fun K' hK' => ?_) | with_reducible refine XW.text hC hm_ok (by kernel_rfl) (fun K' hK' => ?_)); (try simp only [List.toList_toArray]); repeat' (first | with_reducible (first | refine xrun_cons ?_ | refine xtxt_cons ?_) | (with_reducible (first | show xoper _ _ _ _ _ _ _ | show xdo _ _ _ _ _ _); simp only [zd, zb, zz, RT.at, RT.ty, RT.sub, RT.cut, RT.wr, getS, setT, Ty.dflt, lk, Ty.st, stV, unV, prodTV, Int.reduceToNat, Int.reduceEq, reduceCtorEq, Nat.reduceLT, Nat.reduceEqDiff, Nat.reduceAdd, Nat.reduceMul, Nat.reduceLeDiff, Nat.reduceSub, Nat.reduceBEq, Nat.reduceBNe, Nat.reduceBeqDiff, ↓reduceIte, tab, tL, tI, tB, LI, NI, LLI, tLL, LTT, tTT, ROL, SRt, SV, tSr, spL, num1Sp, innerSp, fromNPat, fromNSp, List.set_cons_zero, List.getD_cons_zero, Nat.zero_max, Nat.max_zero, mx21, mx12, mx11, ex1, ej1, ei1, ejm]) | with_reducible refine xgd_intro (fun hg => ?_) (fun hg => ?_) <;> (try simp only [zh, zi, zz, reduceCtorEq] at hg) | ((with_reducible show (_ : Bool) = true); kernel_rfl) | with_reducible (first | refine And.intro ?_ ?_ | refine xrun_nil ?_ | refine xtxt_nil ?_) | (refine hK' _ ?_; clear hK'; clear K') | (with_reducible intro hg; try simp only [zh, zi, zz, reduceCtorEq] at hg))) | ((with_reducible show XW _ _ _ _ (.cond _ _ _) _ _); refine XW.cond rfl (fun h => ?_) (fun h => ?_) <;> (try simp only [zh, zi, zz, reduceCtorEq] at h) <;> (try (exfalso; omega))) | ((with_reducible show XW.thn _ _ _ _); dsimp only [XW.thn]) | ((with_reducible show XW.blk _ _ _ _); simp only [XW.blk, ↓reduceIte, Nat.reduceEqDiff, Nat.zero_ne_one, Nat.one_ne_zero, ne_eq]) | ((with_reducible show retK _ _ _ _); simp only [zd, zb, zz, lk, Nat.reduceEqDiff, Nat.reduceBEq, Nat.reduceBeqDiff, reduceCtorEq, ↓reduceIte])); all_goals (try (first | omega | with_reducible exact Int.le_refl _ | (show (_ : Int) ≤ _; omega)))
  all_goals clear hask
  all_goals first
    | (exfalso; omega)
    | omega
    | (rw [m4]; omega)
    | exact hS2 (by assumption)
    | exact hbd (by assumption)
    | (refine hQ _ ⟨[(0, 0), (1, 1)], ?_⟩
       dsimp only [triS]
       rw [k1, k2, k3, hGy (by assumption)]
       simp only [Fits, distinct, fitEnv, fitB, fitL, fitRoots, fitRT, idsOK, AV.ids, zb, zz, RT.at, RT.ty, RT.sub, RT.cut, RT.wr, getS, setT, Ty.dflt, lk, Ty.st, stV, unV, prodTV, Int.reduceToNat, Int.reduceEq, reduceCtorEq, Nat.reduceLT, Nat.reduceEqDiff, Nat.reduceAdd, Nat.reduceMul, Nat.reduceLeDiff, Nat.reduceSub, Nat.reduceBEq, Nat.reduceBNe, Nat.reduceBeqDiff, ↓reduceIte, tab, tL, tI, tB, LI, NI, LLI, tLL, LTT, tTT, ROL, SRt, SV, tSr, spL, num1Sp, innerSp, fromNPat, fromNSp, List.set_cons_zero, List.getD_cons_zero]
       all_goals first | rfl | (show (_ : Int) = _; simp) | (show (_ : Int) = _; omega))
    | (refine hQ _ ⟨[(0, 0), (1, 1)], ?_⟩
       dsimp only [triS]
       rw [hGn (by assumption)]
       simp only [Fits, distinct, fitEnv, fitB, fitL, fitRoots, fitRT, idsOK, AV.ids, zb, zz, RT.at, RT.ty, RT.sub, RT.cut, RT.wr, getS, setT, Ty.dflt, lk, Ty.st, stV, unV, prodTV, Int.reduceToNat, Int.reduceEq, reduceCtorEq, Nat.reduceLT, Nat.reduceEqDiff, Nat.reduceAdd, Nat.reduceMul, Nat.reduceLeDiff, Nat.reduceSub, Nat.reduceBEq, Nat.reduceBNe, Nat.reduceBeqDiff, ↓reduceIte, tab, tL, tI, tB, LI, NI, LLI, tLL, LTT, tTT, ROL, SRt, SV, tSr, spL, num1Sp, innerSp, fromNPat, fromNSp, List.set_cons_zero, List.getD_cons_zero]
       all_goals first | rfl | (show (_ : Int) = _; simp) | (show (_ : Int) = _; omega))
    | (refine hQ _ ⟨[(0, 0), (1, 1)], ?_⟩
       dsimp only [triS]
       rw [k1, k2, k3, hGy (by assumption)]
       simp only [Fits, distinct, fitEnv, fitB, fitL, fitRoots, fitRT, idsOK, AV.ids, zb, zz, RT.at, RT.ty, RT.sub, RT.cut, RT.wr, getS, setT, Ty.dflt, lk, Ty.st, stV, unV, prodTV, Int.reduceToNat, Int.reduceEq, reduceCtorEq, Nat.reduceLT, Nat.reduceEqDiff, Nat.reduceAdd, Nat.reduceMul, Nat.reduceLeDiff, Nat.reduceSub, Nat.reduceBEq, Nat.reduceBNe, Nat.reduceBeqDiff, ↓reduceIte, tab, tL, tI, tB, LI, NI, LLI, tLL, LTT, tTT, ROL, SRt, SV, tSr, spL, num1Sp, innerSp, fromNPat, fromNSp, List.set_cons_zero, List.getD_cons_zero]
       all_goals skip)
    | skip

end Fer
