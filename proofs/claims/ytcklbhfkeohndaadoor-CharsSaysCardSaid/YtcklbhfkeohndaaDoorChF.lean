import Derived.Test.YtcklbhfkeohndaaDoorRows
import Derived.Test.YtcklbhfkeohndaaDoorChE
import Derived.Test.YtcklbhfkeohndaaDoorChS
import Derived.Test.YtcklbhfkeohndaaDoorFerMa
import Derived.Test.YtcklbhfkeohndaaDoorFerS
set_option linter.unusedSimpArgs false
set_option linter.unusedVariables false
set_option maxHeartbeats 8000000
namespace Fer
open Go Go.Proofs

def fal2Sp : Spec := spL fun p K => p.length ≤ 1000 ∧ K [tL (fallL p)]

@[reducible] def alaPat : List PA := [.val (.int .i64), .val (.int .i64), .val LI, .box 38 LLI, .capl .func]
structure AlaOK (m : Nat) (least left : Int) (out : List (List Int)) (now : List Int) : Prop where
  g1 : 1 ≤ least
  g2 : least ≤ 9
  l0 : 0 ≤ left
  lm : left < (m : Int)
  l8 : left ≤ 8
  nl : now.length + left.toNat ≤ 8
  ol : out.length + 2 ^ left.toNat ≤ 1000
def alaSp (m : Nat) : SpecS := ⟨alaPat, fun bl vals boxes K => match bl, vals, boxes with
  | [bo], [⟨.int _, least⟩, ⟨.int _, left⟩, ⟨.list _ (.int _), now⟩, ⟨.func, fr⟩, ⟨.int _, cf⟩], [⟨.list _ (.list _ (.int _)), out⟩] =>
    (AlaOK m least left out now ∧ fr = some (27, [bo, cf.toNat])) ∧ K [] [tLL (out ++ (allA m least.toNat left.toNat).map fun y => fallL (now ++ y))]
  | _, _, _ => False⟩
theorem alaSp_pat (m : Nat) : (alaSp m).pat = alaPat := rfl
theorem alaSp_wp (m : Nat) (bo : Nat) (least left : Int) (now : List Int) (fr : Option (Nat × List Nat)) (cf : Int) (out : List (List Int)) (K : List TV → List TV → Prop) :
    (alaSp m).wp [bo] [⟨.int .i64, least⟩, ⟨.int .i64, left⟩, ⟨LI, now⟩, ⟨.func, fr⟩, ⟨.int .i64, cf⟩] [⟨LLI, out⟩] K =
    ((AlaOK m least left out now ∧ fr = some (27, [bo, cf.toNat])) ∧ K [] [tLL (out ++ (allA m least.toNat left.toNat).map fun y => fallL (now ++ y))]) := rfl
def allASp : Spec := ⟨[NI], fun args K => match args with | [⟨.int _, n⟩] => (0 ≤ n ∧ n ≤ 8) ∧ K [tLL (allP 9 n.toNat n.toNat)] | _ => False⟩

set_option maxRecDepth 10000 in
theorem fal2_ok : FnOK Tryd.prog 28 fal2Sp := by
  have hC : ∀ {w0 : World} {S0 : Nat → Prop}, CtxOK Tryd.prog ⟨48, tab, fun f => lk [] f, fun f => lk [] f, fun f => lk [] f, fun f => lk [] f, fun f => lk [] f, fun f => lk [] f⟩ w0 S0 := ctx_ok trivial trivial trivial trivial trivial
  refine FnOK_of (C := ⟨48, tab, fun f => lk [] f, fun f => lk [] f, fun f => lk [] f, fun f => lk [] f, fun f => lk [] f, fun f => lk [] f⟩) 28 Tryd.f28 _ [2] fal2Sp Tryd.func28 rfl (by decide) rfl rfl (Nat.le_of_ble_eq_true rfl) fun args K ht hK w0 => ?_
  obtain ⟨l, rfl, hl, hk⟩ := at_L (f := fun p K => p.length ≤ 1000 ∧ K [tL (fallL p)]) ht hK
  repeat' (first | with_reducible refine XW.seq ?_ | with_reducible refine XW.block ?_ | with_reducible refine XW.skip ?_ | with_reducible refine XW.exit ?_ | with_reducible refine XW.ret ?_ | ((first | with_reducible refine XW.region hC (fun K' hK' => ?_) | with_reducible refine XW.text hC hm_ok (by kernel_rfl) (fun K' hK' => ?_)); (try simp only [List.toList_toArray]); repeat' (first | with_reducible refine xrun_cons ?_ | with_reducible refine xtxt_cons ?_ | ((first | with_reducible show xoper _ _ _ _ _ _ _ | with_reducible show xdo _ _ _ _ _ _); simp only [zd, zb, zz, RT.at, RT.ty, RT.sub, RT.cut, RT.wr, getS, setT, Ty.dflt, lk, Ty.st, stV, unV, prodTV, Int.reduceToNat, Int.reduceEq, reduceCtorEq, Nat.reduceLT, Nat.reduceEqDiff, Nat.reduceAdd, Nat.reduceMul, Nat.reduceLeDiff, Nat.reduceSub, Nat.reduceBEq, Nat.reduceBNe, Nat.reduceBeqDiff, ↓reduceIte, tab, tL, tI, tB, LI, NI, LLI, tLL, spL, fal2Sp, alaPat, alaSp_pat, alaSp_wp, allASp, sortLiSp, List.set_cons_zero, List.getD_cons_zero]) | with_reducible refine xgd_intro (fun hg => ?_) (fun hg => ?_) <;> (try simp only [zh, zi, zz, reduceCtorEq] at hg) | ((with_reducible show (_ : Bool) = true); kernel_rfl) | with_reducible refine And.intro ?_ ?_ | with_reducible refine xrun_nil ?_ | with_reducible refine xtxt_nil ?_ | (refine hK' _ ?_; clear hK'; clear K') | (with_reducible intro hg; try simp only [zh, zi, zz, reduceCtorEq] at hg))) | ((with_reducible show XW _ _ _ _ (.cond _ _ _) _ _); refine XW.cond rfl (fun h => ?_) (fun h => ?_) <;> (try simp only [zh, zi, zz, reduceCtorEq] at h) <;> (try (exfalso; omega))) | ((with_reducible show XW.thn _ _ _ _); dsimp only [XW.thn]) | ((with_reducible show XW.blk _ _ _ _); simp only [XW.blk, ↓reduceIte, Nat.reduceEqDiff, Nat.zero_ne_one, Nat.one_ne_zero, ne_eq]) | ((with_reducible show retK _ _ _ _); simp only [zd, zb, zz, lk, Nat.reduceEqDiff, Nat.reduceBEq, Nat.reduceBeqDiff, reduceCtorEq, ↓reduceIte])); all_goals (try (first | omega | with_reducible exact Int.le_refl _ | (show (_ : Int) ≤ _; omega)))
  refine XW.loop (ι := Nat) (fun i => ⟨[(4, .dat NI (i : Int)), (3, .ref 0 [])], [(0, ⟨3, NI, 0, fallL (l.take i) ++ l.drop i, none⟩)], 1, []⟩)
    (fun i => i ≤ l.length) (fun i => l.length - i) 0 [(0, 2)] (Nat.zero_le _) ?_ fun i hi => ?_
  · simp only [Fits, distinct, fitEnv, fitB, fitL, fitRoots, fitRT, idsOK, AV.ids, zb, zz, RT.at, RT.ty, RT.sub, RT.cut, RT.wr, getS, setT, Ty.dflt, lk, Ty.st, stV, unV, prodTV, Int.reduceToNat, Int.reduceEq, reduceCtorEq, Nat.reduceLT, Nat.reduceEqDiff, Nat.reduceAdd, Nat.reduceMul, Nat.reduceLeDiff, Nat.reduceSub, Nat.reduceBEq, Nat.reduceBNe, Nat.reduceBeqDiff, ↓reduceIte, tab, tL, tI, tB, LI, NI, LLI, tLL, spL, fal2Sp, alaPat, alaSp_pat, alaSp_wp, allASp, sortLiSp, List.set_cons_zero, List.getD_cons_zero]
    rfl
  have hfl : (fallL (l.take i) ++ l.drop i).length = l.length := by rw [List.length_append, fallL_len, List.length_take, List.length_drop]; omega
  have hpl : (fallL (l.take i)).length = i := by rw [fallL_len, List.length_take]; omega
  repeat' (first | with_reducible refine XW.seq ?_ | with_reducible refine XW.block ?_ | with_reducible refine XW.skip ?_ | with_reducible refine XW.exit ?_ | with_reducible refine XW.ret ?_ | ((first | with_reducible refine XW.region hC (fun K' hK' => ?_) | with_reducible refine XW.text hC hm_ok (by kernel_rfl) (fun K' hK' => ?_)); (try simp only [List.toList_toArray]); repeat' (first | with_reducible refine xrun_cons ?_ | with_reducible refine xtxt_cons ?_ | ((first | with_reducible show xoper _ _ _ _ _ _ _ | with_reducible show xdo _ _ _ _ _ _); simp only [zd, zb, zz, RT.at, RT.ty, RT.sub, RT.cut, RT.wr, getS, setT, Ty.dflt, lk, Ty.st, stV, unV, prodTV, Int.reduceToNat, Int.reduceEq, reduceCtorEq, Nat.reduceLT, Nat.reduceEqDiff, Nat.reduceAdd, Nat.reduceMul, Nat.reduceLeDiff, Nat.reduceSub, Nat.reduceBEq, Nat.reduceBNe, Nat.reduceBeqDiff, ↓reduceIte, tab, tL, tI, tB, LI, NI, LLI, tLL, spL, fal2Sp, alaPat, alaSp_pat, alaSp_wp, allASp, sortLiSp, List.set_cons_zero, List.getD_cons_zero]) | with_reducible refine xgd_intro (fun hg => ?_) (fun hg => ?_) <;> (try simp only [zh, zi, zz, reduceCtorEq] at hg) | ((with_reducible show (_ : Bool) = true); kernel_rfl) | with_reducible refine And.intro ?_ ?_ | with_reducible refine xrun_nil ?_ | with_reducible refine xtxt_nil ?_ | (refine hK' _ ?_; clear hK'; clear K') | (with_reducible intro hg; try simp only [zh, zi, zz, reduceCtorEq] at hg))) | ((with_reducible show XW _ _ _ _ (.cond _ _ _) _ _); refine XW.cond rfl (fun h => ?_) (fun h => ?_) <;> (try simp only [zh, zi, zz, reduceCtorEq] at h) <;> (try (exfalso; omega))) | ((with_reducible show XW.thn _ _ _ _); dsimp only [XW.thn]) | ((with_reducible show XW.blk _ _ _ _); simp only [XW.blk, ↓reduceIte, Nat.reduceEqDiff, Nat.zero_ne_one, Nat.one_ne_zero, ne_eq]) | ((with_reducible show retK _ _ _ _); simp only [zd, zb, zz, lk, Nat.reduceEqDiff, Nat.reduceBEq, Nat.reduceBeqDiff, reduceCtorEq, ↓reduceIte])); all_goals (try (first | omega | with_reducible exact Int.le_refl _ | (show (_ : Int) ≤ _; omega)))
  · have hil : i < l.length := by omega
    refine XW.loop (ι := Nat) (fun k => ⟨[(5, .dat NI (k : Int)), (4, .dat NI (i : Int)), (3, .ref 0 [])], [(0, ⟨3, NI, 0, insAt (fallL (l.take i)) (l.getD i 0) k (l.drop (i + 1)), none⟩)], 1, []⟩)
      (fun k => k ≤ i ∧ ∀ y ∈ (fallL (l.take i)).drop k, y < l.getD i 0) (fun k => k) i [(0, 0)] ⟨Nat.le_refl _, fun y hy => by rw [List.drop_eq_nil_of_le (by omega)] at hy; cases hy⟩ ?_ fun k hk => ?_
    · simp only [Fits, distinct, fitEnv, fitB, fitL, fitRoots, fitRT, idsOK, AV.ids, zb, zz, RT.at, RT.ty, RT.sub, RT.cut, RT.wr, getS, setT, Ty.dflt, lk, Ty.st, stV, unV, prodTV, Int.reduceToNat, Int.reduceEq, reduceCtorEq, Nat.reduceLT, Nat.reduceEqDiff, Nat.reduceAdd, Nat.reduceMul, Nat.reduceLeDiff, Nat.reduceSub, Nat.reduceBEq, Nat.reduceBNe, Nat.reduceBeqDiff, ↓reduceIte, tab, tL, tI, tB, LI, NI, LLI, tLL, spL, fal2Sp, alaPat, alaSp_pat, alaSp_wp, allASp, sortLiSp, List.set_cons_zero, List.getD_cons_zero]
      exact insAt_start hpl hil
    obtain ⟨hki, hky⟩ := hk
    have hal := insAt_len (P := fallL (l.take i)) (x := l.getD i 0) (k := k) (R := l.drop (i + 1))
    rw [hpl, List.length_drop] at hal
    have hat := insAt_at (P := fallL (l.take i)) (x := l.getD i 0) (k := k) (R := l.drop (i + 1)) (by omega)
    have hpr := fun h : 0 < k => insAt_pred (P := fallL (l.take i)) (x := l.getD i 0) (k := k) (R := l.drop (i + 1)) (by omega) h
    have e1 : ((k : Int) - 1).toNat = k - 1 := by omega
    repeat' (first | with_reducible refine XW.seq ?_ | with_reducible refine XW.block ?_ | with_reducible refine XW.skip ?_ | with_reducible refine XW.exit ?_ | with_reducible refine XW.ret ?_ | ((first | with_reducible refine XW.region hC (fun K' hK' => ?_) | with_reducible refine XW.text hC hm_ok (by kernel_rfl) (fun K' hK' => ?_)); (try simp only [List.toList_toArray]); repeat' (first | with_reducible refine xrun_cons ?_ | with_reducible refine xtxt_cons ?_ | ((first | with_reducible show xoper _ _ _ _ _ _ _ | with_reducible show xdo _ _ _ _ _ _); simp only [zd, zb, zz, RT.at, RT.ty, RT.sub, RT.cut, RT.wr, getS, setT, Ty.dflt, lk, Ty.st, stV, unV, prodTV, Int.reduceToNat, Int.reduceEq, reduceCtorEq, Nat.reduceLT, Nat.reduceEqDiff, Nat.reduceAdd, Nat.reduceMul, Nat.reduceLeDiff, Nat.reduceSub, Nat.reduceBEq, Nat.reduceBNe, Nat.reduceBeqDiff, ↓reduceIte, tab, tL, tI, tB, LI, NI, LLI, tLL, spL, fal2Sp, alaPat, alaSp_pat, alaSp_wp, allASp, sortLiSp, List.set_cons_zero, List.getD_cons_zero]) | with_reducible refine xgd_intro (fun hg => ?_) (fun hg => ?_) <;> (try simp only [zh, zi, zz, reduceCtorEq] at hg) | ((with_reducible show (_ : Bool) = true); kernel_rfl) | with_reducible refine And.intro ?_ ?_ | with_reducible refine xrun_nil ?_ | with_reducible refine xtxt_nil ?_ | (refine hK' _ ?_; clear hK'; clear K') | (with_reducible intro hg; try simp only [zh, zi, zz, reduceCtorEq] at hg))) | ((with_reducible show XW _ _ _ _ (.cond _ _ _) _ _); refine XW.cond rfl (fun h => ?_) (fun h => ?_) <;> (try simp only [zh, zi, zz, reduceCtorEq] at h) <;> (try (exfalso; omega))) | ((with_reducible show XW.thn _ _ _ _); dsimp only [XW.thn]) | ((with_reducible show XW.blk _ _ _ _); simp only [XW.blk, ↓reduceIte, Nat.reduceEqDiff, Nat.zero_ne_one, Nat.one_ne_zero, ne_eq]) | ((with_reducible show retK _ _ _ _); simp only [zd, zb, zz, lk, Nat.reduceEqDiff, Nat.reduceBEq, Nat.reduceBeqDiff, reduceCtorEq, ↓reduceIte])); all_goals (try (first | omega | with_reducible exact Int.le_refl _ | (show (_ : Int) ≤ _; omega)))
    · have hk0 : 0 < k := by omega
      rw [e1, hat, hpr hk0] at h
      refine ⟨k - 1, [(0, 0)], ⟨by omega, fun y hy => ?_⟩, by omega, ?_⟩
      · rw [drop_pred_getD (0 : Int) (show k - 1 < (fallL (l.take i)).length by omega), show k - 1 + 1 = k by omega] at hy
        rcases List.mem_cons.1 hy with rfl | hy
        · exact h
        · exact hky y hy
      · rw [e1, hat, hpr hk0, insAt_swap (by omega) hk0]
        simp only [Fits, distinct, fitEnv, fitB, fitL, fitRoots, fitRT, idsOK, AV.ids, zb, zz, RT.at, RT.ty, RT.sub, RT.cut, RT.wr, getS, setT, Ty.dflt, lk, Ty.st, stV, unV, prodTV, Int.reduceToNat, Int.reduceEq, reduceCtorEq, Nat.reduceLT, Nat.reduceEqDiff, Nat.reduceAdd, Nat.reduceMul, Nat.reduceLeDiff, Nat.reduceSub, Nat.reduceBEq, Nat.reduceBNe, Nat.reduceBeqDiff, ↓reduceIte, tab, tL, tI, tB, LI, NI, LLI, tLL, spL, fal2Sp, alaPat, alaSp_pat, alaSp_wp, allASp, sortLiSp, List.set_cons_zero, List.getD_cons_zero]
        show ((k : Int) - 1 : Int) = ((k - 1 : Nat) : Int)
        omega
    · refine ⟨i + 1, [(0, 0)], by omega, by omega, ?_⟩
      rw [insAt_end rfl hil (by omega) (fun hk0 => ?_) hky]
      · simp only [Fits, distinct, fitEnv, fitB, fitL, fitRoots, fitRT, idsOK, AV.ids, zb, zz, RT.at, RT.ty, RT.sub, RT.cut, RT.wr, getS, setT, Ty.dflt, lk, Ty.st, stV, unV, prodTV, Int.reduceToNat, Int.reduceEq, reduceCtorEq, Nat.reduceLT, Nat.reduceEqDiff, Nat.reduceAdd, Nat.reduceMul, Nat.reduceLeDiff, Nat.reduceSub, Nat.reduceBEq, Nat.reduceBNe, Nat.reduceBeqDiff, ↓reduceIte, tab, tL, tI, tB, LI, NI, LLI, tLL, spL, fal2Sp, alaPat, alaSp_pat, alaSp_wp, allASp, sortLiSp, List.set_cons_zero, List.getD_cons_zero]
        rfl
      rw [e1, hat, hpr hk0] at h
      omega
    · refine ⟨i + 1, [(0, 0)], by omega, by omega, ?_⟩
      rw [insAt_end rfl hil (by omega) (fun hk0 => by omega) hky]
      simp only [Fits, distinct, fitEnv, fitB, fitL, fitRoots, fitRT, idsOK, AV.ids, zb, zz, RT.at, RT.ty, RT.sub, RT.cut, RT.wr, getS, setT, Ty.dflt, lk, Ty.st, stV, unV, prodTV, Int.reduceToNat, Int.reduceEq, reduceCtorEq, Nat.reduceLT, Nat.reduceEqDiff, Nat.reduceAdd, Nat.reduceMul, Nat.reduceLeDiff, Nat.reduceSub, Nat.reduceBEq, Nat.reduceBNe, Nat.reduceBeqDiff, ↓reduceIte, tab, tL, tI, tB, LI, NI, LLI, tLL, spL, fal2Sp, alaPat, alaSp_pat, alaSp_wp, allASp, sortLiSp, List.set_cons_zero, List.getD_cons_zero]
      rfl
  · obtain rfl : i = l.length := by omega
    rw [List.take_length, List.drop_length, List.append_nil]
    exact hk

set_option maxRecDepth 10000 in
theorem ala_step (m : Nat) (ih : FnSt Tryd.prog 27 (alaSp m)) : FnSt Tryd.prog 27 (alaSp (m + 1)) := by
  have hC : ∀ {w0 : World} {S0 : Nat → Prop}, CtxOK Tryd.prog ⟨33, tab, fun f => lk [(28, fal2Sp)] f, fun f => lk [] f, fun f => lk [] f, fun f => lk [] f, fun f => lk [(27, alaSp m)] f, fun f => lk [] f⟩ w0 S0 := ctx_ok ⟨fal2_ok, trivial⟩ trivial trivial trivial ⟨ih, trivial⟩
  refine FnSt_of (C := ⟨33, tab, fun f => lk [(28, fal2Sp)] f, fun f => lk [] f, fun f => lk [] f, fun f => lk [] f, fun f => lk [(27, alaSp m)] f, fun f => lk [] f⟩) 27 Tryd.f27 _ [] (alaSp (m + 1)) Tryd.func27 rfl (by decide) rfl rfl (Nat.le_of_ble_eq_true rfl) fun bl vals boxes K hA hK w0 sd => ?_
  obtain ⟨w1, T1, vs, F1, hA0⟩ := hA
  obtain ⟨(least : Int), v0, _, _, e0, hA1⟩ := sa_val hA0
  clear hA0
  subst e0
  obtain ⟨(left : Int), v1, _, _, e1, hA2⟩ := sa_val hA1
  clear hA1
  subst e1
  obtain ⟨(now : List Int), v2, _, _, e2, hA3⟩ := sa_val hA2
  clear hA2
  subst e2
  obtain ⟨bo, (out : List (List Int)), l3, x3, _, _, e3, g3, hA4⟩ := sa_box hA3
  clear hA3
  subst e3 g3
  obtain ⟨(fr : Option (Nat × List Nat)), cf, v5, _, _, e5, hA5⟩ := sa_capl hA4
  clear hA4
  subst e5
  obtain ⟨rfl, rfl, rfl⟩ := sa_nil hA5
  clear hA5
  obtain ⟨⟨hO, hfr⟩, hk⟩ : (AlaOK (m + 1) least left out now ∧ fr = some (27, [bo, cf])) ∧ K [] [tLL (out ++ (allA (m + 1) least.toNat left.toNat).map fun y => fallL (now ++ y))] := hK
  subst hfr
  obtain ⟨g1, g2, l0, lm, l8, nl, ol⟩ := hO
  have hp2 : 1 ≤ 2 ^ left.toNat := Nat.one_le_two_pow
  by_cases hz : left = 0
  · subst hz
    have e : allA (m + 1) least.toNat (0 : Int).toNat = [[]] := if_pos rfl
    rw [e] at hk
    simp only [List.map_cons, List.map_nil, List.append_nil] at hk
    repeat' (first | with_reducible refine XW.seq ?_ | with_reducible refine XW.block ?_ | with_reducible refine XW.skip ?_ | with_reducible refine XW.exit ?_ | with_reducible refine XW.ret ?_ | ((first | ((with_reducible show XW _ _ _ _ (.region _ _ true) _ _); refine XW.draw hC hm_ok [0, 1, 2, 3, 4, 5] (by decide +kernel) (fun K' hK' => ?_)) | with_reducible refine XW.region hC (fun K' hK' => ?_) | with_reducible refine XW.text hC hm_ok (by kernel_rfl) (fun K' hK' => ?_)); (try simp only [List.toList_toArray]); repeat' (first | with_reducible refine xrun_cons ?_ | with_reducible refine xtxt_cons ?_ | ((with_reducible show xord _ _ _ (_ :: _) _); refine xord_cons (by simp only [List.getElem?_toArray, List.getElem?_cons_succ, List.getElem?_cons_zero]; rfl) ?_) | ((first | with_reducible show xoper _ _ _ _ _ _ _ | with_reducible show xdo _ _ _ _ _ _); simp only [zd, zb, zz, RT.at, RT.ty, RT.sub, RT.cut, RT.wr, getS, setT, Ty.dflt, lk, Ty.st, stV, unV, prodTV, Int.reduceToNat, Int.reduceEq, reduceCtorEq, Nat.reduceLT, Nat.reduceEqDiff, Nat.reduceAdd, Nat.reduceMul, Nat.reduceLeDiff, Nat.reduceSub, Nat.reduceBEq, Nat.reduceBNe, Nat.reduceBeqDiff, ↓reduceIte, tab, tL, tI, tB, LI, NI, LLI, tLL, spL, fal2Sp, alaPat, alaSp_pat, alaSp_wp, allASp, sortLiSp, List.set_cons_zero, List.getD_cons_zero]) | with_reducible refine xgd_intro (fun hg => ?_) (fun hg => ?_) <;> (try simp only [zh, zi, zz, reduceCtorEq] at hg) | ((with_reducible show (_ : Bool) = true); kernel_rfl) | with_reducible refine And.intro ?_ ?_ | with_reducible refine xrun_nil ?_ | with_reducible refine xtxt_nil ?_ | with_reducible refine xord_nil ?_ | (refine hK' _ ?_; clear hK'; clear K') | (with_reducible intro hg; try simp only [zh, zi, zz, reduceCtorEq] at hg))) | ((with_reducible show XW _ _ _ _ (.cond _ _ _) _ _); refine XW.cond rfl (fun h => ?_) (fun h => ?_) <;> (try simp only [zh, zi, zz, reduceCtorEq] at h) <;> (try (exfalso; omega))) | ((with_reducible show XW.thn _ _ _ _); dsimp only [XW.thn]) | ((with_reducible show XW.blk _ _ _ _); simp only [XW.blk, ↓reduceIte, Nat.reduceEqDiff, Nat.zero_ne_one, Nat.one_ne_zero, ne_eq]) | ((with_reducible show retS _ _ _ _ _ _ _); simp only [retS, boxS, outsOf, outOf, List.length_cons, List.length_nil, zb, zz, RT.at, RT.ty, RT.sub, RT.cut, RT.wr, getS, setT, Ty.dflt, lk, Ty.st, stV, unV, prodTV, Int.reduceToNat, Int.reduceEq, reduceCtorEq, Nat.reduceLT, Nat.reduceEqDiff, Nat.reduceAdd, Nat.reduceMul, Nat.reduceLeDiff, Nat.reduceSub, Nat.reduceBEq, Nat.reduceBNe, Nat.reduceBeqDiff, ↓reduceIte, tab, tL, tI, tB, LI, NI, LLI, tLL, spL, fal2Sp, alaPat, alaSp_pat, alaSp_wp, allASp, sortLiSp, List.set_cons_zero, List.getD_cons_zero])); all_goals (try (first | omega | with_reducible exact Int.le_refl _ | (show (_ : Int) ≤ _; omega)))
    all_goals first
      | exact hk
      | (exfalso; omega)
      | omega
      | skip
  obtain ⟨lf, rfl⟩ : ∃ lf : Nat, left = (lf : Int) := ⟨left.toNat, by omega⟩
  obtain ⟨le, rfl⟩ : ∃ le : Nat, least = (le : Int) := ⟨least.toNat, by omega⟩
  simp only [Int.toNat_natCast] at hk nl ol hp2
  have e : allA (m + 1) le lf = upW (fun k => allA m k (lf - k)) le (lf + 1 - le) := if_neg (by omega)
  rw [e] at hk
  obtain ⟨G, hG⟩ : ∃ G : Nat → List (List Int), (fun k => allA m k (lf - k)) = G := ⟨_, rfl⟩
  rw [hG] at hk
  have hGk : ∀ k, G k = allA m k (lf - k) := fun k => by rw [← hG]
  repeat' (first | with_reducible refine XW.seq ?_ | with_reducible refine XW.block ?_ | with_reducible refine XW.skip ?_ | with_reducible refine XW.exit ?_ | with_reducible refine XW.ret ?_ | ((first | ((with_reducible show XW _ _ _ _ (.region _ _ true) _ _); refine XW.draw hC hm_ok [0, 1, 2, 3, 4, 5] (by decide +kernel) (fun K' hK' => ?_)) | with_reducible refine XW.region hC (fun K' hK' => ?_) | with_reducible refine XW.text hC hm_ok (by kernel_rfl) (fun K' hK' => ?_)); (try simp only [List.toList_toArray]); repeat' (first | with_reducible refine xrun_cons ?_ | with_reducible refine xtxt_cons ?_ | ((with_reducible show xord _ _ _ (_ :: _) _); refine xord_cons (by simp only [List.getElem?_toArray, List.getElem?_cons_succ, List.getElem?_cons_zero]; rfl) ?_) | ((first | with_reducible show xoper _ _ _ _ _ _ _ | with_reducible show xdo _ _ _ _ _ _); simp only [zd, zb, zz, RT.at, RT.ty, RT.sub, RT.cut, RT.wr, getS, setT, Ty.dflt, lk, Ty.st, stV, unV, prodTV, Int.reduceToNat, Int.reduceEq, reduceCtorEq, Nat.reduceLT, Nat.reduceEqDiff, Nat.reduceAdd, Nat.reduceMul, Nat.reduceLeDiff, Nat.reduceSub, Nat.reduceBEq, Nat.reduceBNe, Nat.reduceBeqDiff, ↓reduceIte, tab, tL, tI, tB, LI, NI, LLI, tLL, spL, fal2Sp, alaPat, alaSp_pat, alaSp_wp, allASp, sortLiSp, List.set_cons_zero, List.getD_cons_zero]) | with_reducible refine xgd_intro (fun hg => ?_) (fun hg => ?_) <;> (try simp only [zh, zi, zz, reduceCtorEq] at hg) | ((with_reducible show (_ : Bool) = true); kernel_rfl) | with_reducible refine And.intro ?_ ?_ | with_reducible refine xrun_nil ?_ | with_reducible refine xtxt_nil ?_ | with_reducible refine xord_nil ?_ | (refine hK' _ ?_; clear hK'; clear K') | (with_reducible intro hg; try simp only [zh, zi, zz, reduceCtorEq] at hg))) | ((with_reducible show XW _ _ _ _ (.cond _ _ _) _ _); refine XW.cond rfl (fun h => ?_) (fun h => ?_) <;> (try simp only [zh, zi, zz, reduceCtorEq] at h) <;> (try (exfalso; omega))) | ((with_reducible show XW.thn _ _ _ _); dsimp only [XW.thn]) | ((with_reducible show XW.blk _ _ _ _); simp only [XW.blk, ↓reduceIte, Nat.reduceEqDiff, Nat.zero_ne_one, Nat.one_ne_zero, ne_eq]) | ((with_reducible show retS _ _ _ _ _ _ _); simp only [retS, boxS, outsOf, outOf, List.length_cons, List.length_nil, zb, zz, RT.at, RT.ty, RT.sub, RT.cut, RT.wr, getS, setT, Ty.dflt, lk, Ty.st, stV, unV, prodTV, Int.reduceToNat, Int.reduceEq, reduceCtorEq, Nat.reduceLT, Nat.reduceEqDiff, Nat.reduceAdd, Nat.reduceMul, Nat.reduceLeDiff, Nat.reduceSub, Nat.reduceBEq, Nat.reduceBNe, Nat.reduceBeqDiff, ↓reduceIte, tab, tL, tI, tB, LI, NI, LLI, tLL, spL, fal2Sp, alaPat, alaSp_pat, alaSp_wp, allASp, sortLiSp, List.set_cons_zero, List.getD_cons_zero])); all_goals (try (first | omega | with_reducible exact Int.le_refl _ | (show (_ : Int) ≤ _; omega)))
  all_goals first
    | (exfalso; omega)
    | omega
    | skip
  refine XW.loop (ι := Nat × List (List Int)) (fun x => ⟨[(8, .dat NI (x.1 : Int)), (1, .dat NI (lf : Int)), (2, .dat LI now), (3, .ptr 0 [0]), (4, .rpl cf .func (some (27, [bo, cf]))), (97, .loc 0 bo)],
      [(0, ⟨38, LLI, 2, [out ++ x.2.map fun y => fallL (now ++ y)], none⟩)], 1, []⟩)
    (fun x => le ≤ x.1 ∧ (x.1 ≤ lf + 1 ∨ x.1 = le) ∧ x.2 ++ upW G x.1 (lf + 1 - x.1) = upW G le (lf + 1 - le) ∧ (x.1 ≤ lf → x.2.length + 2 ^ (lf + 1 - x.1) ≤ 2 ^ (lf + 1 - le))) (fun x => lf + 1 - x.1) (le, []) [(0, 0)] ⟨Nat.le_refl _, .inr rfl, rfl, fun _ => by show 0 + 2 ^ (lf + 1 - le) ≤ 2 ^ (lf + 1 - le); omega⟩ ?_ fun x hx => ?_
  · simp only [Fits, distinct, fitEnv, fitB, fitL, fitRoots, fitRT, idsOK, AV.ids, zb, zz, RT.at, RT.ty, RT.sub, RT.cut, RT.wr, getS, setT, Ty.dflt, lk, Ty.st, stV, unV, prodTV, Int.reduceToNat, Int.reduceEq, reduceCtorEq, Nat.reduceLT, Nat.reduceEqDiff, Nat.reduceAdd, Nat.reduceMul, Nat.reduceLeDiff, Nat.reduceSub, Nat.reduceBEq, Nat.reduceBNe, Nat.reduceBeqDiff, ↓reduceIte, tab, tL, tI, tB, LI, NI, LLI, tLL, spL, fal2Sp, alaPat, alaSp_pat, alaSp_wp, allASp, sortLiSp, List.set_cons_zero, List.getD_cons_zero]
    all_goals first | rfl | exact ⟨rfl, rfl⟩ | simp | skip
  obtain ⟨k, P⟩ := x
  obtain ⟨k0, k1, k2, k3⟩ := hx
  dsimp only at k0 k1 k2 k3 ⊢
  by_cases hkl : lf < k
  · have e2 : P = upW G le (lf + 1 - le) := by
      rw [← k2, show lf + 1 - k = 0 by omega]; exact (List.append_nil P).symm
    rw [e2]
    repeat' (first | with_reducible refine XW.seq ?_ | with_reducible refine XW.block ?_ | with_reducible refine XW.skip ?_ | with_reducible refine XW.exit ?_ | with_reducible refine XW.ret ?_ | ((first | ((with_reducible show XW _ _ _ _ (.region _ _ true) _ _); refine XW.tree hC hm_ok (.one 0 (.one 1 (.one 2 (.one 3 (.one 4 (.one 5 (.one 7 (.two 6 (.one 8 (.one 9 (.one 10 .nil))) 8 (.one 6 (.one 9 (.one 10 .nil))))))))))) (by decide +kernel) (fun K' hK' => ?_)) | with_reducible refine XW.region hC (fun K' hK' => ?_) | with_reducible refine XW.text hC hm_ok (by kernel_rfl) (fun K' hK' => ?_)); (try simp only [List.toList_toArray]); repeat' (first | with_reducible refine xrun_cons ?_ | with_reducible refine xtree_two ?_ ?_ | with_reducible refine xtree_nil ?_ | ((with_reducible show xtree _ _ _ (.one _ _) _); refine xtree_one (by simp only [List.getElem?_toArray, List.getElem?_cons_succ, List.getElem?_cons_zero]; rfl) ?_) | with_reducible refine xtxt_cons ?_ | ((with_reducible show xord _ _ _ (_ :: _) _); refine xord_cons (by simp only [List.getElem?_toArray, List.getElem?_cons_succ, List.getElem?_cons_zero]; rfl) ?_) | ((first | with_reducible show xoper _ _ _ _ _ _ _ | with_reducible show xdo _ _ _ _ _ _); simp only [zd, zb, zz, RT.at, RT.ty, RT.sub, RT.cut, RT.wr, getS, setT, Ty.dflt, lk, Ty.st, stV, unV, prodTV, Int.reduceToNat, Int.reduceEq, reduceCtorEq, Nat.reduceLT, Nat.reduceEqDiff, Nat.reduceAdd, Nat.reduceMul, Nat.reduceLeDiff, Nat.reduceSub, Nat.reduceBEq, Nat.reduceBNe, Nat.reduceBeqDiff, ↓reduceIte, tab, tL, tI, tB, LI, NI, LLI, tLL, spL, fal2Sp, alaPat, alaSp_pat, alaSp_wp, allASp, sortLiSp, List.set_cons_zero, List.getD_cons_zero]) | with_reducible refine xgd_intro (fun hg => ?_) (fun hg => ?_) <;> (try simp only [zh, zi, zz, reduceCtorEq] at hg) | ((with_reducible show (_ : Bool) = true); kernel_rfl) | with_reducible refine And.intro ?_ ?_ | with_reducible refine xrun_nil ?_ | with_reducible refine xtxt_nil ?_ | with_reducible refine xord_nil ?_ | (refine hK' _ ?_; clear hK'; clear K') | (with_reducible intro hg; try simp only [zh, zi, zz, reduceCtorEq] at hg))) | ((with_reducible show XW _ _ _ _ (.cond _ _ _) _ _); refine XW.cond rfl (fun h => ?_) (fun h => ?_) <;> (try simp only [zh, zi, zz, reduceCtorEq] at h) <;> (try (exfalso; omega))) | ((with_reducible show XW.thn _ _ _ _); dsimp only [XW.thn]) | ((with_reducible show XW.blk _ _ _ _); simp only [XW.blk, ↓reduceIte, Nat.reduceEqDiff, Nat.zero_ne_one, Nat.one_ne_zero, ne_eq]) | ((with_reducible show retS _ _ _ _ _ _ _); simp only [retS, boxS, outsOf, outOf, List.length_cons, List.length_nil, zb, zz, RT.at, RT.ty, RT.sub, RT.cut, RT.wr, getS, setT, Ty.dflt, lk, Ty.st, stV, unV, prodTV, Int.reduceToNat, Int.reduceEq, reduceCtorEq, Nat.reduceLT, Nat.reduceEqDiff, Nat.reduceAdd, Nat.reduceMul, Nat.reduceLeDiff, Nat.reduceSub, Nat.reduceBEq, Nat.reduceBNe, Nat.reduceBeqDiff, ↓reduceIte, tab, tL, tI, tB, LI, NI, LLI, tLL, spL, fal2Sp, alaPat, alaSp_pat, alaSp_wp, allASp, sortLiSp, List.set_cons_zero, List.getD_cons_zero])); all_goals (try (first | omega | with_reducible exact Int.le_refl _ | (show (_ : Int) ≤ _; omega)))
    all_goals first
      | exact hk
      | (exfalso; omega)
      | skip
  have hkl : k ≤ lf := by omega
  have k3 := k3 hkl
  have hup : upW G k (lf + 1 - k) = (G k).map ((k : Int) :: ·) ++ upW G (k + 1) (lf + 1 - (k + 1)) := by
    rw [show lf + 1 - k = (lf + 1 - (k + 1)) + 1 by omega]; rfl
  have hp3 : 2 ^ (lf + 1 - k) = 2 ^ (lf - k) + 2 ^ (lf - k) := by
    rw [show lf + 1 - k = (lf - k) + 1 by omega, Nat.pow_succ]; omega
  have hp4 : 2 ^ (lf + 1 - le) ≤ 2 ^ lf := Nat.pow_le_pow_right (by omega) (by omega)
  have hgl : (G k).length ≤ 2 ^ (lf - k) := by rw [hGk]; exact len_allA _ _ _ (by omega)
  have hPl : (out ++ P.map fun y => fallL (now ++ y)).length + 2 ^ (lf - k) ≤ 1000 := by
    rw [List.length_append, List.length_map]; omega
  have hO2 : AlaOK m (k : Int) (((lf - k : Nat)) : Int) (out ++ P.map fun y => fallL (now ++ y)) (now ++ [(k : Int)]) :=
    ⟨by omega, by omega, by omega, by omega, by omega, by rw [List.length_append, List.length_singleton, Int.toNat_natCast]; omega, by rw [Int.toNat_natCast]; exact hPl⟩
  have hsub : (lf : Int) - (k : Int) = ((lf - k : Nat) : Int) := by omega
  have hres : (out ++ P.map fun y => fallL (now ++ y)) ++ (allA m k (lf - k)).map (fun y => fallL ((now ++ [(k : Int)]) ++ y)) = out ++ (P ++ (G k).map ((k : Int) :: ·)).map fun y => fallL (now ++ y) := by
    rw [List.map_append, hGk, List.append_assoc, List.map_map]
    congr 2
    refine List.map_congr_left fun y _ => ?_
    simp
  repeat' (first | with_reducible refine XW.seq ?_ | with_reducible refine XW.block ?_ | with_reducible refine XW.skip ?_ | with_reducible refine XW.exit ?_ | with_reducible refine XW.ret ?_ | ((first | ((with_reducible show XW _ _ _ _ (.region _ _ true) _ _); refine XW.tree hC hm_ok (.one 0 (.one 1 (.one 2 (.one 3 (.one 4 (.one 5 (.one 7 (.two 6 (.one 8 (.one 9 (.one 10 .nil))) 8 (.one 6 (.one 9 (.one 10 .nil))))))))))) (by decide +kernel) (fun K' hK' => ?_)) | with_reducible refine XW.region hC (fun K' hK' => ?_) | with_reducible refine XW.text hC hm_ok (by kernel_rfl) (fun K' hK' => ?_)); (try simp only [List.toList_toArray]); repeat' (first | with_reducible refine xrun_cons ?_ | with_reducible refine xtree_two ?_ ?_ | with_reducible refine xtree_nil ?_ | ((with_reducible show xtree _ _ _ (.one _ _) _); refine xtree_one (by simp only [List.getElem?_toArray, List.getElem?_cons_succ, List.getElem?_cons_zero]; rfl) ?_) | with_reducible refine xtxt_cons ?_ | ((with_reducible show xord _ _ _ (_ :: _) _); refine xord_cons (by simp only [List.getElem?_toArray, List.getElem?_cons_succ, List.getElem?_cons_zero]; rfl) ?_) | ((first | with_reducible show xoper _ _ _ _ _ _ _ | with_reducible show xdo _ _ _ _ _ _); simp only [zd, zb, zz, RT.at, RT.ty, RT.sub, RT.cut, RT.wr, getS, setT, Ty.dflt, lk, Ty.st, stV, unV, prodTV, Int.reduceToNat, Int.reduceEq, reduceCtorEq, Nat.reduceLT, Nat.reduceEqDiff, Nat.reduceAdd, Nat.reduceMul, Nat.reduceLeDiff, Nat.reduceSub, Nat.reduceBEq, Nat.reduceBNe, Nat.reduceBeqDiff, ↓reduceIte, tab, tL, tI, tB, LI, NI, LLI, tLL, spL, fal2Sp, alaPat, alaSp_pat, alaSp_wp, allASp, sortLiSp, List.set_cons_zero, List.getD_cons_zero, hsub, hres]) | with_reducible refine xgd_intro (fun hg => ?_) (fun hg => ?_) <;> (try simp only [zh, zi, zz, reduceCtorEq] at hg) | ((with_reducible show (_ : Bool) = true); kernel_rfl) | with_reducible refine And.intro ?_ ?_ | with_reducible refine xrun_nil ?_ | with_reducible refine xtxt_nil ?_ | with_reducible refine xord_nil ?_ | (refine hK' _ ?_; clear hK'; clear K') | (with_reducible intro hg; try simp only [zh, zi, zz, reduceCtorEq] at hg))) | ((with_reducible show XW _ _ _ _ (.cond _ _ _) _ _); refine XW.cond rfl (fun h => ?_) (fun h => ?_) <;> (try simp only [zh, zi, zz, reduceCtorEq] at h) <;> (try (exfalso; omega))) | ((with_reducible show XW.thn _ _ _ _); dsimp only [XW.thn]) | ((with_reducible show XW.blk _ _ _ _); simp only [XW.blk, ↓reduceIte, Nat.reduceEqDiff, Nat.zero_ne_one, Nat.one_ne_zero, ne_eq]) | ((with_reducible show retS _ _ _ _ _ _ _); simp only [retS, boxS, outsOf, outOf, List.length_cons, List.length_nil, zb, zz, RT.at, RT.ty, RT.sub, RT.cut, RT.wr, getS, setT, Ty.dflt, lk, Ty.st, stV, unV, prodTV, Int.reduceToNat, Int.reduceEq, reduceCtorEq, Nat.reduceLT, Nat.reduceEqDiff, Nat.reduceAdd, Nat.reduceMul, Nat.reduceLeDiff, Nat.reduceSub, Nat.reduceBEq, Nat.reduceBNe, Nat.reduceBeqDiff, ↓reduceIte, tab, tL, tI, tB, LI, NI, LLI, tLL, spL, fal2Sp, alaPat, alaSp_pat, alaSp_wp, allASp, sortLiSp, List.set_cons_zero, List.getD_cons_zero, hsub, hres])); all_goals (try (first | omega | with_reducible exact Int.le_refl _ | (show (_ : Int) ≤ _; omega)))
  all_goals first
    | (exfalso; omega)
    | omega
    | exact hO2
    | (refine ⟨(k + 1, P ++ (G k).map ((k : Int) :: ·)), [(0, 0)], ⟨by dsimp only; omega, .inl (by dsimp only; omega), by dsimp only; rw [List.append_assoc, ← hup]; exact k2, fun h => by dsimp only; rw [List.length_append, List.length_map, show lf + 1 - (k + 1) = lf - k by omega]; omega⟩, by dsimp only; omega, ?_⟩
       simp only [Fits, distinct, fitEnv, fitB, fitL, fitRoots, fitRT, idsOK, AV.ids, zb, zz, RT.at, RT.ty, RT.sub, RT.cut, RT.wr, getS, setT, Ty.dflt, lk, Ty.st, stV, unV, prodTV, Int.reduceToNat, Int.reduceEq, reduceCtorEq, Nat.reduceLT, Nat.reduceEqDiff, Nat.reduceAdd, Nat.reduceMul, Nat.reduceLeDiff, Nat.reduceSub, Nat.reduceBEq, Nat.reduceBNe, Nat.reduceBeqDiff, ↓reduceIte, tab, tL, tI, tB, LI, NI, LLI, tLL, spL, fal2Sp, alaPat, alaSp_pat, alaSp_wp, allASp, sortLiSp, List.set_cons_zero, List.getD_cons_zero]
       first | done | rfl)
    | skip

theorem ala_none : FnSt Tryd.prog 27 (alaSp 0) := by
  refine ⟨⟨_, Tryd.func27, by decide, rfl⟩, fun bl vals boxes K hK => ?_⟩
  exfalso
  simp only [alaSp] at hK
  split at hK
  · obtain ⟨⟨hO, _⟩, _⟩ := hK
    have h1 := hO.l0
    have h2 := hO.lm
    omega
  · exact hK
theorem alaC_ok : ∀ m, FnSt Tryd.prog 27 (alaSp m)
  | 0 => ala_none
  | m + 1 => ala_step m (alaC_ok m)

theorem fall_rev {f n : Nat} (hf : n < f) {y : List Int} (h : y ∈ allA f 1 n) : fallL y = y.reverse := by
  obtain ⟨h1, h2, h3⟩ := (mem_allA hf (Nat.le_refl _)).1 h
  exact (fallL_of (List.reverse_perm y) (List.pairwise_reverse.2 h2)).symm
theorem all_falls {n : Nat} (h : n < 9) : ((allA 9 1 n).map fun y => fallL y).Perm (allP 9 n n) := by
  have e : (allA 9 1 n).map (fun y => fallL y) = (allA 9 1 n).map List.reverse := List.map_congr_left fun y hy => fall_rev h hy
  rw [e]
  exact all_perm h

set_option maxRecDepth 10000 in
theorem allA_ok : FnOK Tryd.prog 15 allASp := by
  have hC : ∀ {w0 : World} {S0 : Nat → Prop}, CtxOK Tryd.prog ⟨12, tab, fun f => lk [] f, fun f => lk [] f, fun f => lk [(29, sortLiSp 30)] f, fun f => lk [] f, fun f => lk [(27, alaSp 9)] f, fun f => lk [] f⟩ w0 S0 := ctx_ok trivial trivial ⟨sortLi_ok, trivial⟩ trivial ⟨alaC_ok 9, trivial⟩
  refine FnOK_of (C := ⟨12, tab, fun f => lk [] f, fun f => lk [] f, fun f => lk [(29, sortLiSp 30)] f, fun f => lk [] f, fun f => lk [(27, alaSp 9)] f, fun f => lk [] f⟩) 15 Tryd.f15 _ [2] allASp Tryd.func15 rfl (by decide) rfl rfl (Nat.le_of_ble_eq_true rfl) fun args K ht hK w0 => ?_
  obtain ⟨n, rfl, ⟨h0, h8⟩, hk⟩ : ∃ n, args = [tI n] ∧ (0 ≤ n ∧ n ≤ 8) ∧ K [tLL (allP 9 n.toNat n.toNat)] := by
    match args, ht, hK with
    | [⟨t, x⟩], ht, hK =>
      simp only [allASp, List.map_cons, List.map_nil, List.cons.injEq, and_true] at ht
      subst ht
      exact ⟨x, rfl, hK⟩
    | [], ht, _ => simp [allASp] at ht
    | _ :: _ :: _, ht, _ => simp [allASp] at ht
  have hp : 2 ^ n.toNat ≤ 2 ^ 8 := Nat.pow_le_pow_right (by omega) (by omega)
  have hO : AlaOK 9 1 n [] [] := ⟨by omega, by omega, h0, by omega, h8, by show 0 + n.toNat ≤ 8; omega, by show 0 + 2 ^ n.toNat ≤ 1000; omega⟩
  have hpm := all_falls (n := n.toNat) (by omega)
  have hds := desc_allP 9 n.toNat n.toNat
  have hod : ordD (α := List Int) (fun x => x) ((allA 9 1 n.toNat).map fun y => fallL y) = allP 9 n.toNat n.toNat := ordD_eq hpm.symm hds
  have hll : ((allA 9 1 n.toNat).map fun y => fallL y).length ≤ 256 := by
    rw [List.length_map]
    have := len_allA 9 1 n.toNat (Nat.le_refl _)
    omega
  have h1n : (1 : Int).toNat = 1 := rfl
  repeat' (first | with_reducible refine XW.seq ?_ | with_reducible refine XW.block ?_ | with_reducible refine XW.skip ?_ | with_reducible refine XW.exit ?_ | with_reducible refine XW.ret ?_ | ((first | with_reducible refine XW.region hC (fun K' hK' => ?_) | with_reducible refine XW.text hC hm_ok (by kernel_rfl) (fun K' hK' => ?_)); (try simp only [List.toList_toArray]); repeat' (first | with_reducible refine xrun_cons ?_ | with_reducible refine xtxt_cons ?_ | ((first | with_reducible show xoper _ _ _ _ _ _ _ | with_reducible show xdo _ _ _ _ _ _); simp only [zd, zb, zz, RT.at, RT.ty, RT.sub, RT.cut, RT.wr, getS, setT, Ty.dflt, lk, Ty.st, stV, unV, prodTV, Int.reduceToNat, Int.reduceEq, reduceCtorEq, Nat.reduceLT, Nat.reduceEqDiff, Nat.reduceAdd, Nat.reduceMul, Nat.reduceLeDiff, Nat.reduceSub, Nat.reduceBEq, Nat.reduceBNe, Nat.reduceBeqDiff, ↓reduceIte, tab, tL, tI, tB, LI, NI, LLI, tLL, spL, fal2Sp, alaPat, alaSp_pat, alaSp_wp, allASp, sortLiSp, List.set_cons_zero, List.getD_cons_zero, hod, h1n]) | with_reducible refine xgd_intro (fun hg => ?_) (fun hg => ?_) <;> (try simp only [zh, zi, zz, reduceCtorEq] at hg) | ((with_reducible show (_ : Bool) = true); kernel_rfl) | with_reducible refine And.intro ?_ ?_ | with_reducible refine xrun_nil ?_ | with_reducible refine xtxt_nil ?_ | (refine hK' _ ?_; clear hK'; clear K') | (with_reducible intro hg; try simp only [zh, zi, zz, reduceCtorEq] at hg))) | ((with_reducible show XW _ _ _ _ (.cond _ _ _) _ _); refine XW.cond rfl (fun h => ?_) (fun h => ?_) <;> (try simp only [zh, zi, zz, reduceCtorEq] at h) <;> (try (exfalso; omega))) | ((with_reducible show XW.thn _ _ _ _); dsimp only [XW.thn]) | ((with_reducible show XW.blk _ _ _ _); simp only [XW.blk, ↓reduceIte, Nat.reduceEqDiff, Nat.zero_ne_one, Nat.one_ne_zero, ne_eq]) | ((with_reducible show retK _ _ _ _); simp only [zd, zb, zz, lk, Nat.reduceEqDiff, Nat.reduceBEq, Nat.reduceBeqDiff, reduceCtorEq, ↓reduceIte])); all_goals (try (first | omega | with_reducible exact Int.le_refl _ | (show (_ : Int) ≤ _; omega)))
  all_goals first
    | exact hO
    | exact hk
    | exact ⟨_, hpm.symm, hds⟩
    | (exfalso; omega)
    | omega
    | (simp only [zd, zb, zz, RT.at, RT.ty, RT.sub, RT.cut, RT.wr, getS, setT, Ty.dflt, lk, Ty.st, stV, unV, prodTV, Int.reduceToNat, Int.reduceEq, reduceCtorEq, Nat.reduceLT, Nat.reduceEqDiff, Nat.reduceAdd, Nat.reduceMul, Nat.reduceLeDiff, Nat.reduceSub, Nat.reduceBEq, Nat.reduceBNe, Nat.reduceBeqDiff, ↓reduceIte, tab, tL, tI, tB, LI, NI, LLI, tLL, spL, fal2Sp, alaPat, alaSp_pat, alaSp_wp, allASp, sortLiSp, List.set_cons_zero, List.getD_cons_zero]
       exact hk)
    | skip

end Fer
