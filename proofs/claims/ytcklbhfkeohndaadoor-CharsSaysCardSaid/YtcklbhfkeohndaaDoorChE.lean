import Derived.Test.YtcklbhfkeohndaaDoorRows
import Derived.Test.YtcklbhfkeohndaaDoorChA
import Derived.Test.YtcklbhfkeohndaaDoorFerZd
set_option linter.unusedSimpArgs false
set_option linter.unusedVariables false
set_option maxHeartbeats 8000000
namespace Fer
open Go Go.Proofs

@[reducible] def allPat : List PA := [.val (.int .i64), .val (.int .i64), .box 38 LLI, .box 22 LI, .capl .func]
structure AllOK (m : Nat) (left most : Int) (out : List (List Int)) (now : List Int) : Prop where
  l0 : 0 ≤ left
  lm : left < (m : Int)
  l8 : left ≤ 8
  m0 : 0 ≤ most
  nl : now.length + left.toNat ≤ 8
  ol : out.length + 2 ^ left.toNat ≤ 1000
def allSp (m : Nat) : SpecS := ⟨allPat, fun bl vals boxes K => match bl, vals, boxes with
  | [bo, bn], [⟨.int _, left⟩, ⟨.int _, most⟩, ⟨.func, fr⟩, ⟨.int _, cf⟩], [⟨.list _ (.list _ (.int _)), out⟩, ⟨.list _ (.int _), now⟩] =>
    (AllOK m left most out now ∧ fr = some (40, [bo, bn, cf.toNat])) ∧ K [] [tLL (out ++ (allP m left.toNat most.toNat).map (now ++ ·)), tL now]
  | _, _, _ => False⟩
theorem allSp_pat (m : Nat) : (allSp m).pat = allPat := rfl
theorem allSp_wp (m : Nat) (bo bn : Nat) (left most : Int) (fr : Option (Nat × List Nat)) (cf : Int) (out : List (List Int)) (now : List Int) (K : List TV → List TV → Prop) :
    (allSp m).wp [bo, bn] [⟨.int .i64, left⟩, ⟨.int .i64, most⟩, ⟨.func, fr⟩, ⟨.int .i64, cf⟩] [⟨LLI, out⟩, ⟨LI, now⟩] K =
    ((AllOK m left most out now ∧ fr = some (40, [bo, bn, cf.toNat])) ∧ K [] [tLL (out ++ (allP m left.toNat most.toNat).map (now ++ ·)), tL now]) := rfl

def allPSp : Spec := ⟨[NI], fun args K => match args with | [⟨.int _, n⟩] => (0 ≤ n ∧ n ≤ 8) ∧ K [tLL (allP 9 n.toNat n.toNat), tI 0] | _ => False⟩

set_option maxRecDepth 10000 in
theorem all_step (m : Nat) (ih : FnSt Tryd.prog 40 (allSp m)) : FnSt Tryd.prog 40 (allSp (m + 1)) := by
  have hC : ∀ {w0 : World} {S0 : Nat → Prop}, CtxOK Tryd.prog ⟨37, tab, fun f => lk [(33, cloneSp)] f, fun f => lk [] f, fun f => lk [] f, fun f => lk [] f, fun f => lk [(40, allSp m)] f, fun f => lk [] f⟩ w0 S0 := ctx_ok ⟨clone_ok, trivial⟩ trivial trivial trivial ⟨ih, trivial⟩
  refine FnSt_of (C := ⟨37, tab, fun f => lk [(33, cloneSp)] f, fun f => lk [] f, fun f => lk [] f, fun f => lk [] f, fun f => lk [(40, allSp m)] f, fun f => lk [] f⟩) 40 Tryd.f40 _ [] (allSp (m + 1)) Tryd.func40 rfl (by decide) rfl rfl (Nat.le_of_ble_eq_true rfl) fun bl vals boxes K hA hK w0 sd => ?_
  obtain ⟨w1, T1, vs, F1, hA0⟩ := hA
  obtain ⟨(left : Int), v0, _, _, e0, hA1⟩ := sa_val hA0
  clear hA0
  subst e0
  obtain ⟨(most : Int), v1, _, _, e1, hA2⟩ := sa_val hA1
  clear hA1
  subst e1
  obtain ⟨bo, (out : List (List Int)), l3, x3, _, _, e3, g3, hA3⟩ := sa_box hA2
  clear hA2
  subst e3 g3
  obtain ⟨bn, (now : List Int), l4, x4, _, _, e4, g4, hA4⟩ := sa_box hA3
  clear hA3
  subst e4 g4
  obtain ⟨(fr : Option (Nat × List Nat)), cf, v5, _, _, e5, hA5⟩ := sa_capl hA4
  clear hA4
  subst e5
  obtain ⟨rfl, rfl, rfl⟩ := sa_nil hA5
  clear hA5
  obtain ⟨⟨hO, hfr⟩, hk⟩ : (AllOK (m + 1) left most out now ∧ fr = some (40, [bo, bn, cf])) ∧ K [] [tLL (out ++ (allP (m + 1) left.toNat most.toNat).map (now ++ ·)), tL now] := hK
  subst hfr
  obtain ⟨l0, lm, l8, m0, nl, ol⟩ := hO
  have hp2 : 1 ≤ 2 ^ left.toNat := Nat.one_le_two_pow
  by_cases hz : left = 0
  · subst hz
    have e : allP (m + 1) (0 : Int).toNat most.toNat = [[]] := if_pos rfl
    rw [e] at hk
    simp only [List.map_cons, List.map_nil, List.append_nil] at hk
    repeat' (first | with_reducible refine XW.seq ?_ | with_reducible refine XW.block ?_ | with_reducible refine XW.skip ?_ | with_reducible refine XW.exit ?_ | with_reducible refine XW.ret ?_ | ((first | ((with_reducible show XW _ _ _ _ (.region _ _ true) _ _); refine XW.draw hC hm_ok [0, 1, 2, 3, 4, 5] (by decide +kernel) (fun K' hK' => ?_)) | with_reducible refine XW.region hC (fun K' hK' => ?_) | with_reducible refine XW.text hC hm_ok (by kernel_rfl) (fun K' hK' => ?_)); (try simp only [List.toList_toArray]); repeat' (first | with_reducible refine xrun_cons ?_ | with_reducible refine xtxt_cons ?_ | ((with_reducible show xord _ _ _ (_ :: _) _); refine xord_cons (by simp only [List.getElem?_toArray, List.getElem?_cons_succ, List.getElem?_cons_zero]; rfl) ?_) | ((first | with_reducible show xoper _ _ _ _ _ _ _ | with_reducible show xdo _ _ _ _ _ _); simp only [zd, zb, zz, RT.at, RT.ty, RT.sub, RT.cut, RT.wr, getS, setT, Ty.dflt, lk, Ty.st, stV, unV, prodTV, Int.reduceToNat, Int.reduceEq, reduceCtorEq, Nat.reduceLT, Nat.reduceEqDiff, Nat.reduceAdd, Nat.reduceMul, Nat.reduceLeDiff, Nat.reduceSub, Nat.reduceBEq, Nat.reduceBNe, Nat.reduceBeqDiff, ↓reduceIte, tab, tL, tI, tB, LI, NI, LLI, tLL, spL, cloneSp, allPat, allSp_pat, allSp_wp, allPSp, List.set_cons_zero, List.getD_cons_zero]) | with_reducible refine xgd_intro (fun hg => ?_) (fun hg => ?_) <;> (try simp only [zh, zi, zz, reduceCtorEq] at hg) | ((with_reducible show (_ : Bool) = true); kernel_rfl) | with_reducible refine And.intro ?_ ?_ | with_reducible refine xrun_nil ?_ | with_reducible refine xtxt_nil ?_ | with_reducible refine xord_nil ?_ | (refine hK' _ ?_; clear hK'; clear K') | (with_reducible intro hg; try simp only [zh, zi, zz, reduceCtorEq] at hg))) | ((with_reducible show XW _ _ _ _ (.cond _ _ _) _ _); refine XW.cond rfl (fun h => ?_) (fun h => ?_) <;> (try simp only [zh, zi, zz, reduceCtorEq] at h) <;> (try (exfalso; omega))) | ((with_reducible show XW.thn _ _ _ _); dsimp only [XW.thn]) | ((with_reducible show XW.blk _ _ _ _); simp only [XW.blk, ↓reduceIte, Nat.reduceEqDiff, Nat.zero_ne_one, Nat.one_ne_zero, ne_eq]) | ((with_reducible show retS _ _ _ _ _ _ _); simp only [retS, boxS, outsOf, outOf, List.length_cons, List.length_nil, zb, zz, RT.at, RT.ty, RT.sub, RT.cut, RT.wr, getS, setT, Ty.dflt, lk, Ty.st, stV, unV, prodTV, Int.reduceToNat, Int.reduceEq, reduceCtorEq, Nat.reduceLT, Nat.reduceEqDiff, Nat.reduceAdd, Nat.reduceMul, Nat.reduceLeDiff, Nat.reduceSub, Nat.reduceBEq, Nat.reduceBNe, Nat.reduceBeqDiff, ↓reduceIte, tab, tL, tI, tB, LI, NI, LLI, tLL, spL, cloneSp, allPat, allSp_pat, allSp_wp, allPSp, List.set_cons_zero, List.getD_cons_zero])); all_goals (try (first | omega | with_reducible exact Int.le_refl _ | (show (_ : Int) ≤ _; omega)))
    all_goals first
      | exact hk
      | (exfalso; omega)
      | omega
      | skip
  obtain ⟨lf, rfl⟩ : ∃ lf : Nat, left = (lf : Int) := ⟨left.toNat, by omega⟩
  obtain ⟨mo, rfl⟩ : ∃ mo : Nat, most = (mo : Int) := ⟨most.toNat, by omega⟩
  simp only [Int.toNat_natCast] at hk nl ol hp2
  have e : allP (m + 1) lf mo = downW (fun k => allP m (lf - k) k) (min lf mo) := if_neg (by omega)
  rw [e] at hk
  obtain ⟨G, hG⟩ : ∃ G : Nat → List (List Int), (fun k => allP m (lf - k) k) = G := ⟨_, rfl⟩
  rw [hG] at hk
  have hGk : ∀ k, G k = allP m (lf - k) k := fun k => by rw [← hG]
  obtain ⟨K0, hK0⟩ : ∃ K0, min lf mo = K0 := ⟨_, rfl⟩
  rw [hK0] at hk
  have hmin : min (lf : Int) (mo : Int) = (K0 : Int) := by omega
  repeat' (first | with_reducible refine XW.seq ?_ | with_reducible refine XW.block ?_ | with_reducible refine XW.skip ?_ | with_reducible refine XW.exit ?_ | with_reducible refine XW.ret ?_ | ((first | with_reducible refine XW.region hC (fun K' hK' => ?_) | with_reducible refine XW.text hC hm_ok (by kernel_rfl) (fun K' hK' => ?_)); (try simp only [List.toList_toArray]); repeat' (first | with_reducible refine xrun_cons ?_ | with_reducible refine xtxt_cons ?_ | ((first | with_reducible show xoper _ _ _ _ _ _ _ | with_reducible show xdo _ _ _ _ _ _); simp only [zd, zb, zz, RT.at, RT.ty, RT.sub, RT.cut, RT.wr, getS, setT, Ty.dflt, lk, Ty.st, stV, unV, prodTV, Int.reduceToNat, Int.reduceEq, reduceCtorEq, Nat.reduceLT, Nat.reduceEqDiff, Nat.reduceAdd, Nat.reduceMul, Nat.reduceLeDiff, Nat.reduceSub, Nat.reduceBEq, Nat.reduceBNe, Nat.reduceBeqDiff, ↓reduceIte, tab, tL, tI, tB, LI, NI, LLI, tLL, spL, cloneSp, allPat, allSp_pat, allSp_wp, allPSp, List.set_cons_zero, List.getD_cons_zero, hmin]) | with_reducible refine xgd_intro (fun hg => ?_) (fun hg => ?_) <;> (try simp only [zh, zi, zz, reduceCtorEq] at hg) | ((with_reducible show (_ : Bool) = true); kernel_rfl) | with_reducible refine And.intro ?_ ?_ | with_reducible refine xrun_nil ?_ | with_reducible refine xtxt_nil ?_ | (refine hK' _ ?_; clear hK'; clear K') | (with_reducible intro hg; try simp only [zh, zi, zz, reduceCtorEq] at hg))) | ((with_reducible show XW _ _ _ _ (.cond _ _ _) _ _); refine XW.cond rfl (fun h => ?_) (fun h => ?_) <;> (try simp only [zh, zi, zz, reduceCtorEq] at h) <;> (try (exfalso; omega))) | ((with_reducible show XW.thn _ _ _ _); dsimp only [XW.thn]) | ((with_reducible show XW.blk _ _ _ _); simp only [XW.blk, ↓reduceIte, Nat.reduceEqDiff, Nat.zero_ne_one, Nat.one_ne_zero, ne_eq]) | ((with_reducible show retS _ _ _ _ _ _ _); simp only [retS, boxS, outsOf, outOf, List.length_cons, List.length_nil, zb, zz, RT.at, RT.ty, RT.sub, RT.cut, RT.wr, getS, setT, Ty.dflt, lk, Ty.st, stV, unV, prodTV, Int.reduceToNat, Int.reduceEq, reduceCtorEq, Nat.reduceLT, Nat.reduceEqDiff, Nat.reduceAdd, Nat.reduceMul, Nat.reduceLeDiff, Nat.reduceSub, Nat.reduceBEq, Nat.reduceBNe, Nat.reduceBeqDiff, ↓reduceIte, tab, tL, tI, tB, LI, NI, LLI, tLL, spL, cloneSp, allPat, allSp_pat, allSp_wp, allPSp, List.set_cons_zero, List.getD_cons_zero, hmin])); all_goals (try (first | omega | with_reducible exact Int.le_refl _ | (show (_ : Int) ≤ _; omega)))
  all_goals first
    | (exfalso; omega)
    | omega
    | skip
  refine XW.loop (ι := Nat × List (List Int)) (fun x => ⟨[(7, .dat NI (x.1 : Int)), (0, .dat NI (lf : Int)), (2, .ptr 0 [0]), (3, .ptr 1 [0]), (4, .rpl cf .func (some (40, [bo, bn, cf]))), (101, .loc 0 bo), (102, .loc 1 bn)],
      [(0, ⟨38, LLI, 2, [out ++ x.2.map (now ++ ·)], none⟩), (1, ⟨22, LI, 1, [now], none⟩)], 2, []⟩)
    (fun x => x.1 ≤ K0 ∧ x.2 ++ downW G x.1 = downW G K0 ∧ x.2.length + 1 ≤ 2 ^ (lf - x.1)) (fun x => x.1) (K0, []) [(0, 0), (1, 1)] ⟨Nat.le_refl _, rfl, Nat.one_le_two_pow⟩ ?_ fun x hx => ?_
  · simp only [Fits, distinct, fitEnv, fitB, fitL, fitRoots, fitRT, idsOK, AV.ids, zb, zz, RT.at, RT.ty, RT.sub, RT.cut, RT.wr, getS, setT, Ty.dflt, lk, Ty.st, stV, unV, prodTV, Int.reduceToNat, Int.reduceEq, reduceCtorEq, Nat.reduceLT, Nat.reduceEqDiff, Nat.reduceAdd, Nat.reduceMul, Nat.reduceLeDiff, Nat.reduceSub, Nat.reduceBEq, Nat.reduceBNe, Nat.reduceBeqDiff, ↓reduceIte, tab, tL, tI, tB, LI, NI, LLI, tLL, spL, cloneSp, allPat, allSp_pat, allSp_wp, allPSp, List.set_cons_zero, List.getD_cons_zero]
    all_goals first | rfl | exact ⟨rfl, rfl⟩ | simp | skip
  obtain ⟨k, P⟩ := x
  obtain ⟨k1, k2, k3⟩ := hx
  dsimp only at k1 k2 k3 ⊢
  cases k with
  | zero =>
    have e2 : P = downW G K0 := by rw [← k2]; exact (List.append_nil P).symm
    rw [e2]
    repeat' (first | with_reducible refine XW.seq ?_ | with_reducible refine XW.block ?_ | with_reducible refine XW.skip ?_ | with_reducible refine XW.exit ?_ | with_reducible refine XW.ret ?_ | ((first | with_reducible refine XW.region hC (fun K' hK' => ?_) | with_reducible refine XW.text hC hm_ok (by kernel_rfl) (fun K' hK' => ?_)); (try simp only [List.toList_toArray]); repeat' (first | with_reducible refine xrun_cons ?_ | with_reducible refine xtxt_cons ?_ | ((first | with_reducible show xoper _ _ _ _ _ _ _ | with_reducible show xdo _ _ _ _ _ _); simp only [zd, zb, zz, RT.at, RT.ty, RT.sub, RT.cut, RT.wr, getS, setT, Ty.dflt, lk, Ty.st, stV, unV, prodTV, Int.reduceToNat, Int.reduceEq, reduceCtorEq, Nat.reduceLT, Nat.reduceEqDiff, Nat.reduceAdd, Nat.reduceMul, Nat.reduceLeDiff, Nat.reduceSub, Nat.reduceBEq, Nat.reduceBNe, Nat.reduceBeqDiff, ↓reduceIte, tab, tL, tI, tB, LI, NI, LLI, tLL, spL, cloneSp, allPat, allSp_pat, allSp_wp, allPSp, List.set_cons_zero, List.getD_cons_zero]) | with_reducible refine xgd_intro (fun hg => ?_) (fun hg => ?_) <;> (try simp only [zh, zi, zz, reduceCtorEq] at hg) | ((with_reducible show (_ : Bool) = true); kernel_rfl) | with_reducible refine And.intro ?_ ?_ | with_reducible refine xrun_nil ?_ | with_reducible refine xtxt_nil ?_ | (refine hK' _ ?_; clear hK'; clear K') | (with_reducible intro hg; try simp only [zh, zi, zz, reduceCtorEq] at hg))) | ((with_reducible show XW _ _ _ _ (.cond _ _ _) _ _); refine XW.cond rfl (fun h => ?_) (fun h => ?_) <;> (try simp only [zh, zi, zz, reduceCtorEq] at h) <;> (try (exfalso; omega))) | ((with_reducible show XW.thn _ _ _ _); dsimp only [XW.thn]) | ((with_reducible show XW.blk _ _ _ _); simp only [XW.blk, ↓reduceIte, Nat.reduceEqDiff, Nat.zero_ne_one, Nat.one_ne_zero, ne_eq]) | ((with_reducible show retS _ _ _ _ _ _ _); simp only [retS, boxS, outsOf, outOf, List.length_cons, List.length_nil, zb, zz, RT.at, RT.ty, RT.sub, RT.cut, RT.wr, getS, setT, Ty.dflt, lk, Ty.st, stV, unV, prodTV, Int.reduceToNat, Int.reduceEq, reduceCtorEq, Nat.reduceLT, Nat.reduceEqDiff, Nat.reduceAdd, Nat.reduceMul, Nat.reduceLeDiff, Nat.reduceSub, Nat.reduceBEq, Nat.reduceBNe, Nat.reduceBeqDiff, ↓reduceIte, tab, tL, tI, tB, LI, NI, LLI, tLL, spL, cloneSp, allPat, allSp_pat, allSp_wp, allPSp, List.set_cons_zero, List.getD_cons_zero])); all_goals (try (first | omega | with_reducible exact Int.le_refl _ | (show (_ : Int) ≤ _; omega)))
    all_goals first
      | exact hk
      | (exfalso; omega)
      | skip
  | succ k =>
    have hkl : k + 1 ≤ lf := by omega
    have hp3 : 2 ^ (lf - k) = 2 ^ (lf - (k + 1)) + 2 ^ (lf - (k + 1)) := by
      rw [show lf - k = (lf - (k + 1)) + 1 by omega, Nat.pow_succ]; omega
    have hp4 : 2 ^ (lf - k) ≤ 2 ^ lf := Nat.pow_le_pow_right (by omega) (by omega)
    have hgl : (G (k + 1)).length ≤ 2 ^ (lf - (k + 1)) := by rw [hGk]; exact len_allP _ _ _
    have hPl : (out ++ P.map (now ++ ·)).length + 2 ^ (lf - (k + 1)) ≤ 1000 := by
      rw [List.length_append, List.length_map]; omega
    have hO2 : AllOK m (((lf - (k + 1) : Nat)) : Int) ((k + 1 : Nat) : Int) (out ++ P.map (now ++ ·)) (now ++ [((k + 1 : Nat) : Int)]) :=
      ⟨by omega, by omega, by omega, by omega, by rw [List.length_append, List.length_singleton, Int.toNat_natCast]; omega, by rw [Int.toNat_natCast]; exact hPl⟩
    have hsub : (lf : Int) - ((k + 1 : Nat) : Int) = ((lf - (k + 1) : Nat) : Int) := by omega
    have hcut : (now ++ [((k + 1 : Nat) : Int)]).take now.length = now := by simp
    have hnl : (now ++ [((k + 1 : Nat) : Int)]).length = now.length + 1 := by simp
    have hres : (out ++ P.map (now ++ ·)) ++ (allP m (lf - (k + 1)) (k + 1)).map (fun y => (now ++ [((k + 1 : Nat) : Int)]) ++ y) = out ++ (P ++ (G (k + 1)).map (((k + 1 : Nat) : Int) :: ·)).map (now ++ ·) := by
      rw [List.map_append, hGk, List.append_assoc, List.map_map]
      congr 2
      refine List.map_congr_left fun y _ => ?_
      simp
    have hdw : downW G (k + 1) = (G (k + 1)).map (((k + 1 : Nat) : Int) :: ·) ++ downW G k := rfl
    repeat' (first | with_reducible refine XW.seq ?_ | with_reducible refine XW.block ?_ | with_reducible refine XW.skip ?_ | with_reducible refine XW.exit ?_ | with_reducible refine XW.ret ?_ | ((first | with_reducible refine XW.region hC (fun K' hK' => ?_) | with_reducible refine XW.text hC hm_ok (by kernel_rfl) (fun K' hK' => ?_)); (try simp only [List.toList_toArray]); repeat' (first | with_reducible refine xrun_cons ?_ | with_reducible refine xtxt_cons ?_ | ((first | with_reducible show xoper _ _ _ _ _ _ _ | with_reducible show xdo _ _ _ _ _ _); simp only [zd, zb, zz, RT.at, RT.ty, RT.sub, RT.cut, RT.wr, getS, setT, Ty.dflt, lk, Ty.st, stV, unV, prodTV, Int.reduceToNat, Int.reduceEq, reduceCtorEq, Nat.reduceLT, Nat.reduceEqDiff, Nat.reduceAdd, Nat.reduceMul, Nat.reduceLeDiff, Nat.reduceSub, Nat.reduceBEq, Nat.reduceBNe, Nat.reduceBeqDiff, ↓reduceIte, tab, tL, tI, tB, LI, NI, LLI, tLL, spL, cloneSp, allPat, allSp_pat, allSp_wp, allPSp, List.set_cons_zero, List.getD_cons_zero, hsub, hcut, hres]) | with_reducible refine xgd_intro (fun hg => ?_) (fun hg => ?_) <;> (try simp only [zh, zi, zz, reduceCtorEq] at hg) | ((with_reducible show (_ : Bool) = true); kernel_rfl) | with_reducible refine And.intro ?_ ?_ | with_reducible refine xrun_nil ?_ | with_reducible refine xtxt_nil ?_ | (refine hK' _ ?_; clear hK'; clear K') | (with_reducible intro hg; try simp only [zh, zi, zz, reduceCtorEq] at hg))) | ((with_reducible show XW _ _ _ _ (.cond _ _ _) _ _); refine XW.cond rfl (fun h => ?_) (fun h => ?_) <;> (try simp only [zh, zi, zz, reduceCtorEq] at h) <;> (try (exfalso; omega))) | ((with_reducible show XW.thn _ _ _ _); dsimp only [XW.thn]) | ((with_reducible show XW.blk _ _ _ _); simp only [XW.blk, ↓reduceIte, Nat.reduceEqDiff, Nat.zero_ne_one, Nat.one_ne_zero, ne_eq]) | ((with_reducible show retS _ _ _ _ _ _ _); simp only [retS, boxS, outsOf, outOf, List.length_cons, List.length_nil, zb, zz, RT.at, RT.ty, RT.sub, RT.cut, RT.wr, getS, setT, Ty.dflt, lk, Ty.st, stV, unV, prodTV, Int.reduceToNat, Int.reduceEq, reduceCtorEq, Nat.reduceLT, Nat.reduceEqDiff, Nat.reduceAdd, Nat.reduceMul, Nat.reduceLeDiff, Nat.reduceSub, Nat.reduceBEq, Nat.reduceBNe, Nat.reduceBeqDiff, ↓reduceIte, tab, tL, tI, tB, LI, NI, LLI, tLL, spL, cloneSp, allPat, allSp_pat, allSp_wp, allPSp, List.set_cons_zero, List.getD_cons_zero, hsub, hcut, hres])); all_goals (try (first | omega | with_reducible exact Int.le_refl _ | (show (_ : Int) ≤ _; omega)))
    all_goals first
      | (exfalso; omega)
      | omega
      | exact hO2
      | (refine ⟨(k, P ++ (G (k + 1)).map (((k + 1 : Nat) : Int) :: ·)), [(0, 0), (1, 1)], ⟨by dsimp only; omega, by dsimp only; rw [List.append_assoc, ← hdw]; exact k2, by dsimp only; rw [List.length_append, List.length_map]; omega⟩, by dsimp only; omega, ?_⟩
         simp only [Fits, distinct, fitEnv, fitB, fitL, fitRoots, fitRT, idsOK, AV.ids, zb, zz, RT.at, RT.ty, RT.sub, RT.cut, RT.wr, getS, setT, Ty.dflt, lk, Ty.st, stV, unV, prodTV, Int.reduceToNat, Int.reduceEq, reduceCtorEq, Nat.reduceLT, Nat.reduceEqDiff, Nat.reduceAdd, Nat.reduceMul, Nat.reduceLeDiff, Nat.reduceSub, Nat.reduceBEq, Nat.reduceBNe, Nat.reduceBeqDiff, ↓reduceIte, tab, tL, tI, tB, LI, NI, LLI, tLL, spL, cloneSp, allPat, allSp_pat, allSp_wp, allPSp, List.set_cons_zero, List.getD_cons_zero]
         refine ⟨(show ((k + 1 : Nat) : Int) - 1 = (k : Int) by omega), ?_⟩
         rw [hnl, show (((now.length + 1 : Nat) : Int) - 1).toNat = now.length by omega]
         exact hcut)
      | skip

theorem all_none : FnSt Tryd.prog 40 (allSp 0) := by
  refine ⟨⟨_, Tryd.func40, by decide, rfl⟩, fun bl vals boxes K hK => ?_⟩
  exfalso
  simp only [allSp] at hK
  split at hK
  · obtain ⟨⟨hO, _⟩, _⟩ := hK
    have h1 := hO.l0
    have h2 := hO.lm
    omega
  · exact hK
theorem allC_ok : ∀ m, FnSt Tryd.prog 40 (allSp m)
  | 0 => all_none
  | m + 1 => all_step m (allC_ok m)

set_option maxRecDepth 10000 in
theorem allP_ok : FnOK Tryd.prog 26 allPSp := by
  have hC : ∀ {w0 : World} {S0 : Nat → Prop}, CtxOK Tryd.prog ⟨19, tab, fun f => lk [] f, fun f => lk [] f, fun f => lk [] f, fun f => lk [] f, fun f => lk [(40, allSp 9)] f, fun f => lk [] f⟩ w0 S0 := ctx_ok trivial trivial trivial trivial ⟨allC_ok 9, trivial⟩
  refine FnOK_of (C := ⟨19, tab, fun f => lk [] f, fun f => lk [] f, fun f => lk [] f, fun f => lk [] f, fun f => lk [(40, allSp 9)] f, fun f => lk [] f⟩) 26 Tryd.f26 _ [2, 3] allPSp Tryd.func26 rfl (by decide) rfl rfl (Nat.le_of_ble_eq_true rfl) fun args K ht hK w0 => ?_
  obtain ⟨n, rfl, ⟨h0, h8⟩, hk⟩ : ∃ n, args = [tI n] ∧ (0 ≤ n ∧ n ≤ 8) ∧ K [tLL (allP 9 n.toNat n.toNat), tI 0] := by
    match args, ht, hK with
    | [⟨t, x⟩], ht, hK =>
      simp only [allPSp, List.map_cons, List.map_nil, List.cons.injEq, and_true] at ht
      subst ht
      exact ⟨x, rfl, hK⟩
    | [], ht, _ => simp [allPSp] at ht
    | _ :: _ :: _, ht, _ => simp [allPSp] at ht
  have hp : 2 ^ n.toNat ≤ 2 ^ 8 := Nat.pow_le_pow_right (by omega) (by omega)
  have hO : AllOK 9 n n [] [] := ⟨h0, by omega, h8, h0, by show 0 + n.toNat ≤ 8; omega, by show 0 + 2 ^ n.toNat ≤ 1000; omega⟩
  have he : (allP 9 n.toNat n.toNat).map (fun x => x) = allP 9 n.toNat n.toNat := List.map_id' _
  repeat' (first | with_reducible refine XW.seq ?_ | with_reducible refine XW.block ?_ | with_reducible refine XW.skip ?_ | with_reducible refine XW.exit ?_ | with_reducible refine XW.ret ?_ | ((first | with_reducible refine XW.region hC (fun K' hK' => ?_) | with_reducible refine XW.text hC hm_ok (by kernel_rfl) (fun K' hK' => ?_)); (try simp only [List.toList_toArray]); repeat' (first | with_reducible refine xrun_cons ?_ | with_reducible refine xtxt_cons ?_ | ((first | with_reducible show xoper _ _ _ _ _ _ _ | with_reducible show xdo _ _ _ _ _ _); simp only [zd, zb, zz, RT.at, RT.ty, RT.sub, RT.cut, RT.wr, getS, setT, Ty.dflt, lk, Ty.st, stV, unV, prodTV, Int.reduceToNat, Int.reduceEq, reduceCtorEq, Nat.reduceLT, Nat.reduceEqDiff, Nat.reduceAdd, Nat.reduceMul, Nat.reduceLeDiff, Nat.reduceSub, Nat.reduceBEq, Nat.reduceBNe, Nat.reduceBeqDiff, ↓reduceIte, tab, tL, tI, tB, LI, NI, LLI, tLL, spL, cloneSp, allPat, allSp_pat, allSp_wp, allPSp, List.set_cons_zero, List.getD_cons_zero, he]) | with_reducible refine xgd_intro (fun hg => ?_) (fun hg => ?_) <;> (try simp only [zh, zi, zz, reduceCtorEq] at hg) | ((with_reducible show (_ : Bool) = true); kernel_rfl) | with_reducible refine And.intro ?_ ?_ | with_reducible refine xrun_nil ?_ | with_reducible refine xtxt_nil ?_ | (refine hK' _ ?_; clear hK'; clear K') | (with_reducible intro hg; try simp only [zh, zi, zz, reduceCtorEq] at hg))) | ((with_reducible show XW _ _ _ _ (.cond _ _ _) _ _); refine XW.cond rfl (fun h => ?_) (fun h => ?_) <;> (try simp only [zh, zi, zz, reduceCtorEq] at h) <;> (try (exfalso; omega))) | ((with_reducible show XW.thn _ _ _ _); dsimp only [XW.thn]) | ((with_reducible show XW.blk _ _ _ _); simp only [XW.blk, ↓reduceIte, Nat.reduceEqDiff, Nat.zero_ne_one, Nat.one_ne_zero, ne_eq]) | ((with_reducible show retK _ _ _ _); simp only [zd, zb, zz, lk, Nat.reduceEqDiff, Nat.reduceBEq, Nat.reduceBeqDiff, reduceCtorEq, ↓reduceIte])); all_goals (try (first | omega | with_reducible exact Int.le_refl _ | (show (_ : Int) ≤ _; omega)))
  all_goals first
    | exact hO
    | exact hk
    | (exfalso; omega)
    | omega
    | (rw [he]
       simp only [zd, zb, zz, RT.at, RT.ty, RT.sub, RT.cut, RT.wr, getS, setT, Ty.dflt, lk, Ty.st, stV, unV, prodTV, Int.reduceToNat, Int.reduceEq, reduceCtorEq, Nat.reduceLT, Nat.reduceEqDiff, Nat.reduceAdd, Nat.reduceMul, Nat.reduceLeDiff, Nat.reduceSub, Nat.reduceBEq, Nat.reduceBNe, Nat.reduceBeqDiff, ↓reduceIte, tab, tL, tI, tB, LI, NI, LLI, tLL, spL, cloneSp, allPat, allSp_pat, allSp_wp, allPSp, List.set_cons_zero, List.getD_cons_zero]
       exact hk)
    | (simp only [zd, zb, zz, RT.at, RT.ty, RT.sub, RT.cut, RT.wr, getS, setT, Ty.dflt, lk, Ty.st, stV, unV, prodTV, Int.reduceToNat, Int.reduceEq, reduceCtorEq, Nat.reduceLT, Nat.reduceEqDiff, Nat.reduceAdd, Nat.reduceMul, Nat.reduceLeDiff, Nat.reduceSub, Nat.reduceBEq, Nat.reduceBNe, Nat.reduceBeqDiff, ↓reduceIte, tab, tL, tI, tB, LI, NI, LLI, tLL, spL, cloneSp, allPat, allSp_pat, allSp_wp, allPSp, List.set_cons_zero, List.getD_cons_zero]
       exact hk)
    | skip

end Fer
