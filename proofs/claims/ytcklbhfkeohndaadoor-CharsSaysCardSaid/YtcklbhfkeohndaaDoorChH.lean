import Derived.Test.YtcklbhfkeohndaaDoorRows
import Derived.Test.YtcklbhfkeohndaaDoorChG
import Derived.Test.YtcklbhfkeohndaaDoorChE
import Derived.Test.YtcklbhfkeohndaaDoorFerS
set_option linter.unusedSimpArgs false
set_option linter.unusedVariables false
set_option maxHeartbeats 8000000
namespace Fer
open Go Go.Proofs

def rcharSp (N : Nat) : Spec := spLL fun p c K => (ValOK p c ∧ c.length < N) ∧ K [tI (chi p c.reverse)]
theorem valOK_rev {p c : List Int} (h : ValOK p c) : ValOK p c.reverse := ⟨h.pt, h.s12, fun j hj => h.m1 j (List.mem_reverse.1 hj), by rw [List.length_reverse]; exact h.ml⟩
def tblE (n : Int) : Int := if n < 0 ∨ 8 < n then 1 else 0
def tblT (n : Nat) : List (List Int) := (allP 9 n n).map fun p => (allP 9 n n).map fun m => chi p m
def tblL (n : Int) : List (List Int) := if tblE n = 0 then tblT n.toNat else []
def tblSp : Spec := ⟨[NI], fun args K => match args with | [⟨.int _, n⟩] => K [tLL (tblL n), tI (tblE n)] | _ => False⟩

set_option maxRecDepth 10000 in
theorem rchar_step (N : Nat) (ih : FnOK Tryd.prog 11 (rcharSp N)) : FnOK Tryd.prog 11 (rcharSp (N + 1)) := by
  have hC : ∀ {w0 : World} {S0 : Nat → Prop}, CtxOK Tryd.prog ⟨50, tab, fun f => lk [(6, rstSp), (11, rcharSp N)] f, fun f => lk [] f, fun f => lk [] f, fun f => lk [] f, fun f => lk [] f, fun f => lk [] f⟩ w0 S0 := ctx_ok ⟨rst_ok, ih, trivial⟩ trivial trivial trivial trivial
  refine FnOK_of (C := ⟨50, tab, fun f => lk [(6, rstSp), (11, rcharSp N)] f, fun f => lk [] f, fun f => lk [] f, fun f => lk [] f, fun f => lk [] f, fun f => lk [] f⟩) 11 Tryd.f11 _ [4] (rcharSp (N + 1)) Tryd.func11 rfl (by decide) rfl rfl (Nat.le_of_ble_eq_true rfl) fun args K ht hK w0 => ?_
  obtain ⟨p, c0, rfl, ⟨hv0, hmN⟩, hk⟩ := at_LL (f := fun p c K => (ValOK p c ∧ c.length < N + 1) ∧ K [tI (chi p c.reverse)]) ht hK
  rcases List.eq_nil_or_concat c0 with rfl | ⟨c, k, rfl⟩
  · rw [List.reverse_nil] at hk
    unfold chi at hk
    repeat' (first | with_reducible refine XW.seq ?_ | with_reducible refine XW.block ?_ | with_reducible refine XW.skip ?_ | with_reducible refine XW.exit ?_ | with_reducible refine XW.ret ?_ | ((first | with_reducible refine XW.region hC (fun K' hK' => ?_) | with_reducible refine XW.text hC hm_ok (by kernel_rfl) (fun K' hK' => ?_)); (try simp only [List.toList_toArray]); repeat' (first | with_reducible refine xrun_cons ?_ | with_reducible refine xtxt_cons ?_ | ((first | with_reducible show xoper _ _ _ _ _ _ _ | with_reducible show xdo _ _ _ _ _ _); simp only [zd, zb, zz, RT.at, RT.ty, RT.sub, RT.cut, RT.wr, getS, setT, Ty.dflt, lk, Ty.st, stV, unV, prodTV, Int.reduceToNat, Int.reduceEq, reduceCtorEq, Nat.reduceLT, Nat.reduceEqDiff, Nat.reduceAdd, Nat.reduceMul, Nat.reduceLeDiff, Nat.reduceSub, Nat.reduceBEq, Nat.reduceBNe, Nat.reduceBeqDiff, ↓reduceIte, tab, tL, tI, tB, LI, NI, LLI, tLL, SPt, LSP, tSP, spL, spLI, spLL, rstSp, rcharSp, valueSp, allPSp, tblSp, XS.freeze, XS.frz, frzE, frz1, XS.kill, List.set_cons_zero, List.getD_cons_zero]) | with_reducible refine xgd_intro (fun hg => ?_) (fun hg => ?_) <;> (try simp only [zh, zi, zz, reduceCtorEq] at hg) | ((with_reducible show (_ : Bool) = true); kernel_rfl) | with_reducible refine And.intro ?_ ?_ | with_reducible refine xrun_nil ?_ | with_reducible refine xtxt_nil ?_ | (refine hK' _ ?_; clear hK'; clear K') | (with_reducible intro hg; try simp only [zh, zi, zz, reduceCtorEq] at hg))) | ((with_reducible show XW _ _ _ _ (.cond _ _ _) _ _); refine XW.cond rfl (fun h => ?_) (fun h => ?_) <;> (try simp only [zh, zi, zz, reduceCtorEq] at h) <;> (try (exfalso; omega))) | ((with_reducible show XW.thn _ _ _ _); dsimp only [XW.thn]) | ((with_reducible show XW.blk _ _ _ _); simp only [XW.blk, ↓reduceIte, Nat.reduceEqDiff, Nat.zero_ne_one, Nat.one_ne_zero, ne_eq]) | ((with_reducible show retK _ _ _ _); simp only [zd, zb, zz, lk, Nat.reduceEqDiff, Nat.reduceBEq, Nat.reduceBeqDiff, reduceCtorEq, ↓reduceIte])); all_goals (try (first | omega | with_reducible exact Int.le_refl _ | (show (_ : Int) ≤ _; omega)))
    all_goals first
      | exact hk
      | (exfalso; omega)
      | skip
  · rw [List.concat_eq_append] at hk hv0 hmN ⊢
    rw [List.reverse_append, List.reverse_singleton, List.singleton_append] at hk
    have hv : ValOK p (k :: c.reverse) := by
      have := valOK_rev hv0
      rwa [List.reverse_append, List.reverse_singleton, List.singleton_append] at this
    have hkk := hv.m1 k List.mem_cons_self
    have hps : PartS p := ⟨hv.pt, by have := hv.s12; omega⟩
    have hcl : (c ++ [k]).length = c.length + 1 := by simp
    have hcl2 : ((c.length + 1 : Nat) : Int) - 1 = (c.length : Int) := by omega
    have hcg : (c ++ [k]).getD c.length 0 = k := by
      rw [List.getD_eq_getElem?_getD, List.getElem?_append_right (Nat.le_refl _), Nat.sub_self]; rfl
    have hct : (c ++ [k]).take c.length = c := by simp
    have hml := hv.ml
    simp only [List.length_cons, List.length_reverse] at hml
    repeat' (first | with_reducible refine XW.seq ?_ | with_reducible refine XW.block ?_ | with_reducible refine XW.skip ?_ | with_reducible refine XW.exit ?_ | with_reducible refine XW.ret ?_ | ((first | with_reducible refine XW.region hC (fun K' hK' => ?_) | with_reducible refine XW.text hC hm_ok (by kernel_rfl) (fun K' hK' => ?_)); (try simp only [List.toList_toArray]); repeat' (first | with_reducible refine xrun_cons ?_ | with_reducible refine xtxt_cons ?_ | ((first | with_reducible show xoper _ _ _ _ _ _ _ | with_reducible show xdo _ _ _ _ _ _); simp only [zd, zb, zz, RT.at, RT.ty, RT.sub, RT.cut, RT.wr, getS, setT, Ty.dflt, lk, Ty.st, stV, unV, prodTV, Int.reduceToNat, Int.reduceEq, reduceCtorEq, Nat.reduceLT, Nat.reduceEqDiff, Nat.reduceAdd, Nat.reduceMul, Nat.reduceLeDiff, Nat.reduceSub, Nat.reduceBEq, Nat.reduceBNe, Nat.reduceBeqDiff, ↓reduceIte, tab, tL, tI, tB, LI, NI, LLI, tLL, SPt, LSP, tSP, spL, spLI, spLL, rstSp, rcharSp, valueSp, allPSp, tblSp, XS.freeze, XS.frz, frzE, frz1, XS.kill, List.set_cons_zero, List.getD_cons_zero, hcl, hcl2, hcg]) | with_reducible refine xgd_intro (fun hg => ?_) (fun hg => ?_) <;> (try simp only [zh, zi, zz, reduceCtorEq] at hg) | ((with_reducible show (_ : Bool) = true); kernel_rfl) | with_reducible refine And.intro ?_ ?_ | with_reducible refine xrun_nil ?_ | with_reducible refine xtxt_nil ?_ | (refine hK' _ ?_; clear hK'; clear K') | (with_reducible intro hg; try simp only [zh, zi, zz, reduceCtorEq] at hg))) | ((with_reducible show XW _ _ _ _ (.cond _ _ _) _ _); refine XW.cond rfl (fun h => ?_) (fun h => ?_) <;> (try simp only [zh, zi, zz, reduceCtorEq] at h) <;> (try (exfalso; omega))) | ((with_reducible show XW.thn _ _ _ _); dsimp only [XW.thn]) | ((with_reducible show XW.blk _ _ _ _); simp only [XW.blk, ↓reduceIte, Nat.reduceEqDiff, Nat.zero_ne_one, Nat.one_ne_zero, ne_eq]) | ((with_reducible show retK _ _ _ _); simp only [zd, zb, zz, lk, Nat.reduceEqDiff, Nat.reduceBEq, Nat.reduceBeqDiff, reduceCtorEq, ↓reduceIte])); all_goals (try (first | omega | with_reducible exact Int.le_refl _ | (show (_ : Int) ≤ _; omega)))
    all_goals first
      | (exfalso; have h0 : (((c.length + 1 : Nat)) : Int) = 0 := by assumption
         omega)
      | omega
      | exact ⟨hps, by omega⟩
      | exact hps
      | skip
    refine XW.freeze (r := 0) (i := 7) (rt := ⟨30, SPt, 1, strips p k, none⟩) ?_ rfl ?_ ?_
    · rfl
    · rfl
    obtain ⟨S, hS⟩ : ∃ S, strips p k = S := ⟨_, rfl⟩
    rw [hS]
    have hSl : S.length ≤ 12 := by
      have h1 := strips_len p k
      have h2 := sumL_pos hv.pt.pos
      have h3 := hv.s12
      rw [hS] at h1
      omega
    obtain ⟨m, hm⟩ : ∃ m, c.reverse = m := ⟨_, rfl⟩
    rw [hm] at hk hv
    refine XW.loop (ι := Nat) (fun j => ⟨[(8, .dat NI (j : Int)), (7, .dat LSP S), (6, .dat NI (psum S m j)), (5, .dat NI (c.length : Int)), (1, .dat LI (c ++ [k]))], [], 0, []⟩)
      (fun j => j ≤ S.length) (fun j => S.length - j) 0 [] (Nat.zero_le _) ?_ fun j hj => ?_
    · simp only [Fits, distinct, fitEnv, fitB, fitL, fitRoots, fitRT, idsOK, AV.ids, zb, zz, RT.at, RT.ty, RT.sub, RT.cut, RT.wr, getS, setT, Ty.dflt, lk, Ty.st, stV, unV, prodTV, Int.reduceToNat, Int.reduceEq, reduceCtorEq, Nat.reduceLT, Nat.reduceEqDiff, Nat.reduceAdd, Nat.reduceMul, Nat.reduceLeDiff, Nat.reduceSub, Nat.reduceBEq, Nat.reduceBNe, Nat.reduceBeqDiff, ↓reduceIte, tab, tL, tI, tB, LI, NI, LLI, tLL, SPt, LSP, tSP, spL, spLI, spLL, rstSp, rcharSp, valueSp, allPSp, tblSp, XS.freeze, XS.frz, frzE, frz1, XS.kill, List.set_cons_zero, List.getD_cons_zero]
      all_goals first | rfl | exact ⟨rfl, rfl⟩ | skip
    have hpb := psum_bound hv (j := j) (by rw [hS]; exact hj)
    rw [hS] at hpb
    by_cases hjl : j < S.length
    · obtain ⟨hs1, hs2⟩ := strip_val hv (j := j) (by rw [hS]; exact hjl)
      rw [hS] at hs1 hs2
      have hpb1 := psum_bound hv (j := j + 1) (by rw [hS]; omega)
      rw [hS] at hpb1
      have hsu := psum_succ (m := m) hjl
      have hvb := val_bound hs1
      have hs1' : ValOK (S.getD j ([], 0)).1 c := by
        have := valOK_rev hs1
        rw [← hm, List.reverse_reverse] at this
        exact this
      have hmd : Int.tmod (S.getD j ([], 0)).2 2 = (S.getD j ([], 0)).2 % 2 := Int.tmod_eq_emod_of_nonneg hs2
      have hsu1 : Int.tmod (S.getD j ([], 0)).2 2 = 1 → psum S m (j + 1) = psum S m j + -(chi (S.getD j ([], 0)).1 m) := fun h => by rw [hsu]; unfold sgB; rw [← hmd, if_pos h]
      have hsu0 : ¬ Int.tmod (S.getD j ([], 0)).2 2 = 1 → psum S m (j + 1) = psum S m j + chi (S.getD j ([], 0)).1 m := fun h => by rw [hsu]; unfold sgB; rw [← hmd, if_neg h]
      repeat' (first | with_reducible refine XW.seq ?_ | with_reducible refine XW.block ?_ | with_reducible refine XW.skip ?_ | with_reducible refine XW.exit ?_ | with_reducible refine XW.ret ?_ | ((first | ((with_reducible show XW _ _ _ _ (.region _ _ true) _ _); refine XW.draw hC hm_ok [0, 1, 2, 3, 4, 5, 6, 7, 8, 9] (by decide +kernel) (fun K' hK' => ?_)) | with_reducible refine XW.region hC (fun K' hK' => ?_) | with_reducible refine XW.text hC hm_ok (by kernel_rfl) (fun K' hK' => ?_)); (try simp only [List.toList_toArray]); repeat' (first | with_reducible refine xrun_cons ?_ | with_reducible refine xtxt_cons ?_ | ((with_reducible show xord _ _ _ (_ :: _) _); refine xord_cons (by simp only [List.getElem?_toArray, List.getElem?_cons_succ, List.getElem?_cons_zero]; rfl) ?_) | ((first | with_reducible show xoper _ _ _ _ _ _ _ | with_reducible show xdo _ _ _ _ _ _); simp only [zd, zb, zz, RT.at, RT.ty, RT.sub, RT.cut, RT.wr, getS, setT, Ty.dflt, lk, Ty.st, stV, unV, prodTV, Int.reduceToNat, Int.reduceEq, reduceCtorEq, Nat.reduceLT, Nat.reduceEqDiff, Nat.reduceAdd, Nat.reduceMul, Nat.reduceLeDiff, Nat.reduceSub, Nat.reduceBEq, Nat.reduceBNe, Nat.reduceBeqDiff, ↓reduceIte, tab, tL, tI, tB, LI, NI, LLI, tLL, SPt, LSP, tSP, spL, spLI, spLL, rstSp, rcharSp, valueSp, allPSp, tblSp, XS.freeze, XS.frz, frzE, frz1, XS.kill, List.set_cons_zero, List.getD_cons_zero, Nat.max_zero, Nat.zero_max, hcl, hct, hm]) | with_reducible refine xgd_intro (fun hg => ?_) (fun hg => ?_) <;> (try simp only [zh, zi, zz, reduceCtorEq] at hg) | ((with_reducible show (_ : Bool) = true); kernel_rfl) | with_reducible refine And.intro ?_ ?_ | with_reducible refine xrun_nil ?_ | with_reducible refine xtxt_nil ?_ | with_reducible refine xord_nil ?_ | (refine hK' _ ?_; clear hK'; clear K') | (with_reducible intro hg; try simp only [zh, zi, zz, reduceCtorEq] at hg))) | ((with_reducible show XW _ _ _ _ (.cond _ _ _) _ _); refine XW.cond rfl (fun h => ?_) (fun h => ?_) <;> (try simp only [zh, zi, zz, reduceCtorEq] at h) <;> (try (exfalso; omega))) | ((with_reducible show XW.thn _ _ _ _); dsimp only [XW.thn]) | ((with_reducible show XW.blk _ _ _ _); simp only [XW.blk, ↓reduceIte, Nat.reduceEqDiff, Nat.zero_ne_one, Nat.one_ne_zero, ne_eq]) | ((with_reducible show retK _ _ _ _); simp only [zd, zb, zz, lk, Nat.reduceEqDiff, Nat.reduceBEq, Nat.reduceBeqDiff, reduceCtorEq, ↓reduceIte])); all_goals (try (first | omega | with_reducible exact Int.le_refl _ | (show (_ : Int) ≤ _; omega)))
      all_goals first
        | (exfalso; omega)
        | omega
        | exact hs1'
        | (show c.length < N; rw [hcl] at hmN; omega)
        | (have e := hsu1 (by assumption); omega)
        | (have e := hsu0 (by assumption); omega)
        | (refine ⟨j + 1, [], by omega, by omega, ?_⟩
           rw [hsu1 (by assumption)]
           simp only [Fits, distinct, fitEnv, fitB, fitL, fitRoots, fitRT, idsOK, AV.ids, zb, zz, RT.at, RT.ty, RT.sub, RT.cut, RT.wr, getS, setT, Ty.dflt, lk, Ty.st, stV, unV, prodTV, Int.reduceToNat, Int.reduceEq, reduceCtorEq, Nat.reduceLT, Nat.reduceEqDiff, Nat.reduceAdd, Nat.reduceMul, Nat.reduceLeDiff, Nat.reduceSub, Nat.reduceBEq, Nat.reduceBNe, Nat.reduceBeqDiff, ↓reduceIte, tab, tL, tI, tB, LI, NI, LLI, tLL, SPt, LSP, tSP, spL, spLI, spLL, rstSp, rcharSp, valueSp, allPSp, tblSp, XS.freeze, XS.frz, frzE, frz1, XS.kill, List.set_cons_zero, List.getD_cons_zero]
           first | done | rfl)
        | (refine ⟨j + 1, [], by omega, by omega, ?_⟩
           rw [hsu0 (by assumption)]
           simp only [Fits, distinct, fitEnv, fitB, fitL, fitRoots, fitRT, idsOK, AV.ids, zb, zz, RT.at, RT.ty, RT.sub, RT.cut, RT.wr, getS, setT, Ty.dflt, lk, Ty.st, stV, unV, prodTV, Int.reduceToNat, Int.reduceEq, reduceCtorEq, Nat.reduceLT, Nat.reduceEqDiff, Nat.reduceAdd, Nat.reduceMul, Nat.reduceLeDiff, Nat.reduceSub, Nat.reduceBEq, Nat.reduceBNe, Nat.reduceBeqDiff, ↓reduceIte, tab, tL, tI, tB, LI, NI, LLI, tLL, SPt, LSP, tSP, spL, spLI, spLL, rstSp, rcharSp, valueSp, allPSp, tblSp, XS.freeze, XS.frz, frzE, frz1, XS.kill, List.set_cons_zero, List.getD_cons_zero]
           first | done | rfl)
        | skip
    · obtain rfl : j = S.length := by omega
      rw [psum_end] at *
      have hk : K [tI (sumL (S.map fun s => sgB s.2 (chi s.1 m)))] := by
        rw [← hS]; exact hk
      repeat' (first | with_reducible refine XW.seq ?_ | with_reducible refine XW.block ?_ | with_reducible refine XW.skip ?_ | with_reducible refine XW.exit ?_ | with_reducible refine XW.ret ?_ | ((first | ((with_reducible show XW _ _ _ _ (.region _ _ true) _ _); refine XW.draw hC hm_ok [0, 1, 2, 3, 4, 5, 6, 7, 8, 9] (by decide +kernel) (fun K' hK' => ?_)) | with_reducible refine XW.region hC (fun K' hK' => ?_) | with_reducible refine XW.text hC hm_ok (by kernel_rfl) (fun K' hK' => ?_)); (try simp only [List.toList_toArray]); repeat' (first | with_reducible refine xrun_cons ?_ | with_reducible refine xtxt_cons ?_ | ((with_reducible show xord _ _ _ (_ :: _) _); refine xord_cons (by simp only [List.getElem?_toArray, List.getElem?_cons_succ, List.getElem?_cons_zero]; rfl) ?_) | ((first | with_reducible show xoper _ _ _ _ _ _ _ | with_reducible show xdo _ _ _ _ _ _); simp only [zd, zb, zz, RT.at, RT.ty, RT.sub, RT.cut, RT.wr, getS, setT, Ty.dflt, lk, Ty.st, stV, unV, prodTV, Int.reduceToNat, Int.reduceEq, reduceCtorEq, Nat.reduceLT, Nat.reduceEqDiff, Nat.reduceAdd, Nat.reduceMul, Nat.reduceLeDiff, Nat.reduceSub, Nat.reduceBEq, Nat.reduceBNe, Nat.reduceBeqDiff, ↓reduceIte, tab, tL, tI, tB, LI, NI, LLI, tLL, SPt, LSP, tSP, spL, spLI, spLL, rstSp, rcharSp, valueSp, allPSp, tblSp, XS.freeze, XS.frz, frzE, frz1, XS.kill, List.set_cons_zero, List.getD_cons_zero]) | with_reducible refine xgd_intro (fun hg => ?_) (fun hg => ?_) <;> (try simp only [zh, zi, zz, reduceCtorEq] at hg) | ((with_reducible show (_ : Bool) = true); kernel_rfl) | with_reducible refine And.intro ?_ ?_ | with_reducible refine xrun_nil ?_ | with_reducible refine xtxt_nil ?_ | with_reducible refine xord_nil ?_ | (refine hK' _ ?_; clear hK'; clear K') | (with_reducible intro hg; try simp only [zh, zi, zz, reduceCtorEq] at hg))) | ((with_reducible show XW _ _ _ _ (.cond _ _ _) _ _); refine XW.cond rfl (fun h => ?_) (fun h => ?_) <;> (try simp only [zh, zi, zz, reduceCtorEq] at h) <;> (try (exfalso; omega))) | ((with_reducible show XW.thn _ _ _ _); dsimp only [XW.thn]) | ((with_reducible show XW.blk _ _ _ _); simp only [XW.blk, ↓reduceIte, Nat.reduceEqDiff, Nat.zero_ne_one, Nat.one_ne_zero, ne_eq]) | ((with_reducible show retK _ _ _ _); simp only [zd, zb, zz, lk, Nat.reduceEqDiff, Nat.reduceBEq, Nat.reduceBeqDiff, reduceCtorEq, ↓reduceIte])); all_goals (try (first | omega | with_reducible exact Int.le_refl _ | (show (_ : Int) ≤ _; omega)))
      all_goals first
        | exact hk
        | (exfalso; omega)
        | skip

theorem rchar_none : FnOK Tryd.prog 11 (rcharSp 0) := by
  refine ⟨⟨_, Tryd.func11, by decide, rfl⟩, fun args K hK => ?_⟩
  exfalso
  simp only [rcharSp, spLL] at hK
  split at hK
  · exact Nat.not_lt_zero _ hK.1.2
  · exact hK
theorem rchar_ok : ∀ N, FnOK Tryd.prog 11 (rcharSp N)
  | 0 => rchar_none
  | N + 1 => rchar_step N (rchar_ok N)

theorem all_val {n : Nat} (h : n ≤ 8) {p m : List Int} (hp : p ∈ allP 9 n n) (hm : m ∈ allP 9 n n) : ValOK p m := by
  obtain ⟨a1, a2, a3⟩ := (mem_allP (by omega)).1 hp
  obtain ⟨b1, b2, b3⟩ := (mem_allP (by omega)).1 hm
  have hl := sumL_pos fun a ha => (b1 a ha).1
  exact ⟨⟨fun a ha => (a1 a ha).1, a2⟩, by omega, fun j hj => by have := b1 j hj; omega, by omega⟩
theorem allP_len {n : Nat} (h : n ≤ 8) : (allP 9 n n).length ≤ 256 := by
  have h1 := len_allP 9 n n
  have h2 : 2 ^ n ≤ 2 ^ 8 := Nat.pow_le_pow_right (by omega) h
  omega

set_option maxRecDepth 10000 in
theorem tbl_ok : FnOK Tryd.prog 14 tblSp := by
  have hC : ∀ {w0 : World} {S0 : Nat → Prop}, CtxOK Tryd.prog ⟨48, tab, fun f => lk [(26, allPSp), (25, valueSp 13)] f, fun f => lk [] f, fun f => lk [] f, fun f => lk [] f, fun f => lk [] f, fun f => lk [] f⟩ w0 S0 := ctx_ok ⟨allP_ok, value_ok 13, trivial⟩ trivial trivial trivial trivial
  refine FnOK_of (C := ⟨48, tab, fun f => lk [(26, allPSp), (25, valueSp 13)] f, fun f => lk [] f, fun f => lk [] f, fun f => lk [] f, fun f => lk [] f, fun f => lk [] f⟩) 14 Tryd.f14 _ [2, 3] tblSp Tryd.func14 rfl (by decide) rfl rfl (Nat.le_of_ble_eq_true rfl) fun args K ht hK w0 => ?_
  obtain ⟨n, rfl, hk⟩ : ∃ n, args = [tI n] ∧ K [tLL (tblL n), tI (tblE n)] := by
    match args, ht, hK with
    | [⟨t, x⟩], ht, hK =>
      simp only [tblSp, List.map_cons, List.map_nil, List.cons.injEq, and_true] at ht
      subst ht
      exact ⟨x, rfl, hK⟩
    | [], ht, _ => simp [tblSp] at ht
    | _ :: _ :: _, ht, _ => simp [tblSp] at ht
  by_cases hn : n < 0 ∨ 8 < n
  · have he : tblE n = 1 := if_pos hn
    have hl : tblL n = [] := if_neg (by rw [he]; decide)
    rw [he, hl] at hk
    repeat' (first | with_reducible refine XW.seq ?_ | with_reducible refine XW.block ?_ | with_reducible refine XW.skip ?_ | with_reducible refine XW.exit ?_ | with_reducible refine XW.ret ?_ | ((first | with_reducible refine XW.region hC (fun K' hK' => ?_) | with_reducible refine XW.text hC hm_ok (by kernel_rfl) (fun K' hK' => ?_)); (try simp only [List.toList_toArray]); repeat' (first | with_reducible refine xrun_cons ?_ | with_reducible refine xtxt_cons ?_ | ((first | with_reducible show xoper _ _ _ _ _ _ _ | with_reducible show xdo _ _ _ _ _ _); simp only [zd, zb, zz, RT.at, RT.ty, RT.sub, RT.cut, RT.wr, getS, setT, Ty.dflt, lk, Ty.st, stV, unV, prodTV, Int.reduceToNat, Int.reduceEq, reduceCtorEq, Nat.reduceLT, Nat.reduceEqDiff, Nat.reduceAdd, Nat.reduceMul, Nat.reduceLeDiff, Nat.reduceSub, Nat.reduceBEq, Nat.reduceBNe, Nat.reduceBeqDiff, ↓reduceIte, tab, tL, tI, tB, LI, NI, LLI, tLL, SPt, LSP, tSP, spL, spLI, spLL, rstSp, rcharSp, valueSp, allPSp, tblSp, XS.freeze, XS.frz, frzE, frz1, XS.kill, List.set_cons_zero, List.getD_cons_zero]) | with_reducible refine xgd_intro (fun hg => ?_) (fun hg => ?_) <;> (try simp only [zh, zi, zz, reduceCtorEq] at hg) | ((with_reducible show (_ : Bool) = true); kernel_rfl) | with_reducible refine And.intro ?_ ?_ | with_reducible refine xrun_nil ?_ | with_reducible refine xtxt_nil ?_ | (refine hK' _ ?_; clear hK'; clear K') | (with_reducible intro hg; try simp only [zh, zi, zz, reduceCtorEq] at hg))) | ((with_reducible show XW _ _ _ _ (.cond _ _ _) _ _); refine XW.cond rfl (fun h => ?_) (fun h => ?_) <;> (try simp only [zh, zi, zz, reduceCtorEq] at h) <;> (try (exfalso; omega))) | ((with_reducible show XW.thn _ _ _ _); dsimp only [XW.thn]) | ((with_reducible show XW.blk _ _ _ _); simp only [XW.blk, ↓reduceIte, Nat.reduceEqDiff, Nat.zero_ne_one, Nat.one_ne_zero, ne_eq]) | ((with_reducible show retK _ _ _ _); simp only [zd, zb, zz, lk, Nat.reduceEqDiff, Nat.reduceBEq, Nat.reduceBeqDiff, reduceCtorEq, ↓reduceIte])); all_goals (try (first | omega | with_reducible exact Int.le_refl _ | (show (_ : Int) ≤ _; omega)))
    all_goals first
      | exact hk
      | (exfalso; omega)
      | omega
      | skip
  have he : tblE n = 0 := if_neg hn
  have hl : tblL n = tblT n.toNat := if_pos he
  rw [he, hl] at hk
  have hal := allP_len (n := n.toNat) (by omega)
  have hav := fun {p m : List Int} (hp : p ∈ allP 9 n.toNat n.toNat) (hm : m ∈ allP 9 n.toNat n.toNat) => all_val (by omega) hp hm
  unfold tblT at hk
  repeat' (first | with_reducible refine XW.seq ?_ | with_reducible refine XW.block ?_ | with_reducible refine XW.skip ?_ | with_reducible refine XW.exit ?_ | with_reducible refine XW.ret ?_ | ((first | with_reducible refine XW.region hC (fun K' hK' => ?_) | with_reducible refine XW.text hC hm_ok (by kernel_rfl) (fun K' hK' => ?_)); (try simp only [List.toList_toArray]); repeat' (first | with_reducible refine xrun_cons ?_ | with_reducible refine xtxt_cons ?_ | ((first | with_reducible show xoper _ _ _ _ _ _ _ | with_reducible show xdo _ _ _ _ _ _); simp only [zd, zb, zz, RT.at, RT.ty, RT.sub, RT.cut, RT.wr, getS, setT, Ty.dflt, lk, Ty.st, stV, unV, prodTV, Int.reduceToNat, Int.reduceEq, reduceCtorEq, Nat.reduceLT, Nat.reduceEqDiff, Nat.reduceAdd, Nat.reduceMul, Nat.reduceLeDiff, Nat.reduceSub, Nat.reduceBEq, Nat.reduceBNe, Nat.reduceBeqDiff, ↓reduceIte, tab, tL, tI, tB, LI, NI, LLI, tLL, SPt, LSP, tSP, spL, spLI, spLL, rstSp, rcharSp, valueSp, allPSp, tblSp, XS.freeze, XS.frz, frzE, frz1, XS.kill, List.set_cons_zero, List.getD_cons_zero]) | with_reducible refine xgd_intro (fun hg => ?_) (fun hg => ?_) <;> (try simp only [zh, zi, zz, reduceCtorEq] at hg) | ((with_reducible show (_ : Bool) = true); kernel_rfl) | with_reducible refine And.intro ?_ ?_ | with_reducible refine xrun_nil ?_ | with_reducible refine xtxt_nil ?_ | (refine hK' _ ?_; clear hK'; clear K') | (with_reducible intro hg; try simp only [zh, zi, zz, reduceCtorEq] at hg))) | ((with_reducible show XW _ _ _ _ (.cond _ _ _) _ _); refine XW.cond rfl (fun h => ?_) (fun h => ?_) <;> (try simp only [zh, zi, zz, reduceCtorEq] at h) <;> (try (exfalso; omega))) | ((with_reducible show XW.thn _ _ _ _); dsimp only [XW.thn]) | ((with_reducible show XW.blk _ _ _ _); simp only [XW.blk, ↓reduceIte, Nat.reduceEqDiff, Nat.zero_ne_one, Nat.one_ne_zero, ne_eq]) | ((with_reducible show retK _ _ _ _); simp only [zd, zb, zz, lk, Nat.reduceEqDiff, Nat.reduceBEq, Nat.reduceBeqDiff, reduceCtorEq, ↓reduceIte])); all_goals (try (first | omega | with_reducible exact Int.le_refl _ | (show (_ : Int) ≤ _; omega)))
  all_goals first
    | (exfalso; omega)
    | omega
    | skip
  refine XW.frz (r := 1) (rt := ⟨22, LI, 1, allP 9 n.toNat n.toNat, none⟩) ?_ rfl ?_
  · rfl
  obtain ⟨A, hA⟩ : ∃ A, allP 9 n.toNat n.toNat = A := ⟨_, rfl⟩
  rw [hA] at hk hal
  simp only [hA] at hav
  rw [hA]
  refine XW.loop (ι := Nat) (fun i => ⟨[(25, .dat NI (i : Int)), (24, .dat NI (A.length : Int)), (23, .dat LLI A), (6, .ref 0 []), (4, .dat LLI A)], [(0, ⟨22, LI, 1, (A.take i).map fun p => A.map fun m => chi p m, none⟩)], 1, []⟩)
    (fun i => i ≤ A.length) (fun i => A.length - i) 0 [(0, 2)] (Nat.zero_le _) ?_ fun i hi => ?_
  · simp only [Fits, distinct, fitEnv, fitB, fitL, fitRoots, fitRT, idsOK, AV.ids, zb, zz, RT.at, RT.ty, RT.sub, RT.cut, RT.wr, getS, setT, Ty.dflt, lk, Ty.st, stV, unV, prodTV, Int.reduceToNat, Int.reduceEq, reduceCtorEq, Nat.reduceLT, Nat.reduceEqDiff, Nat.reduceAdd, Nat.reduceMul, Nat.reduceLeDiff, Nat.reduceSub, Nat.reduceBEq, Nat.reduceBNe, Nat.reduceBeqDiff, ↓reduceIte, tab, tL, tI, tB, LI, NI, LLI, tLL, SPt, LSP, tSP, spL, spLI, spLL, rstSp, rcharSp, valueSp, allPSp, tblSp, XS.freeze, XS.frz, frzE, frz1, XS.kill, List.set_cons_zero, List.getD_cons_zero]
    all_goals first | rfl | exact ⟨rfl, rfl⟩ | exact ⟨rfl, rfl, rfl⟩ | skip
  have htl : ((A.take i).map fun p => A.map fun m => chi p m).length = i := by rw [List.length_map, List.length_take]; omega
  by_cases hil : i < A.length
  rotate_left
  · obtain rfl : i = A.length := by omega
    rw [List.take_length]
    repeat' (first | with_reducible refine XW.seq ?_ | with_reducible refine XW.block ?_ | with_reducible refine XW.skip ?_ | with_reducible refine XW.exit ?_ | with_reducible refine XW.ret ?_ | ((first | with_reducible refine XW.region hC (fun K' hK' => ?_) | with_reducible refine XW.text hC hm_ok (by kernel_rfl) (fun K' hK' => ?_)); (try simp only [List.toList_toArray]); repeat' (first | with_reducible refine xrun_cons ?_ | with_reducible refine xtxt_cons ?_ | ((first | with_reducible show xoper _ _ _ _ _ _ _ | with_reducible show xdo _ _ _ _ _ _); simp only [zd, zb, zz, RT.at, RT.ty, RT.sub, RT.cut, RT.wr, getS, setT, Ty.dflt, lk, Ty.st, stV, unV, prodTV, Int.reduceToNat, Int.reduceEq, reduceCtorEq, Nat.reduceLT, Nat.reduceEqDiff, Nat.reduceAdd, Nat.reduceMul, Nat.reduceLeDiff, Nat.reduceSub, Nat.reduceBEq, Nat.reduceBNe, Nat.reduceBeqDiff, ↓reduceIte, tab, tL, tI, tB, LI, NI, LLI, tLL, SPt, LSP, tSP, spL, spLI, spLL, rstSp, rcharSp, valueSp, allPSp, tblSp, XS.freeze, XS.frz, frzE, frz1, XS.kill, List.set_cons_zero, List.getD_cons_zero]) | with_reducible refine xgd_intro (fun hg => ?_) (fun hg => ?_) <;> (try simp only [zh, zi, zz, reduceCtorEq] at hg) | ((with_reducible show (_ : Bool) = true); kernel_rfl) | with_reducible refine And.intro ?_ ?_ | with_reducible refine xrun_nil ?_ | with_reducible refine xtxt_nil ?_ | (refine hK' _ ?_; clear hK'; clear K') | (with_reducible intro hg; try simp only [zh, zi, zz, reduceCtorEq] at hg))) | ((with_reducible show XW _ _ _ _ (.cond _ _ _) _ _); refine XW.cond rfl (fun h => ?_) (fun h => ?_) <;> (try simp only [zh, zi, zz, reduceCtorEq] at h) <;> (try (exfalso; omega))) | ((with_reducible show XW.thn _ _ _ _); dsimp only [XW.thn]) | ((with_reducible show XW.blk _ _ _ _); simp only [XW.blk, ↓reduceIte, Nat.reduceEqDiff, Nat.zero_ne_one, Nat.one_ne_zero, ne_eq]) | ((with_reducible show retK _ _ _ _); simp only [zd, zb, zz, lk, Nat.reduceEqDiff, Nat.reduceBEq, Nat.reduceBeqDiff, reduceCtorEq, ↓reduceIte])); all_goals (try (first | omega | with_reducible exact Int.le_refl _ | (show (_ : Int) ≤ _; omega)))
    all_goals first
      | exact hk
      | (exfalso; omega)
      | skip
  obtain ⟨pp, hpp⟩ : ∃ pp, A.getD i [] = pp := ⟨_, rfl⟩
  have hpm : pp ∈ A := by rw [← hpp]; exact getD_mem [] hil
  have hts : (A.take (i + 1)).map (fun p => A.map fun m => chi p m) = ((A.take i).map fun p => A.map fun m => chi p m) ++ [A.map fun m => chi pp m] := by
    rw [take_succ_getD [] hil, List.map_append, hpp]; rfl
  repeat' (first | with_reducible refine XW.seq ?_ | with_reducible refine XW.block ?_ | with_reducible refine XW.skip ?_ | with_reducible refine XW.exit ?_ | with_reducible refine XW.ret ?_ | ((first | with_reducible refine XW.region hC (fun K' hK' => ?_) | with_reducible refine XW.text hC hm_ok (by kernel_rfl) (fun K' hK' => ?_)); (try simp only [List.toList_toArray]); repeat' (first | with_reducible refine xrun_cons ?_ | with_reducible refine xtxt_cons ?_ | ((first | with_reducible show xoper _ _ _ _ _ _ _ | with_reducible show xdo _ _ _ _ _ _); simp only [zd, zb, zz, RT.at, RT.ty, RT.sub, RT.cut, RT.wr, getS, setT, Ty.dflt, lk, Ty.st, stV, unV, prodTV, Int.reduceToNat, Int.reduceEq, reduceCtorEq, Nat.reduceLT, Nat.reduceEqDiff, Nat.reduceAdd, Nat.reduceMul, Nat.reduceLeDiff, Nat.reduceSub, Nat.reduceBEq, Nat.reduceBNe, Nat.reduceBeqDiff, ↓reduceIte, tab, tL, tI, tB, LI, NI, LLI, tLL, SPt, LSP, tSP, spL, spLI, spLL, rstSp, rcharSp, valueSp, allPSp, tblSp, XS.freeze, XS.frz, frzE, frz1, XS.kill, List.set_cons_zero, List.getD_cons_zero, hpp]) | with_reducible refine xgd_intro (fun hg => ?_) (fun hg => ?_) <;> (try simp only [zh, zi, zz, reduceCtorEq] at hg) | ((with_reducible show (_ : Bool) = true); kernel_rfl) | with_reducible refine And.intro ?_ ?_ | with_reducible refine xrun_nil ?_ | with_reducible refine xtxt_nil ?_ | (refine hK' _ ?_; clear hK'; clear K') | (with_reducible intro hg; try simp only [zh, zi, zz, reduceCtorEq] at hg))) | ((with_reducible show XW _ _ _ _ (.cond _ _ _) _ _); refine XW.cond rfl (fun h => ?_) (fun h => ?_) <;> (try simp only [zh, zi, zz, reduceCtorEq] at h) <;> (try (exfalso; omega))) | ((with_reducible show XW.thn _ _ _ _); dsimp only [XW.thn]) | ((with_reducible show XW.blk _ _ _ _); simp only [XW.blk, ↓reduceIte, Nat.reduceEqDiff, Nat.zero_ne_one, Nat.one_ne_zero, ne_eq]) | ((with_reducible show retK _ _ _ _); simp only [zd, zb, zz, lk, Nat.reduceEqDiff, Nat.reduceBEq, Nat.reduceBeqDiff, reduceCtorEq, ↓reduceIte])); all_goals (try (first | omega | with_reducible exact Int.le_refl _ | (show (_ : Int) ≤ _; omega)))
  all_goals first
    | (exfalso; omega)
    | omega
    | skip
  refine XW.loop (ι := Nat) (fun j => ⟨[(31, .dat NI (j : Int)), (30, .dat NI (A.length : Int)), (29, .dat LLI A), (9, .ref 1 []), (8, .dat LI pp), (25, .dat NI (i : Int)), (24, .dat NI (A.length : Int)), (23, .dat LLI A), (6, .ref 0 []), (4, .dat LLI A)],
      [(0, ⟨22, LI, 1, (A.take i).map fun p => A.map fun m => chi p m, none⟩), (1, ⟨3, NI, 0, (A.take j).map fun m => chi pp m, none⟩)], 2, []⟩)
    (fun j => j ≤ A.length) (fun j => A.length - j) 0 [(0, 0), (1, 1)] (Nat.zero_le _) ?_ fun j hj => ?_
  · simp only [Fits, distinct, fitEnv, fitB, fitL, fitRoots, fitRT, idsOK, AV.ids, zb, zz, RT.at, RT.ty, RT.sub, RT.cut, RT.wr, getS, setT, Ty.dflt, lk, Ty.st, stV, unV, prodTV, Int.reduceToNat, Int.reduceEq, reduceCtorEq, Nat.reduceLT, Nat.reduceEqDiff, Nat.reduceAdd, Nat.reduceMul, Nat.reduceLeDiff, Nat.reduceSub, Nat.reduceBEq, Nat.reduceBNe, Nat.reduceBeqDiff, ↓reduceIte, tab, tL, tI, tB, LI, NI, LLI, tLL, SPt, LSP, tSP, spL, spLI, spLL, rstSp, rcharSp, valueSp, allPSp, tblSp, XS.freeze, XS.frz, frzE, frz1, XS.kill, List.set_cons_zero, List.getD_cons_zero]
    all_goals first | rfl | exact ⟨rfl, rfl⟩ | exact ⟨rfl, rfl, rfl⟩ | skip
  have hrl : ((A.take j).map fun m => chi pp m).length = j := by rw [List.length_map, List.length_take]; omega
  by_cases hjl : j < A.length
  rotate_left
  · obtain rfl : j = A.length := by omega
    rw [List.take_length]
    repeat' (first | with_reducible refine XW.seq ?_ | with_reducible refine XW.block ?_ | with_reducible refine XW.skip ?_ | with_reducible refine XW.exit ?_ | with_reducible refine XW.ret ?_ | ((first | with_reducible refine XW.region hC (fun K' hK' => ?_) | with_reducible refine XW.text hC hm_ok (by kernel_rfl) (fun K' hK' => ?_)); (try simp only [List.toList_toArray]); repeat' (first | with_reducible refine xrun_cons ?_ | with_reducible refine xtxt_cons ?_ | ((first | with_reducible show xoper _ _ _ _ _ _ _ | with_reducible show xdo _ _ _ _ _ _); simp only [zd, zb, zz, RT.at, RT.ty, RT.sub, RT.cut, RT.wr, getS, setT, Ty.dflt, lk, Ty.st, stV, unV, prodTV, Int.reduceToNat, Int.reduceEq, reduceCtorEq, Nat.reduceLT, Nat.reduceEqDiff, Nat.reduceAdd, Nat.reduceMul, Nat.reduceLeDiff, Nat.reduceSub, Nat.reduceBEq, Nat.reduceBNe, Nat.reduceBeqDiff, ↓reduceIte, tab, tL, tI, tB, LI, NI, LLI, tLL, SPt, LSP, tSP, spL, spLI, spLL, rstSp, rcharSp, valueSp, allPSp, tblSp, XS.freeze, XS.frz, frzE, frz1, XS.kill, List.set_cons_zero, List.getD_cons_zero]) | with_reducible refine xgd_intro (fun hg => ?_) (fun hg => ?_) <;> (try simp only [zh, zi, zz, reduceCtorEq] at hg) | ((with_reducible show (_ : Bool) = true); kernel_rfl) | with_reducible refine And.intro ?_ ?_ | with_reducible refine xrun_nil ?_ | with_reducible refine xtxt_nil ?_ | (refine hK' _ ?_; clear hK'; clear K') | (with_reducible intro hg; try simp only [zh, zi, zz, reduceCtorEq] at hg))) | ((with_reducible show XW _ _ _ _ (.cond _ _ _) _ _); refine XW.cond rfl (fun h => ?_) (fun h => ?_) <;> (try simp only [zh, zi, zz, reduceCtorEq] at h) <;> (try (exfalso; omega))) | ((with_reducible show XW.thn _ _ _ _); dsimp only [XW.thn]) | ((with_reducible show XW.blk _ _ _ _); simp only [XW.blk, ↓reduceIte, Nat.reduceEqDiff, Nat.zero_ne_one, Nat.one_ne_zero, ne_eq]) | ((with_reducible show retK _ _ _ _); simp only [zd, zb, zz, lk, Nat.reduceEqDiff, Nat.reduceBEq, Nat.reduceBeqDiff, reduceCtorEq, ↓reduceIte])); all_goals (try (first | omega | with_reducible exact Int.le_refl _ | (show (_ : Int) ≤ _; omega)))
    all_goals first
      | (exfalso; omega)
      | omega
      | (refine ⟨i + 1, [(0, 3)], by omega, by omega, ?_⟩
         rw [hts]
         simp only [Fits, distinct, fitEnv, fitB, fitL, fitRoots, fitRT, idsOK, AV.ids, zb, zz, RT.at, RT.ty, RT.sub, RT.cut, RT.wr, getS, setT, Ty.dflt, lk, Ty.st, stV, unV, prodTV, Int.reduceToNat, Int.reduceEq, reduceCtorEq, Nat.reduceLT, Nat.reduceEqDiff, Nat.reduceAdd, Nat.reduceMul, Nat.reduceLeDiff, Nat.reduceSub, Nat.reduceBEq, Nat.reduceBNe, Nat.reduceBeqDiff, ↓reduceIte, tab, tL, tI, tB, LI, NI, LLI, tLL, SPt, LSP, tSP, spL, spLI, spLL, rstSp, rcharSp, valueSp, allPSp, tblSp, XS.freeze, XS.frz, frzE, frz1, XS.kill, List.set_cons_zero, List.getD_cons_zero]
         first | done | rfl | exact ⟨rfl, rfl⟩)
      | skip
  obtain ⟨mm, hmm⟩ : ∃ mm, A.getD j [] = mm := ⟨_, rfl⟩
  have hmmm : mm ∈ A := by rw [← hmm]; exact getD_mem [] hjl
  have hrs : (A.take (j + 1)).map (fun m => chi pp m) = ((A.take j).map fun m => chi pp m) ++ [chi pp mm] := by
    rw [take_succ_getD [] hjl, List.map_append, hmm]; rfl
  have hvo := hav hpm hmmm
  have hvl := hvo.ml
  repeat' (first | with_reducible refine XW.seq ?_ | with_reducible refine XW.block ?_ | with_reducible refine XW.skip ?_ | with_reducible refine XW.exit ?_ | with_reducible refine XW.ret ?_ | ((first | with_reducible refine XW.region hC (fun K' hK' => ?_) | with_reducible refine XW.text hC hm_ok (by kernel_rfl) (fun K' hK' => ?_)); (try simp only [List.toList_toArray]); repeat' (first | with_reducible refine xrun_cons ?_ | with_reducible refine xtxt_cons ?_ | ((first | with_reducible show xoper _ _ _ _ _ _ _ | with_reducible show xdo _ _ _ _ _ _); simp only [zd, zb, zz, RT.at, RT.ty, RT.sub, RT.cut, RT.wr, getS, setT, Ty.dflt, lk, Ty.st, stV, unV, prodTV, Int.reduceToNat, Int.reduceEq, reduceCtorEq, Nat.reduceLT, Nat.reduceEqDiff, Nat.reduceAdd, Nat.reduceMul, Nat.reduceLeDiff, Nat.reduceSub, Nat.reduceBEq, Nat.reduceBNe, Nat.reduceBeqDiff, ↓reduceIte, tab, tL, tI, tB, LI, NI, LLI, tLL, SPt, LSP, tSP, spL, spLI, spLL, rstSp, rcharSp, valueSp, allPSp, tblSp, XS.freeze, XS.frz, frzE, frz1, XS.kill, List.set_cons_zero, List.getD_cons_zero, hmm]) | with_reducible refine xgd_intro (fun hg => ?_) (fun hg => ?_) <;> (try simp only [zh, zi, zz, reduceCtorEq] at hg) | ((with_reducible show (_ : Bool) = true); kernel_rfl) | with_reducible refine And.intro ?_ ?_ | with_reducible refine xrun_nil ?_ | with_reducible refine xtxt_nil ?_ | (refine hK' _ ?_; clear hK'; clear K') | (with_reducible intro hg; try simp only [zh, zi, zz, reduceCtorEq] at hg))) | ((with_reducible show XW _ _ _ _ (.cond _ _ _) _ _); refine XW.cond rfl (fun h => ?_) (fun h => ?_) <;> (try simp only [zh, zi, zz, reduceCtorEq] at h) <;> (try (exfalso; omega))) | ((with_reducible show XW.thn _ _ _ _); dsimp only [XW.thn]) | ((with_reducible show XW.blk _ _ _ _); simp only [XW.blk, ↓reduceIte, Nat.reduceEqDiff, Nat.zero_ne_one, Nat.one_ne_zero, ne_eq]) | ((with_reducible show retK _ _ _ _); simp only [zd, zb, zz, lk, Nat.reduceEqDiff, Nat.reduceBEq, Nat.reduceBeqDiff, reduceCtorEq, ↓reduceIte])); all_goals (try (first | omega | with_reducible exact Int.le_refl _ | (show (_ : Int) ≤ _; omega)))
  all_goals first
    | (exfalso; omega)
    | exact hvo
    | omega
    | (refine ⟨j + 1, [(0, 0), (1, 3)], by omega, by omega, ?_⟩
       rw [hrs]
       simp only [Fits, distinct, fitEnv, fitB, fitL, fitRoots, fitRT, idsOK, AV.ids, zb, zz, RT.at, RT.ty, RT.sub, RT.cut, RT.wr, getS, setT, Ty.dflt, lk, Ty.st, stV, unV, prodTV, Int.reduceToNat, Int.reduceEq, reduceCtorEq, Nat.reduceLT, Nat.reduceEqDiff, Nat.reduceAdd, Nat.reduceMul, Nat.reduceLeDiff, Nat.reduceSub, Nat.reduceBEq, Nat.reduceBNe, Nat.reduceBeqDiff, ↓reduceIte, tab, tL, tI, tB, LI, NI, LLI, tLL, SPt, LSP, tSP, spL, spLI, spLL, rstSp, rcharSp, valueSp, allPSp, tblSp, XS.freeze, XS.frz, frzE, frz1, XS.kill, List.set_cons_zero, List.getD_cons_zero]
       first | done | rfl | exact ⟨rfl, rfl⟩)
    | skip

end Fer
