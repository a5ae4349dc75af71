import Derived.Test.YtjocjlohdapmaaaRows
import Derived.Test.YtjocjlohdapmaaaSgA
import Derived.Test.YtjocjlohdapmaaaSignB
set_option linter.unusedSimpArgs false
set_option linter.unusedVariables false
set_option maxHeartbeats 16000000
namespace Fer
open Go Go.Proofs

def ghSp : Spec := ⟨[NI, NI], fun args K => match args with
  | [⟨.int _, i⟩, ⟨.int _, j⟩, ⟨.list _ (.list _ (.int _)), c⟩] => (((0 ≤ i ∧ i < (c.length : Int)) ∧ (0 ≤ j ∧ j < ((c.getD i.toNat []).length : Int))) ∧ (i ≤ 1000 ∧ j ≤ 1000) ∧ (0 ≤ cg c i.toNat j.toNat ∧ cg c i.toNat j.toNat ≤ 1000)) ∧ K [tI (i + j - 2 * cg c i.toNat j.toNat)]
  | _ => False⟩
noncomputable def gyrSp : Spec := spT fun m K => signOK m ∧ K [tLL (ofC (gyT (m.length - 1) (cornr m) 2))]

set_option maxRecDepth 10000 in
theorem gh_ok : FnCl Try.prog 43 (ghSp, [LLI]) := by
  have hC : ∀ {w0 : World} {S0 : Nat → Prop}, CtxOK Try.prog ⟨18, tab, fun f => lk [] f, fun f => lk [] f, fun f => lk [] f, fun f => lk [] f, fun f => lk [] f, fun f => lk [] f⟩ w0 S0 := ctx_ok trivial trivial trivial trivial trivial
  refine FnCl_of (C := ⟨18, tab, fun f => lk [] f, fun f => lk [] f, fun f => lk [] f, fun f => lk [] f, fun f => lk [] f, fun f => lk [] f⟩) 43 Try.f43 _ [5] ghSp [LLI] Try.func43 rfl (by decide) rfl rfl (Nat.le_of_ble_eq_true rfl) fun args caps K ht hc hK w0 => ?_
  obtain ⟨i, j, c, rfl, rfl, ⟨⟨⟨i0, i1⟩, j0, j1⟩, ⟨i2, j2⟩, c0, c1⟩, hk⟩ : ∃ (i j : Int) (c : List (List Int)), args = [tI i, tI j] ∧ caps = [tLL c] ∧ (((0 ≤ i ∧ i < (c.length : Int)) ∧ (0 ≤ j ∧ j < ((c.getD i.toNat []).length : Int))) ∧ (i ≤ 1000 ∧ j ≤ 1000) ∧ (0 ≤ cg c i.toNat j.toNat ∧ cg c i.toNat j.toNat ≤ 1000)) ∧ K [tI (i + j - 2 * cg c i.toNat j.toNat)] := by
    match args, caps, ht, hc, hK with
    | [⟨t1, i⟩, ⟨t2, j⟩], [⟨t3, t⟩], ht, hc, hK =>
      simp only [ghSp, List.map_cons, List.map_nil, List.cons.injEq, and_true] at ht hc
      obtain ⟨rfl, rfl⟩ := ht
      subst hc
      exact ⟨i, j, t, rfl, rfl, hK⟩
    | [], _, ht, _, _ => simp [ghSp] at ht
    | [_], _, ht, _, _ => simp [ghSp] at ht
    | _ :: _ :: _ :: _, _, ht, _, _ => simp [ghSp] at ht
    | _, [], _, hc, _ => simp at hc
    | _, _ :: _ :: _, _, hc, _ => simp at hc
  simp only [XS.initC, envC, env0, List.length_cons, List.length_nil, List.cons_append, List.nil_append]
  have hcg : (c.getD i.toNat []).getD j.toNat 0 = cg c i.toNat j.toNat := rfl
  repeat' (first | with_reducible (first | refine XW.seq ?_ | refine XW.block ?_ | refine XW.skip ?_ | refine XW.exit ?_ | refine XW.ret ?_) | ((first | with_reducible refine XW.region hC (fun K' hK' => ?_) | with_reducible refine XW.text hC hm_ok (by kernel_rfl) (fun K' hK' => ?_)); (try simp only [List.toList_toArray]); repeat' (first | with_reducible (first | refine xrun_cons ?_ | refine xtxt_cons ?_) | (with_reducible (first | show xoper _ _ _ _ _ _ _ | show xdo _ _ _ _ _ _); simp only [zd, zb, zz, RT.at, RT.ty, RT.sub, RT.cut, RT.wr, getS, setT, Ty.dflt, lk, Ty.st, stV, unV, prodTV, Int.reduceToNat, Int.reduceEq, reduceCtorEq, Nat.reduceLT, Nat.reduceEqDiff, Nat.reduceAdd, Nat.reduceMul, Nat.reduceLeDiff, Nat.reduceSub, Nat.reduceBEq, Nat.reduceBNe, Nat.reduceBeqDiff, ↓reduceIte, tab, tL, tI, tB, LI, NI, LLI, tLL, spT, cornrSp, ofCSp, ghSp, gyrSp, List.set_cons_zero, List.getD_cons_zero, hcg]) | with_reducible refine xgd_intro (fun hg => ?_) (fun hg => ?_) <;> (try simp only [zh, zi, zz, reduceCtorEq] at hg) | ((with_reducible show (_ : Bool) = true); kernel_rfl) | with_reducible (first | refine And.intro ?_ ?_ | refine xrun_nil ?_ | refine xtxt_nil ?_) | (refine hK' _ ?_; clear hK'; clear K') | (with_reducible intro hg; try simp only [zh, zi, zz, reduceCtorEq] at hg))) | ((with_reducible show XW _ _ _ _ (.cond _ _ _) _ _); refine XW.cond rfl (fun h => ?_) (fun h => ?_) <;> (try simp only [zh, zi, zz, reduceCtorEq] at h) <;> (try (exfalso; omega))) | ((with_reducible show XW.thn _ _ _ _); dsimp only [XW.thn]) | ((with_reducible show XW.blk _ _ _ _); simp only [XW.blk, ↓reduceIte, Nat.reduceEqDiff, Nat.zero_ne_one, Nat.one_ne_zero, ne_eq]) | ((with_reducible show retK _ _ _ _); simp only [zd, zb, zz, lk, Nat.reduceEqDiff, Nat.reduceBEq, Nat.reduceBeqDiff, reduceCtorEq, ↓reduceIte])); all_goals (try (first | omega | with_reducible exact Int.le_refl _ | (show (_ : Int) ≤ _; omega)))
  all_goals first
    | exact hk
    | omega
    | skip

set_option maxRecDepth 10000 in
theorem gyrated_ok : FnOK Try.prog 16 gyrSp := by
  have hC : ∀ {w0 : World} {S0 : Nat → Prop}, CtxOK Try.prog ⟨91, tab, fun f => lk [(42, cornrSp), (44, ofCSp)] f, fun f => lk [] f, fun f => lk [] f, fun f => lk [(43, (ghSp, [LLI]))] f, fun f => lk [] f, fun f => lk [] f⟩ w0 S0 := ctx_ok ⟨corners_ok, ofCorners_ok, trivial⟩ trivial trivial ⟨gh_ok, trivial⟩ trivial
  refine FnOK_of (C := ⟨91, tab, fun f => lk [(42, cornrSp), (44, ofCSp)] f, fun f => lk [] f, fun f => lk [] f, fun f => lk [(43, (ghSp, [LLI]))] f, fun f => lk [] f, fun f => lk [] f⟩) 16 Try.f16 _ [2] gyrSp Try.func16 rfl (by decide) rfl rfl (Nat.le_of_ble_eq_true rfl) fun args K ht hK w0 => ?_
  obtain ⟨m, rfl, hs, hk⟩ := at_T ht hK
  have n1 := hs.1
  have n7 := hs.2.1
  have h0 := gyok_start hs
  repeat' (first | with_reducible (first | refine XW.seq ?_ | refine XW.block ?_ | refine XW.skip ?_ | refine XW.exit ?_ | refine XW.ret ?_) | ((first | with_reducible refine XW.region hC (fun K' hK' => ?_) | with_reducible refine XW.text hC hm_ok (by kernel_rfl) (fun K' hK' => ?_)); (try simp only [List.toList_toArray]); repeat' (first | with_reducible (first | refine xrun_cons ?_ | refine xtxt_cons ?_) | (with_reducible (first | show xoper _ _ _ _ _ _ _ | show xdo _ _ _ _ _ _); simp only [zd, zb, zz, RT.at, RT.ty, RT.sub, RT.cut, RT.wr, getS, setT, Ty.dflt, lk, Ty.st, stV, unV, prodTV, Int.reduceToNat, Int.reduceEq, reduceCtorEq, Nat.reduceLT, Nat.reduceEqDiff, Nat.reduceAdd, Nat.reduceMul, Nat.reduceLeDiff, Nat.reduceSub, Nat.reduceBEq, Nat.reduceBNe, Nat.reduceBeqDiff, ↓reduceIte, tab, tL, tI, tB, LI, NI, LLI, tLL, spT, cornrSp, ofCSp, ghSp, gyrSp, List.set_cons_zero, List.getD_cons_zero]) | with_reducible refine xgd_intro (fun hg => ?_) (fun hg => ?_) <;> (try simp only [zh, zi, zz, reduceCtorEq] at hg) | ((with_reducible show (_ : Bool) = true); kernel_rfl) | with_reducible (first | refine And.intro ?_ ?_ | refine xrun_nil ?_ | refine xtxt_nil ?_) | (refine hK' _ ?_; clear hK'; clear K') | (with_reducible intro hg; try simp only [zh, zi, zz, reduceCtorEq] at hg))) | ((with_reducible show XW _ _ _ _ (.cond _ _ _) _ _); refine XW.cond rfl (fun h => ?_) (fun h => ?_) <;> (try simp only [zh, zi, zz, reduceCtorEq] at h) <;> (try (exfalso; omega))) | ((with_reducible show XW.thn _ _ _ _); dsimp only [XW.thn]) | ((with_reducible show XW.blk _ _ _ _); simp only [XW.blk, ↓reduceIte, Nat.reduceEqDiff, Nat.zero_ne_one, Nat.one_ne_zero, ne_eq]) | ((with_reducible show retK _ _ _ _); simp only [zd, zb, zz, lk, Nat.reduceEqDiff, Nat.reduceBEq, Nat.reduceBeqDiff, reduceCtorEq, ↓reduceIte])); all_goals (try (first | omega | with_reducible exact Int.le_refl _ | (show (_ : Int) ≤ _; omega)))
  all_goals try first | exact hs | omega
  refine XW.loop (ι := Nat) (fun p => ⟨[(6, .dat NI (p : Int)), (5, .clo 43 [0]), (3, .ptr 0 [0]), (4, .dat NI (m.length : Int))], [(0, ⟨33, LLI, 2, [gyT (m.length - 1) (cornr m) p], none⟩)], 1, []⟩)
    (fun p => p ≤ 2) (fun p => 2 - p) 0 [(0, 2)] (Nat.zero_le _) ?_ fun p hp => ?_
  · simp only [Fits, distinct, fitEnv, fitB, fitL, fitRoots, fitRT, idsOK, AV.ids, zb, zz, RT.at, RT.ty, RT.sub, RT.cut, RT.wr, getS, setT, Ty.dflt, lk, Ty.st, stV, unV, prodTV, Int.reduceToNat, Int.reduceEq, reduceCtorEq, Nat.reduceLT, Nat.reduceEqDiff, Nat.reduceAdd, Nat.reduceMul, Nat.reduceLeDiff, Nat.reduceSub, Nat.reduceBEq, Nat.reduceBNe, Nat.reduceBeqDiff, ↓reduceIte, tab, tL, tI, tB, LI, NI, LLI, tLL, spT, cornrSp, ofCSp, ghSp, gyrSp, List.set_cons_zero, List.getD_cons_zero]
    all_goals first | rfl | exact ⟨rfl, rfl⟩ | skip
  by_cases hp2 : p < 2
  rotate_left
  · obtain rfl : p = 2 := by omega
    repeat' (first | with_reducible (first | refine XW.seq ?_ | refine XW.block ?_ | refine XW.skip ?_ | refine XW.exit ?_ | refine XW.ret ?_) | ((first | with_reducible refine XW.region hC (fun K' hK' => ?_) | with_reducible refine XW.text hC hm_ok (by kernel_rfl) (fun K' hK' => ?_)); (try simp only [List.toList_toArray]); repeat' (first | with_reducible (first | refine xrun_cons ?_ | refine xtxt_cons ?_) | (with_reducible (first | show xoper _ _ _ _ _ _ _ | show xdo _ _ _ _ _ _); simp only [zd, zb, zz, RT.at, RT.ty, RT.sub, RT.cut, RT.wr, getS, setT, Ty.dflt, lk, Ty.st, stV, unV, prodTV, Int.reduceToNat, Int.reduceEq, reduceCtorEq, Nat.reduceLT, Nat.reduceEqDiff, Nat.reduceAdd, Nat.reduceMul, Nat.reduceLeDiff, Nat.reduceSub, Nat.reduceBEq, Nat.reduceBNe, Nat.reduceBeqDiff, ↓reduceIte, tab, tL, tI, tB, LI, NI, LLI, tLL, spT, cornrSp, ofCSp, ghSp, gyrSp, List.set_cons_zero, List.getD_cons_zero]) | with_reducible refine xgd_intro (fun hg => ?_) (fun hg => ?_) <;> (try simp only [zh, zi, zz, reduceCtorEq] at hg) | ((with_reducible show (_ : Bool) = true); kernel_rfl) | with_reducible (first | refine And.intro ?_ ?_ | refine xrun_nil ?_ | refine xtxt_nil ?_) | (refine hK' _ ?_; clear hK'; clear K') | (with_reducible intro hg; try simp only [zh, zi, zz, reduceCtorEq] at hg))) | ((with_reducible show XW _ _ _ _ (.cond _ _ _) _ _); refine XW.cond rfl (fun h => ?_) (fun h => ?_) <;> (try simp only [zh, zi, zz, reduceCtorEq] at h) <;> (try (exfalso; omega))) | ((with_reducible show XW.thn _ _ _ _); dsimp only [XW.thn]) | ((with_reducible show XW.blk _ _ _ _); simp only [XW.blk, ↓reduceIte, Nat.reduceEqDiff, Nat.zero_ne_one, Nat.one_ne_zero, ne_eq]) | ((with_reducible show retK _ _ _ _); simp only [zd, zb, zz, lk, Nat.reduceEqDiff, Nat.reduceBEq, Nat.reduceBeqDiff, reduceCtorEq, ↓reduceIte])); all_goals (try (first | omega | with_reducible exact Int.le_refl _ | (show (_ : Int) ≤ _; omega)))
    all_goals first
      | exact hk
      | omega
      | skip
  have hP := gyok_T h0 n1 (p := p)
  have hPs : gyT (m.length - 1) (cornr m) (p + 1) = gyP p (m.length - 1) (gyT (m.length - 1) (cornr m) p) (m.length - 1) := rfl
  generalize hcp : gyT (m.length - 1) (cornr m) p = cp0 at *
  repeat' (first | with_reducible (first | refine XW.seq ?_ | refine XW.block ?_ | refine XW.skip ?_ | refine XW.exit ?_ | refine XW.ret ?_) | ((first | with_reducible refine XW.region hC (fun K' hK' => ?_) | with_reducible refine XW.text hC hm_ok (by kernel_rfl) (fun K' hK' => ?_)); (try simp only [List.toList_toArray]); repeat' (first | with_reducible (first | refine xrun_cons ?_ | refine xtxt_cons ?_) | (with_reducible (first | show xoper _ _ _ _ _ _ _ | show xdo _ _ _ _ _ _); simp only [zd, zb, zz, RT.at, RT.ty, RT.sub, RT.cut, RT.wr, getS, setT, Ty.dflt, lk, Ty.st, stV, unV, prodTV, Int.reduceToNat, Int.reduceEq, reduceCtorEq, Nat.reduceLT, Nat.reduceEqDiff, Nat.reduceAdd, Nat.reduceMul, Nat.reduceLeDiff, Nat.reduceSub, Nat.reduceBEq, Nat.reduceBNe, Nat.reduceBeqDiff, ↓reduceIte, tab, tL, tI, tB, LI, NI, LLI, tLL, spT, cornrSp, ofCSp, ghSp, gyrSp, List.set_cons_zero, List.getD_cons_zero]) | with_reducible refine xgd_intro (fun hg => ?_) (fun hg => ?_) <;> (try simp only [zh, zi, zz, reduceCtorEq] at hg) | ((with_reducible show (_ : Bool) = true); kernel_rfl) | with_reducible (first | refine And.intro ?_ ?_ | refine xrun_nil ?_ | refine xtxt_nil ?_) | (refine hK' _ ?_; clear hK'; clear K') | (with_reducible intro hg; try simp only [zh, zi, zz, reduceCtorEq] at hg))) | ((with_reducible show XW _ _ _ _ (.cond _ _ _) _ _); refine XW.cond rfl (fun h => ?_) (fun h => ?_) <;> (try simp only [zh, zi, zz, reduceCtorEq] at h) <;> (try (exfalso; omega))) | ((with_reducible show XW.thn _ _ _ _); dsimp only [XW.thn]) | ((with_reducible show XW.blk _ _ _ _); simp only [XW.blk, ↓reduceIte, Nat.reduceEqDiff, Nat.zero_ne_one, Nat.one_ne_zero, ne_eq]) | ((with_reducible show retK _ _ _ _); simp only [zd, zb, zz, lk, Nat.reduceEqDiff, Nat.reduceBEq, Nat.reduceBeqDiff, reduceCtorEq, ↓reduceIte])); all_goals (try (first | omega | with_reducible exact Int.le_refl _ | (show (_ : Int) ≤ _; omega)))
  all_goals try omega
  refine XW.loop (ι := Nat) (fun i => ⟨[(7, .dat NI ((i : Int) + 1)), (6, .dat NI (p : Int)), (5, .clo 43 [0]), (3, .ptr 0 [0]), (4, .dat NI (m.length : Int))], [(0, ⟨33, LLI, 2, [gyP p (m.length - 1) cp0 i], none⟩)], 1, []⟩)
    (fun i => i ≤ m.length - 1) (fun i => m.length - 1 - i) 0 [(0, 0)] (Nat.zero_le _) ?_ fun i hi => ?_
  · simp only [Fits, distinct, fitEnv, fitB, fitL, fitRoots, fitRT, idsOK, AV.ids, zb, zz, RT.at, RT.ty, RT.sub, RT.cut, RT.wr, getS, setT, Ty.dflt, lk, Ty.st, stV, unV, prodTV, Int.reduceToNat, Int.reduceEq, reduceCtorEq, Nat.reduceLT, Nat.reduceEqDiff, Nat.reduceAdd, Nat.reduceMul, Nat.reduceLeDiff, Nat.reduceSub, Nat.reduceBEq, Nat.reduceBNe, Nat.reduceBeqDiff, ↓reduceIte, tab, tL, tI, tB, LI, NI, LLI, tLL, spT, cornrSp, ofCSp, ghSp, gyrSp, List.set_cons_zero, List.getD_cons_zero]
    all_goals first | rfl | exact ⟨rfl, rfl⟩ | skip
  by_cases hin : i < m.length - 1
  rotate_left
  · obtain rfl : i = m.length - 1 := by omega
    rw [← hPs]
    repeat' (first | with_reducible (first | refine XW.seq ?_ | refine XW.block ?_ | refine XW.skip ?_ | refine XW.exit ?_ | refine XW.ret ?_) | ((first | with_reducible refine XW.region hC (fun K' hK' => ?_) | with_reducible refine XW.text hC hm_ok (by kernel_rfl) (fun K' hK' => ?_)); (try simp only [List.toList_toArray]); repeat' (first | with_reducible (first | refine xrun_cons ?_ | refine xtxt_cons ?_) | (with_reducible (first | show xoper _ _ _ _ _ _ _ | show xdo _ _ _ _ _ _); simp only [zd, zb, zz, RT.at, RT.ty, RT.sub, RT.cut, RT.wr, getS, setT, Ty.dflt, lk, Ty.st, stV, unV, prodTV, Int.reduceToNat, Int.reduceEq, reduceCtorEq, Nat.reduceLT, Nat.reduceEqDiff, Nat.reduceAdd, Nat.reduceMul, Nat.reduceLeDiff, Nat.reduceSub, Nat.reduceBEq, Nat.reduceBNe, Nat.reduceBeqDiff, ↓reduceIte, tab, tL, tI, tB, LI, NI, LLI, tLL, spT, cornrSp, ofCSp, ghSp, gyrSp, List.set_cons_zero, List.getD_cons_zero]) | with_reducible refine xgd_intro (fun hg => ?_) (fun hg => ?_) <;> (try simp only [zh, zi, zz, reduceCtorEq] at hg) | ((with_reducible show (_ : Bool) = true); kernel_rfl) | with_reducible (first | refine And.intro ?_ ?_ | refine xrun_nil ?_ | refine xtxt_nil ?_) | (refine hK' _ ?_; clear hK'; clear K') | (with_reducible intro hg; try simp only [zh, zi, zz, reduceCtorEq] at hg))) | ((with_reducible show XW _ _ _ _ (.cond _ _ _) _ _); refine XW.cond rfl (fun h => ?_) (fun h => ?_) <;> (try simp only [zh, zi, zz, reduceCtorEq] at h) <;> (try (exfalso; omega))) | ((with_reducible show XW.thn _ _ _ _); dsimp only [XW.thn]) | ((with_reducible show XW.blk _ _ _ _); simp only [XW.blk, ↓reduceIte, Nat.reduceEqDiff, Nat.zero_ne_one, Nat.one_ne_zero, ne_eq]) | ((with_reducible show retK _ _ _ _); simp only [zd, zb, zz, lk, Nat.reduceEqDiff, Nat.reduceBEq, Nat.reduceBeqDiff, reduceCtorEq, ↓reduceIte])); all_goals (try (first | omega | with_reducible exact Int.le_refl _ | (show (_ : Int) ≤ _; omega)))
    all_goals first
      | omega
      | (refine ⟨p + 1, [(0, 0)], by omega, by omega, ?_⟩
         simp only [Fits, distinct, fitEnv, fitB, fitL, fitRoots, fitRT, idsOK, AV.ids, zb, zz, RT.at, RT.ty, RT.sub, RT.cut, RT.wr, getS, setT, Ty.dflt, lk, Ty.st, stV, unV, prodTV, Int.reduceToNat, Int.reduceEq, reduceCtorEq, Nat.reduceLT, Nat.reduceEqDiff, Nat.reduceAdd, Nat.reduceMul, Nat.reduceLeDiff, Nat.reduceSub, Nat.reduceBEq, Nat.reduceBNe, Nat.reduceBeqDiff, ↓reduceIte, tab, tL, tI, tB, LI, NI, LLI, tLL, spT, cornrSp, ofCSp, ghSp, gyrSp, List.set_cons_zero, List.getD_cons_zero]
         all_goals first | rfl | exact ⟨rfl, rfl⟩ | (show (_ : Int) = _; omega))
      | skip
  have hI := gyok_P (p := p) hP n1 (k := i) (by omega)
  have hIs : gyP p (m.length - 1) cp0 (i + 1) = gyR p (gyP p (m.length - 1) cp0 i) i (m.length - 1) := rfl
  generalize hci : gyP p (m.length - 1) cp0 i = ci0 at *
  repeat' (first | with_reducible (first | refine XW.seq ?_ | refine XW.block ?_ | refine XW.skip ?_ | refine XW.exit ?_ | refine XW.ret ?_) | ((first | with_reducible refine XW.region hC (fun K' hK' => ?_) | with_reducible refine XW.text hC hm_ok (by kernel_rfl) (fun K' hK' => ?_)); (try simp only [List.toList_toArray]); repeat' (first | with_reducible (first | refine xrun_cons ?_ | refine xtxt_cons ?_) | (with_reducible (first | show xoper _ _ _ _ _ _ _ | show xdo _ _ _ _ _ _); simp only [zd, zb, zz, RT.at, RT.ty, RT.sub, RT.cut, RT.wr, getS, setT, Ty.dflt, lk, Ty.st, stV, unV, prodTV, Int.reduceToNat, Int.reduceEq, reduceCtorEq, Nat.reduceLT, Nat.reduceEqDiff, Nat.reduceAdd, Nat.reduceMul, Nat.reduceLeDiff, Nat.reduceSub, Nat.reduceBEq, Nat.reduceBNe, Nat.reduceBeqDiff, ↓reduceIte, tab, tL, tI, tB, LI, NI, LLI, tLL, spT, cornrSp, ofCSp, ghSp, gyrSp, List.set_cons_zero, List.getD_cons_zero]) | with_reducible refine xgd_intro (fun hg => ?_) (fun hg => ?_) <;> (try simp only [zh, zi, zz, reduceCtorEq] at hg) | ((with_reducible show (_ : Bool) = true); kernel_rfl) | with_reducible (first | refine And.intro ?_ ?_ | refine xrun_nil ?_ | refine xtxt_nil ?_) | (refine hK' _ ?_; clear hK'; clear K') | (with_reducible intro hg; try simp only [zh, zi, zz, reduceCtorEq] at hg))) | ((with_reducible show XW _ _ _ _ (.cond _ _ _) _ _); refine XW.cond rfl (fun h => ?_) (fun h => ?_) <;> (try simp only [zh, zi, zz, reduceCtorEq] at h) <;> (try (exfalso; omega))) | ((with_reducible show XW.thn _ _ _ _); dsimp only [XW.thn]) | ((with_reducible show XW.blk _ _ _ _); simp only [XW.blk, ↓reduceIte, Nat.reduceEqDiff, Nat.zero_ne_one, Nat.one_ne_zero, ne_eq]) | ((with_reducible show retK _ _ _ _); simp only [zd, zb, zz, lk, Nat.reduceEqDiff, Nat.reduceBEq, Nat.reduceBeqDiff, reduceCtorEq, ↓reduceIte])); all_goals (try (first | omega | with_reducible exact Int.le_refl _ | (show (_ : Int) ≤ _; omega)))
  all_goals try omega
  refine XW.loop (ι := Nat) (fun j => ⟨[(8, .dat NI ((j : Int) + 1)), (7, .dat NI ((i : Int) + 1)), (6, .dat NI (p : Int)), (5, .clo 43 [0]), (3, .ptr 0 [0]), (4, .dat NI (m.length : Int))], [(0, ⟨33, LLI, 2, [gyR p ci0 i j], none⟩)], 1, []⟩)
    (fun j => j ≤ m.length - 1) (fun j => m.length - 1 - j) 0 [(0, 0)] (Nat.zero_le _) ?_ fun j hj => ?_
  · simp only [Fits, distinct, fitEnv, fitB, fitL, fitRoots, fitRT, idsOK, AV.ids, zb, zz, RT.at, RT.ty, RT.sub, RT.cut, RT.wr, getS, setT, Ty.dflt, lk, Ty.st, stV, unV, prodTV, Int.reduceToNat, Int.reduceEq, reduceCtorEq, Nat.reduceLT, Nat.reduceEqDiff, Nat.reduceAdd, Nat.reduceMul, Nat.reduceLeDiff, Nat.reduceSub, Nat.reduceBEq, Nat.reduceBNe, Nat.reduceBeqDiff, ↓reduceIte, tab, tL, tI, tB, LI, NI, LLI, tLL, spT, cornrSp, ofCSp, ghSp, gyrSp, List.set_cons_zero, List.getD_cons_zero]
    all_goals first | rfl | exact ⟨rfl, rfl⟩ | skip
  by_cases hjn : j < m.length - 1
  rotate_left
  · obtain rfl : j = m.length - 1 := by omega
    rw [← hIs]
    repeat' (first | with_reducible (first | refine XW.seq ?_ | refine XW.block ?_ | refine XW.skip ?_ | refine XW.exit ?_ | refine XW.ret ?_) | ((first | with_reducible refine XW.region hC (fun K' hK' => ?_) | with_reducible refine XW.text hC hm_ok (by kernel_rfl) (fun K' hK' => ?_)); (try simp only [List.toList_toArray]); repeat' (first | with_reducible (first | refine xrun_cons ?_ | refine xtxt_cons ?_) | (with_reducible (first | show xoper _ _ _ _ _ _ _ | show xdo _ _ _ _ _ _); simp only [zd, zb, zz, RT.at, RT.ty, RT.sub, RT.cut, RT.wr, getS, setT, Ty.dflt, lk, Ty.st, stV, unV, prodTV, Int.reduceToNat, Int.reduceEq, reduceCtorEq, Nat.reduceLT, Nat.reduceEqDiff, Nat.reduceAdd, Nat.reduceMul, Nat.reduceLeDiff, Nat.reduceSub, Nat.reduceBEq, Nat.reduceBNe, Nat.reduceBeqDiff, ↓reduceIte, tab, tL, tI, tB, LI, NI, LLI, tLL, spT, cornrSp, ofCSp, ghSp, gyrSp, List.set_cons_zero, List.getD_cons_zero]) | with_reducible refine xgd_intro (fun hg => ?_) (fun hg => ?_) <;> (try simp only [zh, zi, zz, reduceCtorEq] at hg) | ((with_reducible show (_ : Bool) = true); kernel_rfl) | with_reducible (first | refine And.intro ?_ ?_ | refine xrun_nil ?_ | refine xtxt_nil ?_) | (refine hK' _ ?_; clear hK'; clear K') | (with_reducible intro hg; try simp only [zh, zi, zz, reduceCtorEq] at hg))) | ((with_reducible show XW _ _ _ _ (.cond _ _ _) _ _); refine XW.cond rfl (fun h => ?_) (fun h => ?_) <;> (try simp only [zh, zi, zz, reduceCtorEq] at h) <;> (try (exfalso; omega))) | ((with_reducible show XW.thn _ _ _ _); dsimp only [XW.thn]) | ((with_reducible show XW.blk _ _ _ _); simp only [XW.blk, ↓reduceIte, Nat.reduceEqDiff, Nat.zero_ne_one, Nat.one_ne_zero, ne_eq]) | ((with_reducible show retK _ _ _ _); simp only [zd, zb, zz, lk, Nat.reduceEqDiff, Nat.reduceBEq, Nat.reduceBeqDiff, reduceCtorEq, ↓reduceIte])); all_goals (try (first | omega | with_reducible exact Int.le_refl _ | (show (_ : Int) ≤ _; omega)))
    all_goals first
      | omega
      | (refine ⟨i + 1, [(0, 0)], by omega, by omega, ?_⟩
         simp only [Fits, distinct, fitEnv, fitB, fitL, fitRoots, fitRT, idsOK, AV.ids, zb, zz, RT.at, RT.ty, RT.sub, RT.cut, RT.wr, getS, setT, Ty.dflt, lk, Ty.st, stV, unV, prodTV, Int.reduceToNat, Int.reduceEq, reduceCtorEq, Nat.reduceLT, Nat.reduceEqDiff, Nat.reduceAdd, Nat.reduceMul, Nat.reduceLeDiff, Nat.reduceSub, Nat.reduceBEq, Nat.reduceBNe, Nat.reduceBeqDiff, ↓reduceIte, tab, tL, tI, tB, LI, NI, LLI, tLL, spT, cornrSp, ofCSp, ghSp, gyrSp, List.set_cons_zero, List.getD_cons_zero]
         all_goals first | rfl | exact ⟨rfl, rfl⟩ | (show (_ : Int) = _; omega))
      | skip
  have hJ := gyok_R (p := p) hI (i := i) (by omega) (k := j) (by omega)
  have hJs : gyR p ci0 i (j + 1) = gone1 p (gyR p ci0 i j) i j := rfl
  unfold gone1 at hJs
  generalize hcj : gyR p ci0 i j = c at *
  have hpar : ((i : Int) + 1 + ((j : Int) + 1)).tmod 2 = (p : Int) ↔ (i + j) % 2 = p := by
    rw [show ((i : Int) + 1 + ((j : Int) + 1)).tmod 2 = (((i + 1 + (j + 1)) % 2 : Nat) : Int) from rfl]
    omega
  have ei0 : ((i : Int) + 1 - 1).toNat = i := by omega
  have ei1 : ((i : Int) + 1).toNat = i + 1 := by omega
  have ei2 : ((i : Int) + 1 + 1).toNat = i + 1 + 1 := by omega
  have ej0 : ((j : Int) + 1 - 1).toNat = j := by omega
  have ej1 : ((j : Int) + 1).toNat = j + 1 := by omega
  have ej2 : ((j : Int) + 1 + 1).toNat = j + 1 + 1 := by omega
  have hcl := hJ.len
  have r0 := hJ.row i (by omega)
  have r1 := hJ.row (i + 1) (by omega)
  have r2 := hJ.row (i + 1 + 1) (by omega)
  have g1 := cg_rng hJ (a := i) (b := j + 1) (by omega) (by omega)
  have g2 := cg_rng hJ (a := i + 1 + 1) (b := j + 1) (by omega) (by omega)
  have g3 := cg_rng hJ (a := i + 1) (b := j) (by omega) (by omega)
  have g4 := cg_rng hJ (a := i + 1) (b := j + 1 + 1) (by omega) (by omega)
  have g5 := cg_rng hJ (a := i + 1) (b := j + 1) (by omega) (by omega)
  have hcg : (c.getD (i + 1) []).getD (j + 1) 0 = cg c (i + 1) (j + 1) := rfl
  have hgc := gcond_hgh (c := c) (i := i) (j := j)
  have hgn := gnew_hgh hJ (i := i) (j := j) (by omega) (by omega)
  unfold hgh at hgc hgn
  have hyes : (i + j) % 2 = p → gcond c i j → gyR p ci0 i (j + 1) = c.set (i + 1) ((c.getD (i + 1) []).set (j + 1) (gnew c i j)) := fun h h' => hJs.trans (if_pos ⟨h, h'⟩)
  have hno : ¬ ((i + j) % 2 = p ∧ gcond c i j) → gyR p ci0 i (j + 1) = c := fun h => hJs.trans (if_neg h)
  repeat' (first | with_reducible (first | refine XW.seq ?_ | refine XW.block ?_ | refine XW.skip ?_ | refine XW.exit ?_ | refine XW.ret ?_) | ((first | with_reducible refine XW.region hC (fun K' hK' => ?_) | with_reducible refine XW.text hC hm_ok (by kernel_rfl) (fun K' hK' => ?_)); (try simp only [List.toList_toArray]); repeat' (first | with_reducible (first | refine xrun_cons ?_ | refine xtxt_cons ?_) | (with_reducible (first | show xoper _ _ _ _ _ _ _ | show xdo _ _ _ _ _ _); simp only [zd, zb, zz, RT.at, RT.ty, RT.sub, RT.cut, RT.wr, getS, setT, Ty.dflt, lk, Ty.st, stV, unV, prodTV, Int.reduceToNat, Int.reduceEq, reduceCtorEq, Nat.reduceLT, Nat.reduceEqDiff, Nat.reduceAdd, Nat.reduceMul, Nat.reduceLeDiff, Nat.reduceSub, Nat.reduceBEq, Nat.reduceBNe, Nat.reduceBeqDiff, ↓reduceIte, tab, tL, tI, tB, LI, NI, LLI, tLL, spT, cornrSp, ofCSp, ghSp, gyrSp, List.set_cons_zero, List.getD_cons_zero, ei0, ei1, ei2, ej0, ej1, ej2, hcg]) | with_reducible refine xgd_intro (fun hg => ?_) (fun hg => ?_) <;> (try simp only [zh, zi, zz, reduceCtorEq] at hg) | ((with_reducible show (_ : Bool) = true); kernel_rfl) | with_reducible (first | refine And.intro ?_ ?_ | refine xrun_nil ?_ | refine xtxt_nil ?_) | (refine hK' _ ?_; clear hK'; clear K') | (with_reducible intro hg; try simp only [zh, zi, zz, reduceCtorEq] at hg))) | ((with_reducible show XW _ _ _ _ (.cond _ _ _) _ _); refine XW.cond rfl (fun h => ?_) (fun h => ?_) <;> (try simp only [zh, zi, zz, reduceCtorEq] at h) <;> (try (exfalso; omega))) | ((with_reducible show XW.thn _ _ _ _); dsimp only [XW.thn]) | ((with_reducible show XW.blk _ _ _ _); simp only [XW.blk, ↓reduceIte, Nat.reduceEqDiff, Nat.zero_ne_one, Nat.one_ne_zero, ne_eq]) | ((with_reducible show retK _ _ _ _); simp only [zd, zb, zz, lk, Nat.reduceEqDiff, Nat.reduceBEq, Nat.reduceBeqDiff, reduceCtorEq, ↓reduceIte])); all_goals (try (first | omega | with_reducible exact Int.le_refl _ | (show (_ : Int) ≤ _; omega)))
  all_goals first
    | omega
    | (refine ⟨j + 1, [(0, 0)], by omega, by omega, ?_⟩
       rw [hno (fun hh => by have := hgc.1 hh.2; have := hpar.2 hh.1; omega)]
       simp only [Fits, distinct, fitEnv, fitB, fitL, fitRoots, fitRT, idsOK, AV.ids, zb, zz, RT.at, RT.ty, RT.sub, RT.cut, RT.wr, getS, setT, Ty.dflt, lk, Ty.st, stV, unV, prodTV, Int.reduceToNat, Int.reduceEq, reduceCtorEq, Nat.reduceLT, Nat.reduceEqDiff, Nat.reduceAdd, Nat.reduceMul, Nat.reduceLeDiff, Nat.reduceSub, Nat.reduceBEq, Nat.reduceBNe, Nat.reduceBeqDiff, ↓reduceIte, tab, tL, tI, tB, LI, NI, LLI, tLL, spT, cornrSp, ofCSp, ghSp, gyrSp, List.set_cons_zero, List.getD_cons_zero]
       all_goals first | rfl | exact ⟨rfl, rfl⟩ | (show (_ : Int) = _; omega))
    | (refine ⟨j + 1, [(0, 0)], by omega, by omega, ?_⟩
       rw [hyes (hpar.1 (by omega)) (hgc.2 ⟨by omega, by omega, by omega⟩)]
       first
         | rw [hgn.1 (by omega)]
         | rw [hgn.2 (by omega)]
       simp only [Fits, distinct, fitEnv, fitB, fitL, fitRoots, fitRT, idsOK, AV.ids, zb, zz, RT.at, RT.ty, RT.sub, RT.cut, RT.wr, getS, setT, Ty.dflt, lk, Ty.st, stV, unV, prodTV, Int.reduceToNat, Int.reduceEq, reduceCtorEq, Nat.reduceLT, Nat.reduceEqDiff, Nat.reduceAdd, Nat.reduceMul, Nat.reduceLeDiff, Nat.reduceSub, Nat.reduceBEq, Nat.reduceBNe, Nat.reduceBeqDiff, ↓reduceIte, tab, tL, tI, tB, LI, NI, LLI, tLL, spT, cornrSp, ofCSp, ghSp, gyrSp, List.set_cons_zero, List.getD_cons_zero]
       all_goals first | rfl | exact ⟨rfl, rfl⟩ | (show (_ : Int) = _; omega))
    | skip

end Fer
