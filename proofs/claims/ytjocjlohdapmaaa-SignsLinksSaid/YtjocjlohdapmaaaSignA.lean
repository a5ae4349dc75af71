import Derived.Test.YtjocjlohdapmaaaRows
import Derived.Test.YtjocjlohdapmaaaComB
import Derived.Test.YtjocjlohdapmaaaFerMa
set_option linter.unusedSimpArgs false
set_option linter.unusedVariables false
namespace Fer
open Go Go.Proofs

noncomputable def turnsSp : Spec := spL fun l K => K [tB (altB l)]
noncomputable def signsSp : Spec := spT fun m K => K [tB (signB m)]
noncomputable def signESp : Spec := spT fun m K => K [tI (signE m)]

set_option maxRecDepth 10000 in
theorem turns_ok : FnOK Try.prog 37 turnsSp := by
  have hC : ∀ {w0 : World} {S0 : Nat → Prop}, CtxOK Try.prog ⟨26, tab, fun f => lk [] f, fun f => lk [] f, fun f => lk [] f, fun f => lk [] f, fun f => lk [] f, fun f => lk [] f⟩ w0 S0 := ctx_ok trivial trivial trivial trivial trivial
  refine FnOK_of (C := ⟨26, tab, fun f => lk [] f, fun f => lk [] f, fun f => lk [] f, fun f => lk [] f, fun f => lk [] f, fun f => lk [] f⟩) 37 Try.f37 _ [2] turnsSp Try.func37 rfl (by decide) rfl rfl (Nat.le_of_ble_eq_true rfl) fun args K ht hK w0 => ?_
  obtain ⟨l, rfl, hk⟩ := at_L ht hK
  have hbad : ¬ altOK l → K [tB false] := fun h => by rw [altB_false h] at hk; exact hk
  have hgood : altOK l → K [tB true] := fun h => by rw [altB_true h] at hk; exact hk
  repeat' (first | with_reducible (first | refine XW.seq ?_ | refine XW.block ?_ | refine XW.skip ?_ | refine XW.exit ?_ | refine XW.ret ?_) | ((first | with_reducible refine XW.region hC (fun K' hK' => ?_) | with_reducible refine XW.text hC hm_ok (by kernel_rfl) (fun K' hK' => ?_)); (try simp only [List.toList_toArray]); repeat' (first | with_reducible (first | refine xrun_cons ?_ | refine xtxt_cons ?_) | (with_reducible (first | show xoper _ _ _ _ _ _ _ | show xdo _ _ _ _ _ _); simp only [zd, zb, zz, RT.at, RT.ty, RT.sub, RT.cut, RT.wr, getS, setT, Ty.dflt, lk, Ty.st, stV, unV, prodTV, Int.reduceToNat, Int.reduceEq, reduceCtorEq, Nat.reduceLT, Nat.reduceEqDiff, Nat.reduceAdd, Nat.reduceMul, Nat.reduceLeDiff, Nat.reduceSub, Nat.reduceBEq, Nat.reduceBNe, Nat.reduceBeqDiff, ↓reduceIte, tab, tL, tI, tB, LI, NI, LLI, tLL, spL, spLI, spIL, spLL, spT, spTT, acrossSp, turnsSp, signsSp, signESp]) | with_reducible refine xgd_intro (fun hg => ?_) (fun hg => ?_) <;> (try simp only [zh, zi, zz, reduceCtorEq] at hg) | ((with_reducible show (_ : Bool) = true); kernel_rfl) | with_reducible (first | refine And.intro ?_ ?_ | refine xrun_nil ?_ | refine xtxt_nil ?_) | (refine hK' _ ?_; clear hK'; clear K') | (with_reducible intro hg; try simp only [zh, zi, zz, reduceCtorEq] at hg))) | ((with_reducible show XW _ _ _ _ (.cond _ _ _) _ _); refine XW.cond rfl (fun h => ?_) (fun h => ?_) <;> (try simp only [zh, zi, zz, reduceCtorEq] at h) <;> (try (exfalso; omega))) | ((with_reducible show XW.thn _ _ _ _); dsimp only [XW.thn]) | ((with_reducible show XW.blk _ _ _ _); simp only [XW.blk, ↓reduceIte, Nat.reduceEqDiff, Nat.zero_ne_one, Nat.one_ne_zero, ne_eq]) | ((with_reducible show retK _ _ _ _); simp only [zd, zb, zz, lk, Nat.reduceEqDiff, Nat.reduceBEq, Nat.reduceBeqDiff, reduceCtorEq, ↓reduceIte])); all_goals (try (first | omega | with_reducible exact Int.le_refl _ | (show (_ : Int) ≤ _; omega)))
  refine XW.loop (ι := Int × Int) (fun x => ⟨[(4, .dat NI x.1), (3, .dat NI x.2), (0, .dat LI l)], [], 0, []⟩)
    (fun x => 0 ≤ x.1 ∧ x.1 ≤ l.length ∧ x.2 = 1 - 2 * (l.take x.1.toNat).sum ∧ ∀ j : Nat, (j : Int) ≤ x.1 → 0 ≤ (l.take j).sum ∧ (l.take j).sum ≤ 1) (fun x => (l.length - x.1).toNat) (0, 1) [] ⟨Int.le_refl _, by dsimp only; omega, rfl, fun j hj => by dsimp only at hj; rw [show j = 0 by omega]; simp⟩ ?_ fun x hx => ?_
  · simp only [Fits, distinct, fitEnv, fitB, fitL, fitRoots, fitRT, idsOK, AV.ids, zb, zz, RT.at, RT.ty, RT.sub, RT.cut, RT.wr, getS, setT, Ty.dflt, lk, Ty.st, stV, unV, prodTV, Int.reduceToNat, Int.reduceEq, reduceCtorEq, Nat.reduceLT, Nat.reduceEqDiff, Nat.reduceAdd, Nat.reduceMul, Nat.reduceLeDiff, Nat.reduceSub, Nat.reduceBEq, Nat.reduceBNe, Nat.reduceBeqDiff, ↓reduceIte, tab, tL, tI, tB, LI, NI, LLI, tLL, spL, spLI, spIL, spLL, spT, spTT, acrossSp, turnsSp, signsSp, signESp]
  obtain ⟨i, w⟩ := x
  obtain ⟨i0, i1, hw, hs⟩ := hx
  dsimp only at i0 i1 hw hs ⊢
  have hsi := hs i.toNat (by omega)
  have hst := fun h : i < l.length => sum_take_succ (l := l) (i := i.toNat) (by omega)
  have hok : altOK l → i < l.length → 0 ≤ (l.take (i.toNat + 1)).sum ∧ (l.take (i.toNat + 1)).sum ≤ 1 := fun h h' => h.1 _ (by omega)
  repeat' (first | with_reducible (first | refine XW.seq ?_ | refine XW.block ?_ | refine XW.skip ?_ | refine XW.exit ?_ | refine XW.ret ?_) | ((first | with_reducible refine XW.region hC (fun K' hK' => ?_) | with_reducible refine XW.text hC hm_ok (by kernel_rfl) (fun K' hK' => ?_)); (try simp only [List.toList_toArray]); repeat' (first | with_reducible (first | refine xrun_cons ?_ | refine xtxt_cons ?_) | (with_reducible (first | show xoper _ _ _ _ _ _ _ | show xdo _ _ _ _ _ _); simp only [zd, zb, zz, RT.at, RT.ty, RT.sub, RT.cut, RT.wr, getS, setT, Ty.dflt, lk, Ty.st, stV, unV, prodTV, Int.reduceToNat, Int.reduceEq, reduceCtorEq, Nat.reduceLT, Nat.reduceEqDiff, Nat.reduceAdd, Nat.reduceMul, Nat.reduceLeDiff, Nat.reduceSub, Nat.reduceBEq, Nat.reduceBNe, Nat.reduceBeqDiff, ↓reduceIte, tab, tL, tI, tB, LI, NI, LLI, tLL, spL, spLI, spIL, spLL, spT, spTT, acrossSp, turnsSp, signsSp, signESp]) | with_reducible refine xgd_intro (fun hg => ?_) (fun hg => ?_) <;> (try simp only [zh, zi, zz, reduceCtorEq] at hg) | ((with_reducible show (_ : Bool) = true); kernel_rfl) | with_reducible (first | refine And.intro ?_ ?_ | refine xrun_nil ?_ | refine xtxt_nil ?_) | (refine hK' _ ?_; clear hK'; clear K') | (with_reducible intro hg; try simp only [zh, zi, zz, reduceCtorEq] at hg))) | ((with_reducible show XW _ _ _ _ (.cond _ _ _) _ _); refine XW.cond rfl (fun h => ?_) (fun h => ?_) <;> (try simp only [zh, zi, zz, reduceCtorEq] at h) <;> (try (exfalso; omega))) | ((with_reducible show XW.thn _ _ _ _); dsimp only [XW.thn]) | ((with_reducible show XW.blk _ _ _ _); simp only [XW.blk, ↓reduceIte, Nat.reduceEqDiff, Nat.zero_ne_one, Nat.one_ne_zero, ne_eq]) | ((with_reducible show retK _ _ _ _); simp only [zd, zb, zz, lk, Nat.reduceEqDiff, Nat.reduceBEq, Nat.reduceBeqDiff, reduceCtorEq, ↓reduceIte])); all_goals (try (first | omega | with_reducible exact Int.le_refl _ | (show (_ : Int) ≤ _; omega)))
  · have e := hst (by omega)
    refine ⟨(i + 1, w), [], ⟨by dsimp only; omega, by dsimp only; omega, ?_, fun j hj => ?_⟩, by dsimp only; omega, ?_⟩
    · dsimp only
      rw [show (i + 1).toNat = i.toNat + 1 by omega, e, h]
      omega
    · dsimp only at hj
      by_cases c : (j : Int) = i + 1
      · rw [show j = i.toNat + 1 by omega, e, h]; omega
      · exact hs j (by omega)
    · simp only [Fits, distinct, fitEnv, fitB, fitL, fitRoots, fitRT, idsOK, AV.ids, zb, zz, RT.at, RT.ty, RT.sub, RT.cut, RT.wr, getS, setT, Ty.dflt, lk, Ty.st, stV, unV, prodTV, Int.reduceToNat, Int.reduceEq, reduceCtorEq, Nat.reduceLT, Nat.reduceEqDiff, Nat.reduceAdd, Nat.reduceMul, Nat.reduceLeDiff, Nat.reduceSub, Nat.reduceBEq, Nat.reduceBNe, Nat.reduceBeqDiff, ↓reduceIte, tab, tL, tI, tB, LI, NI, LLI, tLL, spL, spLI, spIL, spLL, spT, spTT, acrossSp, turnsSp, signsSp, signESp]
  · refine hbad fun ha => ?_
    have e := hst (by omega)
    have := hok ha (by omega)
    omega
  · rename_i h1 h2
    have e := hst (by omega)
    refine ⟨(i + 1, -w), [], ⟨by dsimp only; omega, by dsimp only; omega, ?_, fun j hj => ?_⟩, by dsimp only; omega, ?_⟩
    · dsimp only
      rw [show (i + 1).toNat = i.toNat + 1 by omega, e]
      omega
    · dsimp only at hj
      by_cases c : (j : Int) = i + 1
      · rw [show j = i.toNat + 1 by omega, e]; omega
      · exact hs j (by omega)
    · simp only [Fits, distinct, fitEnv, fitB, fitL, fitRoots, fitRT, idsOK, AV.ids, zb, zz, RT.at, RT.ty, RT.sub, RT.cut, RT.wr, getS, setT, Ty.dflt, lk, Ty.st, stV, unV, prodTV, Int.reduceToNat, Int.reduceEq, reduceCtorEq, Nat.reduceLT, Nat.reduceEqDiff, Nat.reduceAdd, Nat.reduceMul, Nat.reduceLeDiff, Nat.reduceSub, Nat.reduceBEq, Nat.reduceBNe, Nat.reduceBeqDiff, ↓reduceIte, tab, tL, tI, tB, LI, NI, LLI, tLL, spL, spLI, spIL, spLL, spT, spTT, acrossSp, turnsSp, signsSp, signESp]
  · have e : (l.take i.toNat).sum = l.sum := by rw [List.take_of_length_le (by omega)]
    by_cases c : w = -1
    · rw [decide_eq_true c]
      exact hgood ⟨fun j hj => hs j (by omega), by omega⟩
    · rw [decide_eq_false c]
      exact hbad fun ha => by have := ha.2; omega

set_option maxRecDepth 10000 in
theorem rsigns_ok : FnOK Try.prog 12 signsSp := by
  have hC : ∀ {w0 : World} {S0 : Nat → Prop}, CtxOK Try.prog ⟨50, tab, fun f => lk [(37, turnsSp), (38, acrossSp)] f, fun f => lk [] f, fun f => lk [] f, fun f => lk [] f, fun f => lk [] f, fun f => lk [] f⟩ w0 S0 := ctx_ok ⟨turns_ok, across_ok, trivial⟩ trivial trivial trivial trivial
  refine FnOK_of (C := ⟨50, tab, fun f => lk [(37, turnsSp), (38, acrossSp)] f, fun f => lk [] f, fun f => lk [] f, fun f => lk [] f, fun f => lk [] f, fun f => lk [] f⟩) 12 Try.f12 _ [2] signsSp Try.func12 rfl (by decide) rfl rfl (Nat.le_of_ble_eq_true rfl) fun args K ht hK w0 => ?_
  obtain ⟨m, rfl, hk⟩ := at_T ht hK
  have hbad : ¬ signOK m → K [tB false] := fun h => by rw [signB_false h] at hk; exact hk
  have hgood : signOK m → K [tB true] := fun h => by rw [signB_true h] at hk; exact hk
  repeat' (first | with_reducible (first | refine XW.seq ?_ | refine XW.block ?_ | refine XW.skip ?_ | refine XW.exit ?_ | refine XW.ret ?_) | ((first | with_reducible refine XW.region hC (fun K' hK' => ?_) | with_reducible refine XW.text hC hm_ok (by kernel_rfl) (fun K' hK' => ?_)); (try simp only [List.toList_toArray]); repeat' (first | with_reducible (first | refine xrun_cons ?_ | refine xtxt_cons ?_) | (with_reducible (first | show xoper _ _ _ _ _ _ _ | show xdo _ _ _ _ _ _); simp only [zd, zb, zz, RT.at, RT.ty, RT.sub, RT.cut, RT.wr, getS, setT, Ty.dflt, lk, Ty.st, stV, unV, prodTV, Int.reduceToNat, Int.reduceEq, reduceCtorEq, Nat.reduceLT, Nat.reduceEqDiff, Nat.reduceAdd, Nat.reduceMul, Nat.reduceLeDiff, Nat.reduceSub, Nat.reduceBEq, Nat.reduceBNe, Nat.reduceBeqDiff, ↓reduceIte, tab, tL, tI, tB, LI, NI, LLI, tLL, spL, spLI, spIL, spLL, spT, spTT, acrossSp, turnsSp, signsSp, signESp]) | with_reducible refine xgd_intro (fun hg => ?_) (fun hg => ?_) <;> (try simp only [zh, zi, zz, reduceCtorEq] at hg) | ((with_reducible show (_ : Bool) = true); kernel_rfl) | with_reducible (first | refine And.intro ?_ ?_ | refine xrun_nil ?_ | refine xtxt_nil ?_) | (refine hK' _ ?_; clear hK'; clear K') | (with_reducible intro hg; try simp only [zh, zi, zz, reduceCtorEq] at hg))) | ((with_reducible show XW _ _ _ _ (.cond _ _ _) _ _); refine XW.cond rfl (fun h => ?_) (fun h => ?_) <;> (try simp only [zh, zi, zz, reduceCtorEq] at h) <;> (try (exfalso; omega))) | ((with_reducible show XW.thn _ _ _ _); dsimp only [XW.thn]) | ((with_reducible show XW.blk _ _ _ _); simp only [XW.blk, ↓reduceIte, Nat.reduceEqDiff, Nat.zero_ne_one, Nat.one_ne_zero, ne_eq]) | ((with_reducible show retK _ _ _ _); simp only [zd, zb, zz, lk, Nat.reduceEqDiff, Nat.reduceBEq, Nat.reduceBeqDiff, reduceCtorEq, ↓reduceIte])); all_goals (try (first | omega | with_reducible exact Int.le_refl _ | (show (_ : Int) ≤ _; omega)))
  · exact hbad fun h => by have := h.2.1; omega
  rotate_left
  · exact hbad fun h => by have := h.1; omega
  refine XW.loop (ι := Int) (fun i => ⟨[(3, .dat NI i), (0, .dat LLI m)], [], 0, []⟩)
    (fun i => 0 ≤ i ∧ i ≤ m.length ∧ ∀ a : Nat, (a : Int) < i → (m.getD a []).length = m.length ∧ altOK (m.getD a [])) (fun i => (m.length - i).toNat) 0 [] ⟨Int.le_refl _, by omega, fun a h => by omega⟩ ?_ fun i hi => ?_
  · simp only [Fits, distinct, fitEnv, fitB, fitL, fitRoots, fitRT, idsOK, AV.ids, zb, zz, RT.at, RT.ty, RT.sub, RT.cut, RT.wr, getS, setT, Ty.dflt, lk, Ty.st, stV, unV, prodTV, Int.reduceToNat, Int.reduceEq, reduceCtorEq, Nat.reduceLT, Nat.reduceEqDiff, Nat.reduceAdd, Nat.reduceMul, Nat.reduceLeDiff, Nat.reduceSub, Nat.reduceBEq, Nat.reduceBNe, Nat.reduceBeqDiff, ↓reduceIte, tab, tL, tI, tB, LI, NI, LLI, tLL, spL, spLI, spIL, spLL, spT, spTT, acrossSp, turnsSp, signsSp, signESp]
  obtain ⟨i0, i1, hr⟩ := hi
  have hw0 : 0 < i → (m.getD 0 []).length = m.length := fun h => (hr 0 h).1
  repeat' (first | with_reducible (first | refine XW.seq ?_ | refine XW.block ?_ | refine XW.skip ?_ | refine XW.exit ?_ | refine XW.ret ?_) | ((first | with_reducible refine XW.region hC (fun K' hK' => ?_) | with_reducible refine XW.text hC hm_ok (by kernel_rfl) (fun K' hK' => ?_)); (try simp only [List.toList_toArray]); repeat' (first | with_reducible (first | refine xrun_cons ?_ | refine xtxt_cons ?_) | (with_reducible (first | show xoper _ _ _ _ _ _ _ | show xdo _ _ _ _ _ _); simp only [zd, zb, zz, RT.at, RT.ty, RT.sub, RT.cut, RT.wr, getS, setT, Ty.dflt, lk, Ty.st, stV, unV, prodTV, Int.reduceToNat, Int.reduceEq, reduceCtorEq, Nat.reduceLT, Nat.reduceEqDiff, Nat.reduceAdd, Nat.reduceMul, Nat.reduceLeDiff, Nat.reduceSub, Nat.reduceBEq, Nat.reduceBNe, Nat.reduceBeqDiff, ↓reduceIte, tab, tL, tI, tB, LI, NI, LLI, tLL, spL, spLI, spIL, spLL, spT, spTT, acrossSp, turnsSp, signsSp, signESp]) | with_reducible refine xgd_intro (fun hg => ?_) (fun hg => ?_) <;> (try simp only [zh, zi, zz, reduceCtorEq] at hg) | ((with_reducible show (_ : Bool) = true); kernel_rfl) | with_reducible (first | refine And.intro ?_ ?_ | refine xrun_nil ?_ | refine xtxt_nil ?_) | (refine hK' _ ?_; clear hK'; clear K') | (with_reducible intro hg; try simp only [zh, zi, zz, reduceCtorEq] at hg))) | ((with_reducible show XW _ _ _ _ (.cond _ _ _) _ _); refine XW.cond rfl (fun h => ?_) (fun h => ?_) <;> (try simp only [zh, zi, zz, reduceCtorEq] at h) <;> (try (exfalso; omega))) | ((with_reducible show XW.thn _ _ _ _); dsimp only [XW.thn]) | ((with_reducible show XW.blk _ _ _ _); simp only [XW.blk, ↓reduceIte, Nat.reduceEqDiff, Nat.zero_ne_one, Nat.one_ne_zero, ne_eq]) | ((with_reducible show retK _ _ _ _); simp only [zd, zb, zz, lk, Nat.reduceEqDiff, Nat.reduceBEq, Nat.reduceBeqDiff, reduceCtorEq, ↓reduceIte])); all_goals (try (first | omega | with_reducible exact Int.le_refl _ | (show (_ : Int) ≤ _; omega)))
  · exact hbad fun hs => not_altB h (hs.2.2.1 i.toNat (by omega)).2
  · have h2 := of_altB h
    refine ⟨i + 1, [], ⟨by omega, by omega, fun a ha => ?_⟩, by omega, ?_⟩
    · by_cases e : (a : Int) = i
      · rw [show a = i.toNat by omega]; exact ⟨by omega, h2⟩
      · exact hr a (by omega)
    · simp only [Fits, distinct, fitEnv, fitB, fitL, fitRoots, fitRT, idsOK, AV.ids, zb, zz, RT.at, RT.ty, RT.sub, RT.cut, RT.wr, getS, setT, Ty.dflt, lk, Ty.st, stV, unV, prodTV, Int.reduceToNat, Int.reduceEq, reduceCtorEq, Nat.reduceLT, Nat.reduceEqDiff, Nat.reduceAdd, Nat.reduceMul, Nat.reduceLeDiff, Nat.reduceSub, Nat.reduceBEq, Nat.reduceBNe, Nat.reduceBeqDiff, ↓reduceIte, tab, tL, tI, tB, LI, NI, LLI, tLL, spL, spLI, spIL, spLL, spT, spTT, acrossSp, turnsSp, signsSp, signESp]
  · exact hbad fun hs => by have := (hs.2.2.1 i.toNat (by omega)).1; omega
  have hi2 : i = m.length := by omega
  have hac : ∀ j, j < m.length → (across m).getD j [] = colL m j := fun j hj => by
    rw [across_getD (by omega), acol_eq fun i hi => by have := (hr i (by omega)).1; omega]
  have hal : (across m).length = m.length := by rw [show (across m).length = (m.getD 0 []).length by simp only [across, List.length_map, List.length_range]]; omega
  refine XW.loop (ι := Int) (fun j => ⟨[(5, .dat NI j), (4, .ref 0 []), (0, .dat LLI m)], [(0, ⟨22, LI, 1, across m, none⟩)], 1, []⟩)
    (fun j => 0 ≤ j ∧ j ≤ m.length ∧ ∀ a : Nat, (a : Int) < j → altOK (colL m a)) (fun j => (m.length - j).toNat) 0 [(0, 0)] ⟨Int.le_refl _, by omega, fun a h => by omega⟩ ?_ fun j hj => ?_
  · simp only [Fits, distinct, fitEnv, fitB, fitL, fitRoots, fitRT, idsOK, AV.ids, zb, zz, RT.at, RT.ty, RT.sub, RT.cut, RT.wr, getS, setT, Ty.dflt, lk, Ty.st, stV, unV, prodTV, Int.reduceToNat, Int.reduceEq, reduceCtorEq, Nat.reduceLT, Nat.reduceEqDiff, Nat.reduceAdd, Nat.reduceMul, Nat.reduceLeDiff, Nat.reduceSub, Nat.reduceBEq, Nat.reduceBNe, Nat.reduceBeqDiff, ↓reduceIte, tab, tL, tI, tB, LI, NI, LLI, tLL, spL, spLI, spIL, spLL, spT, spTT, acrossSp, turnsSp, signsSp, signESp]
  obtain ⟨j0, j1, hc⟩ := hj
  have hcj := fun h : j < m.length => hac j.toNat (by omega)
  repeat' (first | with_reducible (first | refine XW.seq ?_ | refine XW.block ?_ | refine XW.skip ?_ | refine XW.exit ?_ | refine XW.ret ?_) | ((first | with_reducible refine XW.region hC (fun K' hK' => ?_) | with_reducible refine XW.text hC hm_ok (by kernel_rfl) (fun K' hK' => ?_)); (try simp only [List.toList_toArray]); repeat' (first | with_reducible (first | refine xrun_cons ?_ | refine xtxt_cons ?_) | (with_reducible (first | show xoper _ _ _ _ _ _ _ | show xdo _ _ _ _ _ _); simp only [zd, zb, zz, RT.at, RT.ty, RT.sub, RT.cut, RT.wr, getS, setT, Ty.dflt, lk, Ty.st, stV, unV, prodTV, Int.reduceToNat, Int.reduceEq, reduceCtorEq, Nat.reduceLT, Nat.reduceEqDiff, Nat.reduceAdd, Nat.reduceMul, Nat.reduceLeDiff, Nat.reduceSub, Nat.reduceBEq, Nat.reduceBNe, Nat.reduceBeqDiff, ↓reduceIte, tab, tL, tI, tB, LI, NI, LLI, tLL, spL, spLI, spIL, spLL, spT, spTT, acrossSp, turnsSp, signsSp, signESp]) | with_reducible refine xgd_intro (fun hg => ?_) (fun hg => ?_) <;> (try simp only [zh, zi, zz, reduceCtorEq] at hg) | ((with_reducible show (_ : Bool) = true); kernel_rfl) | with_reducible (first | refine And.intro ?_ ?_ | refine xrun_nil ?_ | refine xtxt_nil ?_) | (refine hK' _ ?_; clear hK'; clear K') | (with_reducible intro hg; try simp only [zh, zi, zz, reduceCtorEq] at hg))) | ((with_reducible show XW _ _ _ _ (.cond _ _ _) _ _); refine XW.cond rfl (fun h => ?_) (fun h => ?_) <;> (try simp only [zh, zi, zz, reduceCtorEq] at h) <;> (try (exfalso; omega))) | ((with_reducible show XW.thn _ _ _ _); dsimp only [XW.thn]) | ((with_reducible show XW.blk _ _ _ _); simp only [XW.blk, ↓reduceIte, Nat.reduceEqDiff, Nat.zero_ne_one, Nat.one_ne_zero, ne_eq]) | ((with_reducible show retK _ _ _ _); simp only [zd, zb, zz, lk, Nat.reduceEqDiff, Nat.reduceBEq, Nat.reduceBeqDiff, reduceCtorEq, ↓reduceIte])); all_goals (try (first | omega | with_reducible exact Int.le_refl _ | (show (_ : Int) ≤ _; omega)))
  · rw [hcj (by omega)] at h
    exact hbad fun hs => not_altB h (hs.2.2.2 j.toNat (by omega))
  · rw [hcj (by omega)] at h
    have h2 := of_altB h
    refine ⟨j + 1, [(0, 0)], ⟨by omega, by omega, fun a ha => ?_⟩, by omega, ?_⟩
    · by_cases e : (a : Int) = j
      · rw [show a = j.toNat by omega]; exact h2
      · exact hc a (by omega)
    · simp only [Fits, distinct, fitEnv, fitB, fitL, fitRoots, fitRT, idsOK, AV.ids, zb, zz, RT.at, RT.ty, RT.sub, RT.cut, RT.wr, getS, setT, Ty.dflt, lk, Ty.st, stV, unV, prodTV, Int.reduceToNat, Int.reduceEq, reduceCtorEq, Nat.reduceLT, Nat.reduceEqDiff, Nat.reduceAdd, Nat.reduceMul, Nat.reduceLeDiff, Nat.reduceSub, Nat.reduceBEq, Nat.reduceBNe, Nat.reduceBeqDiff, ↓reduceIte, tab, tL, tI, tB, LI, NI, LLI, tLL, spL, spLI, spIL, spLL, spT, spTT, acrossSp, turnsSp, signsSp, signESp]
  · exact hgood ⟨by omega, by omega, fun a ha => hr a (by omega), fun a ha => hc a (by omega)⟩

set_option maxRecDepth 10000 in
theorem scheck_ok : FnOK Try.prog 34 signESp := by
  have hC : ∀ {w0 : World} {S0 : Nat → Prop}, CtxOK Try.prog ⟨88, tab, fun f => lk [] f, fun f => lk [] f, fun f => lk [] f, fun f => lk [] f, fun f => lk [] f, fun f => lk [] f⟩ w0 S0 := ctx_ok trivial trivial trivial trivial trivial
  refine FnOK_of (C := ⟨88, tab, fun f => lk [] f, fun f => lk [] f, fun f => lk [] f, fun f => lk [] f, fun f => lk [] f, fun f => lk [] f⟩) 34 Try.f34 _ [2] signESp Try.func34 rfl (by decide) rfl rfl (Nat.le_of_ble_eq_true rfl) fun args K ht hK w0 => ?_
  obtain ⟨m, rfl, hk⟩ := at_T ht hK
  have hbad : ¬ signOK m → K [tI 1] := fun h => by rw [signE_one h] at hk; exact hk
  have hgood : signOK m → K [tI 0] := fun h => by rw [signE_zero h] at hk; exact hk
  repeat' (first | with_reducible (first | refine XW.seq ?_ | refine XW.block ?_ | refine XW.skip ?_ | refine XW.exit ?_ | refine XW.ret ?_) | ((first | with_reducible refine XW.region hC (fun K' hK' => ?_) | with_reducible refine XW.text hC hm_ok (by kernel_rfl) (fun K' hK' => ?_)); (try simp only [List.toList_toArray]); repeat' (first | with_reducible (first | refine xrun_cons ?_ | refine xtxt_cons ?_) | (with_reducible (first | show xoper _ _ _ _ _ _ _ | show xdo _ _ _ _ _ _); simp only [zd, zb, zz, RT.at, RT.ty, RT.sub, RT.cut, RT.wr, getS, setT, Ty.dflt, lk, Ty.st, stV, unV, prodTV, Int.reduceToNat, Int.reduceEq, reduceCtorEq, Nat.reduceLT, Nat.reduceEqDiff, Nat.reduceAdd, Nat.reduceMul, Nat.reduceLeDiff, Nat.reduceSub, Nat.reduceBEq, Nat.reduceBNe, Nat.reduceBeqDiff, ↓reduceIte, tab, tL, tI, tB, LI, NI, LLI, tLL, spL, spLI, spIL, spLL, spT, spTT, acrossSp, turnsSp, signsSp, signESp]) | with_reducible refine xgd_intro (fun hg => ?_) (fun hg => ?_) <;> (try simp only [zh, zi, zz, reduceCtorEq] at hg) | ((with_reducible show (_ : Bool) = true); kernel_rfl) | with_reducible (first | refine And.intro ?_ ?_ | refine xrun_nil ?_ | refine xtxt_nil ?_) | (refine hK' _ ?_; clear hK'; clear K') | (with_reducible intro hg; try simp only [zh, zi, zz, reduceCtorEq] at hg))) | ((with_reducible show XW _ _ _ _ (.cond _ _ _) _ _); refine XW.cond rfl (fun h => ?_) (fun h => ?_) <;> (try simp only [zh, zi, zz, reduceCtorEq] at h) <;> (try (exfalso; omega))) | ((with_reducible show XW.thn _ _ _ _); dsimp only [XW.thn]) | ((with_reducible show XW.blk _ _ _ _); simp only [XW.blk, ↓reduceIte, Nat.reduceEqDiff, Nat.zero_ne_one, Nat.one_ne_zero, ne_eq]) | ((with_reducible show retK _ _ _ _); simp only [zd, zb, zz, lk, Nat.reduceEqDiff, Nat.reduceBEq, Nat.reduceBeqDiff, reduceCtorEq, ↓reduceIte])); all_goals (try (first | omega | with_reducible exact Int.le_refl _ | (show (_ : Int) ≤ _; omega)))
  · exact hbad fun h => by have := h.2.1; omega
  rotate_left
  · exact hbad fun h => by have := h.1; omega
  refine XW.loop (ι := Int × List Int) (fun x => ⟨[(24, .dat NI x.1), (23, .dat NI (m.length : Int)), (22, .dat LLI m), (4, .ref 0 []), (3, .dat NI (m.length : Int)), (0, .dat LLI m)], [(0, ⟨3, .int .i64, 0, x.2, none⟩)], 1, []⟩)
    (fun x => 0 ≤ x.1 ∧ x.1 ≤ m.length ∧ x.2.length = m.length ∧ (∀ a : Nat, (a : Int) < x.1 → (m.getD a []).length = m.length ∧ altOK (m.getD a [])) ∧ (∀ k, k < m.length → x.2.getD k 0 = cp m x.1.toNat k) ∧ ∀ a : Nat, (a : Int) ≤ x.1 → ∀ k, k < m.length → 0 ≤ cp m a k ∧ cp m a k ≤ 1) (fun x => (m.length - x.1).toNat) (0, List.replicate m.length 0) [(0, 0)]
    ⟨Int.le_refl _, by dsimp only; omega, List.length_replicate, fun a h => by dsimp only at h; omega, fun k hk => by dsimp only; rw [replicate_getD]; rfl, fun a ha k hk => by dsimp only at ha; rw [show a = 0 by omega, cp_zero]; omega⟩ ?_ fun x hx => ?_
  · simp only [Fits, distinct, fitEnv, fitB, fitL, fitRoots, fitRT, idsOK, AV.ids, zb, zz, RT.at, RT.ty, RT.sub, RT.cut, RT.wr, getS, setT, Ty.dflt, lk, Ty.st, stV, unV, prodTV, Int.reduceToNat, Int.reduceEq, reduceCtorEq, Nat.reduceLT, Nat.reduceEqDiff, Nat.reduceAdd, Nat.reduceMul, Nat.reduceLeDiff, Nat.reduceSub, Nat.reduceBEq, Nat.reduceBNe, Nat.reduceBeqDiff, ↓reduceIte, tab, tL, tI, tB, LI, NI, LLI, tLL, spL, spLI, spIL, spLL, spT, spTT, acrossSp, turnsSp, signsSp, signESp]
  obtain ⟨i, dn⟩ := x
  obtain ⟨i0, i1, hdl, hr, hd, hcp⟩ := hx
  dsimp only at i0 i1 hdl hr hd hcp ⊢
  repeat' (first | with_reducible (first | refine XW.seq ?_ | refine XW.block ?_ | refine XW.skip ?_ | refine XW.exit ?_ | refine XW.ret ?_) | ((first | with_reducible refine XW.region hC (fun K' hK' => ?_) | with_reducible refine XW.text hC hm_ok (by kernel_rfl) (fun K' hK' => ?_)); (try simp only [List.toList_toArray]); repeat' (first | with_reducible (first | refine xrun_cons ?_ | refine xtxt_cons ?_) | (with_reducible (first | show xoper _ _ _ _ _ _ _ | show xdo _ _ _ _ _ _); simp only [zd, zb, zz, RT.at, RT.ty, RT.sub, RT.cut, RT.wr, getS, setT, Ty.dflt, lk, Ty.st, stV, unV, prodTV, Int.reduceToNat, Int.reduceEq, reduceCtorEq, Nat.reduceLT, Nat.reduceEqDiff, Nat.reduceAdd, Nat.reduceMul, Nat.reduceLeDiff, Nat.reduceSub, Nat.reduceBEq, Nat.reduceBNe, Nat.reduceBeqDiff, ↓reduceIte, tab, tL, tI, tB, LI, NI, LLI, tLL, spL, spLI, spIL, spLL, spT, spTT, acrossSp, turnsSp, signsSp, signESp]) | with_reducible refine xgd_intro (fun hg => ?_) (fun hg => ?_) <;> (try simp only [zh, zi, zz, reduceCtorEq] at hg) | ((with_reducible show (_ : Bool) = true); kernel_rfl) | with_reducible (first | refine And.intro ?_ ?_ | refine xrun_nil ?_ | refine xtxt_nil ?_) | (refine hK' _ ?_; clear hK'; clear K') | (with_reducible intro hg; try simp only [zh, zi, zz, reduceCtorEq] at hg))) | ((with_reducible show XW _ _ _ _ (.cond _ _ _) _ _); refine XW.cond rfl (fun h => ?_) (fun h => ?_) <;> (try simp only [zh, zi, zz, reduceCtorEq] at h) <;> (try (exfalso; omega))) | ((with_reducible show XW.thn _ _ _ _); dsimp only [XW.thn]) | ((with_reducible show XW.blk _ _ _ _); simp only [XW.blk, ↓reduceIte, Nat.reduceEqDiff, Nat.zero_ne_one, Nat.one_ne_zero, ne_eq]) | ((with_reducible show retK _ _ _ _); simp only [zd, zb, zz, lk, Nat.reduceEqDiff, Nat.reduceBEq, Nat.reduceBeqDiff, reduceCtorEq, ↓reduceIte])); all_goals (try (first | omega | with_reducible exact Int.le_refl _ | (show (_ : Int) ≤ _; omega)))
  · exact hbad fun hs => by have := (hs.2.2.1 i.toNat (by omega)).1; omega
  · have hin : i < m.length := ‹i < (m.length : Int)›
    generalize hrow : m.getD i.toNat [] = row at *
    have hrl : row.length = m.length := by omega
    have hcps : ∀ k, cp m (i.toNat + 1) k = cp m i.toNat k + row.getD k 0 := fun k => by rw [cp_succ k (by omega), hrow]
    refine XW.loop (ι := Int × Int × List Int) (fun x => ⟨[(34, .dat NI x.1), (33, .dat NI (row.length : Int)), (32, .dat LI row), (7, .dat NI x.2.1), (6, .dat LI row), (24, .dat NI i), (23, .dat NI (m.length : Int)), (22, .dat LLI m), (4, .ref 0 []), (3, .dat NI (m.length : Int)), (0, .dat LLI m)], [(0, ⟨3, .int .i64, 0, x.2.2, none⟩)], 1, []⟩)
      (fun x => 0 ≤ x.1 ∧ x.1 ≤ m.length ∧ x.2.1 = (row.take x.1.toNat).sum ∧ x.2.2.length = m.length ∧ (∀ b : Nat, (b : Int) ≤ x.1 → 0 ≤ (row.take b).sum ∧ (row.take b).sum ≤ 1) ∧ (∀ k : Nat, k < m.length → x.2.2.getD k 0 = if (k : Int) < x.1 then cp m (i.toNat + 1) k else cp m i.toNat k) ∧ ∀ k : Nat, (k : Int) < x.1 → 0 ≤ cp m (i.toNat + 1) k ∧ cp m (i.toNat + 1) k ≤ 1) (fun x => (m.length - x.1).toNat) (0, 0, dn) [(0, 0)]
      ⟨Int.le_refl _, by dsimp only; omega, rfl, hdl, fun b hb => by dsimp only at hb; rw [show b = 0 by omega]; simp, fun k hk => by dsimp only; rw [if_neg (by omega), hd k hk], fun k hk => by dsimp only at hk; omega⟩ ?_ fun x hx => ?_
    · simp only [Fits, distinct, fitEnv, fitB, fitL, fitRoots, fitRT, idsOK, AV.ids, zb, zz, RT.at, RT.ty, RT.sub, RT.cut, RT.wr, getS, setT, Ty.dflt, lk, Ty.st, stV, unV, prodTV, Int.reduceToNat, Int.reduceEq, reduceCtorEq, Nat.reduceLT, Nat.reduceEqDiff, Nat.reduceAdd, Nat.reduceMul, Nat.reduceLeDiff, Nat.reduceSub, Nat.reduceBEq, Nat.reduceBNe, Nat.reduceBeqDiff, ↓reduceIte, tab, tL, tI, tB, LI, NI, LLI, tLL, spL, spLI, spIL, spLL, spT, spTT, acrossSp, turnsSp, signsSp, signESp]
    obtain ⟨j, s, d⟩ := x
    obtain ⟨j0, j1, hs, hl2, hb, hdk, hck⟩ := hx
    dsimp only at j0 j1 hs hl2 hb hdk hck ⊢
    have hsb := hb j.toNat (by omega)
    have hst := fun h : j < m.length => sum_take_succ (l := row) (i := j.toNat) (by omega)
    have hdj : j < m.length → d.getD j.toNat 0 = cp m i.toNat j.toNat := fun h => by rw [hdk j.toNat (by omega), if_neg (by omega)]
    have hcj := fun h : j < m.length => hcp i.toNat (by omega) j.toNat (by omega)
    have hcn := hcps j.toNat
    have hset : ∀ v : Int, j < m.length → (d.set j.toNat v).getD j.toNat 0 = v := fun v h => by rw [getD_set_if 0 (by omega), if_pos rfl]
    have hset := hset (d.getD j.toNat 0 + row.getD j.toNat 0)
    have hok : signOK m → j < m.length → (0 ≤ (row.take (j.toNat + 1)).sum ∧ (row.take (j.toNat + 1)).sum ≤ 1) ∧ 0 ≤ cp m (i.toNat + 1) j.toNat ∧ cp m (i.toNat + 1) j.toNat ≤ 1 := fun hs h => by
      have h1 := (hs.2.2.1 i.toNat (by omega)).2
      rw [hrow] at h1
      exact ⟨h1.1 _ (by omega), (alt_col.1 (hs.2.2.2 j.toNat (by omega))).1 _ (by omega)⟩
    repeat' (first | with_reducible (first | refine XW.seq ?_ | refine XW.block ?_ | refine XW.skip ?_ | refine XW.exit ?_ | refine XW.ret ?_) | ((first | with_reducible refine XW.region hC (fun K' hK' => ?_) | with_reducible refine XW.text hC hm_ok (by kernel_rfl) (fun K' hK' => ?_)); (try simp only [List.toList_toArray]); repeat' (first | with_reducible (first | refine xrun_cons ?_ | refine xtxt_cons ?_) | (with_reducible (first | show xoper _ _ _ _ _ _ _ | show xdo _ _ _ _ _ _); simp only [zd, zb, zz, RT.at, RT.ty, RT.sub, RT.cut, RT.wr, getS, setT, Ty.dflt, lk, Ty.st, stV, unV, prodTV, Int.reduceToNat, Int.reduceEq, reduceCtorEq, Nat.reduceLT, Nat.reduceEqDiff, Nat.reduceAdd, Nat.reduceMul, Nat.reduceLeDiff, Nat.reduceSub, Nat.reduceBEq, Nat.reduceBNe, Nat.reduceBeqDiff, ↓reduceIte, tab, tL, tI, tB, LI, NI, LLI, tLL, spL, spLI, spIL, spLL, spT, spTT, acrossSp, turnsSp, signsSp, signESp]) | with_reducible refine xgd_intro (fun hg => ?_) (fun hg => ?_) <;> (try simp only [zh, zi, zz, reduceCtorEq] at hg) | ((with_reducible show (_ : Bool) = true); kernel_rfl) | with_reducible (first | refine And.intro ?_ ?_ | refine xrun_nil ?_ | refine xtxt_nil ?_) | (refine hK' _ ?_; clear hK'; clear K') | (with_reducible intro hg; try simp only [zh, zi, zz, reduceCtorEq] at hg))) | ((with_reducible show XW _ _ _ _ (.cond _ _ _) _ _); refine XW.cond rfl (fun h => ?_) (fun h => ?_) <;> (try simp only [zh, zi, zz, reduceCtorEq] at h) <;> (try (exfalso; omega))) | ((with_reducible show XW.thn _ _ _ _); dsimp only [XW.thn]) | ((with_reducible show XW.blk _ _ _ _); simp only [XW.blk, ↓reduceIte, Nat.reduceEqDiff, Nat.zero_ne_one, Nat.one_ne_zero, ne_eq]) | ((with_reducible show retK _ _ _ _); simp only [zd, zb, zz, lk, Nat.reduceEqDiff, Nat.reduceBEq, Nat.reduceBeqDiff, reduceCtorEq, ↓reduceIte])); all_goals (try (first | omega | with_reducible exact Int.le_refl _ | (show (_ : Int) ≤ _; omega)))
    all_goals try (exact hbad fun hs => by have h1 := hok hs (by omega); have h2 := hst (by omega); have h3 := hset (by omega); have h4 := hdj (by omega); have h5 := hcj (by omega); omega)
    · have h2 := hst (by omega)
      have h3 := hset (by omega)
      have h4 := hdj (by omega)
      refine ⟨(j + 1, s + row.getD j.toNat 0, d.set j.toNat (d.getD j.toNat 0 + row.getD j.toNat 0)), [(0, 0)], ⟨by dsimp only; omega, by dsimp only; omega, ?_, by simpa using hl2, fun b hb2 => ?_, fun k hk => ?_, fun k hk => ?_⟩, by dsimp only; omega, ?_⟩
      · dsimp only
        rw [show (j + 1).toNat = j.toNat + 1 by omega, h2, hs]
      · dsimp only at hb2
        by_cases e : (b : Int) = j + 1
        · rw [show b = j.toNat + 1 by omega]; omega
        · exact hb b (by omega)
      · dsimp only
        by_cases e : k = j.toNat
        · subst e
          rw [h3, if_pos (by omega)]; omega
        · rw [getD_set_if 0 (by omega), if_neg e, hdk k hk]
          by_cases c : (k : Int) < j
          · rw [if_pos c, if_pos (by omega)]
          · rw [if_neg c, if_neg (by omega)]
      · dsimp only at hk
        by_cases e : k = j.toNat
        · subst e; omega
        · exact hck k (by omega)
      · simp only [Fits, distinct, fitEnv, fitB, fitL, fitRoots, fitRT, idsOK, AV.ids, zb, zz, RT.at, RT.ty, RT.sub, RT.cut, RT.wr, getS, setT, Ty.dflt, lk, Ty.st, stV, unV, prodTV, Int.reduceToNat, Int.reduceEq, reduceCtorEq, Nat.reduceLT, Nat.reduceEqDiff, Nat.reduceAdd, Nat.reduceMul, Nat.reduceLeDiff, Nat.reduceSub, Nat.reduceBEq, Nat.reduceBNe, Nat.reduceBeqDiff, ↓reduceIte, tab, tL, tI, tB, LI, NI, LLI, tLL, spL, spLI, spIL, spLL, spT, spTT, acrossSp, turnsSp, signsSp, signESp]
    · have e : (row.take j.toNat).sum = row.sum := by rw [List.take_of_length_le (by omega)]
      exact hbad fun hs2 => by have := (hs2.2.2.1 i.toNat (by omega)).2.2; rw [hrow] at this; omega
    · have e : (row.take j.toNat).sum = row.sum := by rw [List.take_of_length_le (by omega)]
      refine ⟨(i + 1, d), [(0, 0)], ⟨by dsimp only; omega, by dsimp only; omega, hl2, fun a ha => ?_, fun k hk => ?_, fun a ha k hk => ?_⟩, by dsimp only; omega, ?_⟩
      · dsimp only at ha
        by_cases c : (a : Int) = i
        · rw [show a = i.toNat by omega, hrow]
          exact ⟨by omega, fun b hb2 => hb b (by omega), by omega⟩
        · exact hr a (by omega)
      · dsimp only
        rw [hdk k hk, if_pos (by omega), show (i + 1).toNat = i.toNat + 1 by omega]
      · dsimp only at ha
        by_cases c : (a : Int) = i + 1
        · rw [show a = i.toNat + 1 by omega]; exact hck k (by omega)
        · exact hcp a (by omega) k hk
      · simp only [Fits, distinct, fitEnv, fitB, fitL, fitRoots, fitRT, idsOK, AV.ids, zb, zz, RT.at, RT.ty, RT.sub, RT.cut, RT.wr, getS, setT, Ty.dflt, lk, Ty.st, stV, unV, prodTV, Int.reduceToNat, Int.reduceEq, reduceCtorEq, Nat.reduceLT, Nat.reduceEqDiff, Nat.reduceAdd, Nat.reduceMul, Nat.reduceLeDiff, Nat.reduceSub, Nat.reduceBEq, Nat.reduceBNe, Nat.reduceBeqDiff, ↓reduceIte, tab, tL, tI, tB, LI, NI, LLI, tLL, spL, spLI, spIL, spLL, spT, spTT, acrossSp, turnsSp, signsSp, signESp]
  refine XW.loop (ι := Int) (fun k => ⟨[(81, .dat NI k), (80, .dat NI (m.length : Int)), (79, .ref 0 [])], [(0, ⟨3, .int .i64, 0, dn, none⟩)], 1, []⟩)
    (fun k => 0 ≤ k ∧ k ≤ m.length ∧ ∀ a : Nat, (a : Int) < k → dn.getD a 0 = 1) (fun k => (m.length - k).toNat) 0 [(0, 0)] ⟨Int.le_refl _, by omega, fun a h => by omega⟩ ?_ fun k hk2 => ?_
  · simp only [Fits, distinct, fitEnv, fitB, fitL, fitRoots, fitRT, idsOK, AV.ids, zb, zz, RT.at, RT.ty, RT.sub, RT.cut, RT.wr, getS, setT, Ty.dflt, lk, Ty.st, stV, unV, prodTV, Int.reduceToNat, Int.reduceEq, reduceCtorEq, Nat.reduceLT, Nat.reduceEqDiff, Nat.reduceAdd, Nat.reduceMul, Nat.reduceLeDiff, Nat.reduceSub, Nat.reduceBEq, Nat.reduceBNe, Nat.reduceBeqDiff, ↓reduceIte, tab, tL, tI, tB, LI, NI, LLI, tLL, spL, spLI, spIL, spLL, spT, spTT, acrossSp, turnsSp, signsSp, signESp]
    show (_ : Int) = _
    omega
  obtain ⟨k0, k1, hk1⟩ := hk2
  have hdk := fun h : k < m.length => hd k.toNat (by omega)
  have hit : i.toNat = m.length := by omega
  repeat' (first | with_reducible (first | refine XW.seq ?_ | refine XW.block ?_ | refine XW.skip ?_ | refine XW.exit ?_ | refine XW.ret ?_) | ((first | with_reducible refine XW.region hC (fun K' hK' => ?_) | with_reducible refine XW.text hC hm_ok (by kernel_rfl) (fun K' hK' => ?_)); (try simp only [List.toList_toArray]); repeat' (first | with_reducible (first | refine xrun_cons ?_ | refine xtxt_cons ?_) | (with_reducible (first | show xoper _ _ _ _ _ _ _ | show xdo _ _ _ _ _ _); simp only [zd, zb, zz, RT.at, RT.ty, RT.sub, RT.cut, RT.wr, getS, setT, Ty.dflt, lk, Ty.st, stV, unV, prodTV, Int.reduceToNat, Int.reduceEq, reduceCtorEq, Nat.reduceLT, Nat.reduceEqDiff, Nat.reduceAdd, Nat.reduceMul, Nat.reduceLeDiff, Nat.reduceSub, Nat.reduceBEq, Nat.reduceBNe, Nat.reduceBeqDiff, ↓reduceIte, tab, tL, tI, tB, LI, NI, LLI, tLL, spL, spLI, spIL, spLL, spT, spTT, acrossSp, turnsSp, signsSp, signESp]) | with_reducible refine xgd_intro (fun hg => ?_) (fun hg => ?_) <;> (try simp only [zh, zi, zz, reduceCtorEq] at hg) | ((with_reducible show (_ : Bool) = true); kernel_rfl) | with_reducible (first | refine And.intro ?_ ?_ | refine xrun_nil ?_ | refine xtxt_nil ?_) | (refine hK' _ ?_; clear hK'; clear K') | (with_reducible intro hg; try simp only [zh, zi, zz, reduceCtorEq] at hg))) | ((with_reducible show XW _ _ _ _ (.cond _ _ _) _ _); refine XW.cond rfl (fun h => ?_) (fun h => ?_) <;> (try simp only [zh, zi, zz, reduceCtorEq] at h) <;> (try (exfalso; omega))) | ((with_reducible show XW.thn _ _ _ _); dsimp only [XW.thn]) | ((with_reducible show XW.blk _ _ _ _); simp only [XW.blk, ↓reduceIte, Nat.reduceEqDiff, Nat.zero_ne_one, Nat.one_ne_zero, ne_eq]) | ((with_reducible show retK _ _ _ _); simp only [zd, zb, zz, lk, Nat.reduceEqDiff, Nat.reduceBEq, Nat.reduceBeqDiff, reduceCtorEq, ↓reduceIte])); all_goals (try (first | omega | with_reducible exact Int.le_refl _ | (show (_ : Int) ≤ _; omega)))
  · have e := hdk (by omega)
    rw [hit] at e
    exact hbad fun hs => by have := (alt_col.1 (hs.2.2.2 k.toNat (by omega))).2; omega
  · refine ⟨k + 1, [(0, 0)], ⟨by omega, by omega, fun a ha => ?_⟩, by omega, ?_⟩
    · by_cases c : (a : Int) = k
      · rw [show a = k.toNat by omega]; exact h
      · exact hk1 a (by omega)
    · simp only [Fits, distinct, fitEnv, fitB, fitL, fitRoots, fitRT, idsOK, AV.ids, zb, zz, RT.at, RT.ty, RT.sub, RT.cut, RT.wr, getS, setT, Ty.dflt, lk, Ty.st, stV, unV, prodTV, Int.reduceToNat, Int.reduceEq, reduceCtorEq, Nat.reduceLT, Nat.reduceEqDiff, Nat.reduceAdd, Nat.reduceMul, Nat.reduceLeDiff, Nat.reduceSub, Nat.reduceBEq, Nat.reduceBNe, Nat.reduceBeqDiff, ↓reduceIte, tab, tL, tI, tB, LI, NI, LLI, tLL, spL, spLI, spIL, spLL, spT, spTT, acrossSp, turnsSp, signsSp, signESp]
  · refine hgood ⟨by omega, by omega, fun a ha => hr a (by omega), fun a ha => alt_col.2 ⟨fun b hb => hcp b (by omega) a ha, ?_⟩⟩
    rw [← hit, ← hd a ha]
    exact hk1 a (by omega)

end Fer
