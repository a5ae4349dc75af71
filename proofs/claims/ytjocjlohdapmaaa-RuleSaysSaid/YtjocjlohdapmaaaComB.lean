import Derived.Test.YtjocjlohdapmaaaRows
import Derived.Test.YtjocjlohdapmaaaComA
import Derived.Test.YtjocjlohdapmaaaFerMa
set_option linter.unusedSimpArgs false
set_option linter.unusedVariables false
namespace Fer
open Go Go.Proofs

def spT (f : List (List Int) → (List TV → Prop) → Prop) : Spec := ⟨[LLI], fun args K => match args with | [⟨.list _ (.list _ (.int _)), l⟩] => f l K | _ => False⟩
def spTT (f : List (List Int) → List (List Int) → (List TV → Prop) → Prop) : Spec := ⟨[LLI, LLI], fun args K => match args with | [⟨.list _ (.list _ (.int _)), l⟩, ⟨.list _ (.list _ (.int _)), m⟩] => f l m K | _ => False⟩

theorem at_T {f : List (List Int) → (List TV → Prop) → Prop} {args : List TV} {K : List TV → Prop} (ht : args.map (·.t) = (spT f).ps) (hK : (spT f).wp args K) : ∃ l, args = [tLL l] ∧ f l K := by
  match args, ht, hK with
  | [⟨t, x⟩], ht, hK =>
    simp only [spT, List.map_cons, List.map_nil, List.cons.injEq, and_true] at ht
    subst ht
    exact ⟨x, rfl, hK⟩
  | [], ht, _ => simp [spT] at ht
  | _ :: _ :: _, ht, _ => simp [spT] at ht
theorem at_TT {f : List (List Int) → List (List Int) → (List TV → Prop) → Prop} {args : List TV} {K : List TV → Prop} (ht : args.map (·.t) = (spTT f).ps) (hK : (spTT f).wp args K) : ∃ l m, args = [tLL l, tLL m] ∧ f l m K := by
  match args, ht, hK with
  | [⟨t, x⟩, ⟨u, y⟩], ht, hK =>
    simp only [spTT, List.map_cons, List.map_nil, List.cons.injEq, and_true] at ht
    obtain ⟨rfl, rfl⟩ := ht
    exact ⟨x, y, rfl, hK⟩
  | [], ht, _ => simp [spTT] at ht
  | [_], ht, _ => simp [spTT] at ht
  | _ :: _ :: _ :: _, ht, _ => simp [spTT] at ht

def rowsSp : Spec := spTT fun a b K => K [tB (decide (a = b))]
def tableB (a : List (List Int)) (e : Int) (b : List (List Int)) (f : Int) : Bool := if f ≠ 0 then decide (e = f) && decide (a = []) else decide (e = f) && decide (a = b)
def tableSp : Spec := ⟨[LLI, NI, LLI, NI], fun args K => match args with
  | [⟨.list _ (.list _ (.int _)), a⟩, ⟨.int _, e⟩, ⟨.list _ (.list _ (.int _)), b⟩, ⟨.int _, f⟩] => K [tB (tableB a e b f)]
  | _ => False⟩
def sizeZSp : Spec := spL fun p K => p.length ≤ 1000 ∧ (∀ x ∈ p, -1000000 ≤ x ∧ x ≤ 1000000) ∧ K [tI p.sum]
def acrossSp : Spec := spT fun m K => m.length ≤ 1000000 ∧ (m.getD 0 []).length ≤ 1000000 ∧ K [tLL (across m)]

set_option maxRecDepth 10000 in
theorem rows_ok : FnOK Try.prog 33 rowsSp := by
  have hC : ∀ {w0 : World} {S0 : Nat → Prop}, CtxOK Try.prog ⟨27, tab, fun f => lk [(39, sameSp)] f, fun f => lk [] f, fun f => lk [] f, fun f => lk [] f, fun f => lk [] f, fun f => lk [] f⟩ w0 S0 := ctx_ok ⟨same_ok, trivial⟩ trivial trivial trivial trivial
  refine FnOK_of (C := ⟨27, tab, fun f => lk [(39, sameSp)] f, fun f => lk [] f, fun f => lk [] f, fun f => lk [] f, fun f => lk [] f, fun f => lk [] f⟩) 33 Try.f33 _ [4] rowsSp Try.func33 rfl (by decide) rfl rfl (Nat.le_of_ble_eq_true rfl) fun args K ht hK w0 => ?_
  obtain ⟨p, q, rfl, hk⟩ := at_TT ht hK
  repeat' (first | with_reducible (first | refine XW.seq ?_ | refine XW.block ?_ | refine XW.skip ?_ | refine XW.exit ?_ | refine XW.ret ?_) | ((first | with_reducible refine XW.region hC (fun K' hK' => ?_) | with_reducible refine XW.text hC hm_ok (by kernel_rfl) (fun K' hK' => ?_)); (try simp only [List.toList_toArray]); repeat' (first | with_reducible (first | refine xrun_cons ?_ | refine xtxt_cons ?_) | (with_reducible (first | show xoper _ _ _ _ _ _ _ | show xdo _ _ _ _ _ _); simp only [zd, zb, zz, RT.at, RT.ty, RT.sub, RT.cut, RT.wr, getS, setT, Ty.dflt, lk, Ty.st, stV, unV, prodTV, Int.reduceToNat, Int.reduceEq, reduceCtorEq, Nat.reduceLT, Nat.reduceEqDiff, Nat.reduceAdd, Nat.reduceMul, Nat.reduceLeDiff, Nat.reduceSub, Nat.reduceBEq, Nat.reduceBNe, Nat.reduceBeqDiff, ↓reduceIte, tab, tL, tI, tB, LI, NI, LLI, tLL, spL, spLI, spIL, spLL, spT, spTT, sameSp, rowsSp, tableSp, sizeZSp, acrossSp]) | with_reducible refine xgd_intro (fun hg => ?_) (fun hg => ?_) <;> (try simp only [zh, zi, zz, reduceCtorEq] at hg) | ((with_reducible show (_ : Bool) = true); kernel_rfl) | with_reducible (first | refine And.intro ?_ ?_ | refine xrun_nil ?_ | refine xtxt_nil ?_) | (refine hK' _ ?_; clear hK'; clear K') | (with_reducible intro hg; try simp only [zh, zi, zz, reduceCtorEq] at hg))) | ((with_reducible show XW _ _ _ _ (.cond _ _ _) _ _); refine XW.cond rfl (fun h => ?_) (fun h => ?_) <;> (try simp only [zh, zi, zz, reduceCtorEq] at h) <;> (try (exfalso; omega))) | ((with_reducible show XW.thn _ _ _ _); dsimp only [XW.thn]) | ((with_reducible show XW.blk _ _ _ _); simp only [XW.blk, ↓reduceIte, Nat.reduceEqDiff, Nat.zero_ne_one, Nat.one_ne_zero, ne_eq]) | ((with_reducible show retK _ _ _ _); simp only [zd, zb, zz, lk, Nat.reduceEqDiff, Nat.reduceBEq, Nat.reduceBeqDiff, reduceCtorEq, ↓reduceIte])); all_goals (try (first | omega | with_reducible exact Int.le_refl _ | (show (_ : Int) ≤ _; omega)))
  · rw [decide_eq_false (by rintro rfl; exact h rfl)] at hk
    exact hk
  refine XW.loop (ι := Int) (fun i => ⟨[(13, .dat NI i), (12, .dat NI (p.length : Int)), (0, .dat LLI p), (1, .dat LLI q)], [], 0, []⟩) (fun i => 0 ≤ i ∧ i ≤ p.length ∧ p.take i.toNat = q.take i.toNat) (fun i => (p.length - i).toNat) 0 [] ⟨by omega, by omega, by simp⟩ ?_ fun i hi => ?_
  · simp only [Fits, distinct, fitEnv, fitB, fitL, fitRoots, fitRT, idsOK, AV.ids, zb, zz, RT.at, RT.ty, RT.sub, RT.cut, RT.wr, getS, setT, Ty.dflt, lk, Ty.st, stV, unV, prodTV, Int.reduceToNat, Int.reduceEq, reduceCtorEq, Nat.reduceLT, Nat.reduceEqDiff, Nat.reduceAdd, Nat.reduceMul, Nat.reduceLeDiff, Nat.reduceSub, Nat.reduceBEq, Nat.reduceBNe, Nat.reduceBeqDiff, ↓reduceIte, tab, tL, tI, tB, LI, NI, LLI, tLL, spL, spLI, spIL, spLL, spT, spTT, sameSp, rowsSp, tableSp, sizeZSp, acrossSp]
  repeat' (first | with_reducible (first | refine XW.seq ?_ | refine XW.block ?_ | refine XW.skip ?_ | refine XW.exit ?_ | refine XW.ret ?_) | ((first | with_reducible refine XW.region hC (fun K' hK' => ?_) | with_reducible refine XW.text hC hm_ok (by kernel_rfl) (fun K' hK' => ?_)); (try simp only [List.toList_toArray]); repeat' (first | with_reducible (first | refine xrun_cons ?_ | refine xtxt_cons ?_) | (with_reducible (first | show xoper _ _ _ _ _ _ _ | show xdo _ _ _ _ _ _); simp only [zd, zb, zz, RT.at, RT.ty, RT.sub, RT.cut, RT.wr, getS, setT, Ty.dflt, lk, Ty.st, stV, unV, prodTV, Int.reduceToNat, Int.reduceEq, reduceCtorEq, Nat.reduceLT, Nat.reduceEqDiff, Nat.reduceAdd, Nat.reduceMul, Nat.reduceLeDiff, Nat.reduceSub, Nat.reduceBEq, Nat.reduceBNe, Nat.reduceBeqDiff, ↓reduceIte, tab, tL, tI, tB, LI, NI, LLI, tLL, spL, spLI, spIL, spLL, spT, spTT, sameSp, rowsSp, tableSp, sizeZSp, acrossSp]) | with_reducible refine xgd_intro (fun hg => ?_) (fun hg => ?_) <;> (try simp only [zh, zi, zz, reduceCtorEq] at hg) | ((with_reducible show (_ : Bool) = true); kernel_rfl) | with_reducible (first | refine And.intro ?_ ?_ | refine xrun_nil ?_ | refine xtxt_nil ?_) | (refine hK' _ ?_; clear hK'; clear K') | (with_reducible intro hg; try simp only [zh, zi, zz, reduceCtorEq] at hg))) | ((with_reducible show XW _ _ _ _ (.cond _ _ _) _ _); refine XW.cond rfl (fun h => ?_) (fun h => ?_) <;> (try simp only [zh, zi, zz, reduceCtorEq] at h) <;> (try (exfalso; omega))) | ((with_reducible show XW.thn _ _ _ _); dsimp only [XW.thn]) | ((with_reducible show XW.blk _ _ _ _); simp only [XW.blk, ↓reduceIte, Nat.reduceEqDiff, Nat.zero_ne_one, Nat.one_ne_zero, ne_eq]) | ((with_reducible show retK _ _ _ _); simp only [zd, zb, zz, lk, Nat.reduceEqDiff, Nat.reduceBEq, Nat.reduceBeqDiff, reduceCtorEq, ↓reduceIte])); all_goals (try (first | omega | with_reducible exact Int.le_refl _ | (show (_ : Int) ≤ _; omega)))
  · rw [decide_eq_false (by rintro rfl; exact h rfl)] at hk
    exact hk
  · refine ⟨i + 1, [], ⟨by omega, by omega, ?_⟩, by omega, ?_⟩
    · rw [show (i + 1).toNat = i.toNat + 1 by omega, take_succ_getD [] (by omega), take_succ_getD [] (by omega), hi.2.2, h]
    · simp only [Fits, distinct, fitEnv, fitB, fitL, fitRoots, fitRT, idsOK, AV.ids, zb, zz, RT.at, RT.ty, RT.sub, RT.cut, RT.wr, getS, setT, Ty.dflt, lk, Ty.st, stV, unV, prodTV, Int.reduceToNat, Int.reduceEq, reduceCtorEq, Nat.reduceLT, Nat.reduceEqDiff, Nat.reduceAdd, Nat.reduceMul, Nat.reduceLeDiff, Nat.reduceSub, Nat.reduceBEq, Nat.reduceBNe, Nat.reduceBeqDiff, ↓reduceIte, tab, tL, tI, tB, LI, NI, LLI, tLL, spL, spLI, spIL, spLL, spT, spTT, sameSp, rowsSp, tableSp, sizeZSp, acrossSp]
  · have e := hi.2.2
    rw [List.take_of_length_le (by omega), List.take_of_length_le (by omega)] at e
    rw [decide_eq_true e] at hk
    exact hk

set_option maxRecDepth 10000 in
theorem sizeZ_ok : FnOK Try.prog 26 sizeZSp := by
  have hC : ∀ {w0 : World} {S0 : Nat → Prop}, CtxOK Try.prog ⟨18, tab, fun f => lk [] f, fun f => lk [] f, fun f => lk [] f, fun f => lk [] f, fun f => lk [] f, fun f => lk [] f⟩ w0 S0 := ctx_ok trivial trivial trivial trivial trivial
  refine FnOK_of (C := ⟨18, tab, fun f => lk [] f, fun f => lk [] f, fun f => lk [] f, fun f => lk [] f, fun f => lk [] f, fun f => lk [] f⟩) 26 Try.f26 _ [2] sizeZSp Try.func26 rfl (by decide) rfl rfl (Nat.le_of_ble_eq_true rfl) fun args K ht hK w0 => ?_
  obtain ⟨p, rfl, hl, hb, hk⟩ := at_L ht hK
  repeat' (first | with_reducible (first | refine XW.seq ?_ | refine XW.block ?_ | refine XW.skip ?_ | refine XW.exit ?_ | refine XW.ret ?_) | ((first | with_reducible refine XW.region hC (fun K' hK' => ?_) | with_reducible refine XW.text hC hm_ok (by kernel_rfl) (fun K' hK' => ?_)); (try simp only [List.toList_toArray]); repeat' (first | with_reducible (first | refine xrun_cons ?_ | refine xtxt_cons ?_) | (with_reducible (first | show xoper _ _ _ _ _ _ _ | show xdo _ _ _ _ _ _); simp only [zd, zb, zz, RT.at, RT.ty, RT.sub, RT.cut, RT.wr, getS, setT, Ty.dflt, lk, Ty.st, stV, unV, prodTV, Int.reduceToNat, Int.reduceEq, reduceCtorEq, Nat.reduceLT, Nat.reduceEqDiff, Nat.reduceAdd, Nat.reduceMul, Nat.reduceLeDiff, Nat.reduceSub, Nat.reduceBEq, Nat.reduceBNe, Nat.reduceBeqDiff, ↓reduceIte, tab, tL, tI, tB, LI, NI, LLI, tLL, spL, spLI, spIL, spLL, spT, spTT, sameSp, rowsSp, tableSp, sizeZSp, acrossSp]) | with_reducible refine xgd_intro (fun hg => ?_) (fun hg => ?_) <;> (try simp only [zh, zi, zz, reduceCtorEq] at hg) | ((with_reducible show (_ : Bool) = true); kernel_rfl) | with_reducible (first | refine And.intro ?_ ?_ | refine xrun_nil ?_ | refine xtxt_nil ?_) | (refine hK' _ ?_; clear hK'; clear K') | (with_reducible intro hg; try simp only [zh, zi, zz, reduceCtorEq] at hg))) | ((with_reducible show XW _ _ _ _ (.cond _ _ _) _ _); refine XW.cond rfl (fun h => ?_) (fun h => ?_) <;> (try simp only [zh, zi, zz, reduceCtorEq] at h) <;> (try (exfalso; omega))) | ((with_reducible show XW.thn _ _ _ _); dsimp only [XW.thn]) | ((with_reducible show XW.blk _ _ _ _); simp only [XW.blk, ↓reduceIte, Nat.reduceEqDiff, Nat.zero_ne_one, Nat.one_ne_zero, ne_eq]) | ((with_reducible show retK _ _ _ _); simp only [zd, zb, zz, lk, Nat.reduceEqDiff, Nat.reduceBEq, Nat.reduceBeqDiff, reduceCtorEq, ↓reduceIte])); all_goals (try (first | omega | with_reducible exact Int.le_refl _ | (show (_ : Int) ≤ _; omega)))
  refine XW.loop (ι := Int × Int) (fun x => ⟨[(4, .dat NI x.1), (3, .dat NI x.2), (0, .dat LI p)], [], 0, []⟩)
    (fun x => 0 ≤ x.1 ∧ x.1 ≤ p.length ∧ x.2 = (p.take x.1.toNat).sum) (fun x => (p.length - x.1).toNat) (0, 0) [] ⟨Int.le_refl _, by dsimp only; omega, rfl⟩ ?_ fun x hx => ?_
  · simp only [Fits, distinct, fitEnv, fitB, fitL, fitRoots, fitRT, idsOK, AV.ids, zb, zz, RT.at, RT.ty, RT.sub, RT.cut, RT.wr, getS, setT, Ty.dflt, lk, Ty.st, stV, unV, prodTV, Int.reduceToNat, Int.reduceEq, reduceCtorEq, Nat.reduceLT, Nat.reduceEqDiff, Nat.reduceAdd, Nat.reduceMul, Nat.reduceLeDiff, Nat.reduceSub, Nat.reduceBEq, Nat.reduceBNe, Nat.reduceBeqDiff, ↓reduceIte, tab, tL, tI, tB, LI, NI, LLI, tLL, spL, spLI, spIL, spLL, spT, spTT, sameSp, rowsSp, tableSp, sizeZSp, acrossSp]
  obtain ⟨i, s⟩ := x
  obtain ⟨i0, i1, hs⟩ := hx
  dsimp only at i0 i1 hs ⊢
  have hsb := sumZ_le p hb i.toNat
  have hxb := fun h : i < p.length => hb _ (getD_mem 0 (show i.toNat < p.length by omega))
  have hst := fun h : i < p.length => sum_take_succ (l := p) (i := i.toNat) (by omega)
  repeat' (first | with_reducible (first | refine XW.seq ?_ | refine XW.block ?_ | refine XW.skip ?_ | refine XW.exit ?_ | refine XW.ret ?_) | ((first | with_reducible refine XW.region hC (fun K' hK' => ?_) | with_reducible refine XW.text hC hm_ok (by kernel_rfl) (fun K' hK' => ?_)); (try simp only [List.toList_toArray]); repeat' (first | with_reducible (first | refine xrun_cons ?_ | refine xtxt_cons ?_) | (with_reducible (first | show xoper _ _ _ _ _ _ _ | show xdo _ _ _ _ _ _); simp only [zd, zb, zz, RT.at, RT.ty, RT.sub, RT.cut, RT.wr, getS, setT, Ty.dflt, lk, Ty.st, stV, unV, prodTV, Int.reduceToNat, Int.reduceEq, reduceCtorEq, Nat.reduceLT, Nat.reduceEqDiff, Nat.reduceAdd, Nat.reduceMul, Nat.reduceLeDiff, Nat.reduceSub, Nat.reduceBEq, Nat.reduceBNe, Nat.reduceBeqDiff, ↓reduceIte, tab, tL, tI, tB, LI, NI, LLI, tLL, spL, spLI, spIL, spLL, spT, spTT, sameSp, rowsSp, tableSp, sizeZSp, acrossSp]) | with_reducible refine xgd_intro (fun hg => ?_) (fun hg => ?_) <;> (try simp only [zh, zi, zz, reduceCtorEq] at hg) | ((with_reducible show (_ : Bool) = true); kernel_rfl) | with_reducible (first | refine And.intro ?_ ?_ | refine xrun_nil ?_ | refine xtxt_nil ?_) | (refine hK' _ ?_; clear hK'; clear K') | (with_reducible intro hg; try simp only [zh, zi, zz, reduceCtorEq] at hg))) | ((with_reducible show XW _ _ _ _ (.cond _ _ _) _ _); refine XW.cond rfl (fun h => ?_) (fun h => ?_) <;> (try simp only [zh, zi, zz, reduceCtorEq] at h) <;> (try (exfalso; omega))) | ((with_reducible show XW.thn _ _ _ _); dsimp only [XW.thn]) | ((with_reducible show XW.blk _ _ _ _); simp only [XW.blk, ↓reduceIte, Nat.reduceEqDiff, Nat.zero_ne_one, Nat.one_ne_zero, ne_eq]) | ((with_reducible show retK _ _ _ _); simp only [zd, zb, zz, lk, Nat.reduceEqDiff, Nat.reduceBEq, Nat.reduceBeqDiff, reduceCtorEq, ↓reduceIte])); all_goals (try (first | omega | with_reducible exact Int.le_refl _ | (show (_ : Int) ≤ _; omega)))
  · refine ⟨(i + 1, s + p.getD i.toNat 0), [], ⟨by dsimp only; omega, by dsimp only; omega, ?_⟩, by dsimp only; omega, ?_⟩
    · dsimp only
      rw [show (i + 1).toNat = i.toNat + 1 by omega, hst h, hs]
    · simp only [Fits, distinct, fitEnv, fitB, fitL, fitRoots, fitRT, idsOK, AV.ids, zb, zz, RT.at, RT.ty, RT.sub, RT.cut, RT.wr, getS, setT, Ty.dflt, lk, Ty.st, stV, unV, prodTV, Int.reduceToNat, Int.reduceEq, reduceCtorEq, Nat.reduceLT, Nat.reduceEqDiff, Nat.reduceAdd, Nat.reduceMul, Nat.reduceLeDiff, Nat.reduceSub, Nat.reduceBEq, Nat.reduceBNe, Nat.reduceBeqDiff, ↓reduceIte, tab, tL, tI, tB, LI, NI, LLI, tLL, spL, spLI, spIL, spLL, spT, spTT, sameSp, rowsSp, tableSp, sizeZSp, acrossSp]
  · rw [← List.take_of_length_le (l := p) (i := i.toNat) (by omega), ← hs] at hk
    exact hk

end Fer
