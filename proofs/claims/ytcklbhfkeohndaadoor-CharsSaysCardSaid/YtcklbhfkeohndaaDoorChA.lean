import Derived.Test.YtcklbhfkeohndaaDoorRows
import Derived.Test.YtcklbhfkeohndaaDoorComB
import Derived.Test.YtcklbhfkeohndaaDoorFerZd
import Derived.Test.YtcklbhfkeohndaaDoorFerS
set_option linter.unusedSimpArgs false
set_option linter.unusedVariables false
set_option maxHeartbeats 1000000
namespace Fer
open Go Go.Proofs Go.Sort

@[reducible] def SPt : Ty := .prod (.list 3 (.int .i64)) (.int .i64)
@[reducible] def LSP : Ty := .list 30 SPt
@[reducible] def tSP (l : List (List Int × Int)) : TV := ⟨LSP, l⟩

def cmpJ (x y : Int) : Int := if x < y then -1 else if y < x then 1 else 0
def spJJ (f : Int → Int → (List TV → Prop) → Prop) : Spec := ⟨[NI, NI], fun args K => match args with | [⟨.int _, x⟩, ⟨.int _, y⟩] => f x y K | _ => False⟩
def nan2Sp : Spec := ⟨[NI], fun args K => match args with | [⟨.int _, _⟩] => K [tB false] | _ => False⟩
def cmp2Sp : Spec := spJJ fun x y K => K [tI (cmpJ x y)]
def cmpLSp : Spec := spLL fun x y K => K [tI (cmpL x y)]
def cmpLRSp : Spec := spLL fun x y K => K [tI (cmpL y x)]
def cmpStSp : Spec := ⟨[SPt, SPt], fun args K => match args with | [⟨.prod (.list _ (.int _)) (.int _), x⟩, ⟨.prod (.list _ (.int _)) (.int _), y⟩] => K [tI (cmpL y.1 x.1)] | _ => False⟩

theorem at_JJ {f : Int → Int → (List TV → Prop) → Prop} {args : List TV} {K : List TV → Prop} (ht : args.map (·.t) = (spJJ f).ps) (hK : (spJJ f).wp args K) : ∃ x y, args = [tI x, tI y] ∧ f x y K := by
  match args, ht, hK with
  | [⟨t, x⟩, ⟨u, y⟩], ht, hK =>
    simp only [spJJ, List.map_cons, List.map_nil, List.cons.injEq, and_true] at ht
    obtain ⟨rfl, rfl⟩ := ht
    exact ⟨x, y, rfl, hK⟩
  | [], ht, _ => simp [spJJ] at ht
  | [_], ht, _ => simp [spJJ] at ht
  | _ :: _ :: _ :: _, ht, _ => simp [spJJ] at ht

set_option maxRecDepth 10000 in
theorem nan2_ok : FnOK Tryd.prog 53 nan2Sp := by
  have hC : ∀ {w0 : World} {S0 : Nat → Prop}, CtxOK Tryd.prog ⟨6, tab, fun f => lk [] f, fun f => lk [] f, fun f => lk [] f, fun f => lk [] f, fun f => lk [] f, fun f => lk [] f⟩ w0 S0 := ctx_ok trivial trivial trivial trivial trivial
  refine FnOK_of (C := ⟨6, tab, fun f => lk [] f, fun f => lk [] f, fun f => lk [] f, fun f => lk [] f, fun f => lk [] f, fun f => lk [] f⟩) 53 Tryd.f53 _ [2] nan2Sp Tryd.func53 rfl (by decide) rfl rfl (Nat.le_of_ble_eq_true rfl) fun args K ht hK w0 => ?_
  obtain ⟨x, rfl, hk⟩ : ∃ x, args = [tI x] ∧ K [tB false] := by
    match args, ht, hK with
    | [⟨t, x⟩], ht, hK =>
      simp only [nan2Sp, List.map_cons, List.map_nil, List.cons.injEq, and_true] at ht
      subst ht
      exact ⟨x, rfl, hK⟩
    | [], ht, _ => simp [nan2Sp] at ht
    | _ :: _ :: _, ht, _ => simp [nan2Sp] at ht
  repeat' (first | with_reducible refine XW.seq ?_ | with_reducible refine XW.block ?_ | with_reducible refine XW.skip ?_ | with_reducible refine XW.exit ?_ | with_reducible refine XW.ret ?_ | ((first | with_reducible refine XW.region hC (fun K' hK' => ?_) | with_reducible refine XW.text hC hm_ok (by kernel_rfl) (fun K' hK' => ?_)); (try simp only [List.toList_toArray]); repeat' (first | with_reducible refine xrun_cons ?_ | with_reducible refine xtxt_cons ?_ | ((first | with_reducible show xoper _ _ _ _ _ _ _ | with_reducible show xdo _ _ _ _ _ _); simp only [zd, zb, zz, RT.at, RT.ty, RT.sub, RT.cut, RT.wr, getS, setT, Ty.dflt, lk, Ty.st, stV, unV, prodTV, Int.reduceToNat, Int.reduceEq, reduceCtorEq, Nat.reduceLT, Nat.reduceEqDiff, Nat.reduceAdd, Nat.reduceMul, Nat.reduceLeDiff, Nat.reduceSub, Nat.reduceBEq, Nat.reduceBNe, Nat.reduceBeqDiff, ↓reduceIte, tab, tL, tI, tB, LI, NI, LLI, tLL, SPt, LSP, tSP, spL, spLI, spIL, spLL, spJJ, nan2Sp, cmp2Sp, cmpLSp, cmpLRSp, cmpStSp, List.set_cons_zero, List.getD_cons_zero]) | with_reducible refine xgd_intro (fun hg => ?_) (fun hg => ?_) <;> (try simp only [zh, zi, zz, reduceCtorEq] at hg) | ((with_reducible show (_ : Bool) = true); kernel_rfl) | with_reducible refine And.intro ?_ ?_ | with_reducible refine xrun_nil ?_ | with_reducible refine xtxt_nil ?_ | (refine hK' _ ?_; clear hK'; clear K') | (with_reducible intro hg; try simp only [zh, zi, zz, reduceCtorEq] at hg))) | ((with_reducible show XW _ _ _ _ (.cond _ _ _) _ _); refine XW.cond rfl (fun h => ?_) (fun h => ?_) <;> (try simp only [zh, zi, zz, reduceCtorEq] at h) <;> (try (exfalso; omega))) | ((with_reducible show XW.thn _ _ _ _); dsimp only [XW.thn]) | ((with_reducible show XW.blk _ _ _ _); simp only [XW.blk, ↓reduceIte, Nat.reduceEqDiff, Nat.zero_ne_one, Nat.one_ne_zero, ne_eq]) | ((with_reducible show retK _ _ _ _); simp only [zd, zb, zz, lk, Nat.reduceEqDiff, Nat.reduceBEq, Nat.reduceBeqDiff, reduceCtorEq, ↓reduceIte])); all_goals (try (first | omega | with_reducible exact Int.le_refl _ | (show (_ : Int) ≤ _; omega)))

set_option maxRecDepth 10000 in
theorem cmp2_ok : FnOK Tryd.prog 39 cmp2Sp := by
  have hC : ∀ {w0 : World} {S0 : Nat → Prop}, CtxOK Tryd.prog ⟨20, tab, fun f => lk [(53, nan2Sp)] f, fun f => lk [] f, fun f => lk [] f, fun f => lk [] f, fun f => lk [] f, fun f => lk [] f⟩ w0 S0 := ctx_ok ⟨nan2_ok, trivial⟩ trivial trivial trivial trivial
  refine FnOK_of (C := ⟨20, tab, fun f => lk [(53, nan2Sp)] f, fun f => lk [] f, fun f => lk [] f, fun f => lk [] f, fun f => lk [] f, fun f => lk [] f⟩) 39 Tryd.f39 _ [4] cmp2Sp Tryd.func39 rfl (by decide) rfl rfl (Nat.le_of_ble_eq_true rfl) fun args K ht hK w0 => ?_
  obtain ⟨x, y, rfl, hk⟩ := at_JJ ht hK
  unfold cmpJ at hk
  repeat' (first | with_reducible refine XW.seq ?_ | with_reducible refine XW.block ?_ | with_reducible refine XW.skip ?_ | with_reducible refine XW.exit ?_ | with_reducible refine XW.ret ?_ | ((first | with_reducible refine XW.region hC (fun K' hK' => ?_) | with_reducible refine XW.text hC hm_ok (by kernel_rfl) (fun K' hK' => ?_)); (try simp only [List.toList_toArray]); repeat' (first | with_reducible refine xrun_cons ?_ | with_reducible refine xtxt_cons ?_ | ((first | with_reducible show xoper _ _ _ _ _ _ _ | with_reducible show xdo _ _ _ _ _ _); simp only [zd, zb, zz, RT.at, RT.ty, RT.sub, RT.cut, RT.wr, getS, setT, Ty.dflt, lk, Ty.st, stV, unV, prodTV, Int.reduceToNat, Int.reduceEq, reduceCtorEq, Nat.reduceLT, Nat.reduceEqDiff, Nat.reduceAdd, Nat.reduceMul, Nat.reduceLeDiff, Nat.reduceSub, Nat.reduceBEq, Nat.reduceBNe, Nat.reduceBeqDiff, ↓reduceIte, tab, tL, tI, tB, LI, NI, LLI, tLL, SPt, LSP, tSP, spL, spLI, spIL, spLL, spJJ, nan2Sp, cmp2Sp, cmpLSp, cmpLRSp, cmpStSp, List.set_cons_zero, List.getD_cons_zero]) | with_reducible refine xgd_intro (fun hg => ?_) (fun hg => ?_) <;> (try simp only [zh, zi, zz, reduceCtorEq] at hg) | ((with_reducible show (_ : Bool) = true); kernel_rfl) | with_reducible refine And.intro ?_ ?_ | with_reducible refine xrun_nil ?_ | with_reducible refine xtxt_nil ?_ | (refine hK' _ ?_; clear hK'; clear K') | (with_reducible intro hg; try simp only [zh, zi, zz, reduceCtorEq] at hg))) | ((with_reducible show XW _ _ _ _ (.cond _ _ _) _ _); refine XW.cond rfl (fun h => ?_) (fun h => ?_) <;> (try simp only [zh, zi, zz, reduceCtorEq] at h) <;> (try (exfalso; omega))) | ((with_reducible show XW.thn _ _ _ _); dsimp only [XW.thn]) | ((with_reducible show XW.blk _ _ _ _); simp only [XW.blk, ↓reduceIte, Nat.reduceEqDiff, Nat.zero_ne_one, Nat.one_ne_zero, ne_eq]) | ((with_reducible show retK _ _ _ _); simp only [zd, zb, zz, lk, Nat.reduceEqDiff, Nat.reduceBEq, Nat.reduceBeqDiff, reduceCtorEq, ↓reduceIte])); all_goals (try (first | omega | with_reducible exact Int.le_refl _ | (show (_ : Int) ≤ _; omega)))
  · rw [if_pos (by omega)] at hk; exact hk
  · rw [if_neg (by omega), if_pos (by omega)] at hk; exact hk
  · rw [if_neg (by omega), if_neg (by omega)] at hk; exact hk

theorem cmpL_drop {x y : List Int} {i : Nat} (h : i < x.length) (h2 : i < y.length) : cmpL (x.drop i) (y.drop i) = if cmpJ (x.getD i 0) (y.getD i 0) ≠ 0 then cmpJ (x.getD i 0) (y.getD i 0) else cmpL (x.drop (i + 1)) (y.drop (i + 1)) := by
  rw [drop_pred_getD 0 h, drop_pred_getD 0 h2]
  conv => lhs; unfold cmpL
  unfold cmpJ
  generalize x.getD i 0 = a
  generalize y.getD i 0 = b
  by_cases h1 : a < b
  · simp [h1]
  · by_cases h3 : b < a
    · simp [h1, h3]
    · simp [h1, h3]
theorem cmpL_end {x y : List Int} {i : Nat} (h : i < x.length) (h2 : y.length ≤ i) : cmpL (x.drop i) (y.drop i) = 1 := by
  rw [drop_pred_getD 0 h, List.drop_eq_nil_of_le h2]
  rfl
theorem cmpL_short {x y : List Int} {i : Nat} (h : x.length ≤ i) : cmpL (x.drop i) (y.drop i) = if i < y.length then -1 else 0 := by
  rw [List.drop_eq_nil_of_le h]
  split
  · rename_i h2
    rw [drop_pred_getD 0 h2]
    rfl
  · rw [List.drop_eq_nil_of_le (by omega)]
    rfl

set_option maxRecDepth 10000 in
theorem cmpL_ok : FnOK Tryd.prog 23 cmpLSp := by
  have hC : ∀ {w0 : World} {S0 : Nat → Prop}, CtxOK Tryd.prog ⟨36, tab, fun f => lk [(39, cmp2Sp)] f, fun f => lk [] f, fun f => lk [] f, fun f => lk [] f, fun f => lk [] f, fun f => lk [] f⟩ w0 S0 := ctx_ok ⟨cmp2_ok, trivial⟩ trivial trivial trivial trivial
  refine FnOK_of (C := ⟨36, tab, fun f => lk [(39, cmp2Sp)] f, fun f => lk [] f, fun f => lk [] f, fun f => lk [] f, fun f => lk [] f, fun f => lk [] f⟩) 23 Tryd.f23 _ [4] cmpLSp Tryd.func23 rfl (by decide) rfl rfl (Nat.le_of_ble_eq_true rfl) fun args K ht hK w0 => ?_
  obtain ⟨x, y, rfl, hk⟩ := at_LL ht hK
  have hk : K [tI (cmpL x y)] := hk
  repeat' (first | with_reducible refine XW.seq ?_ | with_reducible refine XW.block ?_ | with_reducible refine XW.skip ?_ | with_reducible refine XW.exit ?_ | with_reducible refine XW.ret ?_ | ((first | with_reducible refine XW.region hC (fun K' hK' => ?_) | with_reducible refine XW.text hC hm_ok (by kernel_rfl) (fun K' hK' => ?_)); (try simp only [List.toList_toArray]); repeat' (first | with_reducible refine xrun_cons ?_ | with_reducible refine xtxt_cons ?_ | ((first | with_reducible show xoper _ _ _ _ _ _ _ | with_reducible show xdo _ _ _ _ _ _); simp only [zd, zb, zz, RT.at, RT.ty, RT.sub, RT.cut, RT.wr, getS, setT, Ty.dflt, lk, Ty.st, stV, unV, prodTV, Int.reduceToNat, Int.reduceEq, reduceCtorEq, Nat.reduceLT, Nat.reduceEqDiff, Nat.reduceAdd, Nat.reduceMul, Nat.reduceLeDiff, Nat.reduceSub, Nat.reduceBEq, Nat.reduceBNe, Nat.reduceBeqDiff, ↓reduceIte, tab, tL, tI, tB, LI, NI, LLI, tLL, SPt, LSP, tSP, spL, spLI, spIL, spLL, spJJ, nan2Sp, cmp2Sp, cmpLSp, cmpLRSp, cmpStSp, List.set_cons_zero, List.getD_cons_zero]) | with_reducible refine xgd_intro (fun hg => ?_) (fun hg => ?_) <;> (try simp only [zh, zi, zz, reduceCtorEq] at hg) | ((with_reducible show (_ : Bool) = true); kernel_rfl) | with_reducible refine And.intro ?_ ?_ | with_reducible refine xrun_nil ?_ | with_reducible refine xtxt_nil ?_ | (refine hK' _ ?_; clear hK'; clear K') | (with_reducible intro hg; try simp only [zh, zi, zz, reduceCtorEq] at hg))) | ((with_reducible show XW _ _ _ _ (.cond _ _ _) _ _); refine XW.cond rfl (fun h => ?_) (fun h => ?_) <;> (try simp only [zh, zi, zz, reduceCtorEq] at h) <;> (try (exfalso; omega))) | ((with_reducible show XW.thn _ _ _ _); dsimp only [XW.thn]) | ((with_reducible show XW.blk _ _ _ _); simp only [XW.blk, ↓reduceIte, Nat.reduceEqDiff, Nat.zero_ne_one, Nat.one_ne_zero, ne_eq]) | ((with_reducible show retK _ _ _ _); simp only [zd, zb, zz, lk, Nat.reduceEqDiff, Nat.reduceBEq, Nat.reduceBeqDiff, reduceCtorEq, ↓reduceIte])); all_goals (try (first | omega | with_reducible exact Int.le_refl _ | (show (_ : Int) ≤ _; omega)))
  refine XW.loop (ι := Nat) (fun i => ⟨[(11, .dat NI (i : Int)), (10, .dat NI (x.length : Int)), (9, .dat LI x), (0, .dat LI x), (1, .dat LI y)], [], 0, []⟩)
    (fun i => i ≤ x.length ∧ i ≤ y.length ∧ cmpL x y = cmpL (x.drop i) (y.drop i)) (fun i => x.length - i) 0 [] ⟨Nat.zero_le _, Nat.zero_le _, rfl⟩ ?_ fun i hi => ?_
  · simp only [Fits, distinct, fitEnv, fitB, fitL, fitRoots, fitRT, idsOK, AV.ids, zb, zz, RT.at, RT.ty, RT.sub, RT.cut, RT.wr, getS, setT, Ty.dflt, lk, Ty.st, stV, unV, prodTV, Int.reduceToNat, Int.reduceEq, reduceCtorEq, Nat.reduceLT, Nat.reduceEqDiff, Nat.reduceAdd, Nat.reduceMul, Nat.reduceLeDiff, Nat.reduceSub, Nat.reduceBEq, Nat.reduceBNe, Nat.reduceBeqDiff, ↓reduceIte, tab, tL, tI, tB, LI, NI, LLI, tLL, SPt, LSP, tSP, spL, spLI, spIL, spLL, spJJ, nan2Sp, cmp2Sp, cmpLSp, cmpLRSp, cmpStSp, List.set_cons_zero, List.getD_cons_zero]
  obtain ⟨i1, i2, he⟩ := hi
  by_cases hil : i < x.length
  · by_cases hiy : i < y.length
    · rw [he, cmpL_drop hil hiy] at hk
      have hd := cmpL_drop hil hiy
      by_cases hc : cmpJ (x.getD i 0) (y.getD i 0) = 0
      · have h0 : ((i : Int) < (x.length : Int)) := by omega
        repeat' (first | with_reducible refine XW.seq ?_ | with_reducible refine XW.block ?_ | with_reducible refine XW.skip ?_ | with_reducible refine XW.exit ?_ | with_reducible refine XW.ret ?_ | ((first | with_reducible refine XW.region hC (fun K' hK' => ?_) | with_reducible refine XW.text hC hm_ok (by kernel_rfl) (fun K' hK' => ?_)); (try simp only [List.toList_toArray]); repeat' (first | with_reducible refine xrun_cons ?_ | with_reducible refine xtxt_cons ?_ | ((first | with_reducible show xoper _ _ _ _ _ _ _ | with_reducible show xdo _ _ _ _ _ _); simp only [zd, zb, zz, RT.at, RT.ty, RT.sub, RT.cut, RT.wr, getS, setT, Ty.dflt, lk, Ty.st, stV, unV, prodTV, Int.reduceToNat, Int.reduceEq, reduceCtorEq, Nat.reduceLT, Nat.reduceEqDiff, Nat.reduceAdd, Nat.reduceMul, Nat.reduceLeDiff, Nat.reduceSub, Nat.reduceBEq, Nat.reduceBNe, Nat.reduceBeqDiff, ↓reduceIte, tab, tL, tI, tB, LI, NI, LLI, tLL, SPt, LSP, tSP, spL, spLI, spIL, spLL, spJJ, nan2Sp, cmp2Sp, cmpLSp, cmpLRSp, cmpStSp, List.set_cons_zero, List.getD_cons_zero, hc]) | with_reducible refine xgd_intro (fun hg => ?_) (fun hg => ?_) <;> (try simp only [zh, zi, zz, reduceCtorEq] at hg) | ((with_reducible show (_ : Bool) = true); kernel_rfl) | with_reducible refine And.intro ?_ ?_ | with_reducible refine xrun_nil ?_ | with_reducible refine xtxt_nil ?_ | (refine hK' _ ?_; clear hK'; clear K') | (with_reducible intro hg; try simp only [zh, zi, zz, reduceCtorEq] at hg))) | ((with_reducible show XW _ _ _ _ (.cond _ _ _) _ _); refine XW.cond rfl (fun h => ?_) (fun h => ?_) <;> (try simp only [zh, zi, zz, reduceCtorEq] at h) <;> (try (exfalso; omega))) | ((with_reducible show XW.thn _ _ _ _); dsimp only [XW.thn]) | ((with_reducible show XW.blk _ _ _ _); simp only [XW.blk, ↓reduceIte, Nat.reduceEqDiff, Nat.zero_ne_one, Nat.one_ne_zero, ne_eq]) | ((with_reducible show retK _ _ _ _); simp only [zd, zb, zz, lk, Nat.reduceEqDiff, Nat.reduceBEq, Nat.reduceBeqDiff, reduceCtorEq, ↓reduceIte])); all_goals (try (first | omega | with_reducible exact Int.le_refl _ | (show (_ : Int) ≤ _; omega)))
        all_goals first
          | (refine ⟨i + 1, [], ⟨by omega, by omega, by rw [he, hd, if_neg (fun h => h hc)]⟩, by omega, ?_⟩; simp only [Fits, distinct, fitEnv, fitB, fitL, fitRoots, fitRT, idsOK, AV.ids, zb, zz, RT.at, RT.ty, RT.sub, RT.cut, RT.wr, getS, setT, Ty.dflt, lk, Ty.st, stV, unV, prodTV, Int.reduceToNat, Int.reduceEq, reduceCtorEq, Nat.reduceLT, Nat.reduceEqDiff, Nat.reduceAdd, Nat.reduceMul, Nat.reduceLeDiff, Nat.reduceSub, Nat.reduceBEq, Nat.reduceBNe, Nat.reduceBeqDiff, ↓reduceIte, tab, tL, tI, tB, LI, NI, LLI, tLL, SPt, LSP, tSP, spL, spLI, spIL, spLL, spJJ, nan2Sp, cmp2Sp, cmpLSp, cmpLRSp, cmpStSp, List.set_cons_zero, List.getD_cons_zero]; done)
          | (refine ⟨i + 1, [], ⟨by omega, by omega, by rw [he, hd, if_neg (fun h => h hc)]⟩, by omega, ?_⟩; simp only [Fits, distinct, fitEnv, fitB, fitL, fitRoots, fitRT, idsOK, AV.ids, zb, zz, RT.at, RT.ty, RT.sub, RT.cut, RT.wr, getS, setT, Ty.dflt, lk, Ty.st, stV, unV, prodTV, Int.reduceToNat, Int.reduceEq, reduceCtorEq, Nat.reduceLT, Nat.reduceEqDiff, Nat.reduceAdd, Nat.reduceMul, Nat.reduceLeDiff, Nat.reduceSub, Nat.reduceBEq, Nat.reduceBNe, Nat.reduceBeqDiff, ↓reduceIte, tab, tL, tI, tB, LI, NI, LLI, tLL, SPt, LSP, tSP, spL, spLI, spIL, spLL, spJJ, nan2Sp, cmp2Sp, cmpLSp, cmpLRSp, cmpStSp, List.set_cons_zero, List.getD_cons_zero]; first | rfl | omega)
          | (exfalso; omega)
          | skip
      · rw [if_pos hc] at hk
        repeat' (first | with_reducible refine XW.seq ?_ | with_reducible refine XW.block ?_ | with_reducible refine XW.skip ?_ | with_reducible refine XW.exit ?_ | with_reducible refine XW.ret ?_ | ((first | with_reducible refine XW.region hC (fun K' hK' => ?_) | with_reducible refine XW.text hC hm_ok (by kernel_rfl) (fun K' hK' => ?_)); (try simp only [List.toList_toArray]); repeat' (first | with_reducible refine xrun_cons ?_ | with_reducible refine xtxt_cons ?_ | ((first | with_reducible show xoper _ _ _ _ _ _ _ | with_reducible show xdo _ _ _ _ _ _); simp only [zd, zb, zz, RT.at, RT.ty, RT.sub, RT.cut, RT.wr, getS, setT, Ty.dflt, lk, Ty.st, stV, unV, prodTV, Int.reduceToNat, Int.reduceEq, reduceCtorEq, Nat.reduceLT, Nat.reduceEqDiff, Nat.reduceAdd, Nat.reduceMul, Nat.reduceLeDiff, Nat.reduceSub, Nat.reduceBEq, Nat.reduceBNe, Nat.reduceBeqDiff, ↓reduceIte, tab, tL, tI, tB, LI, NI, LLI, tLL, SPt, LSP, tSP, spL, spLI, spIL, spLL, spJJ, nan2Sp, cmp2Sp, cmpLSp, cmpLRSp, cmpStSp, List.set_cons_zero, List.getD_cons_zero]) | with_reducible refine xgd_intro (fun hg => ?_) (fun hg => ?_) <;> (try simp only [zh, zi, zz, reduceCtorEq] at hg) | ((with_reducible show (_ : Bool) = true); kernel_rfl) | with_reducible refine And.intro ?_ ?_ | with_reducible refine xrun_nil ?_ | with_reducible refine xtxt_nil ?_ | (refine hK' _ ?_; clear hK'; clear K') | (with_reducible intro hg; try simp only [zh, zi, zz, reduceCtorEq] at hg))) | ((with_reducible show XW _ _ _ _ (.cond _ _ _) _ _); refine XW.cond rfl (fun h => ?_) (fun h => ?_) <;> (try simp only [zh, zi, zz, reduceCtorEq] at h) <;> (try (exfalso; omega))) | ((with_reducible show XW.thn _ _ _ _); dsimp only [XW.thn]) | ((with_reducible show XW.blk _ _ _ _); simp only [XW.blk, ↓reduceIte, Nat.reduceEqDiff, Nat.zero_ne_one, Nat.one_ne_zero, ne_eq]) | ((with_reducible show retK _ _ _ _); simp only [zd, zb, zz, lk, Nat.reduceEqDiff, Nat.reduceBEq, Nat.reduceBeqDiff, reduceCtorEq, ↓reduceIte])); all_goals (try (first | omega | with_reducible exact Int.le_refl _ | (show (_ : Int) ≤ _; omega)))
        all_goals first
          | exact hk
          | (exfalso; omega)
          | exact absurd (by assumption) hc
          | skip
    · rw [he, cmpL_end hil (by omega)] at hk
      repeat' (first | with_reducible refine XW.seq ?_ | with_reducible refine XW.block ?_ | with_reducible refine XW.skip ?_ | with_reducible refine XW.exit ?_ | with_reducible refine XW.ret ?_ | ((first | with_reducible refine XW.region hC (fun K' hK' => ?_) | with_reducible refine XW.text hC hm_ok (by kernel_rfl) (fun K' hK' => ?_)); (try simp only [List.toList_toArray]); repeat' (first | with_reducible refine xrun_cons ?_ | with_reducible refine xtxt_cons ?_ | ((first | with_reducible show xoper _ _ _ _ _ _ _ | with_reducible show xdo _ _ _ _ _ _); simp only [zd, zb, zz, RT.at, RT.ty, RT.sub, RT.cut, RT.wr, getS, setT, Ty.dflt, lk, Ty.st, stV, unV, prodTV, Int.reduceToNat, Int.reduceEq, reduceCtorEq, Nat.reduceLT, Nat.reduceEqDiff, Nat.reduceAdd, Nat.reduceMul, Nat.reduceLeDiff, Nat.reduceSub, Nat.reduceBEq, Nat.reduceBNe, Nat.reduceBeqDiff, ↓reduceIte, tab, tL, tI, tB, LI, NI, LLI, tLL, SPt, LSP, tSP, spL, spLI, spIL, spLL, spJJ, nan2Sp, cmp2Sp, cmpLSp, cmpLRSp, cmpStSp, List.set_cons_zero, List.getD_cons_zero]) | with_reducible refine xgd_intro (fun hg => ?_) (fun hg => ?_) <;> (try simp only [zh, zi, zz, reduceCtorEq] at hg) | ((with_reducible show (_ : Bool) = true); kernel_rfl) | with_reducible refine And.intro ?_ ?_ | with_reducible refine xrun_nil ?_ | with_reducible refine xtxt_nil ?_ | (refine hK' _ ?_; clear hK'; clear K') | (with_reducible intro hg; try simp only [zh, zi, zz, reduceCtorEq] at hg))) | ((with_reducible show XW _ _ _ _ (.cond _ _ _) _ _); refine XW.cond rfl (fun h => ?_) (fun h => ?_) <;> (try simp only [zh, zi, zz, reduceCtorEq] at h) <;> (try (exfalso; omega))) | ((with_reducible show XW.thn _ _ _ _); dsimp only [XW.thn]) | ((with_reducible show XW.blk _ _ _ _); simp only [XW.blk, ↓reduceIte, Nat.reduceEqDiff, Nat.zero_ne_one, Nat.one_ne_zero, ne_eq]) | ((with_reducible show retK _ _ _ _); simp only [zd, zb, zz, lk, Nat.reduceEqDiff, Nat.reduceBEq, Nat.reduceBeqDiff, reduceCtorEq, ↓reduceIte])); all_goals (try (first | omega | with_reducible exact Int.le_refl _ | (show (_ : Int) ≤ _; omega)))
      all_goals first
        | exact hk
        | (exfalso; omega)
        | skip
  · rw [he, cmpL_short (by omega)] at hk
    repeat' (first | with_reducible refine XW.seq ?_ | with_reducible refine XW.block ?_ | with_reducible refine XW.skip ?_ | with_reducible refine XW.exit ?_ | with_reducible refine XW.ret ?_ | ((first | with_reducible refine XW.region hC (fun K' hK' => ?_) | with_reducible refine XW.text hC hm_ok (by kernel_rfl) (fun K' hK' => ?_)); (try simp only [List.toList_toArray]); repeat' (first | with_reducible refine xrun_cons ?_ | with_reducible refine xtxt_cons ?_ | ((first | with_reducible show xoper _ _ _ _ _ _ _ | with_reducible show xdo _ _ _ _ _ _); simp only [zd, zb, zz, RT.at, RT.ty, RT.sub, RT.cut, RT.wr, getS, setT, Ty.dflt, lk, Ty.st, stV, unV, prodTV, Int.reduceToNat, Int.reduceEq, reduceCtorEq, Nat.reduceLT, Nat.reduceEqDiff, Nat.reduceAdd, Nat.reduceMul, Nat.reduceLeDiff, Nat.reduceSub, Nat.reduceBEq, Nat.reduceBNe, Nat.reduceBeqDiff, ↓reduceIte, tab, tL, tI, tB, LI, NI, LLI, tLL, SPt, LSP, tSP, spL, spLI, spIL, spLL, spJJ, nan2Sp, cmp2Sp, cmpLSp, cmpLRSp, cmpStSp, List.set_cons_zero, List.getD_cons_zero]) | with_reducible refine xgd_intro (fun hg => ?_) (fun hg => ?_) <;> (try simp only [zh, zi, zz, reduceCtorEq] at hg) | ((with_reducible show (_ : Bool) = true); kernel_rfl) | with_reducible refine And.intro ?_ ?_ | with_reducible refine xrun_nil ?_ | with_reducible refine xtxt_nil ?_ | (refine hK' _ ?_; clear hK'; clear K') | (with_reducible intro hg; try simp only [zh, zi, zz, reduceCtorEq] at hg))) | ((with_reducible show XW _ _ _ _ (.cond _ _ _) _ _); refine XW.cond rfl (fun h => ?_) (fun h => ?_) <;> (try simp only [zh, zi, zz, reduceCtorEq] at h) <;> (try (exfalso; omega))) | ((with_reducible show XW.thn _ _ _ _); dsimp only [XW.thn]) | ((with_reducible show XW.blk _ _ _ _); simp only [XW.blk, ↓reduceIte, Nat.reduceEqDiff, Nat.zero_ne_one, Nat.one_ne_zero, ne_eq]) | ((with_reducible show retK _ _ _ _); simp only [zd, zb, zz, lk, Nat.reduceEqDiff, Nat.reduceBEq, Nat.reduceBeqDiff, reduceCtorEq, ↓reduceIte])); all_goals (try (first | omega | with_reducible exact Int.le_refl _ | (show (_ : Int) ≤ _; omega)))
    all_goals first
      | (rw [if_pos (by omega)] at hk; exact hk)
      | (rw [if_neg (by omega)] at hk; exact hk)
      | (exfalso; omega)
      | skip

theorem at_St {args : List TV} {K : List TV → Prop} (ht : args.map (·.t) = cmpStSp.ps) (hK : cmpStSp.wp args K) : ∃ x y, args = [⟨SPt, x⟩, ⟨SPt, y⟩] ∧ K [tI (cmpL y.1 x.1)] := by
  match args, ht, hK with
  | [⟨t, x⟩, ⟨u, y⟩], ht, hK =>
    simp only [cmpStSp, List.map_cons, List.map_nil, List.cons.injEq, and_true] at ht
    obtain ⟨rfl, rfl⟩ := ht
    exact ⟨x, y, rfl, hK⟩
  | [], ht, _ => simp [cmpStSp] at ht
  | [_], ht, _ => simp [cmpStSp] at ht
  | _ :: _ :: _ :: _, ht, _ => simp [cmpStSp] at ht

set_option maxRecDepth 10000 in
theorem cmpSt_ok : FnOK Tryd.prog 34 cmpStSp := by
  have hC : ∀ {w0 : World} {S0 : Nat → Prop}, CtxOK Tryd.prog ⟨10, tab, fun f => lk [(23, cmpLSp)] f, fun f => lk [] f, fun f => lk [] f, fun f => lk [] f, fun f => lk [] f, fun f => lk [] f⟩ w0 S0 := ctx_ok ⟨cmpL_ok, trivial⟩ trivial trivial trivial trivial
  refine FnOK_of (C := ⟨10, tab, fun f => lk [(23, cmpLSp)] f, fun f => lk [] f, fun f => lk [] f, fun f => lk [] f, fun f => lk [] f, fun f => lk [] f⟩) 34 Tryd.f34 _ [4] cmpStSp Tryd.func34 rfl (by decide) rfl rfl (Nat.le_of_ble_eq_true rfl) fun args K ht hK w0 => ?_
  obtain ⟨⟨x1, x2⟩, ⟨y1, y2⟩, rfl, hk⟩ := at_St ht hK
  repeat' (first | with_reducible refine XW.seq ?_ | with_reducible refine XW.block ?_ | with_reducible refine XW.skip ?_ | with_reducible refine XW.exit ?_ | with_reducible refine XW.ret ?_ | ((first | with_reducible refine XW.region hC (fun K' hK' => ?_) | with_reducible refine XW.text hC hm_ok (by kernel_rfl) (fun K' hK' => ?_)); (try simp only [List.toList_toArray]); repeat' (first | with_reducible refine xrun_cons ?_ | with_reducible refine xtxt_cons ?_ | ((first | with_reducible show xoper _ _ _ _ _ _ _ | with_reducible show xdo _ _ _ _ _ _); simp only [zd, zb, zz, RT.at, RT.ty, RT.sub, RT.cut, RT.wr, getS, setT, Ty.dflt, lk, Ty.st, stV, unV, prodTV, Int.reduceToNat, Int.reduceEq, reduceCtorEq, Nat.reduceLT, Nat.reduceEqDiff, Nat.reduceAdd, Nat.reduceMul, Nat.reduceLeDiff, Nat.reduceSub, Nat.reduceBEq, Nat.reduceBNe, Nat.reduceBeqDiff, ↓reduceIte, tab, tL, tI, tB, LI, NI, LLI, tLL, SPt, LSP, tSP, spL, spLI, spIL, spLL, spJJ, nan2Sp, cmp2Sp, cmpLSp, cmpLRSp, cmpStSp, List.set_cons_zero, List.getD_cons_zero]) | with_reducible refine xgd_intro (fun hg => ?_) (fun hg => ?_) <;> (try simp only [zh, zi, zz, reduceCtorEq] at hg) | ((with_reducible show (_ : Bool) = true); kernel_rfl) | with_reducible refine And.intro ?_ ?_ | with_reducible refine xrun_nil ?_ | with_reducible refine xtxt_nil ?_ | (refine hK' _ ?_; clear hK'; clear K') | (with_reducible intro hg; try simp only [zh, zi, zz, reduceCtorEq] at hg))) | ((with_reducible show XW _ _ _ _ (.cond _ _ _) _ _); refine XW.cond rfl (fun h => ?_) (fun h => ?_) <;> (try simp only [zh, zi, zz, reduceCtorEq] at h) <;> (try (exfalso; omega))) | ((with_reducible show XW.thn _ _ _ _); dsimp only [XW.thn]) | ((with_reducible show XW.blk _ _ _ _); simp only [XW.blk, ↓reduceIte, Nat.reduceEqDiff, Nat.zero_ne_one, Nat.one_ne_zero, ne_eq]) | ((with_reducible show retK _ _ _ _); simp only [zd, zb, zz, lk, Nat.reduceEqDiff, Nat.reduceBEq, Nat.reduceBeqDiff, reduceCtorEq, ↓reduceIte])); all_goals (try (first | omega | with_reducible exact Int.le_refl _ | (show (_ : Int) ≤ _; omega)))

set_option maxRecDepth 10000 in
theorem cmpSt2_ok : FnOK Tryd.prog 22 cmpStSp := by
  have hC : ∀ {w0 : World} {S0 : Nat → Prop}, CtxOK Tryd.prog ⟨10, tab, fun f => lk [(23, cmpLSp)] f, fun f => lk [] f, fun f => lk [] f, fun f => lk [] f, fun f => lk [] f, fun f => lk [] f⟩ w0 S0 := ctx_ok ⟨cmpL_ok, trivial⟩ trivial trivial trivial trivial
  refine FnOK_of (C := ⟨10, tab, fun f => lk [(23, cmpLSp)] f, fun f => lk [] f, fun f => lk [] f, fun f => lk [] f, fun f => lk [] f, fun f => lk [] f⟩) 22 Tryd.f22 _ [4] cmpStSp Tryd.func22 rfl (by decide) rfl rfl (Nat.le_of_ble_eq_true rfl) fun args K ht hK w0 => ?_
  obtain ⟨⟨x1, x2⟩, ⟨y1, y2⟩, rfl, hk⟩ := at_St ht hK
  repeat' (first | with_reducible refine XW.seq ?_ | with_reducible refine XW.block ?_ | with_reducible refine XW.skip ?_ | with_reducible refine XW.exit ?_ | with_reducible refine XW.ret ?_ | ((first | with_reducible refine XW.region hC (fun K' hK' => ?_) | with_reducible refine XW.text hC hm_ok (by kernel_rfl) (fun K' hK' => ?_)); (try simp only [List.toList_toArray]); repeat' (first | with_reducible refine xrun_cons ?_ | with_reducible refine xtxt_cons ?_ | ((first | with_reducible show xoper _ _ _ _ _ _ _ | with_reducible show xdo _ _ _ _ _ _); simp only [zd, zb, zz, RT.at, RT.ty, RT.sub, RT.cut, RT.wr, getS, setT, Ty.dflt, lk, Ty.st, stV, unV, prodTV, Int.reduceToNat, Int.reduceEq, reduceCtorEq, Nat.reduceLT, Nat.reduceEqDiff, Nat.reduceAdd, Nat.reduceMul, Nat.reduceLeDiff, Nat.reduceSub, Nat.reduceBEq, Nat.reduceBNe, Nat.reduceBeqDiff, ↓reduceIte, tab, tL, tI, tB, LI, NI, LLI, tLL, SPt, LSP, tSP, spL, spLI, spIL, spLL, spJJ, nan2Sp, cmp2Sp, cmpLSp, cmpLRSp, cmpStSp, List.set_cons_zero, List.getD_cons_zero]) | with_reducible refine xgd_intro (fun hg => ?_) (fun hg => ?_) <;> (try simp only [zh, zi, zz, reduceCtorEq] at hg) | ((with_reducible show (_ : Bool) = true); kernel_rfl) | with_reducible refine And.intro ?_ ?_ | with_reducible refine xrun_nil ?_ | with_reducible refine xtxt_nil ?_ | (refine hK' _ ?_; clear hK'; clear K') | (with_reducible intro hg; try simp only [zh, zi, zz, reduceCtorEq] at hg))) | ((with_reducible show XW _ _ _ _ (.cond _ _ _) _ _); refine XW.cond rfl (fun h => ?_) (fun h => ?_) <;> (try simp only [zh, zi, zz, reduceCtorEq] at h) <;> (try (exfalso; omega))) | ((with_reducible show XW.thn _ _ _ _); dsimp only [XW.thn]) | ((with_reducible show XW.blk _ _ _ _); simp only [XW.blk, ↓reduceIte, Nat.reduceEqDiff, Nat.zero_ne_one, Nat.one_ne_zero, ne_eq]) | ((with_reducible show retK _ _ _ _); simp only [zd, zb, zz, lk, Nat.reduceEqDiff, Nat.reduceBEq, Nat.reduceBeqDiff, reduceCtorEq, ↓reduceIte])); all_goals (try (first | omega | with_reducible exact Int.le_refl _ | (show (_ : Int) ≤ _; omega)))



set_option maxRecDepth 10000 in
theorem cmpRv_ok : FnOK Tryd.prog 30 cmpLRSp := by
  have hC : ∀ {w0 : World} {S0 : Nat → Prop}, CtxOK Tryd.prog ⟨8, tab, fun f => lk [(23, cmpLSp)] f, fun f => lk [] f, fun f => lk [] f, fun f => lk [] f, fun f => lk [] f, fun f => lk [] f⟩ w0 S0 := ctx_ok ⟨cmpL_ok, trivial⟩ trivial trivial trivial trivial
  refine FnOK_of (C := ⟨8, tab, fun f => lk [(23, cmpLSp)] f, fun f => lk [] f, fun f => lk [] f, fun f => lk [] f, fun f => lk [] f, fun f => lk [] f⟩) 30 Tryd.f30 _ [4] cmpLRSp Tryd.func30 rfl (by decide) rfl rfl (Nat.le_of_ble_eq_true rfl) fun args K ht hK w0 => ?_
  obtain ⟨x, y, rfl, hk⟩ := at_LL ht hK
  repeat' (first | with_reducible refine XW.seq ?_ | with_reducible refine XW.block ?_ | with_reducible refine XW.skip ?_ | with_reducible refine XW.exit ?_ | with_reducible refine XW.ret ?_ | ((first | with_reducible refine XW.region hC (fun K' hK' => ?_) | with_reducible refine XW.text hC hm_ok (by kernel_rfl) (fun K' hK' => ?_)); (try simp only [List.toList_toArray]); repeat' (first | with_reducible refine xrun_cons ?_ | with_reducible refine xtxt_cons ?_ | ((first | with_reducible show xoper _ _ _ _ _ _ _ | with_reducible show xdo _ _ _ _ _ _); simp only [zd, zb, zz, RT.at, RT.ty, RT.sub, RT.cut, RT.wr, getS, setT, Ty.dflt, lk, Ty.st, stV, unV, prodTV, Int.reduceToNat, Int.reduceEq, reduceCtorEq, Nat.reduceLT, Nat.reduceEqDiff, Nat.reduceAdd, Nat.reduceMul, Nat.reduceLeDiff, Nat.reduceSub, Nat.reduceBEq, Nat.reduceBNe, Nat.reduceBeqDiff, ↓reduceIte, tab, tL, tI, tB, LI, NI, LLI, tLL, SPt, LSP, tSP, spL, spLI, spIL, spLL, spJJ, nan2Sp, cmp2Sp, cmpLSp, cmpLRSp, cmpStSp, List.set_cons_zero, List.getD_cons_zero]) | with_reducible refine xgd_intro (fun hg => ?_) (fun hg => ?_) <;> (try simp only [zh, zi, zz, reduceCtorEq] at hg) | ((with_reducible show (_ : Bool) = true); kernel_rfl) | with_reducible refine And.intro ?_ ?_ | with_reducible refine xrun_nil ?_ | with_reducible refine xtxt_nil ?_ | (refine hK' _ ?_; clear hK'; clear K') | (with_reducible intro hg; try simp only [zh, zi, zz, reduceCtorEq] at hg))) | ((with_reducible show XW _ _ _ _ (.cond _ _ _) _ _); refine XW.cond rfl (fun h => ?_) (fun h => ?_) <;> (try simp only [zh, zi, zz, reduceCtorEq] at h) <;> (try (exfalso; omega))) | ((with_reducible show XW.thn _ _ _ _); dsimp only [XW.thn]) | ((with_reducible show XW.blk _ _ _ _); simp only [XW.blk, ↓reduceIte, Nat.reduceEqDiff, Nat.zero_ne_one, Nat.one_ne_zero, ne_eq]) | ((with_reducible show retK _ _ _ _); simp only [zd, zb, zz, lk, Nat.reduceEqDiff, Nat.reduceBEq, Nat.reduceBeqDiff, reduceCtorEq, ↓reduceIte])); all_goals (try (first | omega | with_reducible exact Int.le_refl _ | (show (_ : Int) ≤ _; omega)))

end Fer
