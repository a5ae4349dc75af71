import Derived.Test.YtjocjlohdapmaaaRows
import Derived.Test.YtjocjlohdapmaaaComA
import Derived.Test.YtjocjlohdapmaaaFerMa
set_option linter.unusedSimpArgs false
set_option linter.unusedVariables false
namespace Fer
open Go Go.Proofs

def spT (f : List (List Int) → (List TV → Prop) → Prop) : Spec := ⟨[LLI], fun args K => match args with | [⟨.list _ (.list _ (.int _)), l⟩] => f l K | _ => False⟩
def spTT (f : List (List Int) → List (List Int) → (List TV → Prop) → Prop) : Spec := ⟨[LLI, LLI], fun args K => match args with | [⟨.list _ (.list _ (.int _)), l⟩, ⟨.list _ (.list _ (.int _)), m⟩] => f l m K | _ => False⟩

theorem at_T {f : List (List Int) → (List TV → Prop) → Prop} {args : List TV} {K : List TV → Prop} (ht : args.map (·.t) = (spT f).ps) (hK : (spT f).wp args K) : ∃ l, args = [tLL l] ∧ f l K := by
  match args, ht, hK with
  | [⟨t, x⟩], ht, hK =>
    simp only [spT, List.map_cons, List.map_nil, List.cons.injEq, and_true] at ht
    subst ht
    exact ⟨x, rfl, hK⟩
  | [], ht, _ => simp [spT] at ht
  | _ :: _ :: _, ht, _ => simp [spT] at ht
theorem at_TT {f : List (List Int) → List (List Int) → (List TV → Prop) → Prop} {args : List TV} {K : List TV → Prop} (ht : args.map (·.t) = (spTT f).ps) (hK : (spTT f).wp args K) : ∃ l m, args = [tLL l, tLL m] ∧ f l m K := by
  match args, ht, hK with
  | [⟨t, x⟩, ⟨u, y⟩], ht, hK =>
    simp only [spTT, List.map_cons, List.map_nil, List.cons.injEq, and_true] at ht
    obtain ⟨rfl, rfl⟩ := ht
    exact ⟨x, y, rfl, hK⟩
  | [], ht, _ => simp [spTT] at ht
  | [_], ht, _ => simp [spTT] at ht
  | _ :: _ :: _ :: _, ht, _ => simp [spTT] at ht

def rowsSp : Spec := spTT fun a b K => K [tB (decide (a = b))]
def tableB (a : List (List Int)) (e : Int) (b : List (List Int)) (f : Int) : Bool := if f ≠ 0 then decide (e = f) && decide (a = []) else decide (e = f) && decide (a = b)
theorem tableB_self (a : List (List Int)) : tableB a 0 a 0 = true := by simp [tableB]
def tableSp : Spec := ⟨[LLI, NI, LLI, NI], fun args K => match args with
  | [⟨.list _ (.list _ (.int _)), a⟩, ⟨.int _, e⟩, ⟨.list _ (.list _ (.int _)), b⟩, ⟨.int _, f⟩] => K [tB (tableB a e b f)]
  | _ => False⟩
def sizeZSp : Spec := spL fun p K => p.length ≤ 1000 ∧ (∀ x ∈ p, -1000000 ≤ x ∧ x ≤ 1000000) ∧ K [tI p.sum]
def acrossSp : Spec := spT fun m K => m.length ≤ 1000000 ∧ (m.getD 0 []).length ≤ 1000000 ∧ K [tLL (across m)]

set_option maxRecDepth 10000 in
theorem rows_ok : FnOK Try.prog 33 rowsSp := by
  have hC : ∀ {w0 : World} {S0 : Nat → Prop}, CtxOK Try.prog ⟨27, tab, fun f => lk [(39, sameSp)] f, fun f => lk [] f, fun f => lk [] f, fun f => lk [] f, fun f => lk [] f, fun f => lk [] f⟩ w0 S0 := ctx_ok ⟨same_ok, trivial⟩ trivial trivial trivial trivial
  refine FnOK_of (C := ⟨27, tab, fun f => lk [(39, sameSp)] f, fun f => lk [] f, fun f => lk [] f, fun f => lk [] f, fun f => lk [] f, fun f => lk [] f⟩) 33 Try.f33 _ [4] rowsSp Try.func33 rfl (by decide) rfl rfl (Nat.le_of_ble_eq_true rfl) fun args K ht hK w0 => ?_
  obtain ⟨p, q, rfl, hk⟩ := at_TT ht hK
  repeat' (first | with_reducible (first | refine XW.seq ?_ | refine XW.block ?_ | refine XW.skip ?_ | refine XW.exit ?_ | refine XW.ret ?_) | ((first | with_reducible refine XW.region hC (fun K' hK' => ?_) | with_reducible refine XW.text hC hm_ok (by kernel_rfl) (fun K' hK' => ?_)); (try simp only [List.toList_toArray]); repeat' (first | with_reducible (first | refine xrun_cons ?_ | refine xtxt_cons ?_) | (with_reducible (first | show xoper _ _ _ _ _ _ _ | show xdo _ _ _ _ _ _); simp only [zd, zb, zz, RT.at, RT.ty, RT.sub, RT.cut, RT.wr, getS, setT, Ty.dflt, lk, Ty.st, stV, unV, prodTV, Int.reduceToNat, Int.reduceEq, reduceCtorEq, Nat.reduceLT, Nat.reduceEqDiff, Nat.reduceAdd, Nat.reduceMul, Nat.reduceLeDiff, Nat.reduceSub, Nat.reduceBEq, Nat.reduceBNe, Nat.reduceBeqDiff, ↓reduceIte, tab, tL, tI, tB, LI, NI, LLI, tLL, spL, spLI, spIL, spLL, spT, spTT, sameSp, rowsSp, tableSp, sizeZSp, acrossSp]) | with_reducible refine xgd_intro (fun hg => ?_) (fun hg => ?_) <;> (try simp only [zh, zi, zz, reduceCtorEq] at hg) | ((with_reducible show (_ : Bool) = true); kernel_rfl) | with_reducible (first | refine And.intro ?_ ?_ | refine xrun_nil ?_ | refine xtxt_nil ?_) | (refine hK' _ ?_; clear hK'; clear K') | (with_reducible intro hg; try simp only [zh, zi, zz, reduceCtorEq] at hg))) | ((with_reducible show XW _ _ _ _ (.cond _ _ _) _ _); refine XW.cond rfl (fun h => ?_) (fun h => ?_) <;> (try simp only [zh, zi, zz, reduceCtorEq] at h) <;> (try (exfalso; omega))) | ((with_reducible show XW.thn _ _ _ _); dsimp only [XW.thn]) | ((with_reducible show XW.blk _ _ _ _); simp only [XW.blk, ↓reduceIte, Nat.reduceEqDiff, Nat.zero_ne_one, Nat.one_ne_zero, ne_eq]) | ((with_reducible show retK _ _ _ _); simp only [zd, zb, zz, lk, Nat.reduceEqDiff, Nat.reduceBEq, Nat.reduceBeqDiff, reduceCtorEq, ↓reduceIte])); all_goals (try (first | omega | with_reducible exact Int.le_refl _ | (show (_ : Int) ≤ _; omega)))
  · rw [decide_eq_false (by rintro rfl; exact h rfl)] at hk
    exact hk
  refine XW.loop (ι := Int) (fun i => ⟨[(13, .dat NI i), (12, .dat NI (p.length : Int)), (0, .dat LLI p), (1, .dat LLI q)], [], 0, []⟩) (fun i => 0 ≤ i ∧ i ≤ p.length ∧ p.take i.toNat = q.take i.toNat) (fun i => (p.length - i).toNat) 0 [] ⟨by omega, by omega, by simp⟩ ?_ fun i hi => ?_
  · simp only [Fits, distinct, fitEnv, fitB, fitL, fitRoots, fitRT, idsOK, AV.ids, zb, zz, RT.at, RT.ty, RT.sub, RT.cut, RT.wr, getS, setT, Ty.dflt, lk, Ty.st, stV, unV, prodTV, Int.reduceToNat, Int.reduceEq, reduceCtorEq, Nat.reduceLT, Nat.reduceEqDiff, Nat.reduceAdd, Nat.reduceMul, Nat.reduceLeDiff, Nat.reduceSub, Nat.reduceBEq, Nat.reduceBNe, Nat.reduceBeqDiff, ↓reduceIte, tab, tL, tI, tB, LI, NI, LLI, tLL, spL, spLI, spIL, spLL, spT, spTT, sameSp, rowsSp, tableSp, sizeZSp, acrossSp]
  repeat' (first | with_reducible (first | refine XW.seq ?_ | refine XW.block ?_ | refine XW.skip ?_ | refine XW.exit ?_ | refine XW.ret ?_) | ((first | with_reducible refine XW.region hC (fun K' hK' => ?_) | with_reducible refine XW.text hC hm_ok (by kernel_rfl) (fun K' hK' => ?_)); (try simp only [List.toList_toArray]); repeat' (first | with_reducible (first | refine xrun_cons ?_ | refine xtxt_cons ?_) | (with_reducible (first | show xoper _ _ _ _ _ _ _ | show xdo _ _ _ _ _ _); simp only [zd, zb, zz, RT.at, RT.ty, RT.sub, RT.cut, RT.wr, getS, setT, Ty.dflt, lk, Ty.st, stV, unV, prodTV, Int.reduceToNat, Int.reduceEq, reduceCtorEq, Nat.reduceLT, Nat.reduceEqDiff, Nat.reduceAdd, Nat.reduceMul, Nat.reduceLeDiff, Nat.reduceSub, Nat.reduceBEq, Nat.reduceBNe, Nat.reduceBeqDiff, ↓reduceIte, tab, tL, tI, tB, LI, NI, LLI, tLL, spL, spLI, spIL, spLL, spT, spTT, sameSp, rowsSp, tableSp, sizeZSp, acrossSp]) | with_reducible refine xgd_intro (fun hg => ?_) (fun hg => ?_) <;> (try simp only [zh, zi, zz, reduceCtorEq] at hg) | ((with_reducible show (_ : Bool) = true); kernel_rfl) | with_reducible (first | refine And.intro ?_ ?_ | refine xrun_nil ?_ | refine xtxt_nil ?_) | (refine hK' _ ?_; clear hK'; clear K') | (with_reducible intro hg; try simp only [zh, zi, zz, reduceCtorEq] at hg))) | ((with_reducible show XW _ _ _ _ (.cond _ _ _) _ _); refine XW.cond rfl (fun h => ?_) (fun h => ?_) <;> (try simp only [zh, zi, zz, reduceCtorEq] at h) <;> (try (exfalso; omega))) | ((with_reducible show XW.thn _ _ _ _); dsimp only [XW.thn]) | ((with_reducible show XW.blk _ _ _ _); simp only [XW.blk, ↓reduceIte, Nat.reduceEqDiff, Nat.zero_ne_one, Nat.one_ne_zero, ne_eq]) | ((with_reducible show retK _ _ _ _); simp only [zd, zb, zz, lk, Nat.reduceEqDiff, Nat.reduceBEq, Nat.reduceBeqDiff, reduceCtorEq, ↓reduceIte])); all_goals (try (first | omega | with_reducible exact Int.le_refl _ | (show (_ : Int) ≤ _; omega)))
  · rw [decide_eq_false (by rintro rfl; exact h rfl)] at hk
    exact hk
  · refine ⟨i + 1, [], ⟨by omega, by omega, ?_⟩, by omega, ?_⟩
    · rw [show (i + 1).toNat = i.toNat + 1 by omega, take_succ_getD [] (by omega), take_succ_getD [] (by omega), hi.2.2, h]
    · simp only [Fits, distinct, fitEnv, fitB, fitL, fitRoots, fitRT, idsOK, AV.ids, zb, zz, RT.at, RT.ty, RT.sub, RT.cut, RT.wr, getS, setT, Ty.dflt, lk, Ty.st, stV, unV, prodTV, Int.reduceToNat, Int.reduceEq, reduceCtorEq, Nat.reduceLT, Nat.reduceEqDiff, Nat.reduceAdd, Nat.reduceMul, Nat.reduceLeDiff, Nat.reduceSub, Nat.reduceBEq, Nat.reduceBNe, Nat.reduceBeqDiff, ↓reduceIte, tab, tL, tI, tB, LI, NI, LLI, tLL, spL, spLI, spIL, spLL, spT, spTT, sameSp, rowsSp, tableSp, sizeZSp, acrossSp]
  · have e := hi.2.2
    rw [List.take_of_length_le (by omega), List.take_of_length_le (by omega)] at e
    rw [decide_eq_true e] at hk
    exact hk

set_option maxRecDepth 10000 in
theorem table_ok : FnOK Try.prog 15 tableSp := by
  have hC : ∀ {w0 : World} {S0 : Nat → Prop}, CtxOK Try.prog ⟨27, tab, fun f => lk [(33, rowsSp)] f, fun f => lk [] f, fun f => lk [] f, fun f => lk [] f, fun f => lk [] f, fun f => lk [] f⟩ w0 S0 := ctx_ok ⟨rows_ok, trivial⟩ trivial trivial trivial trivial
  refine FnOK_of (C := ⟨27, tab, fun f => lk [(33, rowsSp)] f, fun f => lk [] f, fun f => lk [] f, fun f => lk [] f, fun f => lk [] f, fun f => lk [] f⟩) 15 Try.f15 _ [8] tableSp Try.func15 rfl (by decide) rfl rfl (Nat.le_of_ble_eq_true rfl) fun args K ht hK w0 => ?_
  obtain ⟨a, e, b, f, rfl, hk⟩ : ∃ a e b f, args = [tLL a, tI e, tLL b, tI f] ∧ K [tB (tableB a e b f)] := by
    match args, ht, hK with
    | [⟨t, x⟩, ⟨u, y⟩, ⟨v, z⟩, ⟨w, r⟩], ht, hK =>
      simp only [tableSp, List.map_cons, List.map_nil, List.cons.injEq, and_true] at ht
      obtain ⟨rfl, rfl, rfl, rfl⟩ := ht
      exact ⟨x, y, z, r, rfl, hK⟩
    | [], ht, _ => simp [tableSp] at ht
    | [_], ht, _ => simp [tableSp] at ht
    | [_, _], ht, _ => simp [tableSp] at ht
    | [_, _, _], ht, _ => simp [tableSp] at ht
    | _ :: _ :: _ :: _ :: _ :: _, ht, _ => simp [tableSp] at ht
  repeat' (first | with_reducible (first | refine XW.seq ?_ | refine XW.block ?_ | refine XW.skip ?_ | refine XW.exit ?_ | refine XW.ret ?_) | ((first | with_reducible refine XW.region hC (fun K' hK' => ?_) | with_reducible refine XW.text hC hm_ok (by kernel_rfl) (fun K' hK' => ?_)); (try simp only [List.toList_toArray]); repeat' (first | with_reducible (first | refine xrun_cons ?_ | refine xtxt_cons ?_) | (with_reducible (first | show xoper _ _ _ _ _ _ _ | show xdo _ _ _ _ _ _); simp only [zd, zb, zz, RT.at, RT.ty, RT.sub, RT.cut, RT.wr, getS, setT, Ty.dflt, lk, Ty.st, stV, unV, prodTV, Int.reduceToNat, Int.reduceEq, reduceCtorEq, Nat.reduceLT, Nat.reduceEqDiff, Nat.reduceAdd, Nat.reduceMul, Nat.reduceLeDiff, Nat.reduceSub, Nat.reduceBEq, Nat.reduceBNe, Nat.reduceBeqDiff, ↓reduceIte, tab, tL, tI, tB, LI, NI, LLI, tLL, spL, spLI, spIL, spLL, spT, spTT, sameSp, rowsSp, tableSp, sizeZSp, acrossSp]) | with_reducible refine xgd_intro (fun hg => ?_) (fun hg => ?_) <;> (try simp only [zh, zi, zz, reduceCtorEq] at hg) | ((with_reducible show (_ : Bool) = true); kernel_rfl) | with_reducible (first | refine And.intro ?_ ?_ | refine xrun_nil ?_ | refine xtxt_nil ?_) | (refine hK' _ ?_; clear hK'; clear K') | (with_reducible intro hg; try simp only [zh, zi, zz, reduceCtorEq] at hg))) | ((with_reducible show XW _ _ _ _ (.cond _ _ _) _ _); refine XW.cond rfl (fun h => ?_) (fun h => ?_) <;> (try simp only [zh, zi, zz, reduceCtorEq] at h) <;> (try (exfalso; omega))) | ((with_reducible show XW.thn _ _ _ _); dsimp only [XW.thn]) | ((with_reducible show XW.blk _ _ _ _); simp only [XW.blk, ↓reduceIte, Nat.reduceEqDiff, Nat.zero_ne_one, Nat.one_ne_zero, ne_eq]) | ((with_reducible show retK _ _ _ _); simp only [zd, zb, zz, lk, Nat.reduceEqDiff, Nat.reduceBEq, Nat.reduceBeqDiff, reduceCtorEq, ↓reduceIte])); all_goals (try (first | omega | with_reducible exact Int.le_refl _ | (show (_ : Int) ≤ _; omega)))
  all_goals unfold tableB at hk
  · rename_i h2
    rw [if_pos h, decide_eq_true h2, Bool.true_and, show decide (a = []) = decide ((a.length : Int) = 0) from decide_eq_decide.2 (by rw [← List.length_eq_zero_iff]; omega)] at hk
    exact hk
  · rw [if_pos h, decide_eq_false hg, Bool.false_and] at hk
    exact hk
  · rw [if_neg (by omega), decide_eq_true hg, Bool.true_and] at hk
    exact hk
  · rw [if_neg (by omega), decide_eq_false hg, Bool.false_and] at hk
    exact hk

set_option maxRecDepth 10000 in
theorem sizeZ_ok : FnOK Try.prog 26 sizeZSp := by
  have hC : ∀ {w0 : World} {S0 : Nat → Prop}, CtxOK Try.prog ⟨18, tab, fun f => lk [] f, fun f => lk [] f, fun f => lk [] f, fun f => lk [] f, fun f => lk [] f, fun f => lk [] f⟩ w0 S0 := ctx_ok trivial trivial trivial trivial trivial
  refine FnOK_of (C := ⟨18, tab, fun f => lk [] f, fun f => lk [] f, fun f => lk [] f, fun f => lk [] f, fun f => lk [] f, fun f => lk [] f⟩) 26 Try.f26 _ [2] sizeZSp Try.func26 rfl (by decide) rfl rfl (Nat.le_of_ble_eq_true rfl) fun args K ht hK w0 => ?_
  obtain ⟨p, rfl, hl, hb, hk⟩ := at_L ht hK
  repeat' (first | with_reducible (first | refine XW.seq ?_ | refine XW.block ?_ | refine XW.skip ?_ | refine XW.exit ?_ | refine XW.ret ?_) | ((first | with_reducible refine XW.region hC (fun K' hK' => ?_) | with_reducible refine XW.text hC hm_ok (by kernel_rfl) (fun K' hK' => ?_)); (try simp only [List.toList_toArray]); repeat' (first | with_reducible (first | refine xrun_cons ?_ | refine xtxt_cons ?_) | (with_reducible (first | show xoper _ _ _ _ _ _ _ | show xdo _ _ _ _ _ _); simp only [zd, zb, zz, RT.at, RT.ty, RT.sub, RT.cut, RT.wr, getS, setT, Ty.dflt, lk, Ty.st, stV, unV, prodTV, Int.reduceToNat, Int.reduceEq, reduceCtorEq, Nat.reduceLT, Nat.reduceEqDiff, Nat.reduceAdd, Nat.reduceMul, Nat.reduceLeDiff, Nat.reduceSub, Nat.reduceBEq, Nat.reduceBNe, Nat.reduceBeqDiff, ↓reduceIte, tab, tL, tI, tB, LI, NI, LLI, tLL, spL, spLI, spIL, spLL, spT, spTT, sameSp, rowsSp, tableSp, sizeZSp, acrossSp]) | with_reducible refine xgd_intro (fun hg => ?_) (fun hg => ?_) <;> (try simp only [zh, zi, zz, reduceCtorEq] at hg) | ((with_reducible show (_ : Bool) = true); kernel_rfl) | with_reducible (first | refine And.intro ?_ ?_ | refine xrun_nil ?_ | refine xtxt_nil ?_) | (refine hK' _ ?_; clear hK'; clear K') | (with_reducible intro hg; try simp only [zh, zi, zz, reduceCtorEq] at hg))) | ((with_reducible show XW _ _ _ _ (.cond _ _ _) _ _); refine XW.cond rfl (fun h => ?_) (fun h => ?_) <;> (try simp only [zh, zi, zz, reduceCtorEq] at h) <;> (try (exfalso; omega))) | ((with_reducible show XW.thn _ _ _ _); dsimp only [XW.thn]) | ((with_reducible show XW.blk _ _ _ _); simp only [XW.blk, ↓reduceIte, Nat.reduceEqDiff, Nat.zero_ne_one, Nat.one_ne_zero, ne_eq]) | ((with_reducible show retK _ _ _ _); simp only [zd, zb, zz, lk, Nat.reduceEqDiff, Nat.reduceBEq, Nat.reduceBeqDiff, reduceCtorEq, ↓reduceIte])); all_goals (try (first | omega | with_reducible exact Int.le_refl _ | (show (_ : Int) ≤ _; omega)))
  refine XW.loop (ι := Int × Int) (fun x => ⟨[(4, .dat NI x.1), (3, .dat NI x.2), (0, .dat LI p)], [], 0, []⟩)
    (fun x => 0 ≤ x.1 ∧ x.1 ≤ p.length ∧ x.2 = (p.take x.1.toNat).sum) (fun x => (p.length - x.1).toNat) (0, 0) [] ⟨Int.le_refl _, by dsimp only; omega, rfl⟩ ?_ fun x hx => ?_
  · simp only [Fits, distinct, fitEnv, fitB, fitL, fitRoots, fitRT, idsOK, AV.ids, zb, zz, RT.at, RT.ty, RT.sub, RT.cut, RT.wr, getS, setT, Ty.dflt, lk, Ty.st, stV, unV, prodTV, Int.reduceToNat, Int.reduceEq, reduceCtorEq, Nat.reduceLT, Nat.reduceEqDiff, Nat.reduceAdd, Nat.reduceMul, Nat.reduceLeDiff, Nat.reduceSub, Nat.reduceBEq, Nat.reduceBNe, Nat.reduceBeqDiff, ↓reduceIte, tab, tL, tI, tB, LI, NI, LLI, tLL, spL, spLI, spIL, spLL, spT, spTT, sameSp, rowsSp, tableSp, sizeZSp, acrossSp]
  obtain ⟨i, s⟩ := x
  obtain ⟨i0, i1, hs⟩ := hx
  dsimp only at i0 i1 hs ⊢
  have hsb := sumZ_le p hb i.toNat
  have hxb := fun h : i < p.length => hb _ (getD_mem 0 (show i.toNat < p.length by omega))
  have hst := fun h : i < p.length => sum_take_succ (l := p) (i := i.toNat) (by omega)
  repeat' (first | with_reducible (first | refine XW.seq ?_ | refine XW.block ?_ | refine XW.skip ?_ | refine XW.exit ?_ | refine XW.ret ?_) | ((first | with_reducible refine XW.region hC (fun K' hK' => ?_) | with_reducible refine XW.text hC hm_ok (by kernel_rfl) (fun K' hK' => ?_)); (try simp only [List.toList_toArray]); repeat' (first | with_reducible (first | refine xrun_cons ?_ | refine xtxt_cons ?_) | (with_reducible (first | show xoper _ _ _ _ _ _ _ | show xdo _ _ _ _ _ _); simp only [zd, zb, zz, RT.at, RT.ty, RT.sub, RT.cut, RT.wr, getS, setT, Ty.dflt, lk, Ty.st, stV, unV, prodTV, Int.reduceToNat, Int.reduceEq, reduceCtorEq, Nat.reduceLT, Nat.reduceEqDiff, Nat.reduceAdd, Nat.reduceMul, Nat.reduceLeDiff, Nat.reduceSub, Nat.reduceBEq, Nat.reduceBNe, Nat.reduceBeqDiff, ↓reduceIte, tab, tL, tI, tB, LI, NI, LLI, tLL, spL, spLI, spIL, spLL, spT, spTT, sameSp, rowsSp, tableSp, sizeZSp, acrossSp]) | with_reducible refine xgd_intro (fun hg => ?_) (fun hg => ?_) <;> (try simp only [zh, zi, zz, reduceCtorEq] at hg) | ((with_reducible show (_ : Bool) = true); kernel_rfl) | with_reducible (first | refine And.intro ?_ ?_ | refine xrun_nil ?_ | refine xtxt_nil ?_) | (refine hK' _ ?_; clear hK'; clear K') | (with_reducible intro hg; try simp only [zh, zi, zz, reduceCtorEq] at hg))) | ((with_reducible show XW _ _ _ _ (.cond _ _ _) _ _); refine XW.cond rfl (fun h => ?_) (fun h => ?_) <;> (try simp only [zh, zi, zz, reduceCtorEq] at h) <;> (try (exfalso; omega))) | ((with_reducible show XW.thn _ _ _ _); dsimp only [XW.thn]) | ((with_reducible show XW.blk _ _ _ _); simp only [XW.blk, ↓reduceIte, Nat.reduceEqDiff, Nat.zero_ne_one, Nat.one_ne_zero, ne_eq]) | ((with_reducible show retK _ _ _ _); simp only [zd, zb, zz, lk, Nat.reduceEqDiff, Nat.reduceBEq, Nat.reduceBeqDiff, reduceCtorEq, ↓reduceIte])); all_goals (try (first | omega | with_reducible exact Int.le_refl _ | (show (_ : Int) ≤ _; omega)))
  · refine ⟨(i + 1, s + p.getD i.toNat 0), [], ⟨by dsimp only; omega, by dsimp only; omega, ?_⟩, by dsimp only; omega, ?_⟩
    · dsimp only
      rw [show (i + 1).toNat = i.toNat + 1 by omega, hst h, hs]
    · simp only [Fits, distinct, fitEnv, fitB, fitL, fitRoots, fitRT, idsOK, AV.ids, zb, zz, RT.at, RT.ty, RT.sub, RT.cut, RT.wr, getS, setT, Ty.dflt, lk, Ty.st, stV, unV, prodTV, Int.reduceToNat, Int.reduceEq, reduceCtorEq, Nat.reduceLT, Nat.reduceEqDiff, Nat.reduceAdd, Nat.reduceMul, Nat.reduceLeDiff, Nat.reduceSub, Nat.reduceBEq, Nat.reduceBNe, Nat.reduceBeqDiff, ↓reduceIte, tab, tL, tI, tB, LI, NI, LLI, tLL, spL, spLI, spIL, spLL, spT, spTT, sameSp, rowsSp, tableSp, sizeZSp, acrossSp]
  · rw [← List.take_of_length_le (l := p) (i := i.toNat) (by omega), ← hs] at hk
    exact hk

set_option maxRecDepth 10000 in
theorem across_ok : FnOK Try.prog 38 acrossSp := by
  have hC : ∀ {w0 : World} {S0 : Nat → Prop}, CtxOK Try.prog ⟨50, tab, fun f => lk [] f, fun f => lk [] f, fun f => lk [] f, fun f => lk [] f, fun f => lk [] f, fun f => lk [] f⟩ w0 S0 := ctx_ok trivial trivial trivial trivial trivial
  refine FnOK_of (C := ⟨50, tab, fun f => lk [] f, fun f => lk [] f, fun f => lk [] f, fun f => lk [] f, fun f => lk [] f, fun f => lk [] f⟩) 38 Try.f38 _ [2] acrossSp Try.func38 rfl (by decide) rfl rfl (Nat.le_of_ble_eq_true rfl) fun args K ht hK w0 => ?_
  obtain ⟨m, rfl, hl, hw, hk⟩ := at_T ht hK
  repeat' (first | with_reducible (first | refine XW.seq ?_ | refine XW.block ?_ | refine XW.skip ?_ | refine XW.exit ?_ | refine XW.ret ?_) | ((first | with_reducible refine XW.region hC (fun K' hK' => ?_) | with_reducible refine XW.text hC hm_ok (by kernel_rfl) (fun K' hK' => ?_)); (try simp only [List.toList_toArray]); repeat' (first | with_reducible (first | refine xrun_cons ?_ | refine xtxt_cons ?_) | (with_reducible (first | show xoper _ _ _ _ _ _ _ | show xdo _ _ _ _ _ _); simp only [zd, zb, zz, RT.at, RT.ty, RT.sub, RT.cut, RT.wr, getS, setT, Ty.dflt, lk, Ty.st, stV, unV, prodTV, Int.reduceToNat, Int.reduceEq, reduceCtorEq, Nat.reduceLT, Nat.reduceEqDiff, Nat.reduceAdd, Nat.reduceMul, Nat.reduceLeDiff, Nat.reduceSub, Nat.reduceBEq, Nat.reduceBNe, Nat.reduceBeqDiff, ↓reduceIte, tab, tL, tI, tB, LI, NI, LLI, tLL, spL, spLI, spIL, spLL, spT, spTT, sameSp, rowsSp, tableSp, sizeZSp, acrossSp]) | with_reducible refine xgd_intro (fun hg => ?_) (fun hg => ?_) <;> (try simp only [zh, zi, zz, reduceCtorEq] at hg) | ((with_reducible show (_ : Bool) = true); kernel_rfl) | with_reducible (first | refine And.intro ?_ ?_ | refine xrun_nil ?_ | refine xtxt_nil ?_) | (refine hK' _ ?_; clear hK'; clear K') | (with_reducible intro hg; try simp only [zh, zi, zz, reduceCtorEq] at hg))) | ((with_reducible show XW _ _ _ _ (.cond _ _ _) _ _); refine XW.cond rfl (fun h => ?_) (fun h => ?_) <;> (try simp only [zh, zi, zz, reduceCtorEq] at h) <;> (try (exfalso; omega))) | ((with_reducible show XW.thn _ _ _ _); dsimp only [XW.thn]) | ((with_reducible show XW.blk _ _ _ _); simp only [XW.blk, ↓reduceIte, Nat.reduceEqDiff, Nat.zero_ne_one, Nat.one_ne_zero, ne_eq]) | ((with_reducible show retK _ _ _ _); simp only [zd, zb, zz, lk, Nat.reduceEqDiff, Nat.reduceBEq, Nat.reduceBeqDiff, reduceCtorEq, ↓reduceIte])); all_goals (try (first | omega | with_reducible exact Int.le_refl _ | (show (_ : Int) ≤ _; omega)))
  refine XW.loop (ι := Int) (fun j => ⟨[(4, .dat NI j), (3, .ref 0 []), (0, .dat LLI m)], [(0, ⟨22, LI, 1, (across m).take j.toNat, none⟩)], 1, []⟩)
    (fun j => 0 ≤ j ∧ j ≤ (m.getD 0 []).length) (fun j => ((m.getD 0 []).length - j).toNat) 0 [(0, 1)] ⟨Int.le_refl _, by omega⟩ ?_ fun j hj => ?_
  · simp only [Fits, distinct, fitEnv, fitB, fitL, fitRoots, fitRT, idsOK, AV.ids, zb, zz, RT.at, RT.ty, RT.sub, RT.cut, RT.wr, getS, setT, Ty.dflt, lk, Ty.st, stV, unV, prodTV, Int.reduceToNat, Int.reduceEq, reduceCtorEq, Nat.reduceLT, Nat.reduceEqDiff, Nat.reduceAdd, Nat.reduceMul, Nat.reduceLeDiff, Nat.reduceSub, Nat.reduceBEq, Nat.reduceBNe, Nat.reduceBeqDiff, ↓reduceIte, tab, tL, tI, tB, LI, NI, LLI, tLL, spL, spLI, spIL, spLL, spT, spTT, sameSp, rowsSp, tableSp, sizeZSp, acrossSp]
    rfl
  obtain ⟨j0, j1⟩ := hj
  have hal : (across m).length = (m.getD 0 []).length := by simp [across]
  have hst : j < (m.getD 0 []).length → (across m).take (j + 1).toNat = (across m).take j.toNat ++ [acol m j.toNat] := fun h => by
    rw [show (j + 1).toNat = j.toNat + 1 by omega, take_succ_getD [] (by omega), across_getD (by omega)]
  have htl : ((across m).take j.toNat).length = j.toNat := by rw [List.length_take]; omega
  have hz : m.length = 0 → (m.getD 0 []).length = 0 := fun h => by rw [List.length_eq_zero_iff.1 h]; rfl
  repeat' (first | with_reducible (first | refine XW.seq ?_ | refine XW.block ?_ | refine XW.skip ?_ | refine XW.exit ?_ | refine XW.ret ?_) | ((first | with_reducible refine XW.region hC (fun K' hK' => ?_) | with_reducible refine XW.text hC hm_ok (by kernel_rfl) (fun K' hK' => ?_)); (try simp only [List.toList_toArray]); repeat' (first | with_reducible (first | refine xrun_cons ?_ | refine xtxt_cons ?_) | (with_reducible (first | show xoper _ _ _ _ _ _ _ | show xdo _ _ _ _ _ _); simp only [zd, zb, zz, RT.at, RT.ty, RT.sub, RT.cut, RT.wr, getS, setT, Ty.dflt, lk, Ty.st, stV, unV, prodTV, Int.reduceToNat, Int.reduceEq, reduceCtorEq, Nat.reduceLT, Nat.reduceEqDiff, Nat.reduceAdd, Nat.reduceMul, Nat.reduceLeDiff, Nat.reduceSub, Nat.reduceBEq, Nat.reduceBNe, Nat.reduceBeqDiff, ↓reduceIte, tab, tL, tI, tB, LI, NI, LLI, tLL, spL, spLI, spIL, spLL, spT, spTT, sameSp, rowsSp, tableSp, sizeZSp, acrossSp]) | with_reducible refine xgd_intro (fun hg => ?_) (fun hg => ?_) <;> (try simp only [zh, zi, zz, reduceCtorEq] at hg) | ((with_reducible show (_ : Bool) = true); kernel_rfl) | with_reducible (first | refine And.intro ?_ ?_ | refine xrun_nil ?_ | refine xtxt_nil ?_) | (refine hK' _ ?_; clear hK'; clear K') | (with_reducible intro hg; try simp only [zh, zi, zz, reduceCtorEq] at hg))) | ((with_reducible show XW _ _ _ _ (.cond _ _ _) _ _); refine XW.cond rfl (fun h => ?_) (fun h => ?_) <;> (try simp only [zh, zi, zz, reduceCtorEq] at h) <;> (try (exfalso; omega))) | ((with_reducible show XW.thn _ _ _ _); dsimp only [XW.thn]) | ((with_reducible show XW.blk _ _ _ _); simp only [XW.blk, ↓reduceIte, Nat.reduceEqDiff, Nat.zero_ne_one, Nat.one_ne_zero, ne_eq]) | ((with_reducible show retK _ _ _ _); simp only [zd, zb, zz, lk, Nat.reduceEqDiff, Nat.reduceBEq, Nat.reduceBeqDiff, reduceCtorEq, ↓reduceIte])); all_goals (try (first | omega | with_reducible exact Int.le_refl _ | (show (_ : Int) ≤ _; omega)))
  · refine XW.loop (ι := Int) (fun i => ⟨[(6, .dat NI i), (5, .ref 1 []), (4, .dat NI j), (3, .ref 0 []), (0, .dat LLI m)], [(0, ⟨22, LI, 1, (across m).take j.toNat, none⟩), (1, ⟨3, .int .i64, 0, (m.take i.toNat).map fun r => r.getD j.toNat 0, none⟩)], 2, []⟩)
      (fun i => 0 ≤ i ∧ i ≤ m.length ∧ ∀ a : Nat, (a : Int) < i → j < (m.getD a []).length) (fun i => (m.length - i).toNat) 0 [(0, 0), (1, 1)] ⟨Int.le_refl _, by omega, fun a h => by omega⟩ ?_ fun i hi => ?_
    · simp only [Fits, distinct, fitEnv, fitB, fitL, fitRoots, fitRT, idsOK, AV.ids, zb, zz, RT.at, RT.ty, RT.sub, RT.cut, RT.wr, getS, setT, Ty.dflt, lk, Ty.st, stV, unV, prodTV, Int.reduceToNat, Int.reduceEq, reduceCtorEq, Nat.reduceLT, Nat.reduceEqDiff, Nat.reduceAdd, Nat.reduceMul, Nat.reduceLeDiff, Nat.reduceSub, Nat.reduceBEq, Nat.reduceBNe, Nat.reduceBeqDiff, ↓reduceIte, tab, tL, tI, tB, LI, NI, LLI, tLL, spL, spLI, spIL, spLL, spT, spTT, sameSp, rowsSp, tableSp, sizeZSp, acrossSp]
      rfl
    obtain ⟨i0, i1, hw2⟩ := hi
    have hml : ((m.take i.toNat).map fun r => r.getD j.toNat 0).length = i.toNat := by rw [List.length_map, List.length_take]; omega
    have hms : i < m.length → ((m.take (i + 1).toNat).map fun r => r.getD j.toNat 0) = ((m.take i.toNat).map fun r => r.getD j.toNat 0) ++ [(m.getD i.toNat []).getD j.toNat 0] := fun h => by
      rw [show (i + 1).toNat = i.toNat + 1 by omega, take_succ_getD [] (by omega), List.map_append]; rfl
    have hend : (i = m.length ∨ (m.getD i.toNat []).length ≤ j) → ((m.take i.toNat).map fun r => r.getD j.toNat 0) = acol m j.toNat := fun h => by
      unfold acol
      rw [while_cutG [] (l := m) (m := i.toNat) (by omega) (fun a ha => decide_eq_true (by have := hw2 a (by omega); omega)) (by
        rcases h with h | h
        · exact .inl (by omega)
        · exact .inr (decide_eq_false (by omega)))]
    repeat' (first | with_reducible (first | refine XW.seq ?_ | refine XW.block ?_ | refine XW.skip ?_ | refine XW.exit ?_ | refine XW.ret ?_) | ((first | with_reducible refine XW.region hC (fun K' hK' => ?_) | with_reducible refine XW.text hC hm_ok (by kernel_rfl) (fun K' hK' => ?_)); (try simp only [List.toList_toArray]); repeat' (first | with_reducible (first | refine xrun_cons ?_ | refine xtxt_cons ?_) | (with_reducible (first | show xoper _ _ _ _ _ _ _ | show xdo _ _ _ _ _ _); simp only [zd, zb, zz, RT.at, RT.ty, RT.sub, RT.cut, RT.wr, getS, setT, Ty.dflt, lk, Ty.st, stV, unV, prodTV, Int.reduceToNat, Int.reduceEq, reduceCtorEq, Nat.reduceLT, Nat.reduceEqDiff, Nat.reduceAdd, Nat.reduceMul, Nat.reduceLeDiff, Nat.reduceSub, Nat.reduceBEq, Nat.reduceBNe, Nat.reduceBeqDiff, ↓reduceIte, tab, tL, tI, tB, LI, NI, LLI, tLL, spL, spLI, spIL, spLL, spT, spTT, sameSp, rowsSp, tableSp, sizeZSp, acrossSp]) | with_reducible refine xgd_intro (fun hg => ?_) (fun hg => ?_) <;> (try simp only [zh, zi, zz, reduceCtorEq] at hg) | ((with_reducible show (_ : Bool) = true); kernel_rfl) | with_reducible (first | refine And.intro ?_ ?_ | refine xrun_nil ?_ | refine xtxt_nil ?_) | (refine hK' _ ?_; clear hK'; clear K') | (with_reducible intro hg; try simp only [zh, zi, zz, reduceCtorEq] at hg))) | ((with_reducible show XW _ _ _ _ (.cond _ _ _) _ _); refine XW.cond rfl (fun h => ?_) (fun h => ?_) <;> (try simp only [zh, zi, zz, reduceCtorEq] at h) <;> (try (exfalso; omega))) | ((with_reducible show XW.thn _ _ _ _); dsimp only [XW.thn]) | ((with_reducible show XW.blk _ _ _ _); simp only [XW.blk, ↓reduceIte, Nat.reduceEqDiff, Nat.zero_ne_one, Nat.one_ne_zero, ne_eq]) | ((with_reducible show retK _ _ _ _); simp only [zd, zb, zz, lk, Nat.reduceEqDiff, Nat.reduceBEq, Nat.reduceBeqDiff, reduceCtorEq, ↓reduceIte])); all_goals (try (first | omega | with_reducible exact Int.le_refl _ | (show (_ : Int) ≤ _; omega)))
    · refine ⟨i + 1, [(0, 0), (1, 3)], ⟨by omega, by omega, fun a ha => ?_⟩, by omega, ?_⟩
      · by_cases e : (a : Int) = i
        · rw [show a = i.toNat by omega]; exact h
        · exact hw2 a (by omega)
      · rw [hms (by omega)]
        simp only [Fits, distinct, fitEnv, fitB, fitL, fitRoots, fitRT, idsOK, AV.ids, zb, zz, RT.at, RT.ty, RT.sub, RT.cut, RT.wr, getS, setT, Ty.dflt, lk, Ty.st, stV, unV, prodTV, Int.reduceToNat, Int.reduceEq, reduceCtorEq, Nat.reduceLT, Nat.reduceEqDiff, Nat.reduceAdd, Nat.reduceMul, Nat.reduceLeDiff, Nat.reduceSub, Nat.reduceBEq, Nat.reduceBNe, Nat.reduceBeqDiff, ↓reduceIte, tab, tL, tI, tB, LI, NI, LLI, tLL, spL, spLI, spIL, spLL, spT, spTT, sameSp, rowsSp, tableSp, sizeZSp, acrossSp]
    · rename_i h1 _ _ _ _ 
      refine ⟨j + 1, [(0, 3)], ⟨by omega, by omega⟩, by omega, ?_⟩
      rw [hst (by omega), ← hend (.inr h)]
      simp only [Fits, distinct, fitEnv, fitB, fitL, fitRoots, fitRT, idsOK, AV.ids, zb, zz, RT.at, RT.ty, RT.sub, RT.cut, RT.wr, getS, setT, Ty.dflt, lk, Ty.st, stV, unV, prodTV, Int.reduceToNat, Int.reduceEq, reduceCtorEq, Nat.reduceLT, Nat.reduceEqDiff, Nat.reduceAdd, Nat.reduceMul, Nat.reduceLeDiff, Nat.reduceSub, Nat.reduceBEq, Nat.reduceBNe, Nat.reduceBeqDiff, ↓reduceIte, tab, tL, tI, tB, LI, NI, LLI, tLL, spL, spLI, spIL, spLL, spT, spTT, sameSp, rowsSp, tableSp, sizeZSp, acrossSp]
    · refine ⟨j + 1, [(0, 3)], ⟨by omega, by omega⟩, by omega, ?_⟩
      rw [hst (by omega), ← hend (.inl (by omega))]
      simp only [Fits, distinct, fitEnv, fitB, fitL, fitRoots, fitRT, idsOK, AV.ids, zb, zz, RT.at, RT.ty, RT.sub, RT.cut, RT.wr, getS, setT, Ty.dflt, lk, Ty.st, stV, unV, prodTV, Int.reduceToNat, Int.reduceEq, reduceCtorEq, Nat.reduceLT, Nat.reduceEqDiff, Nat.reduceAdd, Nat.reduceMul, Nat.reduceLeDiff, Nat.reduceSub, Nat.reduceBEq, Nat.reduceBNe, Nat.reduceBeqDiff, ↓reduceIte, tab, tL, tI, tB, LI, NI, LLI, tLL, spL, spLI, spIL, spLL, spT, spTT, sameSp, rowsSp, tableSp, sizeZSp, acrossSp]
  · rw [List.take_of_length_le (by omega)]
    exact hk
  · have := hz (by omega)
    rw [List.take_of_length_le (by omega)]
    exact hk

end Fer
