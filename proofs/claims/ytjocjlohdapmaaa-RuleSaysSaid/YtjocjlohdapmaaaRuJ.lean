import Derived.Test.YtjocjlohdapmaaaRows
import Derived.Test.YtjocjlohdapmaaaRuV
import Derived.Test.YtjocjlohdapmaaaRuR
set_option linter.unusedSimpArgs false
set_option linter.unusedVariables false
set_option maxHeartbeats 16000000
namespace Fer
open Go Go.Proofs

noncomputable def rusSp : Spec := ⟨[LI, LI, LI], fun args K => match args with
  | [⟨.list _ (.int _), a⟩, ⟨.list _ (.int _), b⟩, ⟨.list _ (.int _), c⟩] => K [tB true]
  | _ => False⟩
theorem at_rus {args : List TV} {K : List TV → Prop} (ht : args.map (·.t) = rusSp.ps) (hK : rusSp.wp args K) : ∃ a b c, args = [tL a, tL b, tL c] ∧ K [tB true] := by
  match args, ht, hK with
  | [⟨t, x⟩, ⟨u, y⟩, ⟨v, z⟩], ht, hK =>
    simp only [rusSp, List.map_cons, List.map_nil, List.cons.injEq, and_true] at ht
    obtain ⟨rfl, rfl, rfl⟩ := ht
    exact ⟨x, y, z, rfl, hK⟩
  | [], ht, _ => simp [rusSp] at ht
  | [_], ht, _ => simp [rusSp] at ht
  | [_, _], ht, _ => simp [rusSp] at ht
  | _ :: _ :: _ :: _ :: _, ht, _ => simp [rusSp] at ht

set_option maxRecDepth 10000 in
theorem rus_ok : FnOK Try.prog 3 rusSp := by
  have hC : ∀ {w0 : World} {S0 : Nat → Prop}, CtxOK Try.prog ⟨74, tab, fun f => lk [(5, numSp), (6, filSp), (7, rightSp), (8, rightsSp), (9, tablesSp)] f, fun f => lk [] f, fun f => lk [] f, fun f => lk [] f, fun f => lk [] f, fun f => lk [] f⟩ w0 S0 := ctx_ok ⟨num_ok, fil_ok, ruled_ok, rights_ok, tables_ok, trivial⟩ trivial trivial trivial trivial
  refine FnOK_of (C := ⟨74, tab, fun f => lk [(5, numSp), (6, filSp), (7, rightSp), (8, rightsSp), (9, tablesSp)] f, fun f => lk [] f, fun f => lk [] f, fun f => lk [] f, fun f => lk [] f, fun f => lk [] f⟩) 3 Try.f3 _ [6] rusSp Try.func3 rfl (by decide) rfl rfl (Nat.le_of_ble_eq_true rfl) fun args K ht hK w0 => ?_
  obtain ⟨a, b, c, rfl, hk⟩ := at_rus ht hK
  have hru : rightE [a, b, c] [a, b, c] = ruE a b c := rfl
  by_cases hz : ruE a b c = 0
  rotate_left
  · have hn : numV a b c = 0 := if_pos hz
    have hf : filV a b c = [] := if_pos hz
    repeat' (first | with_reducible (first | refine XW.seq ?_ | refine XW.block ?_ | refine XW.skip ?_ | refine XW.exit ?_ | refine XW.ret ?_) | ((first | with_reducible refine XW.region hC (fun K' hK' => ?_) | with_reducible refine XW.text hC hm_ok (by kernel_rfl) (fun K' hK' => ?_)); (try simp only [List.toList_toArray]); repeat' (first | with_reducible (first | refine xrun_cons ?_ | refine xtxt_cons ?_) | (with_reducible (first | show xoper _ _ _ _ _ _ _ | show xdo _ _ _ _ _ _); simp only [zd, zb, zz, RT.at, RT.ty, RT.sub, RT.cut, RT.wr, getS, setT, Ty.dflt, lk, Ty.st, stV, unV, prodTV, Int.reduceToNat, Int.reduceEq, reduceCtorEq, Nat.reduceLT, Nat.reduceEqDiff, Nat.reduceAdd, Nat.reduceMul, Nat.reduceLeDiff, Nat.reduceSub, Nat.reduceBEq, Nat.reduceBNe, Nat.reduceBeqDiff, ↓reduceIte, tab, tL, tI, tB, LI, NI, LLI, tLL, LTT, tTT, spL, spT, spLL, spTTT, rightSp, numSp, filSp, rightsSp, tablesSp, rusSp, List.set_cons_zero, List.getD_cons_zero, hru, hn, hf]) | with_reducible refine xgd_intro (fun hg => ?_) (fun hg => ?_) <;> (try simp only [zh, zi, zz, reduceCtorEq] at hg) | ((with_reducible show (_ : Bool) = true); kernel_rfl) | with_reducible (first | refine And.intro ?_ ?_ | refine xrun_nil ?_ | refine xtxt_nil ?_) | (refine hK' _ ?_; clear hK'; clear K') | (with_reducible intro hg; try simp only [zh, zi, zz, reduceCtorEq] at hg))) | ((with_reducible show XW _ _ _ _ (.cond _ _ _) _ _); refine XW.cond rfl (fun h => ?_) (fun h => ?_) <;> (try simp only [zh, zi, zz, reduceCtorEq] at h) <;> (try (exfalso; omega))) | ((with_reducible show XW.thn _ _ _ _); dsimp only [XW.thn]) | ((with_reducible show XW.blk _ _ _ _); simp only [XW.blk, ↓reduceIte, Nat.reduceEqDiff, Nat.zero_ne_one, Nat.one_ne_zero, ne_eq]) | ((with_reducible show retK _ _ _ _); simp only [zd, zb, zz, lk, Nat.reduceEqDiff, Nat.reduceBEq, Nat.reduceBeqDiff, reduceCtorEq, ↓reduceIte])); all_goals (try (first | omega | with_reducible exact Int.le_refl _ | (show (_ : Int) ≤ _; omega)))
    all_goals first
      | exact hk
      | exact absurd (by assumption) hz
      | (exfalso; omega)
      | skip
  have hp := ru_zero hz
  have ra := (partE_zero hp.1.1).1
  have rb := (partE_zero hp.2.1.1).1
  have rc := (partE_zero hp.2.2.1).1
  obtain ⟨l1, l2, l3, _⟩ := fill_law ra rb rc hp.2.2.2
  have hn : numV a b c = ((fillR a b c).length : Int) := (if_neg (fun h => h hz)).trans (by rw [l2])
  have hf : filV a b c = fillR a b c := (if_neg (fun h => h hz)).trans l3
  have hru : rightE [a, b, c] [a, b, c] = 0 := hz
  repeat' (first | with_reducible (first | refine XW.seq ?_ | refine XW.block ?_ | refine XW.skip ?_ | refine XW.exit ?_ | refine XW.ret ?_) | ((first | with_reducible refine XW.region hC (fun K' hK' => ?_) | with_reducible refine XW.text hC hm_ok (by kernel_rfl) (fun K' hK' => ?_)); (try simp only [List.toList_toArray]); repeat' (first | with_reducible (first | refine xrun_cons ?_ | refine xtxt_cons ?_) | (with_reducible (first | show xoper _ _ _ _ _ _ _ | show xdo _ _ _ _ _ _); simp only [zd, zb, zz, RT.at, RT.ty, RT.sub, RT.cut, RT.wr, getS, setT, Ty.dflt, lk, Ty.st, stV, unV, prodTV, Int.reduceToNat, Int.reduceEq, reduceCtorEq, Nat.reduceLT, Nat.reduceEqDiff, Nat.reduceAdd, Nat.reduceMul, Nat.reduceLeDiff, Nat.reduceSub, Nat.reduceBEq, Nat.reduceBNe, Nat.reduceBeqDiff, ↓reduceIte, tab, tL, tI, tB, LI, NI, LLI, tLL, LTT, tTT, spL, spT, spLL, spTTT, rightSp, numSp, filSp, rightsSp, tablesSp, rusSp, List.set_cons_zero, List.getD_cons_zero, hru, hz, hn, hf]) | with_reducible refine xgd_intro (fun hg => ?_) (fun hg => ?_) <;> (try simp only [zh, zi, zz, reduceCtorEq] at hg) | ((with_reducible show (_ : Bool) = true); kernel_rfl) | with_reducible (first | refine And.intro ?_ ?_ | refine xrun_nil ?_ | refine xtxt_nil ?_) | (refine hK' _ ?_; clear hK'; clear K') | (with_reducible intro hg; try simp only [zh, zi, zz, reduceCtorEq] at hg))) | ((with_reducible show XW _ _ _ _ (.cond _ _ _) _ _); refine XW.cond rfl (fun h => ?_) (fun h => ?_) <;> (try simp only [zh, zi, zz, reduceCtorEq] at h) <;> (try (exfalso; omega))) | ((with_reducible show XW.thn _ _ _ _); dsimp only [XW.thn]) | ((with_reducible show XW.blk _ _ _ _); simp only [XW.blk, ↓reduceIte, Nat.reduceEqDiff, Nat.zero_ne_one, Nat.one_ne_zero, ne_eq]) | ((with_reducible show retK _ _ _ _); simp only [zd, zb, zz, lk, Nat.reduceEqDiff, Nat.reduceBEq, Nat.reduceBeqDiff, reduceCtorEq, ↓reduceIte])); all_goals (try (first | omega | with_reducible exact Int.le_refl _ | (show (_ : Int) ≤ _; omega)))
  all_goals first
    | exact hk
    | exact hp
    | (exfalso; omega)
    | skip

end Fer
