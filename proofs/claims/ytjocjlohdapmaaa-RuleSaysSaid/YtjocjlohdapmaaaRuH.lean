import Derived.Test.YtjocjlohdapmaaaRows
import Derived.Test.YtjocjlohdapmaaaRuG
set_option linter.unusedSimpArgs false
set_option linter.unusedVariables false
set_option maxHeartbeats 8000000
namespace Fer
open Go Go.Proofs

theorem at_grown {args : List TV} {K : List TV → Prop} (ht : args.map (·.t) = grownSp.ps) (hK : grownSp.wp args K) : ∃ p c k, args = [tL p, tL c, tI k] ∧ GrOK 1001 c p 0 k [] [] ∧ K [tLL ((grw p 0 c k).map (trimD 0))] := by
  match args, ht, hK with
  | [⟨t, x⟩, ⟨u, y⟩, ⟨v, z⟩], ht, hK =>
    simp only [grownSp, List.map_cons, List.map_nil, List.cons.injEq, and_true] at ht
    obtain ⟨rfl, rfl, rfl⟩ := ht
    exact ⟨x, y, z, rfl, hK⟩
  | [], ht, _ => simp [grownSp] at ht
  | [_], ht, _ => simp [grownSp] at ht
  | [_, _], ht, _ => simp [grownSp] at ht
  | _ :: _ :: _ :: _ :: _, ht, _ => simp [grownSp] at ht

set_option maxRecDepth 10000 in
theorem grown_ok : FnOK Try.prog 28 grownSp := by
  have hC : ∀ {w0 : World} {S0 : Nat → Prop}, CtxOK Try.prog ⟨14, tab, fun f => lk [] f, fun f => lk [] f, fun f => lk [] f, fun f => lk [] f, fun f => lk [(53, grnSp 1001)] f, fun f => lk [] f⟩ w0 S0 := ctx_ok trivial trivial trivial trivial ⟨grn_ok 1001, trivial⟩
  refine FnOK_of (C := ⟨14, tab, fun f => lk [] f, fun f => lk [] f, fun f => lk [] f, fun f => lk [] f, fun f => lk [(53, grnSp 1001)] f, fun f => lk [] f⟩) 28 Try.f28 _ [6] grownSp Try.func28 rfl (by decide) rfl rfl (Nat.le_of_ble_eq_true rfl) fun args K ht hK w0 => ?_
  obtain ⟨p, c, k, rfl, hO, hk⟩ := at_grown ht hK
  have h0 : (0 : Int).toNat = 0 := rfl
  have hd : c.drop 0 = c := List.drop_zero
  have hres : ([] : Tb) ++ (grw p 0 c k).map (fun q => trimD 0 (([] : List Int) ++ q)) = (grw p 0 c k).map (trimD 0) := rfl
  repeat' (first | with_reducible (first | refine XW.seq ?_ | refine XW.block ?_ | refine XW.skip ?_ | refine XW.exit ?_ | refine XW.ret ?_) | ((first | with_reducible refine XW.region hC (fun K' hK' => ?_) | with_reducible refine XW.text hC hm_ok (by kernel_rfl) (fun K' hK' => ?_)); (try simp only [List.toList_toArray]); repeat' (first | with_reducible (first | refine xrun_cons ?_ | refine xtxt_cons ?_) | (with_reducible (first | show xoper _ _ _ _ _ _ _ | show xdo _ _ _ _ _ _); simp only [zd, zb, zz, RT.at, RT.ty, RT.sub, RT.cut, RT.wr, getS, setT, Ty.dflt, lk, Ty.st, stV, unV, prodTV, Int.reduceToNat, Int.reduceEq, reduceCtorEq, Nat.reduceLT, Nat.reduceEqDiff, Nat.reduceAdd, Nat.reduceMul, Nat.reduceLeDiff, Nat.reduceSub, Nat.reduceBEq, Nat.reduceBNe, Nat.reduceBeqDiff, ↓reduceIte, tab, tL, tI, tB, LI, NI, LLI, tLL, spL, grnPat, grnSp_pat, grnSp_wp, grownSp, List.set_cons_zero, List.getD_cons_zero, h0, hd]) | with_reducible refine xgd_intro (fun hg => ?_) (fun hg => ?_) <;> (try simp only [zh, zi, zz, reduceCtorEq] at hg) | ((with_reducible show (_ : Bool) = true); kernel_rfl) | with_reducible (first | refine And.intro ?_ ?_ | refine xrun_nil ?_ | refine xtxt_nil ?_) | (refine hK' _ ?_; clear hK'; clear K') | (with_reducible intro hg; try simp only [zh, zi, zz, reduceCtorEq] at hg))) | ((with_reducible show XW _ _ _ _ (.cond _ _ _) _ _); refine XW.cond rfl (fun h => ?_) (fun h => ?_) <;> (try simp only [zh, zi, zz, reduceCtorEq] at h) <;> (try (exfalso; omega))) | ((with_reducible show XW.thn _ _ _ _); dsimp only [XW.thn]) | ((with_reducible show XW.blk _ _ _ _); simp only [XW.blk, ↓reduceIte, Nat.reduceEqDiff, Nat.zero_ne_one, Nat.one_ne_zero, ne_eq]) | ((with_reducible show retK _ _ _ _); simp only [zd, zb, zz, lk, Nat.reduceEqDiff, Nat.reduceBEq, Nat.reduceBeqDiff, reduceCtorEq, ↓reduceIte])); all_goals (try (first | omega | with_reducible exact Int.le_refl _ | (show (_ : Int) ≤ _; omega)))
  all_goals first
    | exact hO
    | exact hk
    | (exfalso; omega)
    | omega
    | skip

end Fer
