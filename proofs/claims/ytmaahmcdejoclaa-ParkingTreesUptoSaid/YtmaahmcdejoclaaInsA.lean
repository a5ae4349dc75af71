/-
  Walks: BinarySearch, Tab, fill.Check, Count, fits, twins. No condition.
-/
import Derived.Test.YtmaahmcdejoclaaRows
import Derived.Test.YtmaahmcdejoclaaComB
import Derived.Test.YtmaahmcdejoclaaFerMa
set_option linter.unusedSimpArgs false
set_option linter.unusedVariables false
-- SPECS: tL, tI, tB, LI, NI, LLI, tLL, spL, spLI, spIL, spLL, spT, spTT, spTI, spII, joinedSp, cloneSp, nanSp, lessSp, searchSp, countSp, tabSp, ftabSp, fitsSp, twinSp
namespace Fer
open Go Go.Proofs

def spTI (f : List (List Int) → Int → (List TV → Prop) → Prop) : Spec := ⟨[LLI, NI], fun args K => match args with | [⟨.list _ (.list _ (.int _)), l⟩, ⟨.int _, n⟩] => f l n K | _ => False⟩
def spII (f : Int → Int → (List TV → Prop) → Prop) : Spec := ⟨[NI, NI], fun args K => match args with | [⟨.int _, x⟩, ⟨.int _, y⟩] => f x y K | _ => False⟩
def nanSp : Spec := ⟨[NI], fun args K => match args with | [⟨.int _, _⟩] => K [tB false] | _ => False⟩
def lessSp : Spec := spII fun x y K => K [tB (decide (x < y))]
def searchSp : Spec := spLI fun p n K => p.length ≤ 1000000 ∧ Asc p ∧ K [tI (lb p n), tB (decide (lb p n < p.length ∧ p.getD (lb p n) 0 = n))]
def countSp : Spec := spT fun t K => t.length ≤ 2000000 ∧ t.flatten.length ≤ 2000000 ∧ K [tI t.flatten.length]
noncomputable def tabSp : Spec := spT fun t K => t.length ≤ 2000000 ∧ t.flatten.length ≤ 2000000 ∧ K [tI (tabE t)]
noncomputable def ftabSp : Spec := spT fun t K => K [tI (tabE t)]
noncomputable def fitE (t : List (List Int)) (x : Int) : Int := if tabE t ≠ 0 then tabE t else if x < 1 ∨ 99 < x then 1 else if t.flatten.length = 40 then 2 else 0
noncomputable def fitsSp : Spec := spTI fun t x K => K [tI (fitE t x)]
def twinSp : Spec := spT fun t K => t.length ≤ 1000000 ∧ (∀ i, i < t.length → (t.getD i []).length ≤ 1000000) ∧ K [tLL t]

set_option maxRecDepth 10000 in
theorem cNaN_ok : FnOK Try.prog 92 nanSp := by
  have hC : CtxOK Try.prog ⟨6, tab, fun f => lk [] f, fun f => lk [] f, fun f => lk [] f, fun f => lk [] f, fun f => lk [] f⟩ := ctx_ok trivial trivial trivial trivial trivial
  refine FnOK_of (C := ⟨6, tab, fun f => lk [] f, fun f => lk [] f, fun f => lk [] f, fun f => lk [] f, fun f => lk [] f⟩) 92 Try.f92 _ [2] nanSp Try.func92 rfl (by decide) rfl rfl (Nat.le_of_ble_eq_true rfl) fun args K ht hK w0 => ?_
  obtain ⟨x, rfl, hk⟩ : ∃ x, args = [tI x] ∧ K [tB false] := by
    match args, ht, hK with
    | [⟨t, x⟩], ht, hK =>
      simp only [nanSp, List.map_cons, List.map_nil, List.cons.injEq, and_true] at ht
      subst ht
      exact ⟨x, rfl, hK⟩
    | [], ht, _ => simp [nanSp] at ht
    | _ :: _ :: _, ht, _ => simp [nanSp] at ht
  repeat' (first | with_reducible refine XW.seq ?_ | with_reducible refine XW.block ?_ | with_reducible refine XW.skip ?_ | with_reducible refine XW.exit ?_ | with_reducible refine XW.ret ?_ | ((first | with_reducible refine XW.region hC (fun K' hK' => ?_) | with_reducible refine XW.text hC hm_ok (by kernel_rfl) (fun K' hK' => ?_)); (try simp only [List.toList_toArray]); repeat' (first | with_reducible refine xrun_cons ?_ | with_reducible refine xtxt_cons ?_ | ((first | with_reducible show xoper _ _ _ _ _ _ _ | with_reducible show xdo _ _ _ _ _ _); simp only [zd, zb, zz, RT.at, RT.ty, RT.sub, RT.cut, RT.wr, getS, setT, Ty.dflt, lk, Int.reduceToNat, Int.reduceEq, reduceCtorEq, Nat.reduceLT, Nat.reduceEqDiff, Nat.reduceAdd, Nat.reduceMul, Nat.reduceLeDiff, Nat.reduceSub, Nat.reduceBEq, Nat.reduceBNe, Nat.reduceBeqDiff, ↓reduceIte, tab, tL, tI, tB, LI, NI, LLI, tLL, spL, spLI, spIL, spLL, spT, spTT, spTI, spII, joinedSp, cloneSp, nanSp, lessSp, searchSp, countSp, tabSp, ftabSp, fitsSp, twinSp]) | with_reducible refine xgd_intro (fun hg => ?_) (fun hg => ?_) <;> (try simp only [zh, zz, reduceCtorEq, bne_iff_ne, beq_iff_eq, ne_eq, Decidable.not_not, beq_eq_false_iff_ne, bne_eq_false_iff_eq] at hg) | ((with_reducible show (_ : Bool) = true); kernel_rfl) | with_reducible refine And.intro ?_ ?_ | with_reducible refine xrun_nil ?_ | with_reducible refine xtxt_nil ?_ | (refine hK' _ ?_; clear hK'; clear K') | (with_reducible intro hg; try simp only [zh, zz, reduceCtorEq, bne_iff_ne, beq_iff_eq, ne_eq, Decidable.not_not, beq_eq_false_iff_ne, bne_eq_false_iff_eq] at hg))) | ((with_reducible show XW _ _ _ _ (.cond _ _ _) _ _); refine XW.cond rfl (fun h => ?_) (fun h => ?_) <;> (try simp only [zh, zz, reduceCtorEq, bne_iff_ne, beq_iff_eq, ne_eq, Decidable.not_not, beq_eq_false_iff_ne, bne_eq_false_iff_eq] at h) <;> (try (exfalso; omega))) | ((with_reducible show XW.thn _ _ _ _); dsimp only [XW.thn]) | ((with_reducible show XW.blk _ _ _ _); simp only [XW.blk, ↓reduceIte, Nat.reduceEqDiff, Nat.zero_ne_one, Nat.one_ne_zero, ne_eq]) | ((with_reducible show retK _ _ _ _); simp only [retK, outsOf, outOf, zb, zz, RT.at, RT.ty, RT.sub, RT.cut, RT.wr, getS, setT, Ty.dflt, lk, Int.reduceToNat, Int.reduceEq, reduceCtorEq, Nat.reduceLT, Nat.reduceEqDiff, Nat.reduceAdd, Nat.reduceMul, Nat.reduceLeDiff, Nat.reduceSub, Nat.reduceBEq, Nat.reduceBNe, Nat.reduceBeqDiff, ↓reduceIte, tab, tL, tI, tB, LI, NI, LLI, tLL, spL, spLI, spIL, spLL, spT, spTT, spTI, spII, joinedSp, cloneSp, nanSp, lessSp, searchSp, countSp, tabSp, ftabSp, fitsSp, twinSp])); all_goals (try (first | omega | with_reducible exact Int.le_refl _ | (show (_ : Int) ≤ _; omega)))



end Fer
