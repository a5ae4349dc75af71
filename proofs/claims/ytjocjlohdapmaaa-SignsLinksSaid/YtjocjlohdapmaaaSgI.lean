import Derived.Test.YtjocjlohdapmaaaRows
import Derived.Test.YtjocjlohdapmaaaSgH
import Derived.Test.YtjocjlohdapmaaaSgD
import Derived.Test.YtjocjlohdapmaaaSgG
import Derived.Test.YtjocjlohdapmaaaComA
import Derived.Test.YtjocjlohdapmaaaComB
set_option linter.unusedSimpArgs false
set_option linter.unusedVariables false
set_option maxHeartbeats 4000000
namespace Fer
open Go Go.Proofs

def slSp : Spec := ⟨[LLI], fun _ K => K [tB true]⟩
theorem at_sl {args : List TV} (ht : args.map (·.t) = slSp.ps) : ∃ m, args = [tLL m] := by
  match args, ht with
  | [⟨t, x⟩], ht =>
    simp only [slSp, List.map_cons, List.map_nil, List.cons.injEq, and_true] at ht
    obtain rfl := ht
    exact ⟨x, rfl⟩
  | [], ht => simp [slSp] at ht
  | _ :: _ :: _, ht => simp [slSp] at ht

set_option maxRecDepth 10000 in
theorem sl_ok : FnOK Try.prog 4 slSp := by
  have hC : ∀ {w0 : World} {S0 : Nat → Prop}, CtxOK Try.prog ⟨46, tab, fun f => lk [(10, slinksSp), (11, sgyrSp), (12, signsSp), (13, listSp), (14, linkedSp), (15, tableSp), (16, gyrSp)] f, fun f => lk [] f, fun f => lk [] f, fun f => lk [] f, fun f => lk [] f, fun f => lk [] f⟩ w0 S0 := ctx_ok ⟨slinks_ok, sgyr_ok, rsigns_ok, list_ok, linked_ok, table_ok, gyrated_ok, trivial⟩ trivial trivial trivial trivial
  refine FnOK_of (C := ⟨46, tab, fun f => lk [(10, slinksSp), (11, sgyrSp), (12, signsSp), (13, listSp), (14, linkedSp), (15, tableSp), (16, gyrSp)] f, fun f => lk [] f, fun f => lk [] f, fun f => lk [] f, fun f => lk [] f, fun f => lk [] f⟩) 4 Try.f4 _ [2] slSp Try.func4 rfl (by decide) rfl rfl (Nat.le_of_ble_eq_true rfl) fun args K ht hK w0 => ?_
  obtain ⟨m, rfl⟩ := at_sl ht
  have hk : K [tB true] := hK
  have hsg : signB m = true → signOK m := of_signB
  by_cases hb : signB m = true
  · have hs := hsg hb
    have he := signE_zero hs
    have h1 : linL m = (List.range (2 * m.length)).map fun e => (linkV m e : Int) := if_pos he
    have h2 : gyrL m = ofC (gyT (m.length - 1) (cornr m) 2) := if_pos he
    repeat' (first | with_reducible (first | refine XW.seq ?_ | refine XW.block ?_ | refine XW.skip ?_ | refine XW.exit ?_ | refine XW.ret ?_) | ((first | with_reducible refine XW.region hC (fun K' hK' => ?_) | with_reducible refine XW.text hC hm_ok (by kernel_rfl) (fun K' hK' => ?_)); (try simp only [List.toList_toArray]); repeat' (first | with_reducible (first | refine xrun_cons ?_ | refine xtxt_cons ?_) | (with_reducible (first | show xoper _ _ _ _ _ _ _ | show xdo _ _ _ _ _ _); simp only [zd, zb, zz, RT.at, RT.ty, RT.sub, RT.cut, RT.wr, getS, setT, Ty.dflt, lk, Ty.st, stV, unV, prodTV, Int.reduceToNat, Int.reduceEq, reduceCtorEq, Nat.reduceLT, Nat.reduceEqDiff, Nat.reduceAdd, Nat.reduceMul, Nat.reduceLeDiff, Nat.reduceSub, Nat.reduceBEq, Nat.reduceBNe, Nat.reduceBeqDiff, ↓reduceIte, tab, tL, tI, tB, LI, NI, LLI, tLL, spL, spLI, spIL, spLL, spT, spTT, signsSp, slinksSp, sgyrSp, linkedSp, gyrSp, listSp, tableSp, hb, he, h1, h2]) | with_reducible refine xgd_intro (fun hg => ?_) (fun hg => ?_) <;> (try simp only [zh, zi, zz, reduceCtorEq] at hg) | ((with_reducible show (_ : Bool) = true); kernel_rfl) | with_reducible (first | refine And.intro ?_ ?_ | refine xrun_nil ?_ | refine xtxt_nil ?_) | (refine hK' _ ?_; clear hK'; clear K') | (with_reducible intro hg; try simp only [zh, zi, zz, reduceCtorEq] at hg))) | ((with_reducible show XW _ _ _ _ (.cond _ _ _) _ _); refine XW.cond rfl (fun h => ?_) (fun h => ?_) <;> (try simp only [zh, zi, zz, reduceCtorEq] at h) <;> (try (exfalso; omega))) | ((with_reducible show XW.thn _ _ _ _); dsimp only [XW.thn]) | ((with_reducible show XW.blk _ _ _ _); simp only [XW.blk, ↓reduceIte, Nat.reduceEqDiff, Nat.zero_ne_one, Nat.one_ne_zero, ne_eq]) | ((with_reducible show retK _ _ _ _); simp only [zd, zb, zz, lk, Nat.reduceEqDiff, Nat.reduceBEq, Nat.reduceBeqDiff, reduceCtorEq, ↓reduceIte])); all_goals (try (first | omega | with_reducible exact Int.le_refl _ | (show (_ : Int) ≤ _; omega)))
    all_goals first
      | exact hs
      | omega
      | (rw [tableB_self]; exact hk)
      | (exfalso; simp [listB] at hg; done)
      | skip
  · have hb : signB m = false := by simpa using hb
    have he := signE_one (not_signB hb)
    have h1 : linL m = [] := if_neg (by omega)
    have h2 : gyrL m = [] := if_neg (by omega)
    repeat' (first | with_reducible (first | refine XW.seq ?_ | refine XW.block ?_ | refine XW.skip ?_ | refine XW.exit ?_ | refine XW.ret ?_) | ((first | with_reducible refine XW.region hC (fun K' hK' => ?_) | with_reducible refine XW.text hC hm_ok (by kernel_rfl) (fun K' hK' => ?_)); (try simp only [List.toList_toArray]); repeat' (first | with_reducible (first | refine xrun_cons ?_ | refine xtxt_cons ?_) | (with_reducible (first | show xoper _ _ _ _ _ _ _ | show xdo _ _ _ _ _ _); simp only [zd, zb, zz, RT.at, RT.ty, RT.sub, RT.cut, RT.wr, getS, setT, Ty.dflt, lk, Ty.st, stV, unV, prodTV, Int.reduceToNat, Int.reduceEq, reduceCtorEq, Nat.reduceLT, Nat.reduceEqDiff, Nat.reduceAdd, Nat.reduceMul, Nat.reduceLeDiff, Nat.reduceSub, Nat.reduceBEq, Nat.reduceBNe, Nat.reduceBeqDiff, ↓reduceIte, tab, tL, tI, tB, LI, NI, LLI, tLL, spL, spLI, spIL, spLL, spT, spTT, signsSp, slinksSp, sgyrSp, linkedSp, gyrSp, listSp, tableSp, hb, he, h1, h2]) | with_reducible refine xgd_intro (fun hg => ?_) (fun hg => ?_) <;> (try simp only [zh, zi, zz, reduceCtorEq] at hg) | ((with_reducible show (_ : Bool) = true); kernel_rfl) | with_reducible (first | refine And.intro ?_ ?_ | refine xrun_nil ?_ | refine xtxt_nil ?_) | (refine hK' _ ?_; clear hK'; clear K') | (with_reducible intro hg; try simp only [zh, zi, zz, reduceCtorEq] at hg))) | ((with_reducible show XW _ _ _ _ (.cond _ _ _) _ _); refine XW.cond rfl (fun h => ?_) (fun h => ?_) <;> (try simp only [zh, zi, zz, reduceCtorEq] at h) <;> (try (exfalso; omega))) | ((with_reducible show XW.thn _ _ _ _); dsimp only [XW.thn]) | ((with_reducible show XW.blk _ _ _ _); simp only [XW.blk, ↓reduceIte, Nat.reduceEqDiff, Nat.zero_ne_one, Nat.one_ne_zero, ne_eq]) | ((with_reducible show retK _ _ _ _); simp only [zd, zb, zz, lk, Nat.reduceEqDiff, Nat.reduceBEq, Nat.reduceBeqDiff, reduceCtorEq, ↓reduceIte])); all_goals (try (first | omega | with_reducible exact Int.le_refl _ | (show (_ : Int) ≤ _; omega)))
    all_goals first
      | omega
      | exact hk
      | skip

end Fer
