import Derived.Test.YtjocjlohdapmaaaRows
import Derived.Test.YtjocjlohdapmaaaRuB
import Derived.Test.YtjocjlohdapmaaaFerS
set_option linter.unusedSimpArgs false
set_option linter.unusedVariables false
set_option maxHeartbeats 8000000
namespace Fer
open Go Go.Proofs

@[reducible] def grnPat : List PA := [.val NI, .val NI, .val LI, .capl LI, .box 33 LLI, .capl LI, .capl .func]
structure GrOK (m : Nat) (c p : List Int) (i : Nat) (left : Int) (out : Tb) (now : List Int) : Prop where
  ic : i ≤ c.length
  cl : c.length ≤ 1000
  pl : p.length ≤ 1000
  c0 : ∀ k, 0 ≤ c.getD k 0 ∧ c.getD k 0 ≤ 1000
  p0 : ∀ k, 0 ≤ p.getD k 0 ∧ p.getD k 0 ≤ 1000
  l0 : 0 ≤ left
  l1 : left ≤ 1000
  nl : now.length = i
  ol : out.length + (grw p i (c.drop i) left).length ≤ 1000000
  fu : c.length - i < m
def grnSp (m : Nat) : SpecS := ⟨grnPat, fun bl vals boxes K => match bl, vals, boxes with
  | [bo], [⟨.int _, i⟩, ⟨.int _, left⟩, ⟨.list _ (.int _), now⟩, ⟨.list _ (.int _), c⟩, ⟨.int _, cc⟩, ⟨.list _ (.int _), p⟩, ⟨.int _, cp⟩, ⟨.func, fr⟩, ⟨.int _, cf⟩], [⟨.list _ (.list _ (.int _)), out⟩] =>
    (0 ≤ i ∧ GrOK m c p i.toNat left out now ∧ fr = some (53, [cc.toNat, bo, cp.toNat, cf.toNat])) ∧ K [] [tLL (out ++ (grw p i.toNat (c.drop i.toNat) left).map fun q => trimD 0 (now ++ q))]
  | _, _, _ => False⟩
theorem grnSp_pat (m : Nat) : (grnSp m).pat = grnPat := rfl
theorem grnSp_wp (m : Nat) (bo : Nat) (i left : Int) (now c : List Int) (cc : Int) (p : List Int) (cp : Int) (fr : Option (Nat × List Nat)) (cf : Int) (out : Tb) (K : List TV → List TV → Prop) :
    (grnSp m).wp [bo] [⟨.int .i64, i⟩, ⟨.int .i64, left⟩, ⟨LI, now⟩, ⟨LI, c⟩, ⟨.int .i64, cc⟩, ⟨LI, p⟩, ⟨.int .i64, cp⟩, ⟨.func, fr⟩, ⟨.int .i64, cf⟩] [⟨LLI, out⟩] K =
    ((0 ≤ i ∧ GrOK m c p i.toNat left out now ∧ fr = some (53, [cc.toNat, bo, cp.toNat, cf.toNat])) ∧ K [] [tLL (out ++ (grw p i.toNat (c.drop i.toNat) left).map fun q => trimD 0 (now ++ q))]) := rfl
def grownSp : Spec := ⟨[LI, LI, NI], fun args K => match args with
  | [⟨.list _ (.int _), p⟩, ⟨.list _ (.int _), c⟩, ⟨.int _, k⟩] => GrOK 1001 c p 0 k [] [] ∧ K [tLL ((grw p 0 c k).map (trimD 0))]
  | _ => False⟩

theorem flat_range_succN {α : Type} (f : Nat → List α) (n : Nat) : (List.range (n + 1)).flatMap f = (List.range n).flatMap f ++ f n := by
  rw [List.range_succ, List.flatMap_append]
  simp
theorem flat_range_leN {α : Type} (f : Nat → List α) {m n : Nat} (h : m ≤ n) : ((List.range m).flatMap f).length ≤ ((List.range n).flatMap f).length := by
  induction n with
  | zero => obtain rfl : m = 0 := by omega
            exact Nat.le_refl _
  | succ n ih =>
    by_cases e : m = n + 1
    · subst e; exact Nat.le_refl _
    · rw [flat_range_succN, List.length_append]
      have := ih (by omega)
      omega
theorem trim_last {q : List Int} (h : q ≠ []) (h2 : q.getD (q.length - 1) 0 ≠ 0) : trimD 0 q = q := by
  have e := List.dropLast_concat_getLast h
  have h3 : q.getLast h = q.getD (q.length - 1) 0 := by
    have := List.length_pos_iff.2 h
    rw [getD_gE (by omega), List.getLast_eq_getElem]
  rw [← e]
  exact trimD_keep (by rw [h3]; exact h2)
theorem trim_zero {q : List Int} (h : q ≠ []) (h2 : q.getD (q.length - 1) 0 = 0) : trimD 0 (q.take (q.length - 1)) = trimD 0 q := by
  have e := List.dropLast_concat_getLast h
  have h3 : q.getLast h = q.getD (q.length - 1) 0 := by
    have := List.length_pos_iff.2 h
    rw [getD_gE (by omega), List.getLast_eq_getElem]
  conv => rhs; rw [← e, h3, h2, trimD_snoc]
  rw [List.dropLast_eq_take]

set_option maxRecDepth 10000 in
theorem grn_step (m : Nat) (ih : FnSt Try.prog 53 (grnSp m)) : FnSt Try.prog 53 (grnSp (m + 1)) := by
  have hC : ∀ {w0 : World} {S0 : Nat → Prop}, CtxOK Try.prog ⟨100, tab, fun f => lk [] f, fun f => lk [] f, fun f => lk [] f, fun f => lk [] f, fun f => lk [(53, grnSp m)] f, fun f => lk [] f⟩ w0 S0 := ctx_ok trivial trivial trivial trivial ⟨ih, trivial⟩
  refine FnSt_of (C := ⟨100, tab, fun f => lk [] f, fun f => lk [] f, fun f => lk [] f, fun f => lk [] f, fun f => lk [(53, grnSp m)] f, fun f => lk [] f⟩) 53 Try.f53 _ [] (grnSp (m + 1)) Try.func53 rfl (by decide) rfl rfl (Nat.le_of_ble_eq_true rfl) fun bl vals boxes K hA hK w0 sd => ?_
  obtain ⟨w1, T1, vs, F1, hA0⟩ := hA
  obtain ⟨(i0 : Int), v0, _, _, e0, hA1⟩ := sa_val hA0
  clear hA0
  subst e0
  obtain ⟨(left : Int), v1, _, _, e1, hA2⟩ := sa_val hA1
  clear hA1
  subst e1
  obtain ⟨(now : List Int), v2, _, _, e2, hA3⟩ := sa_val hA2
  clear hA2
  subst e2
  obtain ⟨(c : List Int), cc, v3, _, _, e3, hA4⟩ := sa_capl hA3
  clear hA3
  subst e3
  obtain ⟨bo, (out : Tb), l3, x3, _, _, e3, g3, hA5⟩ := sa_box hA4
  clear hA4
  subst e3 g3
  obtain ⟨(p : List Int), cp, v4, _, _, e4, hA6⟩ := sa_capl hA5
  clear hA5
  subst e4
  obtain ⟨(fr : Option (Nat × List Nat)), cf, v5, _, _, e5, hA7⟩ := sa_capl hA6
  clear hA6
  subst e5
  obtain ⟨rfl, rfl, rfl⟩ := sa_nil hA7
  clear hA7
  rw [grnSp_wp] at hK
  obtain ⟨⟨hi0, hO, hfr⟩, hk⟩ := hK
  simp only [Int.toNat_natCast] at hfr
  subst hfr
  obtain ⟨i, rfl⟩ : ∃ k : Nat, i0 = (k : Int) := ⟨i0.toNat, by omega⟩
  rw [Int.toNat_natCast] at hO hk
  obtain ⟨ic, cl, pl, c0, p0, l0, l1, nl, ol, fu⟩ := hO
  by_cases hic : i = c.length
  · have e0 : c.drop i = [] := List.drop_eq_nil_of_le (by omega)
    rw [e0] at hk
    by_cases hz : left = 0
    rotate_left
    · have e : grw p i [] left = [] := if_neg hz
      rw [e] at hk
      rw [List.map_nil, List.append_nil] at hk
      repeat' (first | with_reducible (first | refine XW.seq ?_ | refine XW.block ?_ | refine XW.skip ?_ | refine XW.exit ?_ | refine XW.ret ?_) | ((first | with_reducible refine XW.region hC (fun K' hK' => ?_) | with_reducible refine XW.text hC hm_ok (by kernel_rfl) (fun K' hK' => ?_)); (try simp only [List.toList_toArray]); repeat' (first | with_reducible (first | refine xrun_cons ?_ | refine xtxt_cons ?_) | (with_reducible (first | show xoper _ _ _ _ _ _ _ | show xdo _ _ _ _ _ _); simp only [zd, zb, zz, RT.at, RT.ty, RT.sub, RT.cut, RT.wr, getS, setT, Ty.dflt, lk, Ty.st, stV, unV, prodTV, Int.reduceToNat, Int.reduceEq, reduceCtorEq, Nat.reduceLT, Nat.reduceEqDiff, Nat.reduceAdd, Nat.reduceMul, Nat.reduceLeDiff, Nat.reduceSub, Nat.reduceBEq, Nat.reduceBNe, Nat.reduceBeqDiff, ↓reduceIte, tab, tL, tI, tB, LI, NI, LLI, tLL, spL, grnPat, grnSp_pat, grnSp_wp, grownSp, List.set_cons_zero, List.getD_cons_zero]) | with_reducible refine xgd_intro (fun hg => ?_) (fun hg => ?_) <;> (try simp only [zh, zi, zz, reduceCtorEq] at hg) | ((with_reducible show (_ : Bool) = true); kernel_rfl) | with_reducible (first | refine And.intro ?_ ?_ | refine xrun_nil ?_ | refine xtxt_nil ?_) | (refine hK' _ ?_; clear hK'; clear K') | (with_reducible intro hg; try simp only [zh, zi, zz, reduceCtorEq] at hg))) | ((with_reducible show XW _ _ _ _ (.cond _ _ _) _ _); refine XW.cond rfl (fun h => ?_) (fun h => ?_) <;> (try simp only [zh, zi, zz, reduceCtorEq] at h) <;> (try (exfalso; omega))) | ((with_reducible show XW.thn _ _ _ _); dsimp only [XW.thn]) | ((with_reducible show XW.blk _ _ _ _); simp only [XW.blk, ↓reduceIte, Nat.reduceEqDiff, Nat.zero_ne_one, Nat.one_ne_zero, ne_eq]) | ((with_reducible show retS _ _ _ _ _ _ _); simp only [retS, boxS, outsOf, outOf, List.length_cons, List.length_nil, zb, zz, RT.at, RT.ty, RT.sub, RT.cut, RT.wr, getS, setT, Ty.dflt, lk, Ty.st, stV, unV, prodTV, Int.reduceToNat, Int.reduceEq, reduceCtorEq, Nat.reduceLT, Nat.reduceEqDiff, Nat.reduceAdd, Nat.reduceMul, Nat.reduceLeDiff, Nat.reduceSub, Nat.reduceBEq, Nat.reduceBNe, Nat.reduceBeqDiff, ↓reduceIte, tab, tL, tI, tB, LI, NI, LLI, tLL, spL, grnPat, grnSp_pat, grnSp_wp, grownSp, List.set_cons_zero, List.getD_cons_zero])); all_goals (try (first | omega | with_reducible exact Int.le_refl _ | (show (_ : Int) ≤ _; omega)))
      all_goals first
        | exact hk
        | (exfalso; omega)
        | omega
        | skip
    have e : grw p i [] left = [[]] := if_pos hz
    rw [e] at hk
    rw [List.map_cons, List.map_nil, List.append_nil] at hk
    repeat' (first | with_reducible (first | refine XW.seq ?_ | refine XW.block ?_ | refine XW.skip ?_ | refine XW.exit ?_ | refine XW.ret ?_) | ((first | with_reducible refine XW.region hC (fun K' hK' => ?_) | with_reducible refine XW.text hC hm_ok (by kernel_rfl) (fun K' hK' => ?_)); (try simp only [List.toList_toArray]); repeat' (first | with_reducible (first | refine xrun_cons ?_ | refine xtxt_cons ?_) | (with_reducible (first | show xoper _ _ _ _ _ _ _ | show xdo _ _ _ _ _ _); simp only [zd, zb, zz, RT.at, RT.ty, RT.sub, RT.cut, RT.wr, getS, setT, Ty.dflt, lk, Ty.st, stV, unV, prodTV, Int.reduceToNat, Int.reduceEq, reduceCtorEq, Nat.reduceLT, Nat.reduceEqDiff, Nat.reduceAdd, Nat.reduceMul, Nat.reduceLeDiff, Nat.reduceSub, Nat.reduceBEq, Nat.reduceBNe, Nat.reduceBeqDiff, ↓reduceIte, tab, tL, tI, tB, LI, NI, LLI, tLL, spL, grnPat, grnSp_pat, grnSp_wp, grownSp, List.set_cons_zero, List.getD_cons_zero]) | with_reducible refine xgd_intro (fun hg => ?_) (fun hg => ?_) <;> (try simp only [zh, zi, zz, reduceCtorEq] at hg) | ((with_reducible show (_ : Bool) = true); kernel_rfl) | with_reducible (first | refine And.intro ?_ ?_ | refine xrun_nil ?_ | refine xtxt_nil ?_) | (refine hK' _ ?_; clear hK'; clear K') | (with_reducible intro hg; try simp only [zh, zi, zz, reduceCtorEq] at hg))) | ((with_reducible show XW _ _ _ _ (.cond _ _ _) _ _); refine XW.cond rfl (fun h => ?_) (fun h => ?_) <;> (try simp only [zh, zi, zz, reduceCtorEq] at h) <;> (try (exfalso; omega))) | ((with_reducible show XW.thn _ _ _ _); dsimp only [XW.thn]) | ((with_reducible show XW.blk _ _ _ _); simp only [XW.blk, ↓reduceIte, Nat.reduceEqDiff, Nat.zero_ne_one, Nat.one_ne_zero, ne_eq]) | ((with_reducible show retS _ _ _ _ _ _ _); simp only [retS, boxS, outsOf, outOf, List.length_cons, List.length_nil, zb, zz, RT.at, RT.ty, RT.sub, RT.cut, RT.wr, getS, setT, Ty.dflt, lk, Ty.st, stV, unV, prodTV, Int.reduceToNat, Int.reduceEq, reduceCtorEq, Nat.reduceLT, Nat.reduceEqDiff, Nat.reduceAdd, Nat.reduceMul, Nat.reduceLeDiff, Nat.reduceSub, Nat.reduceBEq, Nat.reduceBNe, Nat.reduceBeqDiff, ↓reduceIte, tab, tL, tI, tB, LI, NI, LLI, tLL, spL, grnPat, grnSp_pat, grnSp_wp, grownSp, List.set_cons_zero, List.getD_cons_zero])); all_goals (try (first | omega | with_reducible exact Int.le_refl _ | (show (_ : Int) ≤ _; omega)))
    all_goals first
      | (exfalso; omega)
      | omega
      | skip
    refine XW.loop (ι := List Int) (fun q => ⟨[(10, .ref 1 []), (4, .ptr 0 [0]), (164, .loc 0 bo)], [(1, ⟨3, NI, 0, q, none⟩), (0, ⟨33, LLI, 2, [out], none⟩)], 2, []⟩)
      (fun q => trimD 0 q = trimD 0 now ∧ q.length ≤ now.length) (fun q => q.length) now [(0, 0), (1, 2)] ⟨rfl, Nat.le_refl _⟩ ?_ fun q hq => ?_
    · simp only [Fits, distinct, fitEnv, fitB, fitL, fitRoots, fitRT, idsOK, AV.ids, zb, zz, RT.at, RT.ty, RT.sub, RT.cut, RT.wr, getS, setT, Ty.dflt, lk, Ty.st, stV, unV, prodTV, Int.reduceToNat, Int.reduceEq, reduceCtorEq, Nat.reduceLT, Nat.reduceEqDiff, Nat.reduceAdd, Nat.reduceMul, Nat.reduceLeDiff, Nat.reduceSub, Nat.reduceBEq, Nat.reduceBNe, Nat.reduceBeqDiff, ↓reduceIte, tab, tL, tI, tB, LI, NI, LLI, tLL, spL, grnPat, grnSp_pat, grnSp_wp, grownSp, List.set_cons_zero, List.getD_cons_zero]
      all_goals first | rfl | exact ⟨rfl, rfl⟩ | skip
    obtain ⟨q1, q2⟩ := hq
    by_cases hq0 : q = []
    · subst hq0
      rw [← q1] at hk
      repeat' (first | with_reducible (first | refine XW.seq ?_ | refine XW.block ?_ | refine XW.skip ?_ | refine XW.exit ?_ | refine XW.ret ?_) | ((first | with_reducible refine XW.region hC (fun K' hK' => ?_) | with_reducible refine XW.text hC hm_ok (by kernel_rfl) (fun K' hK' => ?_)); (try simp only [List.toList_toArray]); repeat' (first | with_reducible (first | refine xrun_cons ?_ | refine xtxt_cons ?_) | (with_reducible (first | show xoper _ _ _ _ _ _ _ | show xdo _ _ _ _ _ _); simp only [zd, zb, zz, RT.at, RT.ty, RT.sub, RT.cut, RT.wr, getS, setT, Ty.dflt, lk, Ty.st, stV, unV, prodTV, Int.reduceToNat, Int.reduceEq, reduceCtorEq, Nat.reduceLT, Nat.reduceEqDiff, Nat.reduceAdd, Nat.reduceMul, Nat.reduceLeDiff, Nat.reduceSub, Nat.reduceBEq, Nat.reduceBNe, Nat.reduceBeqDiff, ↓reduceIte, tab, tL, tI, tB, LI, NI, LLI, tLL, spL, grnPat, grnSp_pat, grnSp_wp, grownSp, List.set_cons_zero, List.getD_cons_zero]) | with_reducible refine xgd_intro (fun hg => ?_) (fun hg => ?_) <;> (try simp only [zh, zi, zz, reduceCtorEq] at hg) | ((with_reducible show (_ : Bool) = true); kernel_rfl) | with_reducible (first | refine And.intro ?_ ?_ | refine xrun_nil ?_ | refine xtxt_nil ?_) | (refine hK' _ ?_; clear hK'; clear K') | (with_reducible intro hg; try simp only [zh, zi, zz, reduceCtorEq] at hg))) | ((with_reducible show XW _ _ _ _ (.cond _ _ _) _ _); refine XW.cond rfl (fun h => ?_) (fun h => ?_) <;> (try simp only [zh, zi, zz, reduceCtorEq] at h) <;> (try (exfalso; omega))) | ((with_reducible show XW.thn _ _ _ _); dsimp only [XW.thn]) | ((with_reducible show XW.blk _ _ _ _); simp only [XW.blk, ↓reduceIte, Nat.reduceEqDiff, Nat.zero_ne_one, Nat.one_ne_zero, ne_eq]) | ((with_reducible show retS _ _ _ _ _ _ _); simp only [retS, boxS, outsOf, outOf, List.length_cons, List.length_nil, zb, zz, RT.at, RT.ty, RT.sub, RT.cut, RT.wr, getS, setT, Ty.dflt, lk, Ty.st, stV, unV, prodTV, Int.reduceToNat, Int.reduceEq, reduceCtorEq, Nat.reduceLT, Nat.reduceEqDiff, Nat.reduceAdd, Nat.reduceMul, Nat.reduceLeDiff, Nat.reduceSub, Nat.reduceBEq, Nat.reduceBNe, Nat.reduceBeqDiff, ↓reduceIte, tab, tL, tI, tB, LI, NI, LLI, tLL, spL, grnPat, grnSp_pat, grnSp_wp, grownSp, List.set_cons_zero, List.getD_cons_zero])); all_goals (try (first | omega | with_reducible exact Int.le_refl _ | (show (_ : Int) ≤ _; omega)))
      all_goals first
        | exact hk
        | (exfalso; omega)
        | omega
        | skip
    have hqp : 0 < q.length := List.length_pos_iff.2 hq0
    have e1 : ((q.length : Int) - 1).toNat = q.length - 1 := by omega
    by_cases hl : q.getD (q.length - 1) 0 = 0
    · have e2 := trim_zero hq0 hl
      repeat' (first | with_reducible (first | refine XW.seq ?_ | refine XW.block ?_ | refine XW.skip ?_ | refine XW.exit ?_ | refine XW.ret ?_) | ((first | with_reducible refine XW.region hC (fun K' hK' => ?_) | with_reducible refine XW.text hC hm_ok (by kernel_rfl) (fun K' hK' => ?_)); (try simp only [List.toList_toArray]); repeat' (first | with_reducible (first | refine xrun_cons ?_ | refine xtxt_cons ?_) | (with_reducible (first | show xoper _ _ _ _ _ _ _ | show xdo _ _ _ _ _ _); simp only [zd, zb, zz, RT.at, RT.ty, RT.sub, RT.cut, RT.wr, getS, setT, Ty.dflt, lk, Ty.st, stV, unV, prodTV, Int.reduceToNat, Int.reduceEq, reduceCtorEq, Nat.reduceLT, Nat.reduceEqDiff, Nat.reduceAdd, Nat.reduceMul, Nat.reduceLeDiff, Nat.reduceSub, Nat.reduceBEq, Nat.reduceBNe, Nat.reduceBeqDiff, ↓reduceIte, tab, tL, tI, tB, LI, NI, LLI, tLL, spL, grnPat, grnSp_pat, grnSp_wp, grownSp, List.set_cons_zero, List.getD_cons_zero, e1]) | with_reducible refine xgd_intro (fun hg => ?_) (fun hg => ?_) <;> (try simp only [zh, zi, zz, reduceCtorEq] at hg) | ((with_reducible show (_ : Bool) = true); kernel_rfl) | with_reducible (first | refine And.intro ?_ ?_ | refine xrun_nil ?_ | refine xtxt_nil ?_) | (refine hK' _ ?_; clear hK'; clear K') | (with_reducible intro hg; try simp only [zh, zi, zz, reduceCtorEq] at hg))) | ((with_reducible show XW _ _ _ _ (.cond _ _ _) _ _); refine XW.cond rfl (fun h => ?_) (fun h => ?_) <;> (try simp only [zh, zi, zz, reduceCtorEq] at h) <;> (try (exfalso; omega))) | ((with_reducible show XW.thn _ _ _ _); dsimp only [XW.thn]) | ((with_reducible show XW.blk _ _ _ _); simp only [XW.blk, ↓reduceIte, Nat.reduceEqDiff, Nat.zero_ne_one, Nat.one_ne_zero, ne_eq]) | ((with_reducible show retS _ _ _ _ _ _ _); simp only [retS, boxS, outsOf, outOf, List.length_cons, List.length_nil, zb, zz, RT.at, RT.ty, RT.sub, RT.cut, RT.wr, getS, setT, Ty.dflt, lk, Ty.st, stV, unV, prodTV, Int.reduceToNat, Int.reduceEq, reduceCtorEq, Nat.reduceLT, Nat.reduceEqDiff, Nat.reduceAdd, Nat.reduceMul, Nat.reduceLeDiff, Nat.reduceSub, Nat.reduceBEq, Nat.reduceBNe, Nat.reduceBeqDiff, ↓reduceIte, tab, tL, tI, tB, LI, NI, LLI, tLL, spL, grnPat, grnSp_pat, grnSp_wp, grownSp, List.set_cons_zero, List.getD_cons_zero, e1])); all_goals (try (first | omega | with_reducible exact Int.le_refl _ | (show (_ : Int) ≤ _; omega)))
      all_goals first
        | (exfalso; omega)
        | omega
        | (refine ⟨q.take (q.length - 1), [(0, 0), (1, 1)], ⟨e2.trans q1, by rw [List.length_take]; omega⟩, by rw [List.length_take]; omega, ?_⟩
           simp only [Fits, distinct, fitEnv, fitB, fitL, fitRoots, fitRT, idsOK, AV.ids, zb, zz, RT.at, RT.ty, RT.sub, RT.cut, RT.wr, getS, setT, Ty.dflt, lk, Ty.st, stV, unV, prodTV, Int.reduceToNat, Int.reduceEq, reduceCtorEq, Nat.reduceLT, Nat.reduceEqDiff, Nat.reduceAdd, Nat.reduceMul, Nat.reduceLeDiff, Nat.reduceSub, Nat.reduceBEq, Nat.reduceBNe, Nat.reduceBeqDiff, ↓reduceIte, tab, tL, tI, tB, LI, NI, LLI, tLL, spL, grnPat, grnSp_pat, grnSp_wp, grownSp, List.set_cons_zero, List.getD_cons_zero]
           all_goals first | rfl | exact ⟨rfl, rfl⟩ | skip)
        | skip
    · rw [← q1, trim_last hq0 hl] at hk
      repeat' (first | with_reducible (first | refine XW.seq ?_ | refine XW.block ?_ | refine XW.skip ?_ | refine XW.exit ?_ | refine XW.ret ?_) | ((first | with_reducible refine XW.region hC (fun K' hK' => ?_) | with_reducible refine XW.text hC hm_ok (by kernel_rfl) (fun K' hK' => ?_)); (try simp only [List.toList_toArray]); repeat' (first | with_reducible (first | refine xrun_cons ?_ | refine xtxt_cons ?_) | (with_reducible (first | show xoper _ _ _ _ _ _ _ | show xdo _ _ _ _ _ _); simp only [zd, zb, zz, RT.at, RT.ty, RT.sub, RT.cut, RT.wr, getS, setT, Ty.dflt, lk, Ty.st, stV, unV, prodTV, Int.reduceToNat, Int.reduceEq, reduceCtorEq, Nat.reduceLT, Nat.reduceEqDiff, Nat.reduceAdd, Nat.reduceMul, Nat.reduceLeDiff, Nat.reduceSub, Nat.reduceBEq, Nat.reduceBNe, Nat.reduceBeqDiff, ↓reduceIte, tab, tL, tI, tB, LI, NI, LLI, tLL, spL, grnPat, grnSp_pat, grnSp_wp, grownSp, List.set_cons_zero, List.getD_cons_zero, e1]) | with_reducible refine xgd_intro (fun hg => ?_) (fun hg => ?_) <;> (try simp only [zh, zi, zz, reduceCtorEq] at hg) | ((with_reducible show (_ : Bool) = true); kernel_rfl) | with_reducible (first | refine And.intro ?_ ?_ | refine xrun_nil ?_ | refine xtxt_nil ?_) | (refine hK' _ ?_; clear hK'; clear K') | (with_reducible intro hg; try simp only [zh, zi, zz, reduceCtorEq] at hg))) | ((with_reducible show XW _ _ _ _ (.cond _ _ _) _ _); refine XW.cond rfl (fun h => ?_) (fun h => ?_) <;> (try simp only [zh, zi, zz, reduceCtorEq] at h) <;> (try (exfalso; omega))) | ((with_reducible show XW.thn _ _ _ _); dsimp only [XW.thn]) | ((with_reducible show XW.blk _ _ _ _); simp only [XW.blk, ↓reduceIte, Nat.reduceEqDiff, Nat.zero_ne_one, Nat.one_ne_zero, ne_eq]) | ((with_reducible show retS _ _ _ _ _ _ _); simp only [retS, boxS, outsOf, outOf, List.length_cons, List.length_nil, zb, zz, RT.at, RT.ty, RT.sub, RT.cut, RT.wr, getS, setT, Ty.dflt, lk, Ty.st, stV, unV, prodTV, Int.reduceToNat, Int.reduceEq, reduceCtorEq, Nat.reduceLT, Nat.reduceEqDiff, Nat.reduceAdd, Nat.reduceMul, Nat.reduceLeDiff, Nat.reduceSub, Nat.reduceBEq, Nat.reduceBNe, Nat.reduceBeqDiff, ↓reduceIte, tab, tL, tI, tB, LI, NI, LLI, tLL, spL, grnPat, grnSp_pat, grnSp_wp, grownSp, List.set_cons_zero, List.getD_cons_zero, e1])); all_goals (try (first | omega | with_reducible exact Int.le_refl _ | (show (_ : Int) ≤ _; omega)))
      all_goals first
        | exact hk
        | (exfalso; omega)
        | omega
        | skip
  have hil : i < c.length := by omega
  have hdr : c.drop i = c.getD i 0 :: c.drop (i + 1) := drop_pred_getD 0 hil
  obtain ⟨hi, hhi⟩ : ∃ hi, (if i = 0 then c.getD i 0 else min (p.getD (i - 1) 0) (c.getD i 0)) = hi := ⟨_, rfl⟩
  have hh : (i = 0 ∧ hi = c.getD i 0) ∨ (0 < i ∧ hi = min (p.getD (i - 1) 0) (c.getD i 0)) := by
    by_cases h : i = 0
    · rw [if_pos h] at hhi; exact .inl ⟨h, hhi.symm⟩
    · rw [if_neg h] at hhi; exact .inr ⟨by omega, hhi.symm⟩
  have hp1 : i < p.length ∨ p.getD i 0 = 0 := by
    by_cases h : i < p.length
    · exact .inl h
    · exact .inr (getD_ge (by omega))
  have hp2 : i - 1 < p.length ∨ p.getD (i - 1) 0 = 0 := by
    by_cases h : i - 1 < p.length
    · exact .inl h
    · exact .inr (getD_ge (by omega))
  have hlo := p0 i
  have hci := c0 i
  have hpi := p0 (i - 1)
  obtain ⟨G, hG⟩ : ∃ G : Nat → List (List Int), (fun k : Nat => (grw p (i + 1) (c.drop (i + 1)) (left - (k : Int))).map ((p.getD i 0 + (k : Int)) :: ·)) = G := ⟨_, rfl⟩
  obtain ⟨N, hN⟩ : ∃ N, ((min hi (p.getD i 0 + left)) + 1 - p.getD i 0).toNat = N := ⟨_, rfl⟩
  have hgr : grw p i (c.drop i) left = (List.range N).flatMap G := by
    rw [hdr, grw, hhi, hN, hG]
  rw [hgr] at hk ol
  have hGk : ∀ k : Nat, G k = (grw p (i + 1) (c.drop (i + 1)) (left - (k : Int))).map ((p.getD i 0 + (k : Int)) :: ·) := fun k => by rw [← hG]
  have e1 : ((i : Int) - 1).toNat = i - 1 := by omega
  repeat' (first | (first | ((with_reducible show XW _ _ _ _ (.seq _ (.seq _ (.seq (.region 14 _ _) _))) _ _); refine XW.mid ⟨[(12, .dat NI (c.getD i 0)), (11, .dat NI (p.getD i 0)), (0, .dat NI (i : Int)), (1, .dat NI left), (2, .dat LI now), (3, .rpl cc LI c), (4, .ptr 0 [0]), (5, .rpl cp LI p), (6, .rpl cf .func (some (53, [cc, bo, cp, cf]))), (164, .loc 0 bo)], [(0, ⟨33, LLI, 2, [out], none⟩)], 1, []⟩ ?_ ?_) | ((with_reducible show XW _ _ _ _ (.seq _ (.seq (.region 14 _ _) _)) _ _); refine XW.mid ⟨[(12, .dat NI hi), (11, .dat NI (p.getD i 0)), (0, .dat NI (i : Int)), (1, .dat NI left), (2, .dat LI now), (3, .rpl cc LI c), (4, .ptr 0 [0]), (5, .rpl cp LI p), (6, .rpl cf .func (some (53, [cc, bo, cp, cf]))), (164, .loc 0 bo)], [(0, ⟨33, LLI, 2, [out], none⟩)], 1, []⟩ ?_ ?_)) | with_reducible (first | refine XW.seq ?_ | refine XW.block ?_ | refine XW.skip ?_ | refine XW.exit ?_ | refine XW.ret ?_) | ((first | with_reducible refine XW.region hC (fun K' hK' => ?_) | with_reducible refine XW.text hC hm_ok (by kernel_rfl) (fun K' hK' => ?_)); (try simp only [List.toList_toArray]); repeat' (first | with_reducible (first | refine xrun_cons ?_ | refine xtxt_cons ?_) | (with_reducible (first | show xoper _ _ _ _ _ _ _ | show xdo _ _ _ _ _ _); simp only [zd, zb, zz, RT.at, RT.ty, RT.sub, RT.cut, RT.wr, getS, setT, Ty.dflt, lk, Ty.st, stV, unV, prodTV, Int.reduceToNat, Int.reduceEq, reduceCtorEq, Nat.reduceLT, Nat.reduceEqDiff, Nat.reduceAdd, Nat.reduceMul, Nat.reduceLeDiff, Nat.reduceSub, Nat.reduceBEq, Nat.reduceBNe, Nat.reduceBeqDiff, ↓reduceIte, tab, tL, tI, tB, LI, NI, LLI, tLL, spL, grnPat, grnSp_pat, grnSp_wp, grownSp, List.set_cons_zero, List.getD_cons_zero, e1]) | with_reducible refine xgd_intro (fun hg => ?_) (fun hg => ?_) <;> (try simp only [zh, zi, zz, reduceCtorEq] at hg) | ((with_reducible show (_ : Bool) = true); kernel_rfl) | with_reducible (first | refine And.intro ?_ ?_ | refine xrun_nil ?_ | refine xtxt_nil ?_) | (refine hK' _ ?_; clear hK'; clear K') | (with_reducible intro hg; try simp only [zh, zi, zz, reduceCtorEq] at hg))) | ((with_reducible show XW _ _ _ _ (.cond _ _ _) _ _); refine XW.cond rfl (fun h => ?_) (fun h => ?_) <;> (try simp only [zh, zi, zz, reduceCtorEq] at h) <;> (try (exfalso; omega))) | ((with_reducible show XW.thn _ _ _ _); dsimp only [XW.thn]) | ((with_reducible show XW.blk _ _ _ _); simp only [XW.blk, ↓reduceIte, Nat.reduceEqDiff, Nat.zero_ne_one, Nat.one_ne_zero, ne_eq]) | ((with_reducible show retS _ _ _ _ _ _ _); simp only [retS, boxS, outsOf, outOf, List.length_cons, List.length_nil, zb, zz, RT.at, RT.ty, RT.sub, RT.cut, RT.wr, getS, setT, Ty.dflt, lk, Ty.st, stV, unV, prodTV, Int.reduceToNat, Int.reduceEq, reduceCtorEq, Nat.reduceLT, Nat.reduceEqDiff, Nat.reduceAdd, Nat.reduceMul, Nat.reduceLeDiff, Nat.reduceSub, Nat.reduceBEq, Nat.reduceBNe, Nat.reduceBeqDiff, ↓reduceIte, tab, tL, tI, tB, LI, NI, LLI, tLL, spL, grnPat, grnSp_pat, grnSp_wp, grownSp, List.set_cons_zero, List.getD_cons_zero, e1])); all_goals (try (first | omega | with_reducible exact Int.le_refl _ | (show (_ : Int) ≤ _; omega)))
  all_goals first
    | (exfalso; omega)
    | omega
    | (refine ⟨[(0, 0)], ?_⟩
       simp only [Fits, distinct, fitEnv, fitB, fitL, fitRoots, fitRT, idsOK, AV.ids, zb, zz, RT.at, RT.ty, RT.sub, RT.cut, RT.wr, getS, setT, Ty.dflt, lk, Ty.st, stV, unV, prodTV, Int.reduceToNat, Int.reduceEq, reduceCtorEq, Nat.reduceLT, Nat.reduceEqDiff, Nat.reduceAdd, Nat.reduceMul, Nat.reduceLeDiff, Nat.reduceSub, Nat.reduceBEq, Nat.reduceBNe, Nat.reduceBeqDiff, ↓reduceIte, tab, tL, tI, tB, LI, NI, LLI, tLL, spL, grnPat, grnSp_pat, grnSp_wp, grownSp, List.set_cons_zero, List.getD_cons_zero]
       first | done | (show (_ : Int) = _; omega) | (refine ⟨?_, ?_⟩ <;> (show (_ : Int) = _; omega)) | (refine ⟨?_, ?_, ?_⟩ <;> (show (_ : Int) = _; omega)))
    | skip
  refine XW.loop (ι := Nat) (fun k => ⟨[(13, .dat NI (p.getD i 0 + (k : Int))), (12, .dat NI hi), (11, .dat NI (p.getD i 0)), (0, .dat NI (i : Int)), (1, .dat NI left), (2, .dat LI now), (3, .rpl cc LI c), (4, .ptr 0 [0]), (5, .rpl cp LI p), (6, .rpl cf .func (some (53, [cc, bo, cp, cf]))), (164, .loc 0 bo)],
      [(0, ⟨33, LLI, 2, [out ++ ((List.range k).flatMap G).map fun q => trimD 0 (now ++ q)], none⟩)], 1, []⟩) (fun k => k ≤ N) (fun k => N - k) 0 [(0, 0)] (Nat.zero_le _) ?_ fun k hkN => ?_
  · simp only [Fits, distinct, fitEnv, fitB, fitL, fitRoots, fitRT, idsOK, AV.ids, zb, zz, RT.at, RT.ty, RT.sub, RT.cut, RT.wr, getS, setT, Ty.dflt, lk, Ty.st, stV, unV, prodTV, Int.reduceToNat, Int.reduceEq, reduceCtorEq, Nat.reduceLT, Nat.reduceEqDiff, Nat.reduceAdd, Nat.reduceMul, Nat.reduceLeDiff, Nat.reduceSub, Nat.reduceBEq, Nat.reduceBNe, Nat.reduceBeqDiff, ↓reduceIte, tab, tL, tI, tB, LI, NI, LLI, tLL, spL, grnPat, grnSp_pat, grnSp_wp, grownSp, List.set_cons_zero, List.getD_cons_zero]
    all_goals first | rfl | exact ⟨rfl, rfl⟩ | (show (_ : Int) = _; omega) | simp | skip
  have hsub : left - (p.getD i 0 + (k : Int) - p.getD i 0) = left - (k : Int) := by omega
  have hst := flat_range_succN G k
  by_cases hkl : k < N
  rotate_left
  · obtain rfl : k = N := by omega
    repeat' (first | with_reducible (first | refine XW.seq ?_ | refine XW.block ?_ | refine XW.skip ?_ | refine XW.exit ?_ | refine XW.ret ?_) | ((first | ((with_reducible show XW _ _ _ _ (.region _ _ true) _ _); refine XW.tree hC hm_ok (.one 0 (.one 1 (.one 2 (.one 3 (.one 4 (.one 5 (.one 6 (.one 7 (.one 8 (.one 10 (.two 9 (.one 11 (.one 12 (.one 13 .nil))) 11 (.one 9 (.one 12 (.one 13 .nil)))))))))))))) (by decide +kernel) (fun K' hK' => ?_)) | with_reducible refine XW.region hC (fun K' hK' => ?_) | with_reducible refine XW.text hC hm_ok (by kernel_rfl) (fun K' hK' => ?_)); (try simp only [List.toList_toArray]); repeat' (first | with_reducible refine xrun_cons ?_ | with_reducible refine xtree_two ?_ ?_ | with_reducible refine xtree_nil ?_ | ((with_reducible show xtree _ _ _ (.one _ _) _); refine xtree_one (by simp only [List.getElem?_toArray, List.getElem?_cons_succ, List.getElem?_cons_zero]; rfl) ?_) | with_reducible refine xtxt_cons ?_ | ((with_reducible show xord _ _ _ (_ :: _) _); refine xord_cons (by simp only [List.getElem?_toArray, List.getElem?_cons_succ, List.getElem?_cons_zero]; rfl) ?_) | (with_reducible (first | show xoper _ _ _ _ _ _ _ | show xdo _ _ _ _ _ _); simp only [zd, zb, zz, RT.at, RT.ty, RT.sub, RT.cut, RT.wr, getS, setT, Ty.dflt, lk, Ty.st, stV, unV, prodTV, Int.reduceToNat, Int.reduceEq, reduceCtorEq, Nat.reduceLT, Nat.reduceEqDiff, Nat.reduceAdd, Nat.reduceMul, Nat.reduceLeDiff, Nat.reduceSub, Nat.reduceBEq, Nat.reduceBNe, Nat.reduceBeqDiff, ↓reduceIte, tab, tL, tI, tB, LI, NI, LLI, tLL, spL, grnPat, grnSp_pat, grnSp_wp, grownSp, List.set_cons_zero, List.getD_cons_zero, hsub]) | with_reducible refine xgd_intro (fun hg => ?_) (fun hg => ?_) <;> (try simp only [zh, zi, zz, reduceCtorEq] at hg) | ((with_reducible show (_ : Bool) = true); kernel_rfl) | with_reducible (first | refine And.intro ?_ ?_ | refine xrun_nil ?_ | refine xtxt_nil ?_) | with_reducible refine xord_nil ?_ | (refine hK' _ ?_; clear hK'; clear K') | (with_reducible intro hg; try simp only [zh, zi, zz, reduceCtorEq] at hg))) | ((with_reducible show XW _ _ _ _ (.cond _ _ _) _ _); refine XW.cond rfl (fun h => ?_) (fun h => ?_) <;> (try simp only [zh, zi, zz, reduceCtorEq] at h) <;> (try (exfalso; omega))) | ((with_reducible show XW.thn _ _ _ _); dsimp only [XW.thn]) | ((with_reducible show XW.blk _ _ _ _); simp only [XW.blk, ↓reduceIte, Nat.reduceEqDiff, Nat.zero_ne_one, Nat.one_ne_zero, ne_eq]) | ((with_reducible show retS _ _ _ _ _ _ _); simp only [retS, boxS, outsOf, outOf, List.length_cons, List.length_nil, zb, zz, RT.at, RT.ty, RT.sub, RT.cut, RT.wr, getS, setT, Ty.dflt, lk, Ty.st, stV, unV, prodTV, Int.reduceToNat, Int.reduceEq, reduceCtorEq, Nat.reduceLT, Nat.reduceEqDiff, Nat.reduceAdd, Nat.reduceMul, Nat.reduceLeDiff, Nat.reduceSub, Nat.reduceBEq, Nat.reduceBNe, Nat.reduceBeqDiff, ↓reduceIte, tab, tL, tI, tB, LI, NI, LLI, tLL, spL, grnPat, grnSp_pat, grnSp_wp, grownSp, List.set_cons_zero, List.getD_cons_zero, hsub])); all_goals (try (first | omega | with_reducible exact Int.le_refl _ | (show (_ : Int) ≤ _; omega)))
    all_goals first
      | exact hk
      | (exfalso; omega)
      | omega
      | skip
  have e2 : ((i : Int) + 1).toNat = i + 1 := by omega
  have hol : (out ++ ((List.range k).flatMap G).map fun q => trimD 0 (now ++ q)).length + (grw p (i + 1) (c.drop (i + 1)) (left - (k : Int))).length ≤ 1000000 := by
    have h1 := flat_range_leN G (show k + 1 ≤ N by omega)
    rw [hst, List.length_append, hGk, List.length_map] at h1
    rw [List.length_append, List.length_map]
    omega
  have hO2 : GrOK m c p (i + 1) (left - (k : Int)) (out ++ ((List.range k).flatMap G).map fun q => trimD 0 (now ++ q)) (now ++ [p.getD i 0 + (k : Int)]) :=
    ⟨hil, cl, pl, c0, p0, by omega, by omega, by rw [List.length_append, nl]; rfl, hol, by omega⟩
  have hres : (out ++ ((List.range k).flatMap G).map fun q => trimD 0 (now ++ q)) ++ (grw p (i + 1) (c.drop (i + 1)) (left - (k : Int))).map (fun q => trimD 0 ((now ++ [p.getD i 0 + (k : Int)]) ++ q)) = out ++ ((List.range (k + 1)).flatMap G).map fun q => trimD 0 (now ++ q) := by
    rw [hst, List.map_append, hGk, List.append_assoc, List.map_map]
    congr 2
    refine List.map_congr_left fun q _ => ?_
    simp
  have hnl : (now ++ [p.getD i 0 + (k : Int)]).length = now.length + 1 := by simp
  repeat' (first | with_reducible (first | refine XW.seq ?_ | refine XW.block ?_ | refine XW.skip ?_ | refine XW.exit ?_ | refine XW.ret ?_) | ((first | ((with_reducible show XW _ _ _ _ (.region _ _ true) _ _); refine XW.tree hC hm_ok (.one 0 (.one 1 (.one 2 (.one 3 (.one 4 (.one 5 (.one 6 (.one 7 (.one 8 (.one 10 (.two 9 (.one 11 (.one 12 (.one 13 .nil))) 11 (.one 9 (.one 12 (.one 13 .nil)))))))))))))) (by decide +kernel) (fun K' hK' => ?_)) | with_reducible refine XW.region hC (fun K' hK' => ?_) | with_reducible refine XW.text hC hm_ok (by kernel_rfl) (fun K' hK' => ?_)); (try simp only [List.toList_toArray]); repeat' (first | with_reducible refine xrun_cons ?_ | with_reducible refine xtree_two ?_ ?_ | with_reducible refine xtree_nil ?_ | ((with_reducible show xtree _ _ _ (.one _ _) _); refine xtree_one (by simp only [List.getElem?_toArray, List.getElem?_cons_succ, List.getElem?_cons_zero]; rfl) ?_) | with_reducible refine xtxt_cons ?_ | ((with_reducible show xord _ _ _ (_ :: _) _); refine xord_cons (by simp only [List.getElem?_toArray, List.getElem?_cons_succ, List.getElem?_cons_zero]; rfl) ?_) | (with_reducible (first | show xoper _ _ _ _ _ _ _ | show xdo _ _ _ _ _ _); simp only [zd, zb, zz, RT.at, RT.ty, RT.sub, RT.cut, RT.wr, getS, setT, Ty.dflt, lk, Ty.st, stV, unV, prodTV, Int.reduceToNat, Int.reduceEq, reduceCtorEq, Nat.reduceLT, Nat.reduceEqDiff, Nat.reduceAdd, Nat.reduceMul, Nat.reduceLeDiff, Nat.reduceSub, Nat.reduceBEq, Nat.reduceBNe, Nat.reduceBeqDiff, ↓reduceIte, tab, tL, tI, tB, LI, NI, LLI, tLL, spL, grnPat, grnSp_pat, grnSp_wp, grownSp, List.set_cons_zero, List.getD_cons_zero, hsub, hres, e2]) | with_reducible refine xgd_intro (fun hg => ?_) (fun hg => ?_) <;> (try simp only [zh, zi, zz, reduceCtorEq] at hg) | ((with_reducible show (_ : Bool) = true); kernel_rfl) | with_reducible (first | refine And.intro ?_ ?_ | refine xrun_nil ?_ | refine xtxt_nil ?_) | with_reducible refine xord_nil ?_ | (refine hK' _ ?_; clear hK'; clear K') | (with_reducible intro hg; try simp only [zh, zi, zz, reduceCtorEq] at hg))) | ((with_reducible show XW _ _ _ _ (.cond _ _ _) _ _); refine XW.cond rfl (fun h => ?_) (fun h => ?_) <;> (try simp only [zh, zi, zz, reduceCtorEq] at h) <;> (try (exfalso; omega))) | ((with_reducible show XW.thn _ _ _ _); dsimp only [XW.thn]) | ((with_reducible show XW.blk _ _ _ _); simp only [XW.blk, ↓reduceIte, Nat.reduceEqDiff, Nat.zero_ne_one, Nat.one_ne_zero, ne_eq]) | ((with_reducible show retS _ _ _ _ _ _ _); simp only [retS, boxS, outsOf, outOf, List.length_cons, List.length_nil, zb, zz, RT.at, RT.ty, RT.sub, RT.cut, RT.wr, getS, setT, Ty.dflt, lk, Ty.st, stV, unV, prodTV, Int.reduceToNat, Int.reduceEq, reduceCtorEq, Nat.reduceLT, Nat.reduceEqDiff, Nat.reduceAdd, Nat.reduceMul, Nat.reduceLeDiff, Nat.reduceSub, Nat.reduceBEq, Nat.reduceBNe, Nat.reduceBeqDiff, ↓reduceIte, tab, tL, tI, tB, LI, NI, LLI, tLL, spL, grnPat, grnSp_pat, grnSp_wp, grownSp, List.set_cons_zero, List.getD_cons_zero, hsub, hres, e2])); all_goals (try (first | omega | with_reducible exact Int.le_refl _ | (show (_ : Int) ≤ _; omega)))
  all_goals first
    | (exfalso; omega)
    | omega
    | exact hO2
    | (refine ⟨k + 1, [(0, 0)], by omega, by omega, ?_⟩
       simp only [Fits, distinct, fitEnv, fitB, fitL, fitRoots, fitRT, idsOK, AV.ids, zb, zz, RT.at, RT.ty, RT.sub, RT.cut, RT.wr, getS, setT, Ty.dflt, lk, Ty.st, stV, unV, prodTV, Int.reduceToNat, Int.reduceEq, reduceCtorEq, Nat.reduceLT, Nat.reduceEqDiff, Nat.reduceAdd, Nat.reduceMul, Nat.reduceLeDiff, Nat.reduceSub, Nat.reduceBEq, Nat.reduceBNe, Nat.reduceBeqDiff, ↓reduceIte, tab, tL, tI, tB, LI, NI, LLI, tLL, spL, grnPat, grnSp_pat, grnSp_wp, grownSp, List.set_cons_zero, List.getD_cons_zero]
       first | done | rfl | (show (_ : Int) = _; omega) | (refine ⟨?_, rfl⟩; show (_ : Int) = _; omega))
    | skip

theorem grn_none : FnSt Try.prog 53 (grnSp 0) := by
  refine ⟨⟨_, Try.func53, by decide, rfl⟩, fun bl vals boxes K hK => ?_⟩
  exfalso
  simp only [grnSp] at hK
  split at hK
  · obtain ⟨⟨_, hO, _⟩, _⟩ := hK
    exact Nat.not_lt_zero _ hO.fu
  · exact hK
theorem grn_ok : ∀ m, FnSt Try.prog 53 (grnSp m)
  | 0 => grn_none
  | m + 1 => grn_step m (grn_ok m)

end Fer
