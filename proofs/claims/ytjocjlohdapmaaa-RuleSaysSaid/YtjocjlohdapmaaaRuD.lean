import Derived.Test.YtjocjlohdapmaaaRows
import Derived.Test.YtjocjlohdapmaaaRuDa
set_option linter.unusedSimpArgs false
set_option linter.unusedVariables false
set_option maxHeartbeats 16000000
namespace Fer
open Go Go.Proofs

theorem fromNSp_wp (m bs bn : Nat) (i j : Int) (a b c : Value × List Int) (rows : Tb) (left used : List Int) (ea : Option (Nat × List Nat)) (n : Int) (K : List TV → List TV → Prop) :
    (fromNSp m).wp [bs, bn] [⟨.int .i64, i⟩, ⟨.int .i64, j⟩] [⟨SRt, (a, b, c, rows, left, used, ea)⟩, ⟨.int .i64, n⟩] K =
    (((0 ≤ i ∧ -1 ≤ j) ∧ SrOK m a.2 c.2 rows left used i.toNat (j + 1).toNat ∧ ea = some (19, [bn]) ∧ 0 ≤ n ∧ n + ((lrS (remB a.2 c.2 i.toNat (j + 1).toNat) rows left used).length : Int) ≤ 1000000000000) ∧
      K [tB true] [tSr ⟨a, b, c, ea⟩ rows left used, tI (n + ((lrS (remB a.2 c.2 i.toNat (j + 1).toNat) rows left used).length : Int))]) := rfl

set_option maxRecDepth 10000 in
theorem fromN_step (m : Nat) (ih : FnSt Try.prog 48 (fromNSp m)) : FnSt Try.prog 48 (fromNSp (m + 1)) := by
  have hC : ∀ {w0 : World} {S0 : Nat → Prop}, CtxOK Try.prog ⟨206, tab, fun f => lk [] f, fun f => lk [] f, fun f => lk [] f, fun f => lk [] f, fun f => lk [(48, fromNSp m), (56, innerSp), (19, num1Sp)] f, fun f => lk [] f⟩ w0 S0 := ctx_ok trivial trivial trivial trivial ⟨ih, inner_ok, num1_ok, trivial⟩
  refine FnSt_of (C := ⟨206, tab, fun f => lk [] f, fun f => lk [] f, fun f => lk [] f, fun f => lk [] f, fun f => lk [(48, fromNSp m), (56, innerSp), (19, num1Sp)] f, fun f => lk [] f⟩) 48 Try.f48 _ [6] (fromNSp (m + 1)) Try.func48 rfl (by decide) rfl rfl (Nat.le_of_ble_eq_true rfl) fun bl vals boxes K hA hK w0 sd => ?_
  obtain ⟨w1, T1, vs, F1, hA0⟩ := hA
  obtain ⟨bs, x, l1, x1, _, _, e1, g1, hA1⟩ := sa_box hA0
  clear hA0
  subst e1 g1
  obtain ⟨⟨va, (a : List Int)⟩, ⟨vb, (b : List Int)⟩, ⟨vc, (c : List Int)⟩, (rows : Tb), (left : List Int), (used : List Int), (ea : Option (Nat × List Nat))⟩ := x
  obtain ⟨(i0 : Int), v0, _, _, e0, hA2⟩ := sa_val hA1
  clear hA1
  subst e0
  obtain ⟨(j0 : Int), v2, _, _, e0, hA3⟩ := sa_val hA2
  clear hA2
  subst e0
  obtain ⟨bn, (n : Int), l2, x2, _, _, e1, g1, hA4⟩ := sa_gho hA3
  clear hA3
  subst e1 g1
  obtain ⟨rfl, rfl, rfl⟩ := sa_nil hA4
  clear hA4
  rw [fromNSp_wp] at hK
  obtain ⟨⟨⟨hi0, hj0⟩, hS, hea, hn0, hn1⟩, hk⟩ := hK
  subst hea
  obtain ⟨i, rfl⟩ : ∃ k : Nat, i0 = (k : Int) := ⟨i0.toNat, by omega⟩
  obtain ⟨jj, rfl⟩ : ∃ k : Nat, j0 = (k : Int) - 1 := ⟨(j0 + 1).toNat, by omega⟩
  rw [Int.toNat_natCast, show ((jj : Int) - 1 + 1).toNat = jj by omega] at hS hn1 hk
  have hS : SrOK (m + 1) a c rows left used i jj := hS
  have hn1 : n + ((lrS (remB a c i jj) rows left used).length : Int) ≤ 1000000000000 := hn1
  have hk : K [tB true] [tSr ⟨(va, a), (vb, b), (vc, c), some (19, [bn])⟩ rows left used, tI (n + ((lrS (remB a c i jj) rows left used).length : Int))] := hk
  have hcl := hS.cl
  repeat' (first | with_reducible (first | refine XW.seq ?_ | refine XW.block ?_ | refine XW.skip ?_ | refine XW.exit ?_ | refine XW.ret ?_) | ((first | with_reducible refine XW.region hC (fun K' hK' => ?_) | with_reducible refine XW.text hC hm_ok (by kernel_rfl) (fun K' hK' => ?_)); (try simp only [List.toList_toArray]); repeat' (first | with_reducible (first | refine xrun_cons ?_ | refine xtxt_cons ?_) | (with_reducible (first | show xoper _ _ _ _ _ _ _ | show xdo _ _ _ _ _ _); simp only [zd, zb, zz, RT.at, RT.ty, RT.sub, RT.cut, RT.wr, getS, setT, Ty.dflt, lk, Ty.st, stV, unV, prodTV, Int.reduceToNat, Int.reduceEq, reduceCtorEq, Nat.reduceLT, Nat.reduceEqDiff, Nat.reduceAdd, Nat.reduceMul, Nat.reduceLeDiff, Nat.reduceSub, Nat.reduceBEq, Nat.reduceBNe, Nat.reduceBeqDiff, ↓reduceIte, tab, tL, tI, tB, LI, NI, LLI, tLL, LTT, tTT, ROL, SRt, SV, tSr, spL, num1Sp, innerSp, fromNPat, fromNSp, List.set_cons_zero, List.getD_cons_zero]) | with_reducible refine xgd_intro (fun hg => ?_) (fun hg => ?_) <;> (try simp only [zh, zi, zz, reduceCtorEq] at hg) | ((with_reducible show (_ : Bool) = true); kernel_rfl) | with_reducible (first | refine And.intro ?_ ?_ | refine xrun_nil ?_ | refine xtxt_nil ?_) | (refine hK' _ ?_; clear hK'; clear K') | (with_reducible intro hg; try simp only [zh, zi, zz, reduceCtorEq] at hg))) | ((with_reducible show XW _ _ _ _ (.cond _ _ _) _ _); refine XW.cond rfl (fun h => ?_) (fun h => ?_) <;> (try simp only [zh, zi, zz, reduceCtorEq] at h) <;> (try (exfalso; omega))) | ((with_reducible show XW.thn _ _ _ _); dsimp only [XW.thn]) | ((with_reducible show XW.blk _ _ _ _); simp only [XW.blk, ↓reduceIte, Nat.reduceEqDiff, Nat.zero_ne_one, Nat.one_ne_zero, ne_eq]) | ((with_reducible show retS _ _ _ _ _ _ _); simp only [retS, boxS, outsOf, outOf, List.length_cons, List.length_nil, zb, zz, RT.at, RT.ty, RT.sub, RT.cut, RT.wr, getS, setT, Ty.dflt, lk, Ty.st, stV, unV, prodTV, Int.reduceToNat, Int.reduceEq, reduceCtorEq, Nat.reduceLT, Nat.reduceEqDiff, Nat.reduceAdd, Nat.reduceMul, Nat.reduceLeDiff, Nat.reduceSub, Nat.reduceBEq, Nat.reduceBNe, Nat.reduceBeqDiff, ↓reduceIte, tab, tL, tI, tB, LI, NI, LLI, tLL, LTT, tTT, ROL, SRt, SV, tSr, spL, num1Sp, innerSp, fromNPat, fromNSp, List.set_cons_zero, List.getD_cons_zero])); all_goals (try (first | omega | with_reducible exact Int.le_refl _ | (show (_ : Int) ≤ _; omega)))
  refine XW.loop (ι := Nat × Nat) (fun x => ⟨[(1, .dat NI (x.1 : Int)), (2, .dat NI ((x.2 : Int) - 1)), (0, .ptr 0 [0]), (270, .loc 0 bs), (271, .loc 1 bn)],
      [(0, ⟨72, SRt, 2, [((va, a), (vb, b), (vc, c), rows, left, used, some (19, [bn]))], none⟩), (1, ⟨3, NI, 0, [n], none⟩)], 2, []⟩)
    (fun x => SrOK (m + 1) a c rows left used x.1 x.2 ∧ remB a c x.1 x.2 = remB a c i jj) (fun x => c.length - x.1) (i, jj) [(0, 0), (1, 1)] ⟨hS, rfl⟩ ?_ fun x hx => ?_
  · simp only [Fits, distinct, fitEnv, fitB, fitL, fitRoots, fitRT, idsOK, AV.ids, zb, zz, RT.at, RT.ty, RT.sub, RT.cut, RT.wr, getS, setT, Ty.dflt, lk, Ty.st, stV, unV, prodTV, Int.reduceToNat, Int.reduceEq, reduceCtorEq, Nat.reduceLT, Nat.reduceEqDiff, Nat.reduceAdd, Nat.reduceMul, Nat.reduceLeDiff, Nat.reduceSub, Nat.reduceBEq, Nat.reduceBNe, Nat.reduceBeqDiff, ↓reduceIte, tab, tL, tI, tB, LI, NI, LLI, tLL, LTT, tTT, ROL, SRt, SV, tSr, spL, num1Sp, innerSp, fromNPat, fromNSp, List.set_cons_zero, List.getD_cons_zero]
    all_goals first | rfl | exact ⟨rfl, rfl⟩ | skip
  obtain ⟨i1, j1⟩ := x
  obtain ⟨hS1, hrem⟩ := hx
  dsimp only at hS1 hrem ⊢
  have hi1 := hS1.ic
  have hj1 := hS1.j1
  have hai := hS1.a0 i1
  have hci1 := hS1.c0 (i1 + 1)
  have e1 : ((i1 : Int) + 1).toNat = i1 + 1 := by omega
  by_cases hlt : i1 < c.length
  rotate_left
  · -- the end
    rw [← hrem, remB_end (by omega)] at hk
    have hk : K [tB true] [tSr ⟨(va, a), (vb, b), (vc, c), some (19, [bn])⟩ rows left used, tI (n + 1)] := hk
    repeat' (first | with_reducible (first | refine XW.seq ?_ | refine XW.block ?_ | refine XW.skip ?_ | refine XW.exit ?_ | refine XW.ret ?_) | ((first | with_reducible refine XW.region hC (fun K' hK' => ?_) | with_reducible refine XW.text hC hm_ok (by kernel_rfl) (fun K' hK' => ?_)); (try simp only [List.toList_toArray]); repeat' (first | with_reducible (first | refine xrun_cons ?_ | refine xtxt_cons ?_) | (with_reducible (first | show xoper _ _ _ _ _ _ _ | show xdo _ _ _ _ _ _); simp only [zd, zb, zz, RT.at, RT.ty, RT.sub, RT.cut, RT.wr, getS, setT, Ty.dflt, lk, Ty.st, stV, unV, prodTV, Int.reduceToNat, Int.reduceEq, reduceCtorEq, Nat.reduceLT, Nat.reduceEqDiff, Nat.reduceAdd, Nat.reduceMul, Nat.reduceLeDiff, Nat.reduceSub, Nat.reduceBEq, Nat.reduceBNe, Nat.reduceBeqDiff, ↓reduceIte, tab, tL, tI, tB, LI, NI, LLI, tLL, LTT, tTT, ROL, SRt, SV, tSr, spL, num1Sp, innerSp, fromNPat, fromNSp, List.set_cons_zero, List.getD_cons_zero, Nat.zero_max, Nat.max_zero, mx21, mx12, mx11]) | with_reducible refine xgd_intro (fun hg => ?_) (fun hg => ?_) <;> (try simp only [zh, zi, zz, reduceCtorEq] at hg) | ((with_reducible show (_ : Bool) = true); kernel_rfl) | with_reducible (first | refine And.intro ?_ ?_ | refine xrun_nil ?_ | refine xtxt_nil ?_) | (refine hK' _ ?_; clear hK'; clear K') | (with_reducible intro hg; try simp only [zh, zi, zz, reduceCtorEq] at hg))) | ((with_reducible show XW _ _ _ _ (.cond _ _ _) _ _); refine XW.cond rfl (fun h => ?_) (fun h => ?_) <;> (try simp only [zh, zi, zz, reduceCtorEq] at h) <;> (try (exfalso; omega))) | ((with_reducible show XW.thn _ _ _ _); dsimp only [XW.thn]) | ((with_reducible show XW.blk _ _ _ _); simp only [XW.blk, ↓reduceIte, Nat.reduceEqDiff, Nat.zero_ne_one, Nat.one_ne_zero, ne_eq]) | ((with_reducible show retS _ _ _ _ _ _ _); simp only [retS, boxS, outsOf, outOf, List.length_cons, List.length_nil, zb, zz, RT.at, RT.ty, RT.sub, RT.cut, RT.wr, getS, setT, Ty.dflt, lk, Ty.st, stV, unV, prodTV, Int.reduceToNat, Int.reduceEq, reduceCtorEq, Nat.reduceLT, Nat.reduceEqDiff, Nat.reduceAdd, Nat.reduceMul, Nat.reduceLeDiff, Nat.reduceSub, Nat.reduceBEq, Nat.reduceBNe, Nat.reduceBeqDiff, ↓reduceIte, tab, tL, tI, tB, LI, NI, LLI, tLL, LTT, tTT, ROL, SRt, SV, tSr, spL, num1Sp, innerSp, fromNPat, fromNSp, List.set_cons_zero, List.getD_cons_zero, Nat.zero_max, Nat.max_zero, mx21, mx12, mx11])); all_goals (try (first | omega | with_reducible exact Int.le_refl _ | (show (_ : Int) ≤ _; omega)))
    all_goals first
      | exact hk
      | (exfalso; omega)
      | omega
      | skip
  by_cases hsk : j1 ≤ (a.getD i1 0).toNat
  · -- the next row
    repeat' (first | with_reducible (first | refine XW.seq ?_ | refine XW.block ?_ | refine XW.skip ?_ | refine XW.exit ?_ | refine XW.ret ?_) | ((first | with_reducible refine XW.region hC (fun K' hK' => ?_) | with_reducible refine XW.text hC hm_ok (by kernel_rfl) (fun K' hK' => ?_)); (try simp only [List.toList_toArray]); repeat' (first | with_reducible (first | refine xrun_cons ?_ | refine xtxt_cons ?_) | (with_reducible (first | show xoper _ _ _ _ _ _ _ | show xdo _ _ _ _ _ _); simp only [zd, zb, zz, RT.at, RT.ty, RT.sub, RT.cut, RT.wr, getS, setT, Ty.dflt, lk, Ty.st, stV, unV, prodTV, Int.reduceToNat, Int.reduceEq, reduceCtorEq, Nat.reduceLT, Nat.reduceEqDiff, Nat.reduceAdd, Nat.reduceMul, Nat.reduceLeDiff, Nat.reduceSub, Nat.reduceBEq, Nat.reduceBNe, Nat.reduceBeqDiff, ↓reduceIte, tab, tL, tI, tB, LI, NI, LLI, tLL, LTT, tTT, ROL, SRt, SV, tSr, spL, num1Sp, innerSp, fromNPat, fromNSp, List.set_cons_zero, List.getD_cons_zero, Nat.zero_max, Nat.max_zero, mx21, mx12, mx11, e1]) | with_reducible refine xgd_intro (fun hg => ?_) (fun hg => ?_) <;> (try simp only [zh, zi, zz, reduceCtorEq] at hg) | ((with_reducible show (_ : Bool) = true); kernel_rfl) | with_reducible (first | refine And.intro ?_ ?_ | refine xrun_nil ?_ | refine xtxt_nil ?_) | (refine hK' _ ?_; clear hK'; clear K') | (with_reducible intro hg; try simp only [zh, zi, zz, reduceCtorEq] at hg))) | ((with_reducible show XW _ _ _ _ (.cond _ _ _) _ _); refine XW.cond rfl (fun h => ?_) (fun h => ?_) <;> (try simp only [zh, zi, zz, reduceCtorEq] at h) <;> (try (exfalso; omega))) | ((with_reducible show XW.thn _ _ _ _); dsimp only [XW.thn]) | ((with_reducible show XW.blk _ _ _ _); simp only [XW.blk, ↓reduceIte, Nat.reduceEqDiff, Nat.zero_ne_one, Nat.one_ne_zero, ne_eq]) | ((with_reducible show retS _ _ _ _ _ _ _); simp only [retS, boxS, outsOf, outOf, List.length_cons, List.length_nil, zb, zz, RT.at, RT.ty, RT.sub, RT.cut, RT.wr, getS, setT, Ty.dflt, lk, Ty.st, stV, unV, prodTV, Int.reduceToNat, Int.reduceEq, reduceCtorEq, Nat.reduceLT, Nat.reduceEqDiff, Nat.reduceAdd, Nat.reduceMul, Nat.reduceLeDiff, Nat.reduceSub, Nat.reduceBEq, Nat.reduceBNe, Nat.reduceBeqDiff, ↓reduceIte, tab, tL, tI, tB, LI, NI, LLI, tLL, LTT, tTT, ROL, SRt, SV, tSr, spL, num1Sp, innerSp, fromNPat, fromNSp, List.set_cons_zero, List.getD_cons_zero, Nat.zero_max, Nat.max_zero, mx21, mx12, mx11, e1])); all_goals (try (first | omega | with_reducible exact Int.le_refl _ | (show (_ : Int) ≤ _; omega)))
    all_goals first
      | (exfalso; omega)
      | omega
      | (have hlt2 : i1 + 1 < c.length := by omega
         have hsp := hS1.skip hlt hsk (j2 := (c.getD (i1 + 1) 0).toNat) (fun _ => rfl) (by omega)
         refine ⟨(i1 + 1, (c.getD (i1 + 1) 0).toNat), [(0, 0), (1, 1)], ⟨hsp.1, hsp.2.trans hrem⟩, by dsimp only; omega, ?_⟩
         simp only [Fits, distinct, fitEnv, fitB, fitL, fitRoots, fitRT, idsOK, AV.ids, zb, zz, RT.at, RT.ty, RT.sub, RT.cut, RT.wr, getS, setT, Ty.dflt, lk, Ty.st, stV, unV, prodTV, Int.reduceToNat, Int.reduceEq, reduceCtorEq, Nat.reduceLT, Nat.reduceEqDiff, Nat.reduceAdd, Nat.reduceMul, Nat.reduceLeDiff, Nat.reduceSub, Nat.reduceBEq, Nat.reduceBNe, Nat.reduceBeqDiff, ↓reduceIte, tab, tL, tI, tB, LI, NI, LLI, tLL, LTT, tTT, ROL, SRt, SV, tSr, spL, num1Sp, innerSp, fromNPat, fromNSp, List.set_cons_zero, List.getD_cons_zero]
         refine ⟨?_, ?_⟩
         · show (_ : Int) = _; omega
         · first | (show (_ : Int) = _; omega) | (refine ⟨?_, ?_⟩ <;> first | rfl | (show (_ : Int) = _; omega)))
      | (have hsp := hS1.skip hlt hsk (j2 := j1) (fun h => absurd h (by omega)) hj1
         refine ⟨(i1 + 1, j1), [(0, 0), (1, 1)], ⟨hsp.1, hsp.2.trans hrem⟩, by dsimp only; omega, ?_⟩
         simp only [Fits, distinct, fitEnv, fitB, fitL, fitRoots, fitRT, idsOK, AV.ids, zb, zz, RT.at, RT.ty, RT.sub, RT.cut, RT.wr, getS, setT, Ty.dflt, lk, Ty.st, stV, unV, prodTV, Int.reduceToNat, Int.reduceEq, reduceCtorEq, Nat.reduceLT, Nat.reduceEqDiff, Nat.reduceAdd, Nat.reduceMul, Nat.reduceLeDiff, Nat.reduceSub, Nat.reduceBEq, Nat.reduceBNe, Nat.reduceBeqDiff, ↓reduceIte, tab, tL, tI, tB, LI, NI, LLI, tLL, LTT, tTT, ROL, SRt, SV, tSr, spL, num1Sp, innerSp, fromNPat, fromNSp, List.set_cons_zero, List.getD_cons_zero]
         all_goals first | (show (_ : Int) = _; omega) | rfl)
      | skip
  obtain ⟨jn, rfl⟩ : ∃ k, j1 = k + 1 := ⟨j1 - 1, by omega⟩
  have hbx : (a.getD i1 0).toNat ≤ jn := by omega
  obtain ⟨hb1, hb2, hb3⟩ := hS1.at hlt hbx
  have hjc := hS1.jc hlt
  have hrr := hS1.rr i1
  have hcd : i1 = 0 ∨ c.getD i1 0 ≤ c.getD (i1 - 1) 0 := by
    by_cases h : i1 = 0
    · exact .inl h
    · have := hS1.cd (i1 - 1)
      rw [Nat.sub_add_cancel (by omega)] at this
      exact .inr this
  have hrr1 := hS1.rr (i1 - 1)
  have hll := hS1.ll
  have hl1 := hS1.l1
  rw [← hrem, lrS_box hlt hbx] at hk hn1
  have ej : ((jn + 1 : Nat) : Int) - 1 = (jn : Int) := by omega
  rw [ej]
  obtain ⟨G, hG⟩ : ∃ G, lrX (remB a c i1 jn) rows left used i1 jn = G := ⟨_, rfl⟩
  rw [hG] at hk hn1
  have hrl : rows.length = c.length := hS1.rl
  repeat' (first | with_reducible (first | refine XW.seq ?_ | refine XW.block ?_ | refine XW.skip ?_ | refine XW.exit ?_ | refine XW.ret ?_) | ((first | with_reducible refine XW.region hC (fun K' hK' => ?_) | with_reducible refine XW.text hC hm_ok (by kernel_rfl) (fun K' hK' => ?_)); (try simp only [List.toList_toArray]); repeat' (first | with_reducible (first | refine xrun_cons ?_ | refine xtxt_cons ?_) | (with_reducible (first | show xoper _ _ _ _ _ _ _ | show xdo _ _ _ _ _ _); simp only [zd, zb, zz, RT.at, RT.ty, RT.sub, RT.cut, RT.wr, getS, setT, Ty.dflt, lk, Ty.st, stV, unV, prodTV, Int.reduceToNat, Int.reduceEq, reduceCtorEq, Nat.reduceLT, Nat.reduceEqDiff, Nat.reduceAdd, Nat.reduceMul, Nat.reduceLeDiff, Nat.reduceSub, Nat.reduceBEq, Nat.reduceBNe, Nat.reduceBeqDiff, ↓reduceIte, tab, tL, tI, tB, LI, NI, LLI, tLL, LTT, tTT, ROL, SRt, SV, tSr, spL, num1Sp, innerSp, fromNPat, fromNSp, List.set_cons_zero, List.getD_cons_zero, Nat.zero_max, Nat.max_zero, mx21, mx12, mx11, e1]) | with_reducible refine xgd_intro (fun hg => ?_) (fun hg => ?_) <;> (try simp only [zh, zi, zz, reduceCtorEq] at hg) | ((with_reducible show (_ : Bool) = true); kernel_rfl) | with_reducible (first | refine And.intro ?_ ?_ | refine xrun_nil ?_ | refine xtxt_nil ?_) | (refine hK' _ ?_; clear hK'; clear K') | (with_reducible intro hg; try simp only [zh, zi, zz, reduceCtorEq] at hg))) | ((with_reducible show XW _ _ _ _ (.cond _ _ _) _ _); refine XW.cond rfl (fun h => ?_) (fun h => ?_) <;> (try simp only [zh, zi, zz, reduceCtorEq] at h) <;> (try (exfalso; omega))) | ((with_reducible show XW.thn _ _ _ _); dsimp only [XW.thn]) | ((with_reducible show XW.blk _ _ _ _); simp only [XW.blk, ↓reduceIte, Nat.reduceEqDiff, Nat.zero_ne_one, Nat.one_ne_zero, ne_eq]) | ((with_reducible show retS _ _ _ _ _ _ _); simp only [retS, boxS, outsOf, outOf, List.length_cons, List.length_nil, zb, zz, RT.at, RT.ty, RT.sub, RT.cut, RT.wr, getS, setT, Ty.dflt, lk, Ty.st, stV, unV, prodTV, Int.reduceToNat, Int.reduceEq, reduceCtorEq, Nat.reduceLT, Nat.reduceEqDiff, Nat.reduceAdd, Nat.reduceMul, Nat.reduceLeDiff, Nat.reduceSub, Nat.reduceBEq, Nat.reduceBNe, Nat.reduceBeqDiff, ↓reduceIte, tab, tL, tI, tB, LI, NI, LLI, tLL, LTT, tTT, ROL, SRt, SV, tSr, spL, num1Sp, innerSp, fromNPat, fromNSp, List.set_cons_zero, List.getD_cons_zero, Nat.zero_max, Nat.max_zero, mx21, mx12, mx11, e1])); all_goals (try (first | omega | with_reducible exact Int.le_refl _ | (show (_ : Int) ≤ _; omega)))
  all_goals first
    | (exfalso; omega)
    | omega
    | skip
  refine XW.loop (ι := Nat) (fun x => ⟨[(61, .dat NI (x : Int)), (60, .dat NI (left.length : Int)), (1, .dat NI (i1 : Int)), (2, .dat NI (jn : Int)), (0, .ptr 0 [0]), (270, .loc 0 bs), (271, .loc 1 bn)],
      [(0, ⟨72, SRt, 2, [((va, a), (vb, b), (vc, c), rows, left, used, some (19, [bn]))], none⟩), (1, ⟨3, NI, 0, [n + (((List.range x).flatMap G).length : Int)], none⟩)], 2, []⟩)
    (fun x => x ≤ left.length) (fun x => left.length - x) 0 [(0, 0), (1, 1)] (Nat.zero_le _) ?_ fun x hx => ?_
  · simp only [Fits, distinct, fitEnv, fitB, fitL, fitRoots, fitRT, idsOK, AV.ids, zb, zz, RT.at, RT.ty, RT.sub, RT.cut, RT.wr, getS, setT, Ty.dflt, lk, Ty.st, stV, unV, prodTV, Int.reduceToNat, Int.reduceEq, reduceCtorEq, Nat.reduceLT, Nat.reduceEqDiff, Nat.reduceAdd, Nat.reduceMul, Nat.reduceLeDiff, Nat.reduceSub, Nat.reduceBEq, Nat.reduceBNe, Nat.reduceBeqDiff, ↓reduceIte, tab, tL, tI, tB, LI, NI, LLI, tLL, LTT, tTT, ROL, SRt, SV, tSr, spL, num1Sp, innerSp, fromNPat, fromNSp, List.set_cons_zero, List.getD_cons_zero]
    all_goals first | rfl | exact ⟨rfl, rfl⟩ | simp | skip
  have hst := flat_range_succ G x
  have ex1 : ((x : Int) - 1).toNat = x - 1 := by omega
  have ej1 : ((jn : Int) + 1).toNat = jn + 1 := by omega
  have ei1 : ((i1 : Int) - 1).toNat = i1 - 1 := by omega
  have ejm : ((jn : Int) - 1 + 1).toNat = jn := by omega
  by_cases hxl : x < left.length
  rotate_left
  · obtain rfl : x = left.length := by omega
    repeat' (first | with_reducible (first | refine XW.seq ?_ | refine XW.block ?_ | refine XW.skip ?_ | refine XW.exit ?_ | refine XW.ret ?_) | ((first | with_reducible refine XW.region hC (fun K' hK' => ?_) | with_reducible refine XW.text hC hm_ok (by kernel_rfl) (fun K' hK' => ?_)); (try simp only [List.toList_toArray]); repeat' (first | with_reducible (first | refine xrun_cons ?_ | refine xtxt_cons ?_) | (with_reducible (first | show xoper _ _ _ _ _ _ _ | show xdo _ _ _ _ _ _); simp only [zd, zb, zz, RT.at, RT.ty, RT.sub, RT.cut, RT.wr, getS, setT, Ty.dflt, lk, Ty.st, stV, unV, prodTV, Int.reduceToNat, Int.reduceEq, reduceCtorEq, Nat.reduceLT, Nat.reduceEqDiff, Nat.reduceAdd, Nat.reduceMul, Nat.reduceLeDiff, Nat.reduceSub, Nat.reduceBEq, Nat.reduceBNe, Nat.reduceBeqDiff, ↓reduceIte, tab, tL, tI, tB, LI, NI, LLI, tLL, LTT, tTT, ROL, SRt, SV, tSr, spL, num1Sp, innerSp, fromNPat, fromNSp, List.set_cons_zero, List.getD_cons_zero, Nat.zero_max, Nat.max_zero, mx21, mx12, mx11]) | with_reducible refine xgd_intro (fun hg => ?_) (fun hg => ?_) <;> (try simp only [zh, zi, zz, reduceCtorEq] at hg) | ((with_reducible show (_ : Bool) = true); kernel_rfl) | with_reducible (first | refine And.intro ?_ ?_ | refine xrun_nil ?_ | refine xtxt_nil ?_) | (refine hK' _ ?_; clear hK'; clear K') | (with_reducible intro hg; try simp only [zh, zi, zz, reduceCtorEq] at hg))) | ((with_reducible show XW _ _ _ _ (.cond _ _ _) _ _); refine XW.cond rfl (fun h => ?_) (fun h => ?_) <;> (try simp only [zh, zi, zz, reduceCtorEq] at h) <;> (try (exfalso; omega))) | ((with_reducible show XW.thn _ _ _ _); dsimp only [XW.thn]) | ((with_reducible show XW.blk _ _ _ _); simp only [XW.blk, ↓reduceIte, Nat.reduceEqDiff, Nat.zero_ne_one, Nat.one_ne_zero, ne_eq]) | ((with_reducible show retS _ _ _ _ _ _ _); simp only [retS, boxS, outsOf, outOf, List.length_cons, List.length_nil, zb, zz, RT.at, RT.ty, RT.sub, RT.cut, RT.wr, getS, setT, Ty.dflt, lk, Ty.st, stV, unV, prodTV, Int.reduceToNat, Int.reduceEq, reduceCtorEq, Nat.reduceLT, Nat.reduceEqDiff, Nat.reduceAdd, Nat.reduceMul, Nat.reduceLeDiff, Nat.reduceSub, Nat.reduceBEq, Nat.reduceBNe, Nat.reduceBeqDiff, ↓reduceIte, tab, tL, tI, tB, LI, NI, LLI, tLL, LTT, tTT, ROL, SRt, SV, tSr, spL, num1Sp, innerSp, fromNPat, fromNSp, List.set_cons_zero, List.getD_cons_zero, Nat.zero_max, Nat.max_zero, mx21, mx12, mx11])); all_goals (try (first | omega | with_reducible exact Int.le_refl _ | (show (_ : Int) ≤ _; omega)))
    all_goals first
      | exact hk
      | (exfalso; omega)
      | omega
      | skip
  have hle := flat_range_le G (show x + 1 ≤ left.length from hxl)
  rw [hst, List.length_append] at hle
  have hGx : lrX (remB a c i1 jn) rows left used i1 jn x = G x := by rw [← hG]
  have htry := fun Q' hQ' => tryN_ok (Q := Q') m (w0 := w0) (sd := sd) hC (va := va) (vb := vb) (vc := vc) (a := a) (b := b) (n := n + (((List.range x).flatMap G).length : Int)) (bs := bs) (bn := bn) hS1 hlt hbx hxl (by omega) (by rw [hGx]; omega) hQ'
  rw [hGx] at htry
  dsimp only [ctxN, triS, sub_nil, sub_s0, sub_s1, sub_c0, sub_c1, sub_b, sub_l0, sub_l1, sub_r, sub_q, sub_bn, Try.f48, Option.getD] at htry
  clear hn1 hle hS hcl hrem hS1 hk
  repeat' (first | ((with_reducible show XW _ _ _ _ (.seq (.block 3 _) _) _ _); refine XW.mid (triS va vb vc a b c rows left used (some (19, [bn])) (n + (((List.range x).flatMap G).length : Int) + ((G x).length : Int)) bs bn i1 jn x) (XW.fits (ren := [(0, 0), (1, 1)]) (st := triS va vb vc a b c rows left used (some (19, [bn])) (n + (((List.range x).flatMap G).length : Int)) bs bn i1 jn x) (by dsimp only [triS]; simp only [Fits, distinct, fitEnv, fitB, fitL, fitRoots, fitRT, idsOK, AV.ids, zb, zz, RT.at, RT.ty, RT.sub, RT.cut, RT.wr, getS, setT, Ty.dflt, lk, Ty.st, stV, unV, prodTV, Int.reduceToNat, Int.reduceEq, reduceCtorEq, Nat.reduceLT, Nat.reduceEqDiff, Nat.reduceAdd, Nat.reduceMul, Nat.reduceLeDiff, Nat.reduceSub, Nat.reduceBEq, Nat.reduceBNe, Nat.reduceBeqDiff, ↓reduceIte, tab, tL, tI, tB, LI, NI, LLI, tLL, LTT, tTT, ROL, SRt, SV, tSr, spL, num1Sp, innerSp, fromNPat, fromNSp, List.set_cons_zero, List.getD_cons_zero]) (htry _ fun s' h => h)) ?_; dsimp only [triS]) | with_reducible (first | refine XW.seq ?_ | refine XW.block ?_ | refine XW.skip ?_ | refine XW.exit ?_ | refine XW.ret ?_) | ((first | with_reducible refine XW.region hC (fun K' hK' => ?_) | with_reducible refine XW.text hC hm_ok (by kernel_rfl) (fun K' hK' => ?_)); (try simp only [List.toList_toArray]); repeat' (first | with_reducible (first | refine xrun_cons ?_ | refine xtxt_cons ?_) | (with_reducible (first | show xoper _ _ _ _ _ _ _ | show xdo _ _ _ _ _ _); simp only [zd, zb, zz, RT.at, RT.ty, RT.sub, RT.cut, RT.wr, getS, setT, Ty.dflt, lk, Ty.st, stV, unV, prodTV, Int.reduceToNat, Int.reduceEq, reduceCtorEq, Nat.reduceLT, Nat.reduceEqDiff, Nat.reduceAdd, Nat.reduceMul, Nat.reduceLeDiff, Nat.reduceSub, Nat.reduceBEq, Nat.reduceBNe, Nat.reduceBeqDiff, ↓reduceIte, tab, tL, tI, tB, LI, NI, LLI, tLL, LTT, tTT, ROL, SRt, SV, tSr, spL, num1Sp, innerSp, fromNPat, fromNSp, List.set_cons_zero, List.getD_cons_zero, Nat.zero_max, Nat.max_zero, mx21, mx12, mx11, ex1, ej1, ei1, ejm]) | with_reducible refine xgd_intro (fun hg => ?_) (fun hg => ?_) <;> (try simp only [zh, zi, zz, reduceCtorEq] at hg) | ((with_reducible show (_ : Bool) = true); kernel_rfl) | with_reducible (first | refine And.intro ?_ ?_ | refine xrun_nil ?_ | refine xtxt_nil ?_) | (refine hK' _ ?_; clear hK'; clear K') | (with_reducible intro hg; try simp only [zh, zi, zz, reduceCtorEq] at hg))) | ((with_reducible show XW _ _ _ _ (.cond _ _ _) _ _); refine XW.cond rfl (fun h => ?_) (fun h => ?_) <;> (try simp only [zh, zi, zz, reduceCtorEq] at h) <;> (try (exfalso; omega))) | ((with_reducible show XW.thn _ _ _ _); dsimp only [XW.thn]) | ((with_reducible show XW.blk _ _ _ _); simp only [XW.blk, ↓reduceIte, Nat.reduceEqDiff, Nat.zero_ne_one, Nat.one_ne_zero, ne_eq]) | ((with_reducible show retS _ _ _ _ _ _ _); simp only [retS, boxS, outsOf, outOf, List.length_cons, List.length_nil, zb, zz, RT.at, RT.ty, RT.sub, RT.cut, RT.wr, getS, setT, Ty.dflt, lk, Ty.st, stV, unV, prodTV, Int.reduceToNat, Int.reduceEq, reduceCtorEq, Nat.reduceLT, Nat.reduceEqDiff, Nat.reduceAdd, Nat.reduceMul, Nat.reduceLeDiff, Nat.reduceSub, Nat.reduceBEq, Nat.reduceBNe, Nat.reduceBeqDiff, ↓reduceIte, tab, tL, tI, tB, LI, NI, LLI, tLL, LTT, tTT, ROL, SRt, SV, tSr, spL, num1Sp, innerSp, fromNPat, fromNSp, List.set_cons_zero, List.getD_cons_zero, Nat.zero_max, Nat.max_zero, mx21, mx12, mx11, ex1, ej1, ei1, ejm])); all_goals (try (first | omega | with_reducible exact Int.le_refl _ | (show (_ : Int) ≤ _; omega)))
  all_goals first
    | (exfalso; omega)
    | omega
    | (refine ⟨x + 1, [(0, 0), (1, 1)], by omega, by omega, ?_⟩
       rw [hst, List.length_append]
       simp only [Fits, distinct, fitEnv, fitB, fitL, fitRoots, fitRT, idsOK, AV.ids, zb, zz, RT.at, RT.ty, RT.sub, RT.cut, RT.wr, getS, setT, Ty.dflt, lk, Ty.st, stV, unV, prodTV, Int.reduceToNat, Int.reduceEq, reduceCtorEq, Nat.reduceLT, Nat.reduceEqDiff, Nat.reduceAdd, Nat.reduceMul, Nat.reduceLeDiff, Nat.reduceSub, Nat.reduceBEq, Nat.reduceBNe, Nat.reduceBeqDiff, ↓reduceIte, tab, tL, tI, tB, LI, NI, LLI, tLL, LTT, tTT, ROL, SRt, SV, tSr, spL, num1Sp, innerSp, fromNPat, fromNSp, List.set_cons_zero, List.getD_cons_zero]
       all_goals first | rfl | (show (_ : Int) = _; omega) | (refine ⟨?_, ?_⟩ <;> (show (_ : Int) = _; omega)))
    | skip

end Fer
