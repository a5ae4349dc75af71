import Derived.Test.YtjocjlohdapmaaaRows
import Derived.Test.YtjocjlohdapmaaaRuD
import Derived.Test.YtjocjlohdapmaaaFerEa
set_option linter.unusedSimpArgs false
set_option linter.unusedVariables false
set_option maxHeartbeats 16000000
namespace Fer
open Go Go.Proofs

@[reducible] def walkNPat : List PA := [.val LI, .val LI, .val LI, .val .func, .gho 3 NI]
noncomputable def walkNSp : SpecS := ⟨walkNPat, fun bl vals boxes K => match bl, vals, boxes with
  | [bn], [⟨.list _ (.int _), a⟩, ⟨.list _ (.int _), b⟩, ⟨.list _ (.int _), c⟩, ⟨.func, ea⟩], [⟨.int _, n⟩] =>
    (((partE a = 0 ∧ a.sum ≤ 16) ∧ (partE b = 0 ∧ b.sum ≤ 16) ∧ (partE c = 0 ∧ c.sum ≤ 16)) ∧ ea = some (19, [bn]) ∧ n = 0) ∧
      K [] [tI ((fillP a b c).length : Int)]
  | _, _, _ => False⟩

theorem castV_neq {t u : Ty} {v : t.den} (h : t ≠ u) : castV t u v = none := dif_neg h

set_option maxRecDepth 10000 in
theorem walkN_ok (ih : FnSt Try.prog 48 (fromNSp 1000)) : FnSt Try.prog 18 walkNSp := by
  have hC : ∀ {w0 : World} {S0 : Nat → Prop}, CtxOK Try.prog ⟨71, tab, fun f => lk [(46, sizeZSp), (47, withinSp), (21, cloneSp)] f, fun f => lk [] f, fun f => lk [] f, fun f => lk [] f, fun f => lk [(48, fromNSp 1000)] f, fun f => lk [] f⟩ w0 S0 := ctx_ok ⟨psize_ok, win_ok, clone_ok, trivial⟩ trivial trivial trivial ⟨ih, trivial⟩
  refine FnSt_of (C := ⟨71, tab, fun f => lk [(46, sizeZSp), (47, withinSp), (21, cloneSp)] f, fun f => lk [] f, fun f => lk [] f, fun f => lk [] f, fun f => lk [(48, fromNSp 1000)] f, fun f => lk [] f⟩) 18 Try.f18 _ [] walkNSp Try.func18 rfl (by decide) rfl rfl (Nat.le_of_ble_eq_true rfl) fun bl vals boxes K hA hK w0 sd => ?_
  obtain ⟨w1, T1, vs, F1, hA0⟩ := hA
  obtain ⟨(a : List Int), v0, _, _, e0, hA1⟩ := sa_val hA0
  clear hA0
  subst e0
  obtain ⟨(b : List Int), v0, _, _, e0, hA2⟩ := sa_val hA1
  clear hA1
  subst e0
  obtain ⟨(c : List Int), v0, _, _, e0, hA3⟩ := sa_val hA2
  clear hA2
  subst e0
  obtain ⟨(ea : Option (Nat × List Nat)), v0, _, _, e0, hA4⟩ := sa_val hA3
  clear hA3
  subst e0
  obtain ⟨bn, (n : Int), l1, x1, _, _, e1, g1, hA5⟩ := sa_gho hA4
  clear hA4
  subst e1 g1
  obtain ⟨rfl, rfl, rfl⟩ := sa_nil hA5
  clear hA5
  obtain ⟨⟨⟨⟨pa, sa⟩, ⟨pb, sb⟩, pc, sc⟩, hea, hn0⟩, hk⟩ : (((partE a = 0 ∧ a.sum ≤ 16) ∧ (partE b = 0 ∧ b.sum ≤ 16) ∧ (partE c = 0 ∧ c.sum ≤ 16)) ∧ ea = some (19, [bn]) ∧ n = 0) ∧
      K [] [tI ((fillP a b c).length : Int)] := hK
  subst hea hn0
  obtain ⟨a1, a2⟩ := part_small pa
  obtain ⟨b1, b2⟩ := part_small pb
  obtain ⟨c1, c2⟩ := part_small pc
  have ra := (partE_zero pa).1
  have rb := (partE_zero pb).1
  have rc := (partE_zero pc).1
  have sa0 : 0 ≤ a.sum := by have := part_take_rng pa a.length; rw [List.take_length] at this; exact this.1
  have sb0 : 0 ≤ b.sum := by have := part_take_rng pb b.length; rw [List.take_length] at this; exact this.1
  have hfl := fill_law ra rb rc sc
  unfold fillP at hk hfl
  by_cases h1 : a.sum + b.sum = c.sum
  rotate_left
  · rw [if_neg (fun h => h1 h.1)] at hk
    have hk : K [] [tI 0] := hk
    repeat' (first | with_reducible (first | refine XW.seq ?_ | refine XW.block ?_ | refine XW.skip ?_ | refine XW.exit ?_ | refine XW.ret ?_) | ((first | with_reducible refine XW.region hC (fun K' hK' => ?_) | with_reducible refine XW.text hC hm_ok (by kernel_rfl) (fun K' hK' => ?_)); (try simp only [List.toList_toArray]); repeat' (first | with_reducible (first | refine xrun_cons ?_ | refine xtxt_cons ?_) | (with_reducible (first | show xoper _ _ _ _ _ _ _ | show xdo _ _ _ _ _ _); simp only [zd, zb, zz, RT.at, RT.ty, RT.sub, RT.cut, RT.wr, getS, setT, Ty.dflt, lk, Ty.st, stV, unV, prodTV, Int.reduceToNat, Int.reduceEq, reduceCtorEq, Nat.reduceLT, Nat.reduceEqDiff, Nat.reduceAdd, Nat.reduceMul, Nat.reduceLeDiff, Nat.reduceSub, Nat.reduceBEq, Nat.reduceBNe, Nat.reduceBeqDiff, ↓reduceIte, tab, tL, tI, tB, LI, NI, LLI, tLL, LTT, tTT, ROL, SRt, SV, tSr, spL, spLL, sizeZSp, withinSp, cloneSp, fromNPat, fromNSp, walkNPat, walkNSp, List.set_cons_zero, List.getD_cons_zero]) | with_reducible refine xgd_intro (fun hg => ?_) (fun hg => ?_) <;> (try simp only [zh, zi, zz, reduceCtorEq] at hg) | ((with_reducible show (_ : Bool) = true); kernel_rfl) | with_reducible (first | refine And.intro ?_ ?_ | refine xrun_nil ?_ | refine xtxt_nil ?_) | (refine hK' _ ?_; clear hK'; clear K') | (with_reducible intro hg; try simp only [zh, zi, zz, reduceCtorEq] at hg))) | ((with_reducible show XW _ _ _ _ (.cond _ _ _) _ _); refine XW.cond rfl (fun h => ?_) (fun h => ?_) <;> (try simp only [zh, zi, zz, reduceCtorEq] at h) <;> (try (exfalso; omega))) | ((with_reducible show XW.thn _ _ _ _); dsimp only [XW.thn]) | ((with_reducible show XW.blk _ _ _ _); simp only [XW.blk, ↓reduceIte, Nat.reduceEqDiff, Nat.zero_ne_one, Nat.one_ne_zero, ne_eq]) | ((with_reducible show retS _ _ _ _ _ _ _); simp only [retS, boxS, outsOf, outOf, List.length_cons, List.length_nil, zb, zz, RT.at, RT.ty, RT.sub, RT.cut, RT.wr, getS, setT, Ty.dflt, lk, Ty.st, stV, unV, prodTV, Int.reduceToNat, Int.reduceEq, reduceCtorEq, Nat.reduceLT, Nat.reduceEqDiff, Nat.reduceAdd, Nat.reduceMul, Nat.reduceLeDiff, Nat.reduceSub, Nat.reduceBEq, Nat.reduceBNe, Nat.reduceBeqDiff, ↓reduceIte, tab, tL, tI, tB, LI, NI, LLI, tLL, LTT, tTT, ROL, SRt, SV, tSr, spL, spLL, sizeZSp, withinSp, cloneSp, fromNPat, fromNSp, walkNPat, walkNSp, List.set_cons_zero, List.getD_cons_zero])); all_goals (try (first | omega | with_reducible exact Int.le_refl _ | (show (_ : Int) ≤ _; omega)))
    all_goals first
      | exact hk
      | exact a2
      | exact b2
      | exact c2
      | exact (a2 _ (by assumption)).1
      | exact (a2 _ (by assumption)).2
      | exact (b2 _ (by assumption)).1
      | exact (b2 _ (by assumption)).2
      | exact (c2 _ (by assumption)).1
      | exact (c2 _ (by assumption)).2
      | exact absurd (by assumption) h1
      | (exfalso; omega)
      | omega
      | skip
  by_cases h2 : within a c
  rotate_left
  · rw [if_neg (fun h => h2 h.2.1)] at hk
    have hk : K [] [tI 0] := hk
    have h2f := withinB_f h2
    repeat' (first | with_reducible (first | refine XW.seq ?_ | refine XW.block ?_ | refine XW.skip ?_ | refine XW.exit ?_ | refine XW.ret ?_) | ((first | with_reducible refine XW.region hC (fun K' hK' => ?_) | with_reducible refine XW.text hC hm_ok (by kernel_rfl) (fun K' hK' => ?_)); (try simp only [List.toList_toArray]); repeat' (first | with_reducible (first | refine xrun_cons ?_ | refine xtxt_cons ?_) | (with_reducible (first | show xoper _ _ _ _ _ _ _ | show xdo _ _ _ _ _ _); simp only [zd, zb, zz, RT.at, RT.ty, RT.sub, RT.cut, RT.wr, getS, setT, Ty.dflt, lk, Ty.st, stV, unV, prodTV, Int.reduceToNat, Int.reduceEq, reduceCtorEq, Nat.reduceLT, Nat.reduceEqDiff, Nat.reduceAdd, Nat.reduceMul, Nat.reduceLeDiff, Nat.reduceSub, Nat.reduceBEq, Nat.reduceBNe, Nat.reduceBeqDiff, ↓reduceIte, tab, tL, tI, tB, LI, NI, LLI, tLL, LTT, tTT, ROL, SRt, SV, tSr, spL, spLL, sizeZSp, withinSp, cloneSp, fromNPat, fromNSp, walkNPat, walkNSp, List.set_cons_zero, List.getD_cons_zero, h2f]) | with_reducible refine xgd_intro (fun hg => ?_) (fun hg => ?_) <;> (try simp only [zh, zi, zz, reduceCtorEq] at hg) | ((with_reducible show (_ : Bool) = true); kernel_rfl) | with_reducible (first | refine And.intro ?_ ?_ | refine xrun_nil ?_ | refine xtxt_nil ?_) | (refine hK' _ ?_; clear hK'; clear K') | (with_reducible intro hg; try simp only [zh, zi, zz, reduceCtorEq] at hg))) | ((with_reducible show XW _ _ _ _ (.cond _ _ _) _ _); refine XW.cond rfl (fun h => ?_) (fun h => ?_) <;> (try simp only [zh, zi, zz, reduceCtorEq] at h) <;> (try (exfalso; omega))) | ((with_reducible show XW.thn _ _ _ _); dsimp only [XW.thn]) | ((with_reducible show XW.blk _ _ _ _); simp only [XW.blk, ↓reduceIte, Nat.reduceEqDiff, Nat.zero_ne_one, Nat.one_ne_zero, ne_eq]) | ((with_reducible show retS _ _ _ _ _ _ _); simp only [retS, boxS, outsOf, outOf, List.length_cons, List.length_nil, zb, zz, RT.at, RT.ty, RT.sub, RT.cut, RT.wr, getS, setT, Ty.dflt, lk, Ty.st, stV, unV, prodTV, Int.reduceToNat, Int.reduceEq, reduceCtorEq, Nat.reduceLT, Nat.reduceEqDiff, Nat.reduceAdd, Nat.reduceMul, Nat.reduceLeDiff, Nat.reduceSub, Nat.reduceBEq, Nat.reduceBNe, Nat.reduceBeqDiff, ↓reduceIte, tab, tL, tI, tB, LI, NI, LLI, tLL, LTT, tTT, ROL, SRt, SV, tSr, spL, spLL, sizeZSp, withinSp, cloneSp, fromNPat, fromNSp, walkNPat, walkNSp, List.set_cons_zero, List.getD_cons_zero, h2f])); all_goals (try (first | omega | with_reducible exact Int.le_refl _ | (show (_ : Int) ≤ _; omega)))
    all_goals first
      | exact hk
      | exact a2
      | exact b2
      | exact c2
      | exact (a2 _ (by assumption)).1
      | exact (a2 _ (by assumption)).2
      | exact (b2 _ (by assumption)).1
      | exact (b2 _ (by assumption)).2
      | exact (c2 _ (by assumption)).1
      | exact (c2 _ (by assumption)).2
      | (exfalso; omega)
      | omega
      | skip
  have h2t := withinB_t h2
  by_cases h3 : within b c
  rotate_left
  · rw [if_neg (fun h => h3 h.2.2)] at hk
    have hk : K [] [tI 0] := hk
    have h3f := withinB_f h3
    repeat' (first | with_reducible (first | refine XW.seq ?_ | refine XW.block ?_ | refine XW.skip ?_ | refine XW.exit ?_ | refine XW.ret ?_) | ((first | with_reducible refine XW.region hC (fun K' hK' => ?_) | with_reducible refine XW.text hC hm_ok (by kernel_rfl) (fun K' hK' => ?_)); (try simp only [List.toList_toArray]); repeat' (first | with_reducible (first | refine xrun_cons ?_ | refine xtxt_cons ?_) | (with_reducible (first | show xoper _ _ _ _ _ _ _ | show xdo _ _ _ _ _ _); simp only [zd, zb, zz, RT.at, RT.ty, RT.sub, RT.cut, RT.wr, getS, setT, Ty.dflt, lk, Ty.st, stV, unV, prodTV, Int.reduceToNat, Int.reduceEq, reduceCtorEq, Nat.reduceLT, Nat.reduceEqDiff, Nat.reduceAdd, Nat.reduceMul, Nat.reduceLeDiff, Nat.reduceSub, Nat.reduceBEq, Nat.reduceBNe, Nat.reduceBeqDiff, ↓reduceIte, tab, tL, tI, tB, LI, NI, LLI, tLL, LTT, tTT, ROL, SRt, SV, tSr, spL, spLL, sizeZSp, withinSp, cloneSp, fromNPat, fromNSp, walkNPat, walkNSp, List.set_cons_zero, List.getD_cons_zero, h2t, h3f]) | with_reducible refine xgd_intro (fun hg => ?_) (fun hg => ?_) <;> (try simp only [zh, zi, zz, reduceCtorEq] at hg) | ((with_reducible show (_ : Bool) = true); kernel_rfl) | with_reducible (first | refine And.intro ?_ ?_ | refine xrun_nil ?_ | refine xtxt_nil ?_) | (refine hK' _ ?_; clear hK'; clear K') | (with_reducible intro hg; try simp only [zh, zi, zz, reduceCtorEq] at hg))) | ((with_reducible show XW _ _ _ _ (.cond _ _ _) _ _); refine XW.cond rfl (fun h => ?_) (fun h => ?_) <;> (try simp only [zh, zi, zz, reduceCtorEq] at h) <;> (try (exfalso; omega))) | ((with_reducible show XW.thn _ _ _ _); dsimp only [XW.thn]) | ((with_reducible show XW.blk _ _ _ _); simp only [XW.blk, ↓reduceIte, Nat.reduceEqDiff, Nat.zero_ne_one, Nat.one_ne_zero, ne_eq]) | ((with_reducible show retS _ _ _ _ _ _ _); simp only [retS, boxS, outsOf, outOf, List.length_cons, List.length_nil, zb, zz, RT.at, RT.ty, RT.sub, RT.cut, RT.wr, getS, setT, Ty.dflt, lk, Ty.st, stV, unV, prodTV, Int.reduceToNat, Int.reduceEq, reduceCtorEq, Nat.reduceLT, Nat.reduceEqDiff, Nat.reduceAdd, Nat.reduceMul, Nat.reduceLeDiff, Nat.reduceSub, Nat.reduceBEq, Nat.reduceBNe, Nat.reduceBeqDiff, ↓reduceIte, tab, tL, tI, tB, LI, NI, LLI, tLL, LTT, tTT, ROL, SRt, SV, tSr, spL, spLL, sizeZSp, withinSp, cloneSp, fromNPat, fromNSp, walkNPat, walkNSp, List.set_cons_zero, List.getD_cons_zero, h2t, h3f])); all_goals (try (first | omega | with_reducible exact Int.le_refl _ | (show (_ : Int) ≤ _; omega)))
    all_goals first
      | exact hk
      | exact a2
      | exact b2
      | exact c2
      | exact (a2 _ (by assumption)).1
      | exact (a2 _ (by assumption)).2
      | exact (b2 _ (by assumption)).1
      | exact (b2 _ (by assumption)).2
      | exact (c2 _ (by assumption)).1
      | exact (c2 _ (by assumption)).2
      | (exfalso; omega)
      | omega
      | skip
  have h3t := withinB_t h3
  rw [if_pos ⟨h1, h2, h3⟩] at hk hfl
  have hfl := hfl.1
  obtain ⟨hsr, hrem⟩ := sr_start ra rb rc h1 h2 sc
  have hc0 := part_getD_le rc sc
  repeat' (first | with_reducible (first | refine XW.seq ?_ | refine XW.block ?_ | refine XW.skip ?_ | refine XW.exit ?_ | refine XW.ret ?_) | ((first | ((with_reducible show XW _ _ _ _ (.region _ _ true) _ _); refine XW.tree hC hm_ok (.one 0 (.one 1 (.one 2 (.one 3 (.one 5 (.one 6 (.one 8 (.two 4 (.one 7 (.one 9 (.one 10 (.one 11 .nil)))) 7 (.one 4 (.one 9 (.one 10 (.one 11 .nil)))))))))))) (by decide +kernel) (fun K' hK' => ?_)) | with_reducible refine XW.region hC (fun K' hK' => ?_) | with_reducible refine XW.text hC hm_ok (by kernel_rfl) (fun K' hK' => ?_)); (try simp only [List.toList_toArray]); repeat' (first | with_reducible refine xrun_cons ?_ | with_reducible refine xtree_two ?_ ?_ | with_reducible refine xtree_nil ?_ | ((with_reducible show xtree _ _ _ (.one _ _) _); refine xtree_one (by simp only [List.getElem?_toArray, List.getElem?_cons_succ, List.getElem?_cons_zero]; rfl) ?_) | with_reducible refine xtxt_cons ?_ | ((with_reducible show xord _ _ _ (_ :: _) _); refine xord_cons (by simp only [List.getElem?_toArray, List.getElem?_cons_succ, List.getElem?_cons_zero]; rfl) ?_) | (with_reducible (first | show xoper _ _ _ _ _ _ _ | show xdo _ _ _ _ _ _); simp only [zd, zb, zz, RT.at, RT.ty, RT.sub, RT.cut, RT.wr, getS, setT, Ty.dflt, lk, Ty.st, stV, unV, prodTV, Int.reduceToNat, Int.reduceEq, reduceCtorEq, Nat.reduceLT, Nat.reduceEqDiff, Nat.reduceAdd, Nat.reduceMul, Nat.reduceLeDiff, Nat.reduceSub, Nat.reduceBEq, Nat.reduceBNe, Nat.reduceBeqDiff, ↓reduceIte, tab, tL, tI, tB, LI, NI, LLI, tLL, LTT, tTT, ROL, SRt, SV, tSr, spL, spLL, sizeZSp, withinSp, cloneSp, fromNPat, fromNSp, walkNPat, walkNSp, List.set_cons_zero, List.getD_cons_zero, Nat.zero_max, Nat.max_zero, mx21, mx12, mx11, castV_neq, h2t, h3t]) | with_reducible refine xgd_intro (fun hg => ?_) (fun hg => ?_) <;> (try simp only [zh, zi, zz, reduceCtorEq] at hg) | ((with_reducible show (_ : Bool) = true); kernel_rfl) | with_reducible (first | refine And.intro ?_ ?_ | refine xrun_nil ?_ | refine xtxt_nil ?_) | with_reducible refine xord_nil ?_ | (refine hK' _ ?_; clear hK'; clear K') | (with_reducible intro hg; try simp only [zh, zi, zz, reduceCtorEq] at hg))) | ((with_reducible show XW _ _ _ _ (.cond _ _ _) _ _); refine XW.cond rfl (fun h => ?_) (fun h => ?_) <;> (try simp only [zh, zi, zz, reduceCtorEq] at h) <;> (try (exfalso; omega))) | ((with_reducible show XW.thn _ _ _ _); dsimp only [XW.thn]) | ((with_reducible show XW.blk _ _ _ _); simp only [XW.blk, ↓reduceIte, Nat.reduceEqDiff, Nat.zero_ne_one, Nat.one_ne_zero, ne_eq]) | ((with_reducible show retS _ _ _ _ _ _ _); simp only [retS, boxS, outsOf, outOf, List.length_cons, List.length_nil, zb, zz, RT.at, RT.ty, RT.sub, RT.cut, RT.wr, getS, setT, Ty.dflt, lk, Ty.st, stV, unV, prodTV, Int.reduceToNat, Int.reduceEq, reduceCtorEq, Nat.reduceLT, Nat.reduceEqDiff, Nat.reduceAdd, Nat.reduceMul, Nat.reduceLeDiff, Nat.reduceSub, Nat.reduceBEq, Nat.reduceBNe, Nat.reduceBeqDiff, ↓reduceIte, tab, tL, tI, tB, LI, NI, LLI, tLL, LTT, tTT, ROL, SRt, SV, tSr, spL, spLL, sizeZSp, withinSp, cloneSp, fromNPat, fromNSp, walkNPat, walkNSp, List.set_cons_zero, List.getD_cons_zero, Nat.zero_max, Nat.max_zero, mx21, mx12, mx11, castV_neq, h2t, h3t])); all_goals (try (first | omega | with_reducible exact Int.le_refl _ | (show (_ : Int) ≤ _; omega)))
  all_goals first
    | exact a2
    | exact b2
    | exact c2
    | exact (a2 _ (by assumption)).1
    | exact (a2 _ (by assumption)).2
    | exact (b2 _ (by assumption)).1
    | exact (b2 _ (by assumption)).2
    | exact (c2 _ (by assumption)).1
    | exact (c2 _ (by assumption)).2
    | (exfalso; omega)
    | omega
    | skip
  all_goals
    (rename_i va vb vc
     refine XW.loop (ι := Nat) (fun i => ⟨[(45, .dat NI (i : Int)), (44, .dat NI (c.length : Int)), (43, .dat LI c), (8, .ptr 1 [0]), (2, .dat LI c), (135, .loc 0 bn)],
      [(1, ⟨72, SRt, 2, [((va, a), (vb, b), (vc, c), startT (c.take i), b, List.replicate b.length 0, some (19, [bn]))], none⟩), (0, ⟨3, NI, 0, [0], none⟩)], 2, []⟩)
      (fun i => i ≤ c.length) (fun i => c.length - i) 0 [(0, 0), (1, 3)] (Nat.zero_le _) ?_ fun i hi => ?_
     · simp only [Fits, distinct, fitEnv, fitB, fitL, fitRoots, fitRT, idsOK, AV.ids, zb, zz, RT.at, RT.ty, RT.sub, RT.cut, RT.wr, getS, setT, Ty.dflt, lk, Ty.st, stV, unV, prodTV, Int.reduceToNat, Int.reduceEq, reduceCtorEq, Nat.reduceLT, Nat.reduceEqDiff, Nat.reduceAdd, Nat.reduceMul, Nat.reduceLeDiff, Nat.reduceSub, Nat.reduceBEq, Nat.reduceBNe, Nat.reduceBeqDiff, ↓reduceIte, tab, tL, tI, tB, LI, NI, LLI, tLL, LTT, tTT, ROL, SRt, SV, tSr, spL, spLL, sizeZSp, withinSp, cloneSp, fromNPat, fromNSp, walkNPat, walkNSp, List.set_cons_zero, List.getD_cons_zero]
       all_goals first | rfl | exact ⟨rfl, rfl⟩ | skip
     have hsl : (startT (c.take i)).length = i := by unfold startT; rw [List.length_map, List.length_take]; omega
     have hci := hc0 i
     by_cases hil : i < c.length
     · have hst : startT (c.take (i + 1)) = startT (c.take i) ++ [List.replicate (c.getD i 0).toNat 0] := by
         rw [take_succ_getD 0 hil]
         unfold startT
         rw [List.map_append]
         rfl
       repeat' (first | with_reducible (first | refine XW.seq ?_ | refine XW.block ?_ | refine XW.skip ?_ | refine XW.exit ?_ | refine XW.ret ?_) | ((first | with_reducible refine XW.region hC (fun K' hK' => ?_) | with_reducible refine XW.text hC hm_ok (by kernel_rfl) (fun K' hK' => ?_)); (try simp only [List.toList_toArray]); repeat' (first | with_reducible (first | refine xrun_cons ?_ | refine xtxt_cons ?_) | (with_reducible (first | show xoper _ _ _ _ _ _ _ | show xdo _ _ _ _ _ _); simp only [zd, zb, zz, RT.at, RT.ty, RT.sub, RT.cut, RT.wr, getS, setT, Ty.dflt, lk, Ty.st, stV, unV, prodTV, Int.reduceToNat, Int.reduceEq, reduceCtorEq, Nat.reduceLT, Nat.reduceEqDiff, Nat.reduceAdd, Nat.reduceMul, Nat.reduceLeDiff, Nat.reduceSub, Nat.reduceBEq, Nat.reduceBNe, Nat.reduceBeqDiff, ↓reduceIte, tab, tL, tI, tB, LI, NI, LLI, tLL, LTT, tTT, ROL, SRt, SV, tSr, spL, spLL, sizeZSp, withinSp, cloneSp, fromNPat, fromNSp, walkNPat, walkNSp, List.set_cons_zero, List.getD_cons_zero, Nat.zero_max, Nat.max_zero, mx21, mx12, mx11]) | with_reducible refine xgd_intro (fun hg => ?_) (fun hg => ?_) <;> (try simp only [zh, zi, zz, reduceCtorEq] at hg) | ((with_reducible show (_ : Bool) = true); kernel_rfl) | with_reducible (first | refine And.intro ?_ ?_ | refine xrun_nil ?_ | refine xtxt_nil ?_) | (refine hK' _ ?_; clear hK'; clear K') | (with_reducible intro hg; try simp only [zh, zi, zz, reduceCtorEq] at hg))) | ((with_reducible show XW _ _ _ _ (.cond _ _ _) _ _); refine XW.cond rfl (fun h => ?_) (fun h => ?_) <;> (try simp only [zh, zi, zz, reduceCtorEq] at h) <;> (try (exfalso; omega))) | ((with_reducible show XW.thn _ _ _ _); dsimp only [XW.thn]) | ((with_reducible show XW.blk _ _ _ _); simp only [XW.blk, ↓reduceIte, Nat.reduceEqDiff, Nat.zero_ne_one, Nat.one_ne_zero, ne_eq]) | ((with_reducible show retS _ _ _ _ _ _ _); simp only [retS, boxS, outsOf, outOf, List.length_cons, List.length_nil, zb, zz, RT.at, RT.ty, RT.sub, RT.cut, RT.wr, getS, setT, Ty.dflt, lk, Ty.st, stV, unV, prodTV, Int.reduceToNat, Int.reduceEq, reduceCtorEq, Nat.reduceLT, Nat.reduceEqDiff, Nat.reduceAdd, Nat.reduceMul, Nat.reduceLeDiff, Nat.reduceSub, Nat.reduceBEq, Nat.reduceBNe, Nat.reduceBeqDiff, ↓reduceIte, tab, tL, tI, tB, LI, NI, LLI, tLL, LTT, tTT, ROL, SRt, SV, tSr, spL, spLL, sizeZSp, withinSp, cloneSp, fromNPat, fromNSp, walkNPat, walkNSp, List.set_cons_zero, List.getD_cons_zero, Nat.zero_max, Nat.max_zero, mx21, mx12, mx11])); all_goals (try (first | omega | with_reducible exact Int.le_refl _ | (show (_ : Int) ≤ _; omega)))
       all_goals first
         | (exfalso; omega)
         | omega
         | (refine ⟨i + 1, [(0, 0), (1, 1)], by omega, by omega, ?_⟩
            rw [hst]
            simp only [Fits, distinct, fitEnv, fitB, fitL, fitRoots, fitRT, idsOK, AV.ids, zb, zz, RT.at, RT.ty, RT.sub, RT.cut, RT.wr, getS, setT, Ty.dflt, lk, Ty.st, stV, unV, prodTV, Int.reduceToNat, Int.reduceEq, reduceCtorEq, Nat.reduceLT, Nat.reduceEqDiff, Nat.reduceAdd, Nat.reduceMul, Nat.reduceLeDiff, Nat.reduceSub, Nat.reduceBEq, Nat.reduceBNe, Nat.reduceBeqDiff, ↓reduceIte, tab, tL, tI, tB, LI, NI, LLI, tLL, LTT, tTT, ROL, SRt, SV, tSr, spL, spLL, sizeZSp, withinSp, cloneSp, fromNPat, fromNSp, walkNPat, walkNSp, List.set_cons_zero, List.getD_cons_zero]
            all_goals first | rfl | exact ⟨rfl, rfl⟩ | (show (_ : Int) = _; omega))
         | skip
     · rw [List.take_of_length_le (by omega)]
       have hc00 := hc0 0
       have hce : c.length = 0 → c.getD 0 0 = 0 := fun h => getD_ge (by omega)
       repeat' (first | with_reducible (first | refine XW.seq ?_ | refine XW.block ?_ | refine XW.skip ?_ | refine XW.exit ?_ | refine XW.ret ?_) | ((first | with_reducible refine XW.region hC (fun K' hK' => ?_) | with_reducible refine XW.text hC hm_ok (by kernel_rfl) (fun K' hK' => ?_)); (try simp only [List.toList_toArray]); repeat' (first | with_reducible (first | refine xrun_cons ?_ | refine xtxt_cons ?_) | (with_reducible (first | show xoper _ _ _ _ _ _ _ | show xdo _ _ _ _ _ _); simp only [zd, zb, zz, RT.at, RT.ty, RT.sub, RT.cut, RT.wr, getS, setT, Ty.dflt, lk, Ty.st, stV, unV, prodTV, Int.reduceToNat, Int.reduceEq, reduceCtorEq, Nat.reduceLT, Nat.reduceEqDiff, Nat.reduceAdd, Nat.reduceMul, Nat.reduceLeDiff, Nat.reduceSub, Nat.reduceBEq, Nat.reduceBNe, Nat.reduceBeqDiff, ↓reduceIte, tab, tL, tI, tB, LI, NI, LLI, tLL, LTT, tTT, ROL, SRt, SV, tSr, spL, spLL, sizeZSp, withinSp, cloneSp, fromNPat, fromNSp, walkNPat, walkNSp, List.set_cons_zero, List.getD_cons_zero, Nat.zero_max, Nat.max_zero, mx21, mx12, mx11]) | with_reducible refine xgd_intro (fun hg => ?_) (fun hg => ?_) <;> (try simp only [zh, zi, zz, reduceCtorEq] at hg) | ((with_reducible show (_ : Bool) = true); kernel_rfl) | with_reducible (first | refine And.intro ?_ ?_ | refine xrun_nil ?_ | refine xtxt_nil ?_) | (refine hK' _ ?_; clear hK'; clear K') | (with_reducible intro hg; try simp only [zh, zi, zz, reduceCtorEq] at hg))) | ((with_reducible show XW _ _ _ _ (.cond _ _ _) _ _); refine XW.cond rfl (fun h => ?_) (fun h => ?_) <;> (try simp only [zh, zi, zz, reduceCtorEq] at h) <;> (try (exfalso; omega))) | ((with_reducible show XW.thn _ _ _ _); dsimp only [XW.thn]) | ((with_reducible show XW.blk _ _ _ _); simp only [XW.blk, ↓reduceIte, Nat.reduceEqDiff, Nat.zero_ne_one, Nat.one_ne_zero, ne_eq]) | ((with_reducible show retS _ _ _ _ _ _ _); simp only [retS, boxS, outsOf, outOf, List.length_cons, List.length_nil, zb, zz, RT.at, RT.ty, RT.sub, RT.cut, RT.wr, getS, setT, Ty.dflt, lk, Ty.st, stV, unV, prodTV, Int.reduceToNat, Int.reduceEq, reduceCtorEq, Nat.reduceLT, Nat.reduceEqDiff, Nat.reduceAdd, Nat.reduceMul, Nat.reduceLeDiff, Nat.reduceSub, Nat.reduceBEq, Nat.reduceBNe, Nat.reduceBeqDiff, ↓reduceIte, tab, tL, tI, tB, LI, NI, LLI, tLL, LTT, tTT, ROL, SRt, SV, tSr, spL, spLL, sizeZSp, withinSp, cloneSp, fromNPat, fromNSp, walkNPat, walkNSp, List.set_cons_zero, List.getD_cons_zero, Nat.zero_max, Nat.max_zero, mx21, mx12, mx11])); all_goals (try (first | omega | with_reducible exact Int.le_refl _ | (show (_ : Int) ≤ _; omega)))
       all_goals first
         | (exfalso; omega)
         | omega
         | (rw [show (c.getD 0 0 - 1 + 1).toNat = (c.getD 0 0).toNat by omega]; exact hsr)
         | (rw [show (c.getD 0 0 - 1 + 1).toNat = (c.getD 0 0).toNat by omega, hrem, Int.zero_add]; exact Int.ofNat_le.2 hfl)
         | (rw [show (c.getD 0 0 - 1 + 1).toNat = (c.getD 0 0).toNat by omega, hrem, Int.zero_add]; exact hk)
         | (rw [show ((-1 : Int) + 1).toNat = (c.getD 0 0).toNat by omega]; exact hsr)
         | (rw [show ((-1 : Int) + 1).toNat = (c.getD 0 0).toNat by omega, hrem, Int.zero_add]; exact Int.ofNat_le.2 hfl)
         | (rw [show ((-1 : Int) + 1).toNat = (c.getD 0 0).toNat by omega, hrem, Int.zero_add]; exact hk)
         | skip)

end Fer
