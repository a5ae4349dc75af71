import Derived.Test.YtjocjlohdapmaaaRows
import Derived.Test.YtjocjlohdapmaaaSgA
import Derived.Test.YtjocjlohdapmaaaSignB
import Derived.Test.YtjocjlohdapmaaaFerJa
import Derived.Test.YtjocjlohdapmaaaFerS
set_option linter.unusedSimpArgs false
set_option linter.unusedVariables false
set_option maxHeartbeats 16000000
namespace Fer
open Go Go.Proofs

def drawnSp : SpecM := ⟨[LLI], fun args K => match args with
  | [⟨.list _ (.list _ (.int _)), m⟩] => signOK m ∧ K (drwL m)
  | _ => False⟩
theorem at_drawn {args : List TV} {K : PMap → Prop} (ht : args.map (·.t) = drawnSp.ps) (hK : drawnSp.wp args K) : ∃ m, args = [tLL m] ∧ signOK m ∧ K (drwL m) := by
  match args, ht, hK with
  | [⟨t, x⟩], ht, hK =>
    simp only [drawnSp, List.map_cons, List.map_nil, List.cons.injEq, and_true] at ht
    obtain rfl := ht
    exact ⟨x, rfl, hK⟩
  | [], ht, _ => simp [drawnSp] at ht
  | _ :: _ :: _, ht, _ => simp [drawnSp] at ht
@[reducible] def ctxD : Ctx := ⟨116, tab, fun f => lk [(38, acrossSp), (26, sizeZSp)] f, fun f => lk [] f, fun f => lk [] f, fun f => lk [] f, fun f => lk [] f, fun f => lk [] f⟩
theorem tm_evn (i j : Nat) : decide (((i : Int) + (j : Int)).tmod 2 = 0) = evn i j := by
  unfold evn
  rw [show ((i : Int) + (j : Int)).tmod 2 = (((i + j) % 2 : Nat) : Int) from rfl]
  by_cases h : (i + j) % 2 = 0
  · rw [h]; rfl
  · rw [decide_eq_false h, decide_eq_false (by omega)]
theorem hA_right {m : List (List Int)} (h : signOK m) {i j : Nat} (hi : i < m.length) (hj : j + 1 ≤ m.length) : (decide (rs m i (j + 1) = 1) == evn i j) = hA m i (j + 1) := by
  unfold hA
  rw [evn_s2]
  rcases rs_rng h hi hj with e | e <;> rw [e] <;> cases evn i j <;> decide
theorem vD_low {m : List (List Int)} (h : signOK m) {i j : Nat} (hi : i + 1 ≤ m.length) (hj : j < m.length) : (decide (cp m (i + 1) j = 0) == evn i j) = vD m (i + 1) j := by
  unfold vD
  rw [evn_s1]
  rcases cp_rng h hi hj with e | e <;> rw [e] <;> cases evn i j <;> decide
theorem drI_yes {b : Bool} (h : b = true) (l : PMp) (k : Int × Int) : drI b l k = putP (entP l k) (idxP l k) (getP l k + 1) := if_pos h
theorem drI_no {b : Bool} (h : b = false) (l : PMp) (k : Int × Int) : drI b l k = l := if_neg (by rw [h]; decide)
set_option maxRecDepth 10000 in
theorem drawn_ok : FnMk Try.prog 40 drawnSp := by
  have hC : ∀ {w0 : World} {S0 : Nat → Prop}, CtxOK Try.prog ctxD w0 S0 := ctx_ok ⟨across_ok, sizeZ_ok, trivial⟩ trivial trivial trivial trivial
  refine FnMk_of (C := ctxD) 40 Try.f40 _ 2 drawnSp Try.func40 rfl (by decide) rfl rfl (Nat.le_of_ble_eq_true rfl) fun args K ht hK w0 => ?_
  dsimp only [ctxD] at hC ⊢
  obtain ⟨m, rfl, hs, hk⟩ := at_drawn ht hK
  obtain ⟨n1, n7, hr, hcol⟩ := id hs
  have hr0 := (hr 0 (by omega)).1
  repeat' (first | with_reducible (first | refine XW.seq ?_ | refine XW.block ?_ | refine XW.skip ?_ | refine XW.exit ?_ | refine XW.ret ?_) | ((first | with_reducible refine XW.region hC (fun K' hK' => ?_) | with_reducible refine XW.text hC hm_ok (by kernel_rfl) (fun K' hK' => ?_)); (try simp only [List.toList_toArray]); repeat' (first | with_reducible (first | refine xrun_cons ?_ | refine xtxt_cons ?_) | (with_reducible (first | show xoper _ _ _ _ _ _ _ | show xdo _ _ _ _ _ _); simp only [zd, zb, zz, RT.at, RT.ty, RT.sub, RT.cut, RT.wr, getS, setT, Ty.dflt, lk, Ty.st, stV, unV, prodTV, Int.reduceToNat, Int.reduceEq, reduceCtorEq, Nat.reduceLT, Nat.reduceEqDiff, Nat.reduceAdd, Nat.reduceMul, Nat.reduceLeDiff, Nat.reduceSub, Nat.reduceBEq, Nat.reduceBNe, Nat.reduceBeqDiff, ↓reduceIte, tab, tL, tI, tB, LI, NI, LLI, tLL, LNt, LLN, tLN, spL, spT, acrossSp, sizeZSp, drawnSp, XS.freeze, XS.kill, List.set_cons_zero, List.getD_cons_zero]) | with_reducible refine xgd_intro (fun hg => ?_) (fun hg => ?_) <;> (try simp only [zh, zi, zz, reduceCtorEq] at hg) | ((with_reducible show (_ : Bool) = true); kernel_rfl) | with_reducible (first | refine And.intro ?_ ?_ | refine xrun_nil ?_ | refine xtxt_nil ?_) | (refine hK' _ ?_; clear hK'; clear K') | (with_reducible intro hg; try simp only [zh, zi, zz, reduceCtorEq] at hg))) | ((with_reducible show XW _ _ _ _ (.cond _ _ _) _ _); refine XW.cond rfl (fun h => ?_) (fun h => ?_) <;> (try simp only [zh, zi, zz, reduceCtorEq] at h) <;> (try (exfalso; omega))) | ((with_reducible show XW.thn _ _ _ _); dsimp only [XW.thn]) | ((with_reducible show XW.blk _ _ _ _); simp only [XW.blk, ↓reduceIte, Nat.reduceEqDiff, Nat.zero_ne_one, Nat.one_ne_zero, ne_eq]) | ((with_reducible show retK _ _ _ _); simp only [zd, zb, zz, lk, Nat.reduceEqDiff, Nat.reduceBEq, Nat.reduceBeqDiff, reduceCtorEq, ↓reduceIte])); all_goals (try (first | omega | with_reducible exact Int.le_refl _ | (show (_ : Int) ≤ _; omega)))
  all_goals try omega
  rename_i b
  have hac : ∀ j, j < m.length → (across m).getD j [] = colL m j := fun j hj => by
    rw [across_getD (by omega), acol_eq fun i hi => by have := (hr i (by omega)).1; omega]
  have hal : (across m).length = m.length := by rw [show (across m).length = (m.getD 0 []).length by simp only [across, List.length_map, List.length_range]]; omega
  refine XW.freeze (r := 0) (i := 5) (rt := ⟨22, LI, 1, across m, none⟩) rfl rfl rfl ?_
  refine XW.loop (ι := Nat) (fun i => ⟨[(6, .dat NI (i : Int)), (3, .mp b (.prs (drP m i))), (4, .dat NI (m.length : Int)), (5, .dat LLI (across m)), (0, .dat LLI m)], [], 1, []⟩)
    (fun i => i ≤ m.length) (fun i => m.length - i) 0 [] (Nat.zero_le _) ?_ fun i hi => ?_
  · simp only [Fits, distinct, fitEnv, fitB, fitL, fitRoots, fitRT, idsOK, AV.ids, zb, zz, RT.at, RT.ty, RT.sub, RT.cut, RT.wr, getS, setT, Ty.dflt, lk, Ty.st, stV, unV, prodTV, Int.reduceToNat, Int.reduceEq, reduceCtorEq, Nat.reduceLT, Nat.reduceEqDiff, Nat.reduceAdd, Nat.reduceMul, Nat.reduceLeDiff, Nat.reduceSub, Nat.reduceBEq, Nat.reduceBNe, Nat.reduceBeqDiff, ↓reduceIte, tab, tL, tI, tB, LI, NI, LLI, tLL, LNt, LLN, tLN, spL, spT, acrossSp, sizeZSp, drawnSp, XS.freeze, XS.kill, List.set_cons_zero, List.getD_cons_zero]
    all_goals first | rfl | exact ⟨rfl, rfl⟩ | skip
  by_cases hin : i < m.length
  rotate_left
  · obtain rfl : i = m.length := by omega
    repeat' (first | with_reducible (first | refine XW.seq ?_ | refine XW.block ?_ | refine XW.skip ?_ | refine XW.exit ?_ | refine XW.ret ?_) | ((first | with_reducible refine XW.region hC (fun K' hK' => ?_) | with_reducible refine XW.text hC hm_ok (by kernel_rfl) (fun K' hK' => ?_)); (try simp only [List.toList_toArray]); repeat' (first | with_reducible (first | refine xrun_cons ?_ | refine xtxt_cons ?_) | (with_reducible (first | show xoper _ _ _ _ _ _ _ | show xdo _ _ _ _ _ _); simp only [zd, zb, zz, RT.at, RT.ty, RT.sub, RT.cut, RT.wr, getS, setT, Ty.dflt, lk, Ty.st, stV, unV, prodTV, Int.reduceToNat, Int.reduceEq, reduceCtorEq, Nat.reduceLT, Nat.reduceEqDiff, Nat.reduceAdd, Nat.reduceMul, Nat.reduceLeDiff, Nat.reduceSub, Nat.reduceBEq, Nat.reduceBNe, Nat.reduceBeqDiff, ↓reduceIte, tab, tL, tI, tB, LI, NI, LLI, tLL, LNt, LLN, tLN, spL, spT, acrossSp, sizeZSp, drawnSp, XS.freeze, XS.kill, List.set_cons_zero, List.getD_cons_zero]) | with_reducible refine xgd_intro (fun hg => ?_) (fun hg => ?_) <;> (try simp only [zh, zi, zz, reduceCtorEq] at hg) | ((with_reducible show (_ : Bool) = true); kernel_rfl) | with_reducible (first | refine And.intro ?_ ?_ | refine xrun_nil ?_ | refine xtxt_nil ?_) | (refine hK' _ ?_; clear hK'; clear K') | (with_reducible intro hg; try simp only [zh, zi, zz, reduceCtorEq] at hg))) | ((with_reducible show XW _ _ _ _ (.cond _ _ _) _ _); refine XW.cond rfl (fun h => ?_) (fun h => ?_) <;> (try simp only [zh, zi, zz, reduceCtorEq] at h) <;> (try (exfalso; omega))) | ((with_reducible show XW.thn _ _ _ _); dsimp only [XW.thn]) | ((with_reducible show XW.blk _ _ _ _); simp only [XW.blk, ↓reduceIte, Nat.reduceEqDiff, Nat.zero_ne_one, Nat.one_ne_zero, ne_eq]) | ((with_reducible show retK _ _ _ _); simp only [zd, zb, zz, lk, Nat.reduceEqDiff, Nat.reduceBEq, Nat.reduceBeqDiff, reduceCtorEq, ↓reduceIte])); all_goals (try (first | omega | with_reducible exact Int.le_refl _ | (show (_ : Int) ≤ _; omega)))
    all_goals first
      | omega
      | exact ⟨_, _, rfl, hk⟩
      | skip
  repeat' (first | with_reducible (first | refine XW.seq ?_ | refine XW.block ?_ | refine XW.skip ?_ | refine XW.exit ?_ | refine XW.ret ?_) | ((first | with_reducible refine XW.region hC (fun K' hK' => ?_) | with_reducible refine XW.text hC hm_ok (by kernel_rfl) (fun K' hK' => ?_)); (try simp only [List.toList_toArray]); repeat' (first | with_reducible (first | refine xrun_cons ?_ | refine xtxt_cons ?_) | (with_reducible (first | show xoper _ _ _ _ _ _ _ | show xdo _ _ _ _ _ _); simp only [zd, zb, zz, RT.at, RT.ty, RT.sub, RT.cut, RT.wr, getS, setT, Ty.dflt, lk, Ty.st, stV, unV, prodTV, Int.reduceToNat, Int.reduceEq, reduceCtorEq, Nat.reduceLT, Nat.reduceEqDiff, Nat.reduceAdd, Nat.reduceMul, Nat.reduceLeDiff, Nat.reduceSub, Nat.reduceBEq, Nat.reduceBNe, Nat.reduceBeqDiff, ↓reduceIte, tab, tL, tI, tB, LI, NI, LLI, tLL, LNt, LLN, tLN, spL, spT, acrossSp, sizeZSp, drawnSp, XS.freeze, XS.kill, List.set_cons_zero, List.getD_cons_zero]) | with_reducible refine xgd_intro (fun hg => ?_) (fun hg => ?_) <;> (try simp only [zh, zi, zz, reduceCtorEq] at hg) | ((with_reducible show (_ : Bool) = true); kernel_rfl) | with_reducible (first | refine And.intro ?_ ?_ | refine xrun_nil ?_ | refine xtxt_nil ?_) | (refine hK' _ ?_; clear hK'; clear K') | (with_reducible intro hg; try simp only [zh, zi, zz, reduceCtorEq] at hg))) | ((with_reducible show XW _ _ _ _ (.cond _ _ _) _ _); refine XW.cond rfl (fun h => ?_) (fun h => ?_) <;> (try simp only [zh, zi, zz, reduceCtorEq] at h) <;> (try (exfalso; omega))) | ((with_reducible show XW.thn _ _ _ _); dsimp only [XW.thn]) | ((with_reducible show XW.blk _ _ _ _); simp only [XW.blk, ↓reduceIte, Nat.reduceEqDiff, Nat.zero_ne_one, Nat.one_ne_zero, ne_eq]) | ((with_reducible show retK _ _ _ _); simp only [zd, zb, zz, lk, Nat.reduceEqDiff, Nat.reduceBEq, Nat.reduceBeqDiff, reduceCtorEq, ↓reduceIte])); all_goals (try (first | omega | with_reducible exact Int.le_refl _ | (show (_ : Int) ≤ _; omega)))
  all_goals try omega
  obtain ⟨ri, rai⟩ := hr i hin
  refine XW.loop (ι := Nat) (fun j => ⟨[(7, .dat NI (j : Int)), (6, .dat NI (i : Int)), (3, .mp b (.prs (drR m i (drP m i) j))), (4, .dat NI (m.length : Int)), (5, .dat LLI (across m)), (0, .dat LLI m)], [], 1, []⟩)
    (fun j => j ≤ m.length) (fun j => m.length - j) 0 [] (Nat.zero_le _) ?_ fun j hj => ?_
  · simp only [Fits, distinct, fitEnv, fitB, fitL, fitRoots, fitRT, idsOK, AV.ids, zb, zz, RT.at, RT.ty, RT.sub, RT.cut, RT.wr, getS, setT, Ty.dflt, lk, Ty.st, stV, unV, prodTV, Int.reduceToNat, Int.reduceEq, reduceCtorEq, Nat.reduceLT, Nat.reduceEqDiff, Nat.reduceAdd, Nat.reduceMul, Nat.reduceLeDiff, Nat.reduceSub, Nat.reduceBEq, Nat.reduceBNe, Nat.reduceBeqDiff, ↓reduceIte, tab, tL, tI, tB, LI, NI, LLI, tLL, LNt, LLN, tLN, spL, spT, acrossSp, sizeZSp, drawnSp, XS.freeze, XS.kill, List.set_cons_zero, List.getD_cons_zero]
    all_goals first | rfl | exact ⟨rfl, rfl⟩ | skip
  by_cases hjn : j < m.length
  rotate_left
  · obtain rfl : j = m.length := by omega
    repeat' (first | with_reducible (first | refine XW.seq ?_ | refine XW.block ?_ | refine XW.skip ?_ | refine XW.exit ?_ | refine XW.ret ?_) | ((first | with_reducible refine XW.region hC (fun K' hK' => ?_) | with_reducible refine XW.text hC hm_ok (by kernel_rfl) (fun K' hK' => ?_)); (try simp only [List.toList_toArray]); repeat' (first | with_reducible (first | refine xrun_cons ?_ | refine xtxt_cons ?_) | (with_reducible (first | show xoper _ _ _ _ _ _ _ | show xdo _ _ _ _ _ _); simp only [zd, zb, zz, RT.at, RT.ty, RT.sub, RT.cut, RT.wr, getS, setT, Ty.dflt, lk, Ty.st, stV, unV, prodTV, Int.reduceToNat, Int.reduceEq, reduceCtorEq, Nat.reduceLT, Nat.reduceEqDiff, Nat.reduceAdd, Nat.reduceMul, Nat.reduceLeDiff, Nat.reduceSub, Nat.reduceBEq, Nat.reduceBNe, Nat.reduceBeqDiff, ↓reduceIte, tab, tL, tI, tB, LI, NI, LLI, tLL, LNt, LLN, tLN, spL, spT, acrossSp, sizeZSp, drawnSp, XS.freeze, XS.kill, List.set_cons_zero, List.getD_cons_zero]) | with_reducible refine xgd_intro (fun hg => ?_) (fun hg => ?_) <;> (try simp only [zh, zi, zz, reduceCtorEq] at hg) | ((with_reducible show (_ : Bool) = true); kernel_rfl) | with_reducible (first | refine And.intro ?_ ?_ | refine xrun_nil ?_ | refine xtxt_nil ?_) | (refine hK' _ ?_; clear hK'; clear K') | (with_reducible intro hg; try simp only [zh, zi, zz, reduceCtorEq] at hg))) | ((with_reducible show XW _ _ _ _ (.cond _ _ _) _ _); refine XW.cond rfl (fun h => ?_) (fun h => ?_) <;> (try simp only [zh, zi, zz, reduceCtorEq] at h) <;> (try (exfalso; omega))) | ((with_reducible show XW.thn _ _ _ _); dsimp only [XW.thn]) | ((with_reducible show XW.blk _ _ _ _); simp only [XW.blk, ↓reduceIte, Nat.reduceEqDiff, Nat.zero_ne_one, Nat.one_ne_zero, ne_eq]) | ((with_reducible show retK _ _ _ _); simp only [zd, zb, zz, lk, Nat.reduceEqDiff, Nat.reduceBEq, Nat.reduceBeqDiff, reduceCtorEq, ↓reduceIte])); all_goals (try (first | omega | with_reducible exact Int.le_refl _ | (show (_ : Int) ≤ _; omega)))
    all_goals first
      | omega
      | (refine ⟨i + 1, [], by omega, by omega, ?_⟩
         simp only [Fits, distinct, fitEnv, fitB, fitL, fitRoots, fitRT, idsOK, AV.ids, zb, zz, RT.at, RT.ty, RT.sub, RT.cut, RT.wr, getS, setT, Ty.dflt, lk, Ty.st, stV, unV, prodTV, Int.reduceToNat, Int.reduceEq, reduceCtorEq, Nat.reduceLT, Nat.reduceEqDiff, Nat.reduceAdd, Nat.reduceMul, Nat.reduceLeDiff, Nat.reduceSub, Nat.reduceBEq, Nat.reduceBNe, Nat.reduceBeqDiff, ↓reduceIte, tab, tL, tI, tB, LI, NI, LLI, tLL, LNt, LLN, tLN, spL, spT, acrossSp, sizeZSp, drawnSp, XS.freeze, XS.kill, List.set_cons_zero, List.getD_cons_zero]
         all_goals first | rfl | exact ⟨rfl, rfl⟩ | (show (_ : Int) = _; omega))
      | skip
  have hsm := small_drR (m := m) (i := i) (small_drP n7 i) j
  have hcj := hac j hjn
  have htm := tm_evn i j
  have hrs : ∀ q : Nat, ((m.getD i []).take q).sum = rs m i q := fun _ => rfl
  have hcp : ∀ q : Nat, ((colL m j).take q).sum = cp m q j := fun q => colL_take m q j
  have hrr := hA_right hs (i := i) (j := j) hin (by omega)
  have hlo := vD_low hs (i := i) (j := j) (by omega) hjn
  have hll : (decide (rs m i j = 0) == evn i j) = hA m i j := rfl
  have hup : (decide (cp m i j = 1) == evn i j) = vD m i j := rfl
  have hxr := fun (q : Nat) (x : Int) (hx : x ∈ (m.getD i []).take q) => alt_mem rai (List.mem_of_mem_take hx)
  have hxc := fun (q : Nat) (x : Int) (hx : x ∈ (colL m j).take q) => alt_mem (hcol j hjn) (List.mem_of_mem_take hx)
  have htl : ∀ q, ((m.getD i []).take q).length ≤ 7 := fun q => by rw [List.length_take]; omega
  have hlc : (colL m j).length = m.length := by simp [colL]
  have htc : ∀ q, ((colL m j).take q).length ≤ 7 := fun q => by rw [List.length_take, hlc]; omega
  have ej1 : ((j : Int) + 1).toNat = j + 1 := by omega
  have ei1 : ((i : Int) + 1).toNat = i + 1 := by omega
  have hstep : drR m i (drP m i) (j + 1) = drC m i j (drR m i (drP m i) j) := rfl
  generalize hL : drR m i (drP m i) j = l0 at *
  have hs1 := small_drI hsm (hA m i j) (2 * (i : Int), 2 * (j : Int) - 1)
  have hs2 := small_drI hs1 (hA m i (j + 1)) (2 * (i : Int), 2 * (j : Int) + 1)
  have hs3 := small_drI hs2 (vD m i j) (2 * (i : Int) - 1, 2 * (j : Int))
  have c0 := hsm (2 * (i : Int), 2 * (j : Int) - 1)
  have c1 := hs1 (2 * (i : Int), 2 * (j : Int) + 1)
  have c2 := hs2 (2 * (i : Int) - 1, 2 * (j : Int))
  have c3 := hs3 (2 * (i : Int) + 1, 2 * (j : Int))
  unfold drC at hstep
  have p0 := fun (l : PMp) (k : Int × Int) => (ent_pos l k).2
  repeat' (first | (first | ((with_reducible show XW _ _ _ _ (.seq (.seq (.region 11 _ _) _) _) _ _); refine XW.mid ⟨[(8, .dat .bool (evn i j)), (7, .dat NI (j : Int)), (6, .dat NI (i : Int)), (3, .mp b (.prs (drI (hA m i j) l0 (2 * (i : Int), 2 * (j : Int) - 1)))), (4, .dat NI (m.length : Int)), (5, .dat LLI (across m)), (0, .dat LLI m)], [], 1, []⟩ ?_ ?_) | ((with_reducible show XW _ _ _ _ (.seq (.seq (.region 13 _ _) _) _) _ _); refine XW.mid ⟨[(8, .dat .bool (evn i j)), (7, .dat NI (j : Int)), (6, .dat NI (i : Int)), (3, .mp b (.prs (drI (hA m i (j + 1)) (drI (hA m i j) l0 (2 * (i : Int), 2 * (j : Int) - 1)) (2 * (i : Int), 2 * (j : Int) + 1)))), (4, .dat NI (m.length : Int)), (5, .dat LLI (across m)), (0, .dat LLI m)], [], 1, []⟩ ?_ ?_) | ((with_reducible show XW _ _ _ _ (.seq (.seq (.region 15 _ _) _) _) _ _); refine XW.mid ⟨[(8, .dat .bool (evn i j)), (7, .dat NI (j : Int)), (6, .dat NI (i : Int)), (3, .mp b (.prs (drI (vD m i j) (drI (hA m i (j + 1)) (drI (hA m i j) l0 (2 * (i : Int), 2 * (j : Int) - 1)) (2 * (i : Int), 2 * (j : Int) + 1)) (2 * (i : Int) - 1, 2 * (j : Int))))), (4, .dat NI (m.length : Int)), (5, .dat LLI (across m)), (0, .dat LLI m)], [], 1, []⟩ ?_ ?_)) | with_reducible (first | refine XW.seq ?_ | refine XW.block ?_ | refine XW.skip ?_ | refine XW.exit ?_ | refine XW.ret ?_) | ((first | ((with_reducible show XW _ _ _ _ (.region _ _ true) _ _); refine XW.tree hC hm_ok (.one 0 (.one 1 (.one 2 (.one 3 (.one 4 (.one 5 (.one 6 (.two 7 (.one 9 (.one 8 (.one 10 (.one 11 .nil)))) 9 (.one 7 (.one 8 (.one 10 (.one 11 .nil)))))))))))) (by decide +kernel) (fun K' hK' => ?_)) | with_reducible refine XW.region hC (fun K' hK' => ?_) | with_reducible refine XW.text hC hm_ok (by kernel_rfl) (fun K' hK' => ?_)); (try simp only [List.toList_toArray]); repeat' (first | with_reducible refine xrun_cons ?_ | with_reducible refine xtree_two ?_ ?_ | with_reducible refine xtree_three ?_ ?_ ?_ | with_reducible refine xtree_nil ?_ | ((with_reducible show xtree _ _ _ (.one _ _) _); refine xtree_one (by simp only [List.getElem?_toArray, List.getElem?_cons_succ, List.getElem?_cons_zero]; rfl) ?_) | with_reducible refine xtxt_cons ?_ | ((with_reducible show xord _ _ _ (_ :: _) _); refine xord_cons (by simp only [List.getElem?_toArray, List.getElem?_cons_succ, List.getElem?_cons_zero]; rfl) ?_) | (with_reducible (first | show xoper _ _ _ _ _ _ _ | show xdo _ _ _ _ _ _); simp only [zd, zb, zz, RT.at, RT.ty, RT.sub, RT.cut, RT.wr, getS, setT, Ty.dflt, lk, Ty.st, stV, unV, prodTV, Int.reduceToNat, Int.reduceEq, reduceCtorEq, Nat.reduceLT, Nat.reduceEqDiff, Nat.reduceAdd, Nat.reduceMul, Nat.reduceLeDiff, Nat.reduceSub, Nat.reduceBEq, Nat.reduceBNe, Nat.reduceBeqDiff, ↓reduceIte, tab, tL, tI, tB, LI, NI, LLI, tLL, LNt, LLN, tLN, spL, spT, acrossSp, sizeZSp, drawnSp, XS.freeze, XS.kill, List.set_cons_zero, List.getD_cons_zero, getP_ent, hcj, htm, hrs, hcp, hrr, hlo, hll, hup, ej1, ei1, hlc]) | with_reducible refine xgd_intro (fun hg => ?_) (fun hg => ?_) <;> (try simp only [zh, zi, zz, reduceCtorEq] at hg) | ((with_reducible show (_ : Bool) = true); kernel_rfl) | with_reducible (first | refine And.intro ?_ ?_ | refine xrun_nil ?_ | refine xtxt_nil ?_) | with_reducible refine xord_nil ?_ | (refine hK' _ ?_; clear hK'; clear K') | (with_reducible intro hg; try simp only [zh, zi, zz, reduceCtorEq] at hg))) | ((with_reducible show XW _ _ _ _ (.cond _ _ _) _ _); refine XW.cond rfl (fun h => ?_) (fun h => ?_) <;> (try simp only [zh, zi, zz, reduceCtorEq] at h) <;> (try (exfalso; omega))) | ((with_reducible show XW.thn _ _ _ _); dsimp only [XW.thn]) | ((with_reducible show XW.blk _ _ _ _); simp only [XW.blk, ↓reduceIte, Nat.reduceEqDiff, Nat.zero_ne_one, Nat.one_ne_zero, ne_eq]) | ((with_reducible show retK _ _ _ _); simp only [zd, zb, zz, lk, Nat.reduceEqDiff, Nat.reduceBEq, Nat.reduceBeqDiff, reduceCtorEq, ↓reduceIte])); all_goals (try (first | omega | with_reducible exact Int.le_refl _ | (show (_ : Int) ≤ _; omega)))
  all_goals first
    | omega
    | (have := hxr _ _ (by assumption); omega)
    | (have := hxc _ _ (by assumption); omega)
    | (have := htl j; omega)
    | (have := htl (j + 1); omega)
    | (have := htc i; omega)
    | (have := htc (i + 1); omega)
    | exact Int.ofNat_lt.2 (p0 _ _)
    | (refine ⟨[], ?_⟩
       first
         | rw [drI_yes (b := vD m i j) (by assumption)]
         | rw [drI_no (b := vD m i j) (by assumption)]
         | rw [drI_yes (b := hA m i (j + 1)) (by assumption)]
         | rw [drI_no (b := hA m i (j + 1)) (by assumption)]
         | rw [drI_yes (b := hA m i j) (by assumption)]
         | rw [drI_no (b := hA m i j) (by assumption)]
       simp only [Fits, distinct, fitEnv, fitB, fitL, fitRoots, fitRT, idsOK, AV.ids, zb, zz, RT.at, RT.ty, RT.sub, RT.cut, RT.wr, getS, setT, Ty.dflt, lk, Ty.st, stV, unV, prodTV, Int.reduceToNat, Int.reduceEq, reduceCtorEq, Nat.reduceLT, Nat.reduceEqDiff, Nat.reduceAdd, Nat.reduceMul, Nat.reduceLeDiff, Nat.reduceSub, Nat.reduceBEq, Nat.reduceBNe, Nat.reduceBeqDiff, ↓reduceIte, tab, tL, tI, tB, LI, NI, LLI, tLL, LNt, LLN, tLN, spL, spT, acrossSp, sizeZSp, drawnSp, XS.freeze, XS.kill, List.set_cons_zero, List.getD_cons_zero]
       all_goals first | rfl | exact ⟨rfl, rfl⟩)
    | (refine ⟨j + 1, [], by omega, by omega, ?_⟩
       rw [hstep]
       first
         | rw [drI_yes (b := vD m (i + 1) j) (by assumption)]
         | rw [drI_no (b := vD m (i + 1) j) (by assumption)]
       simp only [Fits, distinct, fitEnv, fitB, fitL, fitRoots, fitRT, idsOK, AV.ids, zb, zz, RT.at, RT.ty, RT.sub, RT.cut, RT.wr, getS, setT, Ty.dflt, lk, Ty.st, stV, unV, prodTV, Int.reduceToNat, Int.reduceEq, reduceCtorEq, Nat.reduceLT, Nat.reduceEqDiff, Nat.reduceAdd, Nat.reduceMul, Nat.reduceLeDiff, Nat.reduceSub, Nat.reduceBEq, Nat.reduceBNe, Nat.reduceBeqDiff, ↓reduceIte, tab, tL, tI, tB, LI, NI, LLI, tLL, LNt, LLN, tLN, spL, spT, acrossSp, sizeZSp, drawnSp, XS.freeze, XS.kill, List.set_cons_zero, List.getD_cons_zero]
       all_goals first | rfl | exact ⟨rfl, rfl⟩ | (show (_ : Int) = _; omega))
    | skip

end Fer
