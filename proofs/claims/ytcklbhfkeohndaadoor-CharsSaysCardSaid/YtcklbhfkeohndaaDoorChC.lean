import Derived.Test.YtcklbhfkeohndaaDoorRows
import Derived.Test.YtcklbhfkeohndaaDoorChB
import Derived.Test.YtcklbhfkeohndaaDoorPartC
set_option linter.unusedSimpArgs false
set_option linter.unusedVariables false
set_option maxHeartbeats 4000000
namespace Fer
open Go Go.Proofs

structure ValOK (p m : List Int) : Prop where
  pt : PartL p
  s12 : sumL p ≤ 12
  m1 : ∀ j ∈ m, 1 ≤ j ∧ j ≤ 100
  ml : m.length ≤ 12
def valueSp (N : Nat) : Spec := spLL fun p m K => (ValOK p m ∧ m.length < N) ∧ K [tI (chi p m)]
def psum (S : List (List Int × Int)) (m : List Int) (j : Nat) : Int := sumL ((S.take j).map fun s => sgB s.2 (chi s.1 m))
theorem psum_succ {S : List (List Int × Int)} {m : List Int} {j : Nat} (h : j < S.length) : psum S m (j + 1) = psum S m j + sgB (S.getD j ([], 0)).2 (chi (S.getD j ([], 0)).1 m) := by
  unfold psum
  rw [take_succ_getD ([], 0) h, List.map_append, sumL_append, List.map_cons, List.map_nil, sumL_cons]
  show _ + (_ + 0) = _
  omega
theorem psum_end (S : List (List Int × Int)) (m : List Int) : psum S m S.length = sumL (S.map fun s => sgB s.2 (chi s.1 m)) := by
  unfold psum
  rw [List.take_length]
theorem strip_val {p m : List Int} {k : Int} (h : ValOK p (k :: m)) {j : Nat} (hj : j < (strips p k).length) : ValOK ((strips p k).getD j ([], 0)).1 m ∧ 0 ≤ ((strips p k).getD j ([], 0)).2 := by
  obtain ⟨i, hi, hs⟩ := strips_mem (getD_mem ([], 0) hj)
  have hk := h.m1 k List.mem_cons_self
  obtain ⟨e1, e2, e3, _⟩ := step_some h.pt hk.1 hi (q := ((strips p k).getD j ([], 0)).1) (h := ((strips p k).getD j ([], 0)).2) hs
  have := h.s12
  have := h.ml
  rw [List.length_cons] at this
  exact ⟨⟨e1, by omega, fun x hx => h.m1 x (List.mem_cons_of_mem _ hx), by omega⟩, e3⟩
theorem val_bound {p m : List Int} (h : ValOK p m) : -8916100448256 ≤ chi p m ∧ chi p m ≤ 8916100448256 := by
  have h1 := chi_bound m p h.pt h.s12 fun j hj => (h.m1 j hj).1
  have h2 := pow12_mono h.ml
  have h3 : pow12 12 = 8916100448256 := by decide
  omega
theorem psum_bound {p m : List Int} {k : Int} (h : ValOK p (k :: m)) {j : Nat} (hj : j ≤ (strips p k).length) : -106993205379072 ≤ psum (strips p k) m j ∧ psum (strips p k) m j ≤ 106993205379072 := by
  have hb := sumL_bound (B := 8916100448256) (((strips p k).take j).map fun s => sgB s.2 (chi s.1 m)) fun x hx => by
    obtain ⟨s, hs, rfl⟩ := List.mem_map.1 hx
    obtain ⟨r, hr⟩ := List.getElem?_of_mem (List.mem_of_mem_take hs)
    have hrl := (List.getElem?_eq_some_iff.1 hr).1
    have h1 := strip_val h hrl
    rw [List.getD_eq_getElem?_getD, hr] at h1
    exact sgB_bound (val_bound h1.1)
  have hs := strips_len p k
  have hp := sumL_pos h.pt.pos
  have := h.s12
  rw [List.length_map, List.length_take] at hb
  unfold psum
  have h4 : ((min j (strips p k).length : Nat) : Int) * 8916100448256 ≤ 12 * 8916100448256 := Int.mul_le_mul_of_nonneg_right (by omega) (by decide)
  omega

set_option maxRecDepth 10000 in
theorem value_step (N : Nat) (ih : FnOK Tryd.prog 25 (valueSp N)) : FnOK Tryd.prog 25 (valueSp (N + 1)) := by
  have hC : ∀ {w0 : World} {S0 : Nat → Prop}, CtxOK Tryd.prog ⟨38, tab, fun f => lk [(18, stripsSp), (25, valueSp N)] f, fun f => lk [] f, fun f => lk [] f, fun f => lk [] f, fun f => lk [] f, fun f => lk [] f⟩ w0 S0 := ctx_ok ⟨strips_ok, ih, trivial⟩ trivial trivial trivial trivial
  refine FnOK_of (C := ⟨38, tab, fun f => lk [(18, stripsSp), (25, valueSp N)] f, fun f => lk [] f, fun f => lk [] f, fun f => lk [] f, fun f => lk [] f, fun f => lk [] f⟩) 25 Tryd.f25 _ [4] (valueSp (N + 1)) Tryd.func25 rfl (by decide) rfl rfl (Nat.le_of_ble_eq_true rfl) fun args K ht hK w0 => ?_
  obtain ⟨p, m, rfl, ⟨hv, hmN⟩, hk⟩ := at_LL (f := fun p m K => (ValOK p m ∧ m.length < N + 1) ∧ K [tI (chi p m)]) ht hK
  cases m with
  | nil =>
    unfold chi at hk
    repeat' (first | with_reducible refine XW.seq ?_ | with_reducible refine XW.block ?_ | with_reducible refine XW.skip ?_ | with_reducible refine XW.exit ?_ | with_reducible refine XW.ret ?_ | ((first | with_reducible refine XW.region hC (fun K' hK' => ?_) | with_reducible refine XW.text hC hm_ok (by kernel_rfl) (fun K' hK' => ?_)); (try simp only [List.toList_toArray]); repeat' (first | with_reducible refine xrun_cons ?_ | with_reducible refine xtxt_cons ?_ | ((first | with_reducible show xoper _ _ _ _ _ _ _ | with_reducible show xdo _ _ _ _ _ _); simp only [zd, zb, zz, RT.at, RT.ty, RT.sub, RT.cut, RT.wr, getS, setT, Ty.dflt, lk, Ty.st, stV, unV, prodTV, Int.reduceToNat, Int.reduceEq, reduceCtorEq, Nat.reduceLT, Nat.reduceEqDiff, Nat.reduceAdd, Nat.reduceMul, Nat.reduceLeDiff, Nat.reduceSub, Nat.reduceBEq, Nat.reduceBNe, Nat.reduceBeqDiff, ↓reduceIte, tab, tL, tI, tB, LI, NI, LLI, tLL, SPt, LSP, tSP, spL, spLI, spIL, spLL, stripsSp, valueSp, partSp, sizeZSp, XS.freeze, XS.kill, List.set_cons_zero, List.getD_cons_zero]) | with_reducible refine xgd_intro (fun hg => ?_) (fun hg => ?_) <;> (try simp only [zh, zi, zz, reduceCtorEq] at hg) | ((with_reducible show (_ : Bool) = true); kernel_rfl) | with_reducible refine And.intro ?_ ?_ | with_reducible refine xrun_nil ?_ | with_reducible refine xtxt_nil ?_ | (refine hK' _ ?_; clear hK'; clear K') | (with_reducible intro hg; try simp only [zh, zi, zz, reduceCtorEq] at hg))) | ((with_reducible show XW _ _ _ _ (.cond _ _ _) _ _); refine XW.cond rfl (fun h => ?_) (fun h => ?_) <;> (try simp only [zh, zi, zz, reduceCtorEq] at h) <;> (try (exfalso; omega))) | ((with_reducible show XW.thn _ _ _ _); dsimp only [XW.thn]) | ((with_reducible show XW.blk _ _ _ _); simp only [XW.blk, ↓reduceIte, Nat.reduceEqDiff, Nat.zero_ne_one, Nat.one_ne_zero, ne_eq]) | ((with_reducible show retK _ _ _ _); simp only [zd, zb, zz, lk, Nat.reduceEqDiff, Nat.reduceBEq, Nat.reduceBeqDiff, reduceCtorEq, ↓reduceIte])); all_goals (try (first | omega | with_reducible exact Int.le_refl _ | (show (_ : Int) ≤ _; omega)))
    all_goals first
      | exact hk
      | (exfalso; simp at *; done)
      | skip
  | cons k m =>
    have hkk := hv.m1 k List.mem_cons_self
    have hps : PartS p := ⟨hv.pt, by have := hv.s12; omega⟩
    repeat' (first | with_reducible refine XW.seq ?_ | with_reducible refine XW.block ?_ | with_reducible refine XW.skip ?_ | with_reducible refine XW.exit ?_ | with_reducible refine XW.ret ?_ | ((first | with_reducible refine XW.region hC (fun K' hK' => ?_) | with_reducible refine XW.text hC hm_ok (by kernel_rfl) (fun K' hK' => ?_)); (try simp only [List.toList_toArray]); repeat' (first | with_reducible refine xrun_cons ?_ | with_reducible refine xtxt_cons ?_ | ((first | with_reducible show xoper _ _ _ _ _ _ _ | with_reducible show xdo _ _ _ _ _ _); simp only [zd, zb, zz, RT.at, RT.ty, RT.sub, RT.cut, RT.wr, getS, setT, Ty.dflt, lk, Ty.st, stV, unV, prodTV, Int.reduceToNat, Int.reduceEq, reduceCtorEq, Nat.reduceLT, Nat.reduceEqDiff, Nat.reduceAdd, Nat.reduceMul, Nat.reduceLeDiff, Nat.reduceSub, Nat.reduceBEq, Nat.reduceBNe, Nat.reduceBeqDiff, ↓reduceIte, tab, tL, tI, tB, LI, NI, LLI, tLL, SPt, LSP, tSP, spL, spLI, spIL, spLL, stripsSp, valueSp, partSp, sizeZSp, XS.freeze, XS.kill, List.set_cons_zero, List.getD_cons_zero]) | with_reducible refine xgd_intro (fun hg => ?_) (fun hg => ?_) <;> (try simp only [zh, zi, zz, reduceCtorEq] at hg) | ((with_reducible show (_ : Bool) = true); kernel_rfl) | with_reducible refine And.intro ?_ ?_ | with_reducible refine xrun_nil ?_ | with_reducible refine xtxt_nil ?_ | (refine hK' _ ?_; clear hK'; clear K') | (with_reducible intro hg; try simp only [zh, zi, zz, reduceCtorEq] at hg))) | ((with_reducible show XW _ _ _ _ (.cond _ _ _) _ _); refine XW.cond rfl (fun h => ?_) (fun h => ?_) <;> (try simp only [zh, zi, zz, reduceCtorEq] at h) <;> (try (exfalso; omega))) | ((with_reducible show XW.thn _ _ _ _); dsimp only [XW.thn]) | ((with_reducible show XW.blk _ _ _ _); simp only [XW.blk, ↓reduceIte, Nat.reduceEqDiff, Nat.zero_ne_one, Nat.one_ne_zero, ne_eq]) | ((with_reducible show retK _ _ _ _); simp only [zd, zb, zz, lk, Nat.reduceEqDiff, Nat.reduceBEq, Nat.reduceBeqDiff, reduceCtorEq, ↓reduceIte])); all_goals (try (first | omega | with_reducible exact Int.le_refl _ | (show (_ : Int) ≤ _; omega)))
    all_goals first
      | (exfalso; have h0 : (((m.length + 1 : Nat)) : Int) = 0 := by assumption
         omega)
      | omega
      | exact ⟨hps, by omega, by omega⟩
      | skip
    refine XW.freeze (r := 0) (i := 16) (rt := ⟨30, SPt, 1, strips p k, none⟩) ?_ rfl ?_ ?_
    · rfl
    · rfl
    obtain ⟨S, hS⟩ : ∃ S, strips p k = S := ⟨_, rfl⟩
    rw [hS]
    have hSl : S.length ≤ 12 := by
      have h1 := strips_len p k
      have h2 := sumL_pos hv.pt.pos
      have h3 := hv.s12
      rw [hS] at h1
      omega
    refine XW.loop (ι := Nat) (fun j => ⟨[(18, .dat NI (j : Int)), (17, .dat NI (S.length : Int)), (16, .dat LSP S), (5, .dat NI (psum S m j)), (1, .dat LI (k :: m))], [], 0, []⟩)
      (fun j => j ≤ S.length) (fun j => S.length - j) 0 [] (Nat.zero_le _) ?_ fun j hj => ?_
    · simp only [Fits, distinct, fitEnv, fitB, fitL, fitRoots, fitRT, idsOK, AV.ids, zb, zz, RT.at, RT.ty, RT.sub, RT.cut, RT.wr, getS, setT, Ty.dflt, lk, Ty.st, stV, unV, prodTV, Int.reduceToNat, Int.reduceEq, reduceCtorEq, Nat.reduceLT, Nat.reduceEqDiff, Nat.reduceAdd, Nat.reduceMul, Nat.reduceLeDiff, Nat.reduceSub, Nat.reduceBEq, Nat.reduceBNe, Nat.reduceBeqDiff, ↓reduceIte, tab, tL, tI, tB, LI, NI, LLI, tLL, SPt, LSP, tSP, spL, spLI, spIL, spLL, stripsSp, valueSp, partSp, sizeZSp, XS.freeze, XS.kill, List.set_cons_zero, List.getD_cons_zero]
      all_goals first | rfl | exact ⟨rfl, rfl⟩ | skip
    have hpb := psum_bound hv (j := j) (by rw [hS]; exact hj)
    rw [hS] at hpb
    by_cases hjl : j < S.length
    · obtain ⟨hs1, hs2⟩ := strip_val hv (j := j) (by rw [hS]; exact hjl)
      rw [hS] at hs1 hs2
      have hpb1 := psum_bound hv (j := j + 1) (by rw [hS]; omega)
      rw [hS] at hpb1
      have hsu := psum_succ (m := m) hjl
      have hvb := val_bound hs1
      have hd1 : List.drop 1 (k :: m) = m := rfl
      have hmd : Int.tmod (S.getD j ([], 0)).2 2 = (S.getD j ([], 0)).2 % 2 := Int.tmod_eq_emod_of_nonneg hs2
      have hsu1 : Int.tmod (S.getD j ([], 0)).2 2 = 1 → psum S m (j + 1) = psum S m j + -(chi (S.getD j ([], 0)).1 m) := fun h => by rw [hsu]; unfold sgB; rw [← hmd, if_pos h]
      have hsu0 : ¬ Int.tmod (S.getD j ([], 0)).2 2 = 1 → psum S m (j + 1) = psum S m j + chi (S.getD j ([], 0)).1 m := fun h => by rw [hsu]; unfold sgB; rw [← hmd, if_neg h]
      repeat' (first | with_reducible refine XW.seq ?_ | with_reducible refine XW.block ?_ | with_reducible refine XW.skip ?_ | with_reducible refine XW.exit ?_ | with_reducible refine XW.ret ?_ | ((first | ((with_reducible show XW _ _ _ _ (.region _ _ true) _ _); refine XW.draw hC hm_ok [0, 1, 2, 3, 4, 5] (by decide +kernel) (fun K' hK' => ?_)) | with_reducible refine XW.region hC (fun K' hK' => ?_) | with_reducible refine XW.text hC hm_ok (by kernel_rfl) (fun K' hK' => ?_)); (try simp only [List.toList_toArray]); repeat' (first | with_reducible refine xrun_cons ?_ | with_reducible refine xtxt_cons ?_ | ((with_reducible show xord _ _ _ (_ :: _) _); refine xord_cons (by simp only [List.getElem?_toArray, List.getElem?_cons_succ, List.getElem?_cons_zero]; rfl) ?_) | ((first | with_reducible show xoper _ _ _ _ _ _ _ | with_reducible show xdo _ _ _ _ _ _); simp only [zd, zb, zz, RT.at, RT.ty, RT.sub, RT.cut, RT.wr, getS, setT, Ty.dflt, lk, Ty.st, stV, unV, prodTV, Int.reduceToNat, Int.reduceEq, reduceCtorEq, Nat.reduceLT, Nat.reduceEqDiff, Nat.reduceAdd, Nat.reduceMul, Nat.reduceLeDiff, Nat.reduceSub, Nat.reduceBEq, Nat.reduceBNe, Nat.reduceBeqDiff, ↓reduceIte, tab, tL, tI, tB, LI, NI, LLI, tLL, SPt, LSP, tSP, spL, spLI, spIL, spLL, stripsSp, valueSp, partSp, sizeZSp, XS.freeze, XS.kill, List.set_cons_zero, List.getD_cons_zero, Nat.max_zero, Nat.zero_max, hd1]) | with_reducible refine xgd_intro (fun hg => ?_) (fun hg => ?_) <;> (try simp only [zh, zi, zz, reduceCtorEq] at hg) | ((with_reducible show (_ : Bool) = true); kernel_rfl) | with_reducible refine And.intro ?_ ?_ | with_reducible refine xrun_nil ?_ | with_reducible refine xtxt_nil ?_ | with_reducible refine xord_nil ?_ | (refine hK' _ ?_; clear hK'; clear K') | (with_reducible intro hg; try simp only [zh, zi, zz, reduceCtorEq] at hg))) | ((with_reducible show XW _ _ _ _ (.cond _ _ _) _ _); refine XW.cond rfl (fun h => ?_) (fun h => ?_) <;> (try simp only [zh, zi, zz, reduceCtorEq] at h) <;> (try (exfalso; omega))) | ((with_reducible show XW.thn _ _ _ _); dsimp only [XW.thn]) | ((with_reducible show XW.blk _ _ _ _); simp only [XW.blk, ↓reduceIte, Nat.reduceEqDiff, Nat.zero_ne_one, Nat.one_ne_zero, ne_eq]) | ((with_reducible show retK _ _ _ _); simp only [zd, zb, zz, lk, Nat.reduceEqDiff, Nat.reduceBEq, Nat.reduceBeqDiff, reduceCtorEq, ↓reduceIte])); all_goals (try (first | omega | with_reducible exact Int.le_refl _ | (show (_ : Int) ≤ _; omega)))
      all_goals first
        | (exfalso; omega)
        | omega
        | exact hs1
        | (show m.length < N; simp only [List.length_cons] at hmN; omega)
        | (have e := hsu1 (by assumption); omega)
        | (have e := hsu0 (by assumption); omega)
        | (refine ⟨j + 1, [], by omega, by omega, ?_⟩
           rw [hsu1 (by assumption)]
           simp only [Fits, distinct, fitEnv, fitB, fitL, fitRoots, fitRT, idsOK, AV.ids, zb, zz, RT.at, RT.ty, RT.sub, RT.cut, RT.wr, getS, setT, Ty.dflt, lk, Ty.st, stV, unV, prodTV, Int.reduceToNat, Int.reduceEq, reduceCtorEq, Nat.reduceLT, Nat.reduceEqDiff, Nat.reduceAdd, Nat.reduceMul, Nat.reduceLeDiff, Nat.reduceSub, Nat.reduceBEq, Nat.reduceBNe, Nat.reduceBeqDiff, ↓reduceIte, tab, tL, tI, tB, LI, NI, LLI, tLL, SPt, LSP, tSP, spL, spLI, spIL, spLL, stripsSp, valueSp, partSp, sizeZSp, XS.freeze, XS.kill, List.set_cons_zero, List.getD_cons_zero]
           first | done | rfl)
        | (refine ⟨j + 1, [], by omega, by omega, ?_⟩
           rw [hsu0 (by assumption)]
           simp only [Fits, distinct, fitEnv, fitB, fitL, fitRoots, fitRT, idsOK, AV.ids, zb, zz, RT.at, RT.ty, RT.sub, RT.cut, RT.wr, getS, setT, Ty.dflt, lk, Ty.st, stV, unV, prodTV, Int.reduceToNat, Int.reduceEq, reduceCtorEq, Nat.reduceLT, Nat.reduceEqDiff, Nat.reduceAdd, Nat.reduceMul, Nat.reduceLeDiff, Nat.reduceSub, Nat.reduceBEq, Nat.reduceBNe, Nat.reduceBeqDiff, ↓reduceIte, tab, tL, tI, tB, LI, NI, LLI, tLL, SPt, LSP, tSP, spL, spLI, spIL, spLL, stripsSp, valueSp, partSp, sizeZSp, XS.freeze, XS.kill, List.set_cons_zero, List.getD_cons_zero]
           first | done | rfl)
        | skip
    · obtain rfl : j = S.length := by omega
      rw [psum_end] at *
      have hk : K [tI (sumL (S.map fun s => sgB s.2 (chi s.1 m)))] := by
        rw [← hS]; exact hk
      repeat' (first | with_reducible refine XW.seq ?_ | with_reducible refine XW.block ?_ | with_reducible refine XW.skip ?_ | with_reducible refine XW.exit ?_ | with_reducible refine XW.ret ?_ | ((first | with_reducible refine XW.region hC (fun K' hK' => ?_) | with_reducible refine XW.text hC hm_ok (by kernel_rfl) (fun K' hK' => ?_)); (try simp only [List.toList_toArray]); repeat' (first | with_reducible refine xrun_cons ?_ | with_reducible refine xtxt_cons ?_ | ((first | with_reducible show xoper _ _ _ _ _ _ _ | with_reducible show xdo _ _ _ _ _ _); simp only [zd, zb, zz, RT.at, RT.ty, RT.sub, RT.cut, RT.wr, getS, setT, Ty.dflt, lk, Ty.st, stV, unV, prodTV, Int.reduceToNat, Int.reduceEq, reduceCtorEq, Nat.reduceLT, Nat.reduceEqDiff, Nat.reduceAdd, Nat.reduceMul, Nat.reduceLeDiff, Nat.reduceSub, Nat.reduceBEq, Nat.reduceBNe, Nat.reduceBeqDiff, ↓reduceIte, tab, tL, tI, tB, LI, NI, LLI, tLL, SPt, LSP, tSP, spL, spLI, spIL, spLL, stripsSp, valueSp, partSp, sizeZSp, XS.freeze, XS.kill, List.set_cons_zero, List.getD_cons_zero]) | with_reducible refine xgd_intro (fun hg => ?_) (fun hg => ?_) <;> (try simp only [zh, zi, zz, reduceCtorEq] at hg) | ((with_reducible show (_ : Bool) = true); kernel_rfl) | with_reducible refine And.intro ?_ ?_ | with_reducible refine xrun_nil ?_ | with_reducible refine xtxt_nil ?_ | (refine hK' _ ?_; clear hK'; clear K') | (with_reducible intro hg; try simp only [zh, zi, zz, reduceCtorEq] at hg))) | ((with_reducible show XW _ _ _ _ (.cond _ _ _) _ _); refine XW.cond rfl (fun h => ?_) (fun h => ?_) <;> (try simp only [zh, zi, zz, reduceCtorEq] at h) <;> (try (exfalso; omega))) | ((with_reducible show XW.thn _ _ _ _); dsimp only [XW.thn]) | ((with_reducible show XW.blk _ _ _ _); simp only [XW.blk, ↓reduceIte, Nat.reduceEqDiff, Nat.zero_ne_one, Nat.one_ne_zero, ne_eq]) | ((with_reducible show retK _ _ _ _); simp only [zd, zb, zz, lk, Nat.reduceEqDiff, Nat.reduceBEq, Nat.reduceBeqDiff, reduceCtorEq, ↓reduceIte])); all_goals (try (first | omega | with_reducible exact Int.le_refl _ | (show (_ : Int) ≤ _; omega)))
      all_goals first
        | exact hk
        | (exfalso; omega)
        | skip

end Fer
