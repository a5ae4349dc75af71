import Derived.Test.YtcklbhfkeohndaaDoorRows
import Derived.Test.YtcklbhfkeohndaaDoorChD
import Derived.Test.YtcklbhfkeohndaaDoorFerZj
set_option linter.unusedSimpArgs false
set_option linter.unusedVariables false
set_option maxHeartbeats 8000000
namespace Fer
open Go Go.Proofs

noncomputable def clsE (p : List Int) : Int := if partE p ≠ 0 then partE p else if 12 < p.sum then 2 else 0
noncomputable def clsC (p : List Int) : Int := if clsE p = 0 then clsV p else 0
noncomputable def clsSp : Spec := spL fun p K => K [tI (clsC p), tI (clsE p)]
def rclsSp : Spec := spL fun p K => (PartS p ∧ sumL p ≤ 12) ∧ K [tI (clsV p)]
def vP (p : List Int) (n : Int) (j : Nat) : Int := facs.getD n.toNat 0 / zden p j
def rnP (p : List Int) (j : Nat) : Int := if j = 0 then 0 else cntP p (p.getD (j - 1) 0) j

theorem facs_pos : ∀ n, n ≤ 12 → 1 ≤ facs.getD n 0 ∧ facs.getD n 0 ≤ 479001600 := by decide
theorem vP_bound {p : List Int} (h : ∀ a ∈ p, 1 ≤ a) (hs : sumL p ≤ 12) {n : Int} (h0 : 0 ≤ n) (h1 : n ≤ 12) {j : Nat} (hj : j ≤ p.length) : 0 ≤ vP p n j ∧ vP p n j ≤ 479001600 := by
  have hf := facs_pos n.toNat (by omega)
  have hz := (zden_bound h hs hj).1
  exact ⟨Int.ediv_nonneg (by omega) (by omega), Int.le_trans (Int.ediv_le_self _ (by omega)) hf.2⟩
theorem vP_step {p : List Int} (h : ∀ a ∈ p, 1 ≤ a) (hs : sumL p ≤ 12) {n : Int} (h0 : 0 ≤ n) (h1 : n ≤ 12) {j : Nat} (hj : j < p.length) {r : Int} (hr : cntP p (p.getD j 0) (j + 1) = r) :
    vP p n (j + 1) = ((vP p n j).tdiv (p.getD j 0)).tdiv r ∧ 0 ≤ (vP p n j).tdiv (p.getD j 0) ∧ (vP p n j).tdiv (p.getD j 0) ≤ 479001600 ∧ 0 ≤ ((vP p n j).tdiv (p.getD j 0)).tdiv r ∧ ((vP p n j).tdiv (p.getD j 0)).tdiv r ≤ 479001600 := by
  have hb := vP_bound h hs h0 h1 (Nat.le_of_lt hj)
  have hb1 := vP_bound h hs h0 h1 hj
  have hp := h _ (getD_mem 0 hj)
  have hz := (zden_bound h hs (Nat.le_of_lt hj)).1
  have e1 : (vP p n j).tdiv (p.getD j 0) = vP p n j / p.getD j 0 := Int.tdiv_eq_ediv_of_nonneg hb.1
  have b1 : 0 ≤ vP p n j / p.getD j 0 := Int.ediv_nonneg hb.1 (by omega)
  have b2 : vP p n j / p.getD j 0 ≤ vP p n j := Int.ediv_le_self _ hb.1
  have e2 : (vP p n j / p.getD j 0).tdiv r = vP p n j / p.getD j 0 / r := Int.tdiv_eq_ediv_of_nonneg b1
  have e3 : vP p n j / p.getD j 0 / r = vP p n (j + 1) := by
    rw [← hr]; exact cls_step h hj (by omega)
  rw [e1, e2, e3]
  exact ⟨rfl, b1, by omega, hb1.1, hb1.2⟩
theorem rnP_bound {p : List Int} (h : ∀ a ∈ p, 1 ≤ a) (hs : sumL p ≤ 12) {j : Nat} (hj : j ≤ p.length) : 0 ≤ rnP p j ∧ rnP p j ≤ 12 := by
  unfold rnP
  split
  · omega
  · have a1 := h _ (getD_mem 0 (show j - 1 < p.length by omega))
    have a2 := cntP_le (k := p.getD (j - 1) 0) (j := j) h
    have a3 := cntP_mono (p := p) (k := p.getD (j - 1) 0) (j := j)
    have a4 := Int.mul_le_mul a1 (Int.le_refl (cntP p (p.getD (j - 1) 0) j)) a3 (by omega)
    omega
theorem part_fall {p : List Int} (h : PartS p) {i j : Nat} (hij : i ≤ j) (hj : j < p.length) : p.getD j 0 ≤ p.getD i 0 := by
  by_cases e : i = j
  · rw [e]; exact Int.le_refl _
  · have := List.pairwise_iff_getElem.1 h.pt.fall i j (by omega) hj (by omega)
    rw [getD_lt 0 hj, getD_lt 0 (show i < p.length by omega)]
    exact this

set_option maxRecDepth 10000 in
theorem cls_ok : FnGl Tryd.prog (0, (48, facs)) 12 clsSp := by
  refine FnGl_of (C := ⟨50, tab, fun f => lk [(17, partSp), (24, sizeZSp)] f, fun f => lk [] f, fun f => lk [] f, fun f => lk [] f, fun f => lk [] f, fun f => lk [(0, (48, facs))] f⟩) 12 Tryd.f12 _ [2, 3] clsSp Tryd.func12 rfl (by decide) rfl rfl (Nat.le_of_ble_eq_true rfl) fun args K ht hK w0 hgl => ?_
  have hC : CtxOK Tryd.prog ⟨50, tab, fun f => lk [(17, partSp), (24, sizeZSp)] f, fun f => lk [] f, fun f => lk [] f, fun f => lk [] f, fun f => lk [] f, fun f => lk [(0, (48, facs))] f⟩ w0 (oldS w0) := ctx_okG hgl ⟨pcheck_ok, psize_ok, trivial⟩ trivial trivial trivial trivial
  obtain ⟨p, rfl, hk⟩ := at_L (f := fun p K => K [tI (clsC p), tI (clsE p)]) ht hK
  by_cases hp : partE p = 0
  rotate_left
  · have he : clsE p = partE p := if_pos hp
    have hl : clsC p = 0 := if_neg (by rw [he]; exact hp)
    rw [he, hl] at hk
    repeat' (first | with_reducible refine XW.seq ?_ | with_reducible refine XW.block ?_ | with_reducible refine XW.skip ?_ | with_reducible refine XW.exit ?_ | with_reducible refine XW.ret ?_ | ((first | with_reducible refine XW.region hC (fun K' hK' => ?_) | with_reducible refine XW.text hC hm_ok (by kernel_rfl) (fun K' hK' => ?_)); (try simp only [List.toList_toArray]); repeat' (first | with_reducible refine xrun_cons ?_ | with_reducible refine xtxt_cons ?_ | ((first | with_reducible show xoper _ _ _ _ _ _ _ | with_reducible show xdo _ _ _ _ _ _); simp only [zd, zb, zz, RT.at, RT.ty, RT.sub, RT.cut, RT.wr, getS, setT, Ty.dflt, lk, Ty.st, stV, unV, prodTV, Int.reduceToNat, Int.reduceEq, reduceCtorEq, Nat.reduceLT, Nat.reduceEqDiff, Nat.reduceAdd, Nat.reduceMul, Nat.reduceLeDiff, Nat.reduceSub, Nat.reduceBEq, Nat.reduceBNe, Nat.reduceBeqDiff, ↓reduceIte, tab, tL, tI, tB, LI, NI, LLI, tLL, spL, spLI, spLL, partSp, sizeZSp, clsSp, rclsSp]) | with_reducible refine xgd_intro (fun hg => ?_) (fun hg => ?_) <;> (try simp only [zh, zi, zz, reduceCtorEq] at hg) | ((with_reducible show (_ : Bool) = true); kernel_rfl) | with_reducible refine And.intro ?_ ?_ | with_reducible refine xrun_nil ?_ | with_reducible refine xtxt_nil ?_ | (refine hK' _ ?_; clear hK'; clear K') | (with_reducible intro hg; try simp only [zh, zi, zz, reduceCtorEq] at hg))) | ((with_reducible show XW _ _ _ _ (.cond _ _ _) _ _); refine XW.cond rfl (fun h => ?_) (fun h => ?_) <;> (try simp only [zh, zi, zz, reduceCtorEq] at h) <;> (try (exfalso; omega))) | ((with_reducible show XW.thn _ _ _ _); dsimp only [XW.thn]) | ((with_reducible show XW.blk _ _ _ _); simp only [XW.blk, ↓reduceIte, Nat.reduceEqDiff, Nat.zero_ne_one, Nat.one_ne_zero, ne_eq]) | ((with_reducible show retK _ _ _ _); simp only [zd, zb, zz, lk, Nat.reduceEqDiff, Nat.reduceBEq, Nat.reduceBeqDiff, reduceCtorEq, ↓reduceIte])); all_goals (try (first | omega | with_reducible exact Int.le_refl _ | (show (_ : Int) ≤ _; omega)))
    all_goals first
      | exact hk
      | exact absurd (by assumption) hp
      | skip
  obtain ⟨p1, p2⟩ := part_small hp
  have hps := partS_of hp
  have hpos := hps.pt.pos
  have hsn : 0 ≤ p.sum := by
    have := sumL_pos hpos
    rw [sumL_sum] at this
    omega
  by_cases hs : 12 < p.sum
  · have he : clsE p = 2 := (if_neg (fun h => h hp)).trans (if_pos hs)
    have hl : clsC p = 0 := if_neg (by rw [he]; decide)
    rw [he, hl] at hk
    repeat' (first | with_reducible refine XW.seq ?_ | with_reducible refine XW.block ?_ | with_reducible refine XW.skip ?_ | with_reducible refine XW.exit ?_ | with_reducible refine XW.ret ?_ | ((first | with_reducible refine XW.region hC (fun K' hK' => ?_) | with_reducible refine XW.text hC hm_ok (by kernel_rfl) (fun K' hK' => ?_)); (try simp only [List.toList_toArray]); repeat' (first | with_reducible refine xrun_cons ?_ | with_reducible refine xtxt_cons ?_ | ((first | with_reducible show xoper _ _ _ _ _ _ _ | with_reducible show xdo _ _ _ _ _ _); simp only [zd, zb, zz, RT.at, RT.ty, RT.sub, RT.cut, RT.wr, getS, setT, Ty.dflt, lk, Ty.st, stV, unV, prodTV, Int.reduceToNat, Int.reduceEq, reduceCtorEq, Nat.reduceLT, Nat.reduceEqDiff, Nat.reduceAdd, Nat.reduceMul, Nat.reduceLeDiff, Nat.reduceSub, Nat.reduceBEq, Nat.reduceBNe, Nat.reduceBeqDiff, ↓reduceIte, tab, tL, tI, tB, LI, NI, LLI, tLL, spL, spLI, spLL, partSp, sizeZSp, clsSp, rclsSp, hp]) | with_reducible refine xgd_intro (fun hg => ?_) (fun hg => ?_) <;> (try simp only [zh, zi, zz, reduceCtorEq] at hg) | ((with_reducible show (_ : Bool) = true); kernel_rfl) | with_reducible refine And.intro ?_ ?_ | with_reducible refine xrun_nil ?_ | with_reducible refine xtxt_nil ?_ | (refine hK' _ ?_; clear hK'; clear K') | (with_reducible intro hg; try simp only [zh, zi, zz, reduceCtorEq] at hg))) | ((with_reducible show XW _ _ _ _ (.cond _ _ _) _ _); refine XW.cond rfl (fun h => ?_) (fun h => ?_) <;> (try simp only [zh, zi, zz, reduceCtorEq] at h) <;> (try (exfalso; omega))) | ((with_reducible show XW.thn _ _ _ _); dsimp only [XW.thn]) | ((with_reducible show XW.blk _ _ _ _); simp only [XW.blk, ↓reduceIte, Nat.reduceEqDiff, Nat.zero_ne_one, Nat.one_ne_zero, ne_eq]) | ((with_reducible show retK _ _ _ _); simp only [zd, zb, zz, lk, Nat.reduceEqDiff, Nat.reduceBEq, Nat.reduceBeqDiff, reduceCtorEq, ↓reduceIte])); all_goals (try (first | omega | with_reducible exact Int.le_refl _ | (show (_ : Int) ≤ _; omega)))
    all_goals first
      | exact hk
      | exact p2
      | exact (p2 _ (by assumption)).1
      | exact (p2 _ (by assumption)).2
      | omega
      | skip
  have he : clsE p = 0 := (if_neg (fun h => h hp)).trans (if_neg hs)
  have hl : clsC p = vP p p.sum p.length := if_pos he
  rw [he, hl] at hk
  have hsL : sumL p ≤ 12 := by rw [sumL_sum]; omega
  have hv0 : facs.getD p.sum.toNat 0 = vP p p.sum 0 := by
    show _ = facs.getD p.sum.toNat 0 / 1
    rw [Int.ediv_one]
  have hfl : ((facs.length : Nat) : Int) = 13 := rfl
  repeat' (first | with_reducible refine XW.seq ?_ | with_reducible refine XW.block ?_ | with_reducible refine XW.skip ?_ | with_reducible refine XW.exit ?_ | with_reducible refine XW.ret ?_ | ((first | with_reducible refine XW.region hC (fun K' hK' => ?_) | with_reducible refine XW.text hC hm_ok (by kernel_rfl) (fun K' hK' => ?_)); (try simp only [List.toList_toArray]); repeat' (first | with_reducible refine xrun_cons ?_ | with_reducible refine xtxt_cons ?_ | ((first | with_reducible show xoper _ _ _ _ _ _ _ | with_reducible show xdo _ _ _ _ _ _); simp only [zd, zb, zz, RT.at, RT.ty, RT.sub, RT.cut, RT.wr, getS, setT, Ty.dflt, lk, Ty.st, stV, unV, prodTV, Int.reduceToNat, Int.reduceEq, reduceCtorEq, Nat.reduceLT, Nat.reduceEqDiff, Nat.reduceAdd, Nat.reduceMul, Nat.reduceLeDiff, Nat.reduceSub, Nat.reduceBEq, Nat.reduceBNe, Nat.reduceBeqDiff, ↓reduceIte, tab, tL, tI, tB, LI, NI, LLI, tLL, spL, spLI, spLL, partSp, sizeZSp, clsSp, rclsSp, hp, hv0, hfl]) | with_reducible refine xgd_intro (fun hg => ?_) (fun hg => ?_) <;> (try simp only [zh, zi, zz, reduceCtorEq] at hg) | ((with_reducible show (_ : Bool) = true); kernel_rfl) | with_reducible refine And.intro ?_ ?_ | with_reducible refine xrun_nil ?_ | with_reducible refine xtxt_nil ?_ | (refine hK' _ ?_; clear hK'; clear K') | (with_reducible intro hg; try simp only [zh, zi, zz, reduceCtorEq] at hg))) | ((with_reducible show XW _ _ _ _ (.cond _ _ _) _ _); refine XW.cond rfl (fun h => ?_) (fun h => ?_) <;> (try simp only [zh, zi, zz, reduceCtorEq] at h) <;> (try (exfalso; omega))) | ((with_reducible show XW.thn _ _ _ _); dsimp only [XW.thn]) | ((with_reducible show XW.blk _ _ _ _); simp only [XW.blk, ↓reduceIte, Nat.reduceEqDiff, Nat.zero_ne_one, Nat.one_ne_zero, ne_eq]) | ((with_reducible show retK _ _ _ _); simp only [zd, zb, zz, lk, Nat.reduceEqDiff, Nat.reduceBEq, Nat.reduceBeqDiff, reduceCtorEq, ↓reduceIte])); all_goals (try (first | omega | with_reducible exact Int.le_refl _ | (show (_ : Int) ≤ _; omega)))
  all_goals first
    | exact p2
    | exact (p2 _ (by assumption)).1
    | exact (p2 _ (by assumption)).2
    | omega
    | skip
  refine XW.loop (ι := Nat) (fun j => ⟨[(24, .dat NI (j : Int)), (23, .dat NI (p.length : Int)), (22, .dat LI p), (7, .dat NI (rnP p j)), (6, .dat NI (vP p p.sum j)), (0, .dat LI p)], [], 0, []⟩)
    (fun j => j ≤ p.length) (fun j => p.length - j) 0 [] (Nat.zero_le _) ?_ fun j hj => ?_
  · simp only [Fits, distinct, fitEnv, fitB, fitL, fitRoots, fitRT, idsOK, AV.ids, zb, zz, RT.at, RT.ty, RT.sub, RT.cut, RT.wr, getS, setT, Ty.dflt, lk, Ty.st, stV, unV, prodTV, Int.reduceToNat, Int.reduceEq, reduceCtorEq, Nat.reduceLT, Nat.reduceEqDiff, Nat.reduceAdd, Nat.reduceMul, Nat.reduceLeDiff, Nat.reduceSub, Nat.reduceBEq, Nat.reduceBNe, Nat.reduceBeqDiff, ↓reduceIte, tab, tL, tI, tB, LI, NI, LLI, tLL, spL, spLI, spLL, partSp, sizeZSp, clsSp, rclsSp]
    all_goals first | rfl | exact ⟨rfl, rfl⟩ | skip
  have hvb := vP_bound hpos hsL hsn (by omega) hj
  have hrb := rnP_bound hpos hsL hj
  by_cases hjl : j < p.length
  · have hpj := hpos _ (getD_mem 0 hjl)
    rcases j with _ | i
    · have hr := run_first hjl
      obtain ⟨v1, v2, v3, v4, v5⟩ := vP_step hpos hsL hsn (by omega) hjl hr
      have hr1 : rnP p (0 + 1) = 1 := hr
      repeat' (first | with_reducible refine XW.seq ?_ | with_reducible refine XW.block ?_ | with_reducible refine XW.skip ?_ | with_reducible refine XW.exit ?_ | with_reducible refine XW.ret ?_ | ((first | with_reducible refine XW.region hC (fun K' hK' => ?_) | with_reducible refine XW.text hC hm_ok (by kernel_rfl) (fun K' hK' => ?_)); (try simp only [List.toList_toArray]); repeat' (first | with_reducible refine xrun_cons ?_ | with_reducible refine xtxt_cons ?_ | ((first | with_reducible show xoper _ _ _ _ _ _ _ | with_reducible show xdo _ _ _ _ _ _); simp only [zd, zb, zz, RT.at, RT.ty, RT.sub, RT.cut, RT.wr, getS, setT, Ty.dflt, lk, Ty.st, stV, unV, prodTV, Int.reduceToNat, Int.reduceEq, reduceCtorEq, Nat.reduceLT, Nat.reduceEqDiff, Nat.reduceAdd, Nat.reduceMul, Nat.reduceLeDiff, Nat.reduceSub, Nat.reduceBEq, Nat.reduceBNe, Nat.reduceBeqDiff, ↓reduceIte, tab, tL, tI, tB, LI, NI, LLI, tLL, spL, spLI, spLL, partSp, sizeZSp, clsSp, rclsSp]) | with_reducible refine xgd_intro (fun hg => ?_) (fun hg => ?_) <;> (try simp only [zh, zi, zz, reduceCtorEq] at hg) | ((with_reducible show (_ : Bool) = true); kernel_rfl) | with_reducible refine And.intro ?_ ?_ | with_reducible refine xrun_nil ?_ | with_reducible refine xtxt_nil ?_ | (refine hK' _ ?_; clear hK'; clear K') | (with_reducible intro hg; try simp only [zh, zi, zz, reduceCtorEq] at hg))) | ((with_reducible show XW _ _ _ _ (.cond _ _ _) _ _); refine XW.cond rfl (fun h => ?_) (fun h => ?_) <;> (try simp only [zh, zi, zz, reduceCtorEq] at h) <;> (try (exfalso; omega))) | ((with_reducible show XW.thn _ _ _ _); dsimp only [XW.thn]) | ((with_reducible show XW.blk _ _ _ _); simp only [XW.blk, ↓reduceIte, Nat.reduceEqDiff, Nat.zero_ne_one, Nat.one_ne_zero, ne_eq]) | ((with_reducible show retK _ _ _ _); simp only [zd, zb, zz, lk, Nat.reduceEqDiff, Nat.reduceBEq, Nat.reduceBeqDiff, reduceCtorEq, ↓reduceIte])); all_goals (try (first | omega | with_reducible exact Int.le_refl _ | (show (_ : Int) ≤ _; omega)))
      all_goals first
        | (exfalso; omega)
        | omega
        | (refine ⟨0 + 1, [], by omega, by omega, ?_⟩
           rw [v1, hr1]
           simp only [Fits, distinct, fitEnv, fitB, fitL, fitRoots, fitRT, idsOK, AV.ids, zb, zz, RT.at, RT.ty, RT.sub, RT.cut, RT.wr, getS, setT, Ty.dflt, lk, Ty.st, stV, unV, prodTV, Int.reduceToNat, Int.reduceEq, reduceCtorEq, Nat.reduceLT, Nat.reduceEqDiff, Nat.reduceAdd, Nat.reduceMul, Nat.reduceLeDiff, Nat.reduceSub, Nat.reduceBEq, Nat.reduceBNe, Nat.reduceBeqDiff, ↓reduceIte, tab, tL, tI, tB, LI, NI, LLI, tLL, spL, spLI, spLL, partSp, sizeZSp, clsSp, rclsSp]
           first | done | rfl)
        | skip
    · have hci : ((i + 1 : Nat) : Int) - 1 = (i : Int) := by omega
      by_cases heq : p.getD i 0 = p.getD (i + 1) 0
      · have hr : cntP p (p.getD (i + 1) 0) (i + 1 + 1) = rnP p (i + 1) + 1 := run_same hjl heq
        obtain ⟨v1, v2, v3, v4, v5⟩ := vP_step hpos hsL hsn (by omega) hjl hr
        have hr1 : rnP p (i + 1 + 1) = rnP p (i + 1) + 1 := hr
        have hr0 : 1 ≤ rnP p (i + 1) + 1 := by omega
        repeat' (first | with_reducible refine XW.seq ?_ | with_reducible refine XW.block ?_ | with_reducible refine XW.skip ?_ | with_reducible refine XW.exit ?_ | with_reducible refine XW.ret ?_ | ((first | with_reducible refine XW.region hC (fun K' hK' => ?_) | with_reducible refine XW.text hC hm_ok (by kernel_rfl) (fun K' hK' => ?_)); (try simp only [List.toList_toArray]); repeat' (first | with_reducible refine xrun_cons ?_ | with_reducible refine xtxt_cons ?_ | ((first | with_reducible show xoper _ _ _ _ _ _ _ | with_reducible show xdo _ _ _ _ _ _); simp only [zd, zb, zz, RT.at, RT.ty, RT.sub, RT.cut, RT.wr, getS, setT, Ty.dflt, lk, Ty.st, stV, unV, prodTV, Int.reduceToNat, Int.reduceEq, reduceCtorEq, Nat.reduceLT, Nat.reduceEqDiff, Nat.reduceAdd, Nat.reduceMul, Nat.reduceLeDiff, Nat.reduceSub, Nat.reduceBEq, Nat.reduceBNe, Nat.reduceBeqDiff, ↓reduceIte, tab, tL, tI, tB, LI, NI, LLI, tLL, spL, spLI, spLL, partSp, sizeZSp, clsSp, rclsSp, hci, heq]) | with_reducible refine xgd_intro (fun hg => ?_) (fun hg => ?_) <;> (try simp only [zh, zi, zz, reduceCtorEq] at hg) | ((with_reducible show (_ : Bool) = true); kernel_rfl) | with_reducible refine And.intro ?_ ?_ | with_reducible refine xrun_nil ?_ | with_reducible refine xtxt_nil ?_ | (refine hK' _ ?_; clear hK'; clear K') | (with_reducible intro hg; try simp only [zh, zi, zz, reduceCtorEq] at hg))) | ((with_reducible show XW _ _ _ _ (.cond _ _ _) _ _); refine XW.cond rfl (fun h => ?_) (fun h => ?_) <;> (try simp only [zh, zi, zz, reduceCtorEq] at h) <;> (try (exfalso; omega))) | ((with_reducible show XW.thn _ _ _ _); dsimp only [XW.thn]) | ((with_reducible show XW.blk _ _ _ _); simp only [XW.blk, ↓reduceIte, Nat.reduceEqDiff, Nat.zero_ne_one, Nat.one_ne_zero, ne_eq]) | ((with_reducible show retK _ _ _ _); simp only [zd, zb, zz, lk, Nat.reduceEqDiff, Nat.reduceBEq, Nat.reduceBeqDiff, reduceCtorEq, ↓reduceIte])); all_goals (try (first | omega | with_reducible exact Int.le_refl _ | (show (_ : Int) ≤ _; omega)))
        all_goals first
          | (exfalso; omega)
          | omega
          | (refine ⟨i + 1 + 1, [], by omega, by omega, ?_⟩
             rw [v1, hr1]
             simp only [Fits, distinct, fitEnv, fitB, fitL, fitRoots, fitRT, idsOK, AV.ids, zb, zz, RT.at, RT.ty, RT.sub, RT.cut, RT.wr, getS, setT, Ty.dflt, lk, Ty.st, stV, unV, prodTV, Int.reduceToNat, Int.reduceEq, reduceCtorEq, Nat.reduceLT, Nat.reduceEqDiff, Nat.reduceAdd, Nat.reduceMul, Nat.reduceLeDiff, Nat.reduceSub, Nat.reduceBEq, Nat.reduceBNe, Nat.reduceBeqDiff, ↓reduceIte, tab, tL, tI, tB, LI, NI, LLI, tLL, spL, spLI, spLL, partSp, sizeZSp, clsSp, rclsSp]
             first | done | rfl)
          | skip
      · have hlt : ∀ i', i' < i + 1 → p.getD (i + 1) 0 < p.getD i' 0 := fun i' hi' => by
          have a1 := part_fall hps (i := i) (j := i + 1) (by omega) hjl
          have a2 := part_fall hps (i := i') (j := i) (by omega) (by omega)
          omega
        have hr : cntP p (p.getD (i + 1) 0) (i + 1 + 1) = 1 := run_new hjl hlt
        obtain ⟨v1, v2, v3, v4, v5⟩ := vP_step hpos hsL hsn (by omega) hjl hr
        have hr1 : rnP p (i + 1 + 1) = 1 := hr
        repeat' (first | with_reducible refine XW.seq ?_ | with_reducible refine XW.block ?_ | with_reducible refine XW.skip ?_ | with_reducible refine XW.exit ?_ | with_reducible refine XW.ret ?_ | ((first | with_reducible refine XW.region hC (fun K' hK' => ?_) | with_reducible refine XW.text hC hm_ok (by kernel_rfl) (fun K' hK' => ?_)); (try simp only [List.toList_toArray]); repeat' (first | with_reducible refine xrun_cons ?_ | with_reducible refine xtxt_cons ?_ | ((first | with_reducible show xoper _ _ _ _ _ _ _ | with_reducible show xdo _ _ _ _ _ _); simp only [zd, zb, zz, RT.at, RT.ty, RT.sub, RT.cut, RT.wr, getS, setT, Ty.dflt, lk, Ty.st, stV, unV, prodTV, Int.reduceToNat, Int.reduceEq, reduceCtorEq, Nat.reduceLT, Nat.reduceEqDiff, Nat.reduceAdd, Nat.reduceMul, Nat.reduceLeDiff, Nat.reduceSub, Nat.reduceBEq, Nat.reduceBNe, Nat.reduceBeqDiff, ↓reduceIte, tab, tL, tI, tB, LI, NI, LLI, tLL, spL, spLI, spLL, partSp, sizeZSp, clsSp, rclsSp, hci]) | with_reducible refine xgd_intro (fun hg => ?_) (fun hg => ?_) <;> (try simp only [zh, zi, zz, reduceCtorEq] at hg) | ((with_reducible show (_ : Bool) = true); kernel_rfl) | with_reducible refine And.intro ?_ ?_ | with_reducible refine xrun_nil ?_ | with_reducible refine xtxt_nil ?_ | (refine hK' _ ?_; clear hK'; clear K') | (with_reducible intro hg; try simp only [zh, zi, zz, reduceCtorEq] at hg))) | ((with_reducible show XW _ _ _ _ (.cond _ _ _) _ _); refine XW.cond rfl (fun h => ?_) (fun h => ?_) <;> (try simp only [zh, zi, zz, reduceCtorEq] at h) <;> (try (exfalso; omega))) | ((with_reducible show XW.thn _ _ _ _); dsimp only [XW.thn]) | ((with_reducible show XW.blk _ _ _ _); simp only [XW.blk, ↓reduceIte, Nat.reduceEqDiff, Nat.zero_ne_one, Nat.one_ne_zero, ne_eq]) | ((with_reducible show retK _ _ _ _); simp only [zd, zb, zz, lk, Nat.reduceEqDiff, Nat.reduceBEq, Nat.reduceBeqDiff, reduceCtorEq, ↓reduceIte])); all_goals (try (first | omega | with_reducible exact Int.le_refl _ | (show (_ : Int) ≤ _; omega)))
        all_goals first
          | (exfalso; omega)
          | omega
          | exact absurd (by assumption) heq
          | (refine ⟨i + 1 + 1, [], by omega, by omega, ?_⟩
             rw [v1, hr1]
             simp only [Fits, distinct, fitEnv, fitB, fitL, fitRoots, fitRT, idsOK, AV.ids, zb, zz, RT.at, RT.ty, RT.sub, RT.cut, RT.wr, getS, setT, Ty.dflt, lk, Ty.st, stV, unV, prodTV, Int.reduceToNat, Int.reduceEq, reduceCtorEq, Nat.reduceLT, Nat.reduceEqDiff, Nat.reduceAdd, Nat.reduceMul, Nat.reduceLeDiff, Nat.reduceSub, Nat.reduceBEq, Nat.reduceBNe, Nat.reduceBeqDiff, ↓reduceIte, tab, tL, tI, tB, LI, NI, LLI, tLL, spL, spLI, spLL, partSp, sizeZSp, clsSp, rclsSp]
             first | done | rfl)
          | skip
  · obtain rfl : j = p.length := by omega
    repeat' (first | with_reducible refine XW.seq ?_ | with_reducible refine XW.block ?_ | with_reducible refine XW.skip ?_ | with_reducible refine XW.exit ?_ | with_reducible refine XW.ret ?_ | ((first | with_reducible refine XW.region hC (fun K' hK' => ?_) | with_reducible refine XW.text hC hm_ok (by kernel_rfl) (fun K' hK' => ?_)); (try simp only [List.toList_toArray]); repeat' (first | with_reducible refine xrun_cons ?_ | with_reducible refine xtxt_cons ?_ | ((first | with_reducible show xoper _ _ _ _ _ _ _ | with_reducible show xdo _ _ _ _ _ _); simp only [zd, zb, zz, RT.at, RT.ty, RT.sub, RT.cut, RT.wr, getS, setT, Ty.dflt, lk, Ty.st, stV, unV, prodTV, Int.reduceToNat, Int.reduceEq, reduceCtorEq, Nat.reduceLT, Nat.reduceEqDiff, Nat.reduceAdd, Nat.reduceMul, Nat.reduceLeDiff, Nat.reduceSub, Nat.reduceBEq, Nat.reduceBNe, Nat.reduceBeqDiff, ↓reduceIte, tab, tL, tI, tB, LI, NI, LLI, tLL, spL, spLI, spLL, partSp, sizeZSp, clsSp, rclsSp]) | with_reducible refine xgd_intro (fun hg => ?_) (fun hg => ?_) <;> (try simp only [zh, zi, zz, reduceCtorEq] at hg) | ((with_reducible show (_ : Bool) = true); kernel_rfl) | with_reducible refine And.intro ?_ ?_ | with_reducible refine xrun_nil ?_ | with_reducible refine xtxt_nil ?_ | (refine hK' _ ?_; clear hK'; clear K') | (with_reducible intro hg; try simp only [zh, zi, zz, reduceCtorEq] at hg))) | ((with_reducible show XW _ _ _ _ (.cond _ _ _) _ _); refine XW.cond rfl (fun h => ?_) (fun h => ?_) <;> (try simp only [zh, zi, zz, reduceCtorEq] at h) <;> (try (exfalso; omega))) | ((with_reducible show XW.thn _ _ _ _); dsimp only [XW.thn]) | ((with_reducible show XW.blk _ _ _ _); simp only [XW.blk, ↓reduceIte, Nat.reduceEqDiff, Nat.zero_ne_one, Nat.one_ne_zero, ne_eq]) | ((with_reducible show retK _ _ _ _); simp only [zd, zb, zz, lk, Nat.reduceEqDiff, Nat.reduceBEq, Nat.reduceBeqDiff, reduceCtorEq, ↓reduceIte])); all_goals (try (first | omega | with_reducible exact Int.le_refl _ | (show (_ : Int) ≤ _; omega)))
    all_goals first
      | exact hk
      | (exfalso; omega)
      | skip

theorem facR_succ (i : Nat) : prodR (fun i => (i : Int) + 2) (i + 1) = prodR (fun i => (i : Int) + 2) i * ((i : Int) + 2) := rfl
theorem zrow_succ {p : List Int} {k : Int} {j : Nat} : prodR (zrow p k) (j + 1) = prodR (zrow p k) j * zrow p k j := rfl
theorem zall_succ {p : List Int} {k : Nat} : zall p (k + 1) = zall p k * prodR (zrow p ((k : Int) + 1)) p.length := rfl

set_option maxRecDepth 10000 in
theorem rcls_ok : FnOK Tryd.prog 13 rclsSp := by
  have hC : ∀ {w0 : World} {S0 : Nat → Prop}, CtxOK Tryd.prog ⟨44, tab, fun f => lk [(10, sizeZSp)] f, fun f => lk [] f, fun f => lk [] f, fun f => lk [] f, fun f => lk [] f, fun f => lk [] f⟩ w0 S0 := ctx_ok ⟨sizeZ_ok, trivial⟩ trivial trivial trivial trivial
  refine FnOK_of (C := ⟨44, tab, fun f => lk [(10, sizeZSp)] f, fun f => lk [] f, fun f => lk [] f, fun f => lk [] f, fun f => lk [] f, fun f => lk [] f⟩) 13 Tryd.f13 _ [2] rclsSp Tryd.func13 rfl (by decide) rfl rfl (Nat.le_of_ble_eq_true rfl) fun args K ht hK w0 => ?_
  obtain ⟨p, rfl, ⟨hps, hsL⟩, hk⟩ := at_L (f := fun p K => (PartS p ∧ sumL p ≤ 12) ∧ K [tI (clsV p)]) ht hK
  have hpos := hps.pt.pos
  have hln := sumL_pos hpos
  have p1 : p.length ≤ 1000 := by omega
  have p2 : ∀ x ∈ p, -1000000 ≤ x ∧ x ≤ 1000000 := fun x hx => by
    have a1 := hpos x hx
    have a2 := sumL_le hpos x hx
    omega
  obtain ⟨n, hn⟩ : ∃ n : Nat, p.sum = (n : Int) := ⟨(sumL p).toNat, by rw [← sumL_sum]; omega⟩
  have hn12 : n ≤ 12 := by rw [sumL_sum] at hsL; omega
  have hcv : clsV p = Int.tdiv (prodR (fun i => (i : Int) + 2) (n - 1)) (zall p 12) := by
    have a1 := (facR_bound (m := n - 1) (by omega)).1
    have a2 := facs_eq n hn12
    rw [Int.tdiv_eq_ediv_of_nonneg (by omega), zall_eq hpos hsL]
    unfold clsV
    rw [sumL_sum, hn, Int.toNat_natCast, a2]
    rfl
  rw [hcv] at hk
  obtain ⟨F, hF⟩ : ∃ F, prodR (fun i => (i : Int) + 2) (n - 1) = F := ⟨_, rfl⟩
  have hFb := facR_bound (m := n - 1) (by omega)
  rw [hF] at hk hFb
  repeat' (first | with_reducible refine XW.seq ?_ | with_reducible refine XW.block ?_ | with_reducible refine XW.skip ?_ | with_reducible refine XW.exit ?_ | with_reducible refine XW.ret ?_ | ((first | with_reducible refine XW.region hC (fun K' hK' => ?_) | with_reducible refine XW.text hC hm_ok (by kernel_rfl) (fun K' hK' => ?_)); (try simp only [List.toList_toArray]); repeat' (first | with_reducible refine xrun_cons ?_ | with_reducible refine xtxt_cons ?_ | ((first | with_reducible show xoper _ _ _ _ _ _ _ | with_reducible show xdo _ _ _ _ _ _); simp only [zd, zb, zz, RT.at, RT.ty, RT.sub, RT.cut, RT.wr, getS, setT, Ty.dflt, lk, Ty.st, stV, unV, prodTV, Int.reduceToNat, Int.reduceEq, reduceCtorEq, Nat.reduceLT, Nat.reduceEqDiff, Nat.reduceAdd, Nat.reduceMul, Nat.reduceLeDiff, Nat.reduceSub, Nat.reduceBEq, Nat.reduceBNe, Nat.reduceBeqDiff, ↓reduceIte, tab, tL, tI, tB, LI, NI, LLI, tLL, spL, spLI, spLL, partSp, sizeZSp, clsSp, rclsSp]) | with_reducible refine xgd_intro (fun hg => ?_) (fun hg => ?_) <;> (try simp only [zh, zi, zz, reduceCtorEq] at hg) | ((with_reducible show (_ : Bool) = true); kernel_rfl) | with_reducible refine And.intro ?_ ?_ | with_reducible refine xrun_nil ?_ | with_reducible refine xtxt_nil ?_ | (refine hK' _ ?_; clear hK'; clear K') | (with_reducible intro hg; try simp only [zh, zi, zz, reduceCtorEq] at hg))) | ((with_reducible show XW _ _ _ _ (.cond _ _ _) _ _); refine XW.cond rfl (fun h => ?_) (fun h => ?_) <;> (try simp only [zh, zi, zz, reduceCtorEq] at h) <;> (try (exfalso; omega))) | ((with_reducible show XW.thn _ _ _ _); dsimp only [XW.thn]) | ((with_reducible show XW.blk _ _ _ _); simp only [XW.blk, ↓reduceIte, Nat.reduceEqDiff, Nat.zero_ne_one, Nat.one_ne_zero, ne_eq]) | ((with_reducible show retK _ _ _ _); simp only [zd, zb, zz, lk, Nat.reduceEqDiff, Nat.reduceBEq, Nat.reduceBeqDiff, reduceCtorEq, ↓reduceIte])); all_goals (try (first | omega | with_reducible exact Int.le_refl _ | (show (_ : Int) ≤ _; omega)))
  refine XW.loop (ι := Nat) (fun i => ⟨[(5, .dat NI ((i : Int) + 2)), (4, .dat NI 1), (3, .dat NI (prodR (fun i => (i : Int) + 2) i)), (0, .dat LI p)], [], 0, []⟩)
    (fun i => i = 0 ∨ i + 1 ≤ n) (fun i => n - i) 0 [] (Or.inl rfl) ?_ fun i hi => ?_
  · simp only [Fits, distinct, fitEnv, fitB, fitL, fitRoots, fitRT, idsOK, AV.ids, zb, zz, RT.at, RT.ty, RT.sub, RT.cut, RT.wr, getS, setT, Ty.dflt, lk, Ty.st, stV, unV, prodTV, Int.reduceToNat, Int.reduceEq, reduceCtorEq, Nat.reduceLT, Nat.reduceEqDiff, Nat.reduceAdd, Nat.reduceMul, Nat.reduceLeDiff, Nat.reduceSub, Nat.reduceBEq, Nat.reduceBNe, Nat.reduceBeqDiff, ↓reduceIte, tab, tL, tI, tB, LI, NI, LLI, tLL, spL, spLI, spLL, partSp, sizeZSp, clsSp, rclsSp]
    all_goals first | rfl | exact ⟨rfl, rfl⟩ | skip
  have hib := facR_bound (m := i) (by omega)
  by_cases hil : i + 2 ≤ n
  · have hib1 := facR_bound (m := i + 1) (by omega)
    rw [facR_succ] at hib1
    have hie : ((i + 1 : Nat) : Int) + 2 = (i : Int) + 2 + 1 := by omega
    repeat' (first | with_reducible refine XW.seq ?_ | with_reducible refine XW.block ?_ | with_reducible refine XW.skip ?_ | with_reducible refine XW.exit ?_ | with_reducible refine XW.ret ?_ | ((first | with_reducible refine XW.region hC (fun K' hK' => ?_) | with_reducible refine XW.text hC hm_ok (by kernel_rfl) (fun K' hK' => ?_)); (try simp only [List.toList_toArray]); repeat' (first | with_reducible refine xrun_cons ?_ | with_reducible refine xtxt_cons ?_ | ((first | with_reducible show xoper _ _ _ _ _ _ _ | with_reducible show xdo _ _ _ _ _ _); simp only [zd, zb, zz, RT.at, RT.ty, RT.sub, RT.cut, RT.wr, getS, setT, Ty.dflt, lk, Ty.st, stV, unV, prodTV, Int.reduceToNat, Int.reduceEq, reduceCtorEq, Nat.reduceLT, Nat.reduceEqDiff, Nat.reduceAdd, Nat.reduceMul, Nat.reduceLeDiff, Nat.reduceSub, Nat.reduceBEq, Nat.reduceBNe, Nat.reduceBeqDiff, ↓reduceIte, tab, tL, tI, tB, LI, NI, LLI, tLL, spL, spLI, spLL, partSp, sizeZSp, clsSp, rclsSp, hn]) | with_reducible refine xgd_intro (fun hg => ?_) (fun hg => ?_) <;> (try simp only [zh, zi, zz, reduceCtorEq] at hg) | ((with_reducible show (_ : Bool) = true); kernel_rfl) | with_reducible refine And.intro ?_ ?_ | with_reducible refine xrun_nil ?_ | with_reducible refine xtxt_nil ?_ | (refine hK' _ ?_; clear hK'; clear K') | (with_reducible intro hg; try simp only [zh, zi, zz, reduceCtorEq] at hg))) | ((with_reducible show XW _ _ _ _ (.cond _ _ _) _ _); refine XW.cond rfl (fun h => ?_) (fun h => ?_) <;> (try simp only [zh, zi, zz, reduceCtorEq] at h) <;> (try (exfalso; omega))) | ((with_reducible show XW.thn _ _ _ _); dsimp only [XW.thn]) | ((with_reducible show XW.blk _ _ _ _); simp only [XW.blk, ↓reduceIte, Nat.reduceEqDiff, Nat.zero_ne_one, Nat.one_ne_zero, ne_eq]) | ((with_reducible show retK _ _ _ _); simp only [zd, zb, zz, lk, Nat.reduceEqDiff, Nat.reduceBEq, Nat.reduceBeqDiff, reduceCtorEq, ↓reduceIte])); all_goals (try (first | omega | with_reducible exact Int.le_refl _ | (show (_ : Int) ≤ _; omega)))
    all_goals first
      | exact p2
      | exact (p2 _ (by assumption)).1
      | exact (p2 _ (by assumption)).2
      | (exfalso; omega)
      | omega
      | (refine ⟨i + 1, [], by omega, by omega, ?_⟩
         rw [facR_succ, hie]
         simp only [Fits, distinct, fitEnv, fitB, fitL, fitRoots, fitRT, idsOK, AV.ids, zb, zz, RT.at, RT.ty, RT.sub, RT.cut, RT.wr, getS, setT, Ty.dflt, lk, Ty.st, stV, unV, prodTV, Int.reduceToNat, Int.reduceEq, reduceCtorEq, Nat.reduceLT, Nat.reduceEqDiff, Nat.reduceAdd, Nat.reduceMul, Nat.reduceLeDiff, Nat.reduceSub, Nat.reduceBEq, Nat.reduceBNe, Nat.reduceBeqDiff, ↓reduceIte, tab, tL, tI, tB, LI, NI, LLI, tLL, spL, spLI, spLL, partSp, sizeZSp, clsSp, rclsSp]
         first | done | rfl)
      | skip
  have hiF : prodR (fun i => (i : Int) + 2) i = F := by
    rw [← hF, show i = n - 1 by omega]
  rw [hiF]
  repeat' (first | with_reducible refine XW.seq ?_ | with_reducible refine XW.block ?_ | with_reducible refine XW.skip ?_ | with_reducible refine XW.exit ?_ | with_reducible refine XW.ret ?_ | ((first | with_reducible refine XW.region hC (fun K' hK' => ?_) | with_reducible refine XW.text hC hm_ok (by kernel_rfl) (fun K' hK' => ?_)); (try simp only [List.toList_toArray]); repeat' (first | with_reducible refine xrun_cons ?_ | with_reducible refine xtxt_cons ?_ | ((first | with_reducible show xoper _ _ _ _ _ _ _ | with_reducible show xdo _ _ _ _ _ _); simp only [zd, zb, zz, RT.at, RT.ty, RT.sub, RT.cut, RT.wr, getS, setT, Ty.dflt, lk, Ty.st, stV, unV, prodTV, Int.reduceToNat, Int.reduceEq, reduceCtorEq, Nat.reduceLT, Nat.reduceEqDiff, Nat.reduceAdd, Nat.reduceMul, Nat.reduceLeDiff, Nat.reduceSub, Nat.reduceBEq, Nat.reduceBNe, Nat.reduceBeqDiff, ↓reduceIte, tab, tL, tI, tB, LI, NI, LLI, tLL, spL, spLI, spLL, partSp, sizeZSp, clsSp, rclsSp, hn]) | with_reducible refine xgd_intro (fun hg => ?_) (fun hg => ?_) <;> (try simp only [zh, zi, zz, reduceCtorEq] at hg) | ((with_reducible show (_ : Bool) = true); kernel_rfl) | with_reducible refine And.intro ?_ ?_ | with_reducible refine xrun_nil ?_ | with_reducible refine xtxt_nil ?_ | (refine hK' _ ?_; clear hK'; clear K') | (with_reducible intro hg; try simp only [zh, zi, zz, reduceCtorEq] at hg))) | ((with_reducible show XW _ _ _ _ (.cond _ _ _) _ _); refine XW.cond rfl (fun h => ?_) (fun h => ?_) <;> (try simp only [zh, zi, zz, reduceCtorEq] at h) <;> (try (exfalso; omega))) | ((with_reducible show XW.thn _ _ _ _); dsimp only [XW.thn]) | ((with_reducible show XW.blk _ _ _ _); simp only [XW.blk, ↓reduceIte, Nat.reduceEqDiff, Nat.zero_ne_one, Nat.one_ne_zero, ne_eq]) | ((with_reducible show retK _ _ _ _); simp only [zd, zb, zz, lk, Nat.reduceEqDiff, Nat.reduceBEq, Nat.reduceBeqDiff, reduceCtorEq, ↓reduceIte])); all_goals (try (first | omega | with_reducible exact Int.le_refl _ | (show (_ : Int) ≤ _; omega)))
  all_goals first
    | exact p2
    | exact (p2 _ (by assumption)).1
    | exact (p2 _ (by assumption)).2
    | (exfalso; omega)
    | omega
    | skip
  refine XW.loop (ι := Nat) (fun k => ⟨[(6, .dat NI ((k : Int) + 1)), (4, .dat NI (zall p k)), (3, .dat NI F), (0, .dat LI p)], [], 0, []⟩)
    (fun k => k ≤ 12) (fun k => 12 - k) 0 [] (Nat.zero_le _) ?_ fun k hk12 => ?_
  · simp only [Fits, distinct, fitEnv, fitB, fitL, fitRoots, fitRT, idsOK, AV.ids, zb, zz, RT.at, RT.ty, RT.sub, RT.cut, RT.wr, getS, setT, Ty.dflt, lk, Ty.st, stV, unV, prodTV, Int.reduceToNat, Int.reduceEq, reduceCtorEq, Nat.reduceLT, Nat.reduceEqDiff, Nat.reduceAdd, Nat.reduceMul, Nat.reduceLeDiff, Nat.reduceSub, Nat.reduceBEq, Nat.reduceBNe, Nat.reduceBeqDiff, ↓reduceIte, tab, tL, tI, tB, LI, NI, LLI, tLL, spL, spLI, spLL, partSp, sizeZSp, clsSp, rclsSp]
    all_goals first | rfl | exact ⟨rfl, rfl⟩ | skip
  by_cases hkl : k < 12
  rotate_left
  · obtain rfl : k = 12 := by omega
    have hz := zden_bound hpos hsL (Nat.le_refl _)
    rw [← zall_eq hpos hsL] at hz
    have hq1 : Int.tdiv F (zall p 12) = F / zall p 12 := Int.tdiv_eq_ediv_of_nonneg (by omega)
    have hq2 : 0 ≤ F / zall p 12 := Int.ediv_nonneg (by omega) (by omega)
    have hq3 : F / zall p 12 ≤ F := Int.ediv_le_self _ (by omega)
    repeat' (first | with_reducible refine XW.seq ?_ | with_reducible refine XW.block ?_ | with_reducible refine XW.skip ?_ | with_reducible refine XW.exit ?_ | with_reducible refine XW.ret ?_ | ((first | with_reducible refine XW.region hC (fun K' hK' => ?_) | with_reducible refine XW.text hC hm_ok (by kernel_rfl) (fun K' hK' => ?_)); (try simp only [List.toList_toArray]); repeat' (first | with_reducible refine xrun_cons ?_ | with_reducible refine xtxt_cons ?_ | ((first | with_reducible show xoper _ _ _ _ _ _ _ | with_reducible show xdo _ _ _ _ _ _); simp only [zd, zb, zz, RT.at, RT.ty, RT.sub, RT.cut, RT.wr, getS, setT, Ty.dflt, lk, Ty.st, stV, unV, prodTV, Int.reduceToNat, Int.reduceEq, reduceCtorEq, Nat.reduceLT, Nat.reduceEqDiff, Nat.reduceAdd, Nat.reduceMul, Nat.reduceLeDiff, Nat.reduceSub, Nat.reduceBEq, Nat.reduceBNe, Nat.reduceBeqDiff, ↓reduceIte, tab, tL, tI, tB, LI, NI, LLI, tLL, spL, spLI, spLL, partSp, sizeZSp, clsSp, rclsSp]) | with_reducible refine xgd_intro (fun hg => ?_) (fun hg => ?_) <;> (try simp only [zh, zi, zz, reduceCtorEq] at hg) | ((with_reducible show (_ : Bool) = true); kernel_rfl) | with_reducible refine And.intro ?_ ?_ | with_reducible refine xrun_nil ?_ | with_reducible refine xtxt_nil ?_ | (refine hK' _ ?_; clear hK'; clear K') | (with_reducible intro hg; try simp only [zh, zi, zz, reduceCtorEq] at hg))) | ((with_reducible show XW _ _ _ _ (.cond _ _ _) _ _); refine XW.cond rfl (fun h => ?_) (fun h => ?_) <;> (try simp only [zh, zi, zz, reduceCtorEq] at h) <;> (try (exfalso; omega))) | ((with_reducible show XW.thn _ _ _ _); dsimp only [XW.thn]) | ((with_reducible show XW.blk _ _ _ _); simp only [XW.blk, ↓reduceIte, Nat.reduceEqDiff, Nat.zero_ne_one, Nat.one_ne_zero, ne_eq]) | ((with_reducible show retK _ _ _ _); simp only [zd, zb, zz, lk, Nat.reduceEqDiff, Nat.reduceBEq, Nat.reduceBeqDiff, reduceCtorEq, ↓reduceIte])); all_goals (try (first | omega | with_reducible exact Int.le_refl _ | (show (_ : Int) ≤ _; omega)))
    all_goals first
      | exact hk
      | (exfalso; omega)
      | omega
      | skip
  repeat' (first | with_reducible refine XW.seq ?_ | with_reducible refine XW.block ?_ | with_reducible refine XW.skip ?_ | with_reducible refine XW.exit ?_ | with_reducible refine XW.ret ?_ | ((first | with_reducible refine XW.region hC (fun K' hK' => ?_) | with_reducible refine XW.text hC hm_ok (by kernel_rfl) (fun K' hK' => ?_)); (try simp only [List.toList_toArray]); repeat' (first | with_reducible refine xrun_cons ?_ | with_reducible refine xtxt_cons ?_ | ((first | with_reducible show xoper _ _ _ _ _ _ _ | with_reducible show xdo _ _ _ _ _ _); simp only [zd, zb, zz, RT.at, RT.ty, RT.sub, RT.cut, RT.wr, getS, setT, Ty.dflt, lk, Ty.st, stV, unV, prodTV, Int.reduceToNat, Int.reduceEq, reduceCtorEq, Nat.reduceLT, Nat.reduceEqDiff, Nat.reduceAdd, Nat.reduceMul, Nat.reduceLeDiff, Nat.reduceSub, Nat.reduceBEq, Nat.reduceBNe, Nat.reduceBeqDiff, ↓reduceIte, tab, tL, tI, tB, LI, NI, LLI, tLL, spL, spLI, spLL, partSp, sizeZSp, clsSp, rclsSp]) | with_reducible refine xgd_intro (fun hg => ?_) (fun hg => ?_) <;> (try simp only [zh, zi, zz, reduceCtorEq] at hg) | ((with_reducible show (_ : Bool) = true); kernel_rfl) | with_reducible refine And.intro ?_ ?_ | with_reducible refine xrun_nil ?_ | with_reducible refine xtxt_nil ?_ | (refine hK' _ ?_; clear hK'; clear K') | (with_reducible intro hg; try simp only [zh, zi, zz, reduceCtorEq] at hg))) | ((with_reducible show XW _ _ _ _ (.cond _ _ _) _ _); refine XW.cond rfl (fun h => ?_) (fun h => ?_) <;> (try simp only [zh, zi, zz, reduceCtorEq] at h) <;> (try (exfalso; omega))) | ((with_reducible show XW.thn _ _ _ _); dsimp only [XW.thn]) | ((with_reducible show XW.blk _ _ _ _); simp only [XW.blk, ↓reduceIte, Nat.reduceEqDiff, Nat.zero_ne_one, Nat.one_ne_zero, ne_eq]) | ((with_reducible show retK _ _ _ _); simp only [zd, zb, zz, lk, Nat.reduceEqDiff, Nat.reduceBEq, Nat.reduceBeqDiff, reduceCtorEq, ↓reduceIte])); all_goals (try (first | omega | with_reducible exact Int.le_refl _ | (show (_ : Int) ≤ _; omega)))
  all_goals first
    | (exfalso; omega)
    | omega
    | skip
  refine XW.loop (ι := Nat) (fun j => ⟨[(8, .dat NI (j : Int)), (7, .dat NI (cntP p ((k : Int) + 1) j)), (6, .dat NI ((k : Int) + 1)), (4, .dat NI (zall p k * prodR (zrow p ((k : Int) + 1)) j)), (3, .dat NI F), (0, .dat LI p)], [], 0, []⟩)
    (fun j => j ≤ p.length) (fun j => p.length - j) 0 [] (Nat.zero_le _) ?_ fun j hj => ?_
  · simp only [Fits, distinct, fitEnv, fitB, fitL, fitRoots, fitRT, idsOK, AV.ids, zb, zz, RT.at, RT.ty, RT.sub, RT.cut, RT.wr, getS, setT, Ty.dflt, lk, Ty.st, stV, unV, prodTV, Int.reduceToNat, Int.reduceEq, reduceCtorEq, Nat.reduceLT, Nat.reduceEqDiff, Nat.reduceAdd, Nat.reduceMul, Nat.reduceLeDiff, Nat.reduceSub, Nat.reduceBEq, Nat.reduceBNe, Nat.reduceBeqDiff, ↓reduceIte, tab, tL, tI, tB, LI, NI, LLI, tLL, spL, spLI, spLL, partSp, sizeZSp, clsSp, rclsSp]
    all_goals first | rfl | exact ⟨rfl, rfl⟩ | (exact ⟨rfl, (Int.mul_one _).symm⟩) | (exact (Int.mul_one _).symm) | skip
  have hzb := zall_bound hpos hsL hkl hj
  have hcm := cntP_mono (p := p) (k := (k : Int) + 1) (j := j)
  have hcl := cntP_le (p := p) (k := (k : Int) + 1) (j := j) hpos
  have hc1 := Int.mul_le_mul (show 1 ≤ (k : Int) + 1 by omega) (Int.le_refl (cntP p ((k : Int) + 1) j)) hcm (by omega)
  by_cases hjl : j < p.length
  rotate_left
  · obtain rfl : j = p.length := by omega
    rw [← zall_succ]
    have hke : ((k + 1 : Nat) : Int) + 1 = (k : Int) + 1 + 1 := by omega
    repeat' (first | with_reducible refine XW.seq ?_ | with_reducible refine XW.block ?_ | with_reducible refine XW.skip ?_ | with_reducible refine XW.exit ?_ | with_reducible refine XW.ret ?_ | ((first | with_reducible refine XW.region hC (fun K' hK' => ?_) | with_reducible refine XW.text hC hm_ok (by kernel_rfl) (fun K' hK' => ?_)); (try simp only [List.toList_toArray]); repeat' (first | with_reducible refine xrun_cons ?_ | with_reducible refine xtxt_cons ?_ | ((first | with_reducible show xoper _ _ _ _ _ _ _ | with_reducible show xdo _ _ _ _ _ _); simp only [zd, zb, zz, RT.at, RT.ty, RT.sub, RT.cut, RT.wr, getS, setT, Ty.dflt, lk, Ty.st, stV, unV, prodTV, Int.reduceToNat, Int.reduceEq, reduceCtorEq, Nat.reduceLT, Nat.reduceEqDiff, Nat.reduceAdd, Nat.reduceMul, Nat.reduceLeDiff, Nat.reduceSub, Nat.reduceBEq, Nat.reduceBNe, Nat.reduceBeqDiff, ↓reduceIte, tab, tL, tI, tB, LI, NI, LLI, tLL, spL, spLI, spLL, partSp, sizeZSp, clsSp, rclsSp]) | with_reducible refine xgd_intro (fun hg => ?_) (fun hg => ?_) <;> (try simp only [zh, zi, zz, reduceCtorEq] at hg) | ((with_reducible show (_ : Bool) = true); kernel_rfl) | with_reducible refine And.intro ?_ ?_ | with_reducible refine xrun_nil ?_ | with_reducible refine xtxt_nil ?_ | (refine hK' _ ?_; clear hK'; clear K') | (with_reducible intro hg; try simp only [zh, zi, zz, reduceCtorEq] at hg))) | ((with_reducible show XW _ _ _ _ (.cond _ _ _) _ _); refine XW.cond rfl (fun h => ?_) (fun h => ?_) <;> (try simp only [zh, zi, zz, reduceCtorEq] at h) <;> (try (exfalso; omega))) | ((with_reducible show XW.thn _ _ _ _); dsimp only [XW.thn]) | ((with_reducible show XW.blk _ _ _ _); simp only [XW.blk, ↓reduceIte, Nat.reduceEqDiff, Nat.zero_ne_one, Nat.one_ne_zero, ne_eq]) | ((with_reducible show retK _ _ _ _); simp only [zd, zb, zz, lk, Nat.reduceEqDiff, Nat.reduceBEq, Nat.reduceBeqDiff, reduceCtorEq, ↓reduceIte])); all_goals (try (first | omega | with_reducible exact Int.le_refl _ | (show (_ : Int) ≤ _; omega)))
    all_goals first
      | (exfalso; omega)
      | omega
      | (refine ⟨k + 1, [], by omega, by omega, ?_⟩
         rw [hke]
         simp only [Fits, distinct, fitEnv, fitB, fitL, fitRoots, fitRT, idsOK, AV.ids, zb, zz, RT.at, RT.ty, RT.sub, RT.cut, RT.wr, getS, setT, Ty.dflt, lk, Ty.st, stV, unV, prodTV, Int.reduceToNat, Int.reduceEq, reduceCtorEq, Nat.reduceLT, Nat.reduceEqDiff, Nat.reduceAdd, Nat.reduceMul, Nat.reduceLeDiff, Nat.reduceSub, Nat.reduceBEq, Nat.reduceBNe, Nat.reduceBeqDiff, ↓reduceIte, tab, tL, tI, tB, LI, NI, LLI, tLL, spL, spLI, spLL, partSp, sizeZSp, clsSp, rclsSp]
         first | done | rfl)
      | skip
  have hje : ((j + 1 : Nat) : Int) = (j : Int) + 1 := by omega
  have hzb1 := zall_bound hpos hsL hkl (show j + 1 ≤ p.length by omega)
  rw [zrow_succ, ← Int.mul_assoc] at hzb1
  by_cases heq : p.getD j 0 = (k : Int) + 1
  · have hcs : cntP p ((k : Int) + 1) (j + 1) = cntP p ((k : Int) + 1) j + 1 := by rw [cntP_succ hjl, if_pos heq]
    have hzs : zrow p ((k : Int) + 1) j = ((k : Int) + 1) * (cntP p ((k : Int) + 1) j + 1) := by unfold zrow; rw [if_pos heq, hcs]
    have hcl1 := cntP_le (p := p) (k := (k : Int) + 1) (j := j + 1) hpos
    rw [hcs] at hcl1
    have hc0 : 0 ≤ ((k : Int) + 1) * (cntP p ((k : Int) + 1) j + 1) := Int.mul_nonneg (by omega) (by omega)
    rw [hzs] at hzb1
    have hz1 : zall p k * prodR (zrow p ((k : Int) + 1)) (j + 1) = zall p k * prodR (zrow p ((k : Int) + 1)) j * (((k : Int) + 1) * (cntP p ((k : Int) + 1) j + 1)) := by
      rw [zrow_succ, hzs, ← Int.mul_assoc (zall p k)]
    repeat' (first | with_reducible refine XW.seq ?_ | with_reducible refine XW.block ?_ | with_reducible refine XW.skip ?_ | with_reducible refine XW.exit ?_ | with_reducible refine XW.ret ?_ | ((first | with_reducible refine XW.region hC (fun K' hK' => ?_) | with_reducible refine XW.text hC hm_ok (by kernel_rfl) (fun K' hK' => ?_)); (try simp only [List.toList_toArray]); repeat' (first | with_reducible refine xrun_cons ?_ | with_reducible refine xtxt_cons ?_ | ((first | with_reducible show xoper _ _ _ _ _ _ _ | with_reducible show xdo _ _ _ _ _ _); simp only [zd, zb, zz, RT.at, RT.ty, RT.sub, RT.cut, RT.wr, getS, setT, Ty.dflt, lk, Ty.st, stV, unV, prodTV, Int.reduceToNat, Int.reduceEq, reduceCtorEq, Nat.reduceLT, Nat.reduceEqDiff, Nat.reduceAdd, Nat.reduceMul, Nat.reduceLeDiff, Nat.reduceSub, Nat.reduceBEq, Nat.reduceBNe, Nat.reduceBeqDiff, ↓reduceIte, tab, tL, tI, tB, LI, NI, LLI, tLL, spL, spLI, spLL, partSp, sizeZSp, clsSp, rclsSp, heq]) | with_reducible refine xgd_intro (fun hg => ?_) (fun hg => ?_) <;> (try simp only [zh, zi, zz, reduceCtorEq] at hg) | ((with_reducible show (_ : Bool) = true); kernel_rfl) | with_reducible refine And.intro ?_ ?_ | with_reducible refine xrun_nil ?_ | with_reducible refine xtxt_nil ?_ | (refine hK' _ ?_; clear hK'; clear K') | (with_reducible intro hg; try simp only [zh, zi, zz, reduceCtorEq] at hg))) | ((with_reducible show XW _ _ _ _ (.cond _ _ _) _ _); refine XW.cond rfl (fun h => ?_) (fun h => ?_) <;> (try simp only [zh, zi, zz, reduceCtorEq] at h) <;> (try (exfalso; omega))) | ((with_reducible show XW.thn _ _ _ _); dsimp only [XW.thn]) | ((with_reducible show XW.blk _ _ _ _); simp only [XW.blk, ↓reduceIte, Nat.reduceEqDiff, Nat.zero_ne_one, Nat.one_ne_zero, ne_eq]) | ((with_reducible show retK _ _ _ _); simp only [zd, zb, zz, lk, Nat.reduceEqDiff, Nat.reduceBEq, Nat.reduceBeqDiff, reduceCtorEq, ↓reduceIte])); all_goals (try (first | omega | with_reducible exact Int.le_refl _ | (show (_ : Int) ≤ _; omega)))
    all_goals first
      | (exfalso; omega)
      | omega
      | (refine ⟨j + 1, [], by omega, by omega, ?_⟩
         rw [hcs, hz1, hje]
         simp only [Fits, distinct, fitEnv, fitB, fitL, fitRoots, fitRT, idsOK, AV.ids, zb, zz, RT.at, RT.ty, RT.sub, RT.cut, RT.wr, getS, setT, Ty.dflt, lk, Ty.st, stV, unV, prodTV, Int.reduceToNat, Int.reduceEq, reduceCtorEq, Nat.reduceLT, Nat.reduceEqDiff, Nat.reduceAdd, Nat.reduceMul, Nat.reduceLeDiff, Nat.reduceSub, Nat.reduceBEq, Nat.reduceBNe, Nat.reduceBeqDiff, ↓reduceIte, tab, tL, tI, tB, LI, NI, LLI, tLL, spL, spLI, spLL, partSp, sizeZSp, clsSp, rclsSp]
         first | done | rfl)
      | skip
  · have hcs : cntP p ((k : Int) + 1) (j + 1) = cntP p ((k : Int) + 1) j := by rw [cntP_succ hjl, if_neg heq, Int.add_zero]
    have hzs : zrow p ((k : Int) + 1) j = 1 := by unfold zrow; rw [if_neg heq]
    repeat' (first | with_reducible refine XW.seq ?_ | with_reducible refine XW.block ?_ | with_reducible refine XW.skip ?_ | with_reducible refine XW.exit ?_ | with_reducible refine XW.ret ?_ | ((first | with_reducible refine XW.region hC (fun K' hK' => ?_) | with_reducible refine XW.text hC hm_ok (by kernel_rfl) (fun K' hK' => ?_)); (try simp only [List.toList_toArray]); repeat' (first | with_reducible refine xrun_cons ?_ | with_reducible refine xtxt_cons ?_ | ((first | with_reducible show xoper _ _ _ _ _ _ _ | with_reducible show xdo _ _ _ _ _ _); simp only [zd, zb, zz, RT.at, RT.ty, RT.sub, RT.cut, RT.wr, getS, setT, Ty.dflt, lk, Ty.st, stV, unV, prodTV, Int.reduceToNat, Int.reduceEq, reduceCtorEq, Nat.reduceLT, Nat.reduceEqDiff, Nat.reduceAdd, Nat.reduceMul, Nat.reduceLeDiff, Nat.reduceSub, Nat.reduceBEq, Nat.reduceBNe, Nat.reduceBeqDiff, ↓reduceIte, tab, tL, tI, tB, LI, NI, LLI, tLL, spL, spLI, spLL, partSp, sizeZSp, clsSp, rclsSp]) | with_reducible refine xgd_intro (fun hg => ?_) (fun hg => ?_) <;> (try simp only [zh, zi, zz, reduceCtorEq] at hg) | ((with_reducible show (_ : Bool) = true); kernel_rfl) | with_reducible refine And.intro ?_ ?_ | with_reducible refine xrun_nil ?_ | with_reducible refine xtxt_nil ?_ | (refine hK' _ ?_; clear hK'; clear K') | (with_reducible intro hg; try simp only [zh, zi, zz, reduceCtorEq] at hg))) | ((with_reducible show XW _ _ _ _ (.cond _ _ _) _ _); refine XW.cond rfl (fun h => ?_) (fun h => ?_) <;> (try simp only [zh, zi, zz, reduceCtorEq] at h) <;> (try (exfalso; omega))) | ((with_reducible show XW.thn _ _ _ _); dsimp only [XW.thn]) | ((with_reducible show XW.blk _ _ _ _); simp only [XW.blk, ↓reduceIte, Nat.reduceEqDiff, Nat.zero_ne_one, Nat.one_ne_zero, ne_eq]) | ((with_reducible show retK _ _ _ _); simp only [zd, zb, zz, lk, Nat.reduceEqDiff, Nat.reduceBEq, Nat.reduceBeqDiff, reduceCtorEq, ↓reduceIte])); all_goals (try (first | omega | with_reducible exact Int.le_refl _ | (show (_ : Int) ≤ _; omega)))
    all_goals first
      | (exfalso; omega)
      | omega
      | exact absurd (by assumption) heq
      | (refine ⟨j + 1, [], by omega, by omega, ?_⟩
         rw [hcs, zrow_succ, hzs, Int.mul_one, hje]
         simp only [Fits, distinct, fitEnv, fitB, fitL, fitRoots, fitRT, idsOK, AV.ids, zb, zz, RT.at, RT.ty, RT.sub, RT.cut, RT.wr, getS, setT, Ty.dflt, lk, Ty.st, stV, unV, prodTV, Int.reduceToNat, Int.reduceEq, reduceCtorEq, Nat.reduceLT, Nat.reduceEqDiff, Nat.reduceAdd, Nat.reduceMul, Nat.reduceLeDiff, Nat.reduceSub, Nat.reduceBEq, Nat.reduceBNe, Nat.reduceBeqDiff, ↓reduceIte, tab, tL, tI, tB, LI, NI, LLI, tLL, spL, spLI, spLL, partSp, sizeZSp, clsSp, rclsSp]
         first | done | rfl)
      | skip
end Fer
