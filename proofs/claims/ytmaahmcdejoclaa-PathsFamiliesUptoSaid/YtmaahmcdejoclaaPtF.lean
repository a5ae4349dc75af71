/-
  Walks: the program's search: each. No condition.
-/
import Derived.Test.YtmaahmcdejoclaaRows
import Derived.Test.YtmaahmcdejoclaaPtE
import Derived.Test.YtmaahmcdejoclaaFerZa
set_option linter.unusedSimpArgs false
set_option linter.unusedVariables false
set_option maxHeartbeats 16000000
-- SPECS: tL, tI, tB, LI, NI, LLI, tLL, PTt, LPT, tPT, GT, tG, SLt, LBt, ROP, ROI, FAMt, FV, tFam, pixSp, spW1, nextSp, eachSp, spL, List.set_cons_zero, List.getD_cons_zero
namespace Fer
open Go Go.Proofs

theorem StepOK.step {F : FV} {free : List Bool} {now : List ByteArray} {most n steps : Int} {m : Nat} (h : StepOK F free now most n steps (m + 1)) {i : Nat} (hi : free.getD i false = true) (h1 : steps + 1 ≤ 1000000) : StepOK F (free.set i false) now most n (steps + 1) m := by
  have hc := cntT_set hi
  have h2 := h.ct
  have h3 := h.nw
  have h4 := h.ns
  exact ⟨by rw [List.length_set]; exact h.fr, by omega, by omega, h.mo, h.n0, by omega, h1⟩
theorem StepOK.next {F : FV} {free : List Bool} {now : List ByteArray} {most n steps : Int} {m : Nat} (h : StepOK F free now most n steps (m + 1)) {i : Nat} (hi : free.getD i false = true) (h1 : steps + 1 ≤ 1000000) (path : ByteArray) : StepOK F (free.set i false) (now ++ [path]) most n (steps + 1) m := by
  have hc := cntT_set hi
  have h2 := h.ct
  have h3 := h.nw
  have h4 := h.ns
  exact ⟨by rw [List.length_set]; exact h.fr, by omega, by rw [List.length_append, List.length_singleton]; omega, h.mo, h.n0, by omega, h1⟩

theorem FamOK.envOK {F : FV} (h : FamOK F) (most : Int) : EnvOK F.W F.H (F.env most) := ⟨h.W1, h.H1, h.W8, h.H8, h.st, h.en⟩
theorem StepOK.after {F : FV} {free : List Bool} {now : List ByteArray} {most n steps : Int} {m : Nat} {r : Bool × SSt} (h : StepOK F free now most n steps m) (hi : 0 ≤ r.2.n ∧ r.2.n ≤ r.2.steps ∧ (r.1 = true → r.2.steps ≤ 1000000)) (h1 : r.1 = true) : StepOK F free now most r.2.n r.2.steps m :=
  ⟨h.fr, h.ct, h.nw, h.mo, hi.1, hi.2.1, hi.2.2 h1⟩

set_option maxRecDepth 10000 in
theorem each_step (m : Nat) (ihN : FnSt Try.prog 61 (nextSp m)) (ihE : FnSt Try.prog 88 (eachSp m)) : FnSt Try.prog 88 (eachSp (m + 1)) := by
  have hC : ∀ {w0 : World} {S0 : Nat → Prop}, CtxOK Try.prog ⟨144, tab, fun f => lk [(87, pixSp)] f, fun f => lk [] f, fun f => lk [] f, fun f => lk [] f, fun f => lk [(61, nextSp m), (88, eachSp m)] f⟩ w0 S0 := ctx_ok ⟨pix_ok, trivial⟩ trivial trivial trivial ⟨ihN, ihE, trivial⟩
  refine FnSt_of (C := ⟨144, tab, fun f => lk [(87, pixSp)] f, fun f => lk [] f, fun f => lk [] f, fun f => lk [] f, fun f => lk [(61, nextSp m), (88, eachSp m)] f⟩) 88 Try.f88 _ [8] (eachSp (m + 1)) Try.func88 rfl (by decide) rfl rfl (Nat.le_of_ble_eq_true rfl) fun bl vals boxes K hA hK w0 sd => ?_
  obtain ⟨w1, T1, vs, F1, hA⟩ := hA
  obtain ⟨b, k, p, path, F, free, now, first, most, n, steps, rfl, rfl, rfl⟩ : ∃ b, ∃ k : Int, ∃ (p : Pt) (path : ByteArray) (F : FV) (free : List Bool) (now first : List ByteArray) (most n steps : Int), bl = [b] ∧ vals = [tI k, ⟨PTt, p⟩, ⟨.str, path⟩] ∧ boxes = [tFam F free now first most n steps] := by
    cases hA with
    | @box _ _ x _ _ _ _ _ F2 G b cap kids hv h1 h2 hl =>
      cases hl with
      | @val _ k _ _ _ _ _ _ _ h3 hl2 =>
        cases hl2 with
        | @val _ p _ _ _ _ _ _ _ h4 hl3 =>
          cases hl3 with
          | @val _ path _ _ _ _ _ _ _ h5 hl4 =>
            cases hl4
            obtain ⟨⟨W, H, bar⟩, st, en, way, free, now, first, most, n, steps⟩ := x
            exact ⟨b, k, p, path, ⟨W, H, bar, st, en, way⟩, free, now, first, most, n, steps, rfl, rfl, rfl⟩
  obtain ⟨⟨hF, hS, ⟨hk0, hk1⟩, hp, hps⟩, hk⟩ : (FamOK F ∧ StepOK F free now most n steps (m + 1) ∧ (0 ≤ k ∧ k < (F.st.2.length : Int)) ∧ inG F.W F.H p ∧ path.size + cntT free ≤ 1000) ∧
      K [tB (srch (blkP F.W) (addP F.W) (F.env most) (m + 1) k p path free now ⟨steps, n, first, 0⟩).1] [tFam F free now (srch (blkP F.W) (addP F.W) (F.env most) (m + 1) k p path free now ⟨steps, n, first, 0⟩).2.first most (srch (blkP F.W) (addP F.W) (F.env most) (m + 1) k p path free now ⟨steps, n, first, 0⟩).2.n (srch (blkP F.W) (addP F.W) (F.env most) (m + 1) k p path free now ⟨steps, n, first, 0⟩).2.steps] := hK
  obtain ⟨W, H, ⟨vb, bar⟩, ⟨v1, st⟩, ⟨v2, en⟩, ⟨v3, way⟩⟩ := F
  obtain ⟨px, py⟩ := p
  have hl4 : st.length ≤ 4 := hF.l4
  have hk1' : k < (st.length : Int) := hk1
  have hle : en.length = st.length := hF.le
  have hkw : k < (way.length : Int) := by
    rcases hF.lw with h | h
    · have h : way.length = st.length := h
      omega
    · have h : way = [0, 1, 2, 3] := h
      rw [h]
      show k < 4
      omega
  obtain ⟨hw0, hw1⟩ : 0 ≤ way.getD k.toNat 0 ∧ way.getD k.toNat 0 < st.length := hF.wy k.toNat (by omega)
  have hW8 : W ≤ 8 := hF.W8
  have hH8 : H ≤ 8 := hF.H8
  obtain ⟨hx0, hx1⟩ := pix_lt (show 1 ≤ W from hF.W1) hp
  have hfl : free.length = (W * H).toNat := hS.fr
  have hx2 : pix W (px, py) < (free.length : Int) := by
    rw [hfl]
    have hx1 : pix W (px, py) < W * H := hx1
    omega
  have hx0 : 0 ≤ pix W (px, py) := hx0
  have hnw := hS.nw
  have hn0 := hS.n0
  have hns := hS.ns
  have hs1 := hS.s1
  have hct := hS.ct
  have hpx0 : 0 ≤ px := hp.1
  have hpy0 : 0 ≤ py := hp.2.1
  have hpx8 : px < 8 := by
    have h : px < W := hp.2.2.1
    omega
  have hpy8 : py < 8 := by
    have h : py < H := hp.2.2.2
    omega
  have hnl : (now ++ [path]).length = now.length + 1 := by rw [List.length_append]; rfl
  rw [srch_succ] at hk
  cases hfr : free.getD (pix W (px, py)).toNat false with
  | false =>
    rw [if_pos (show blkP W free (px, py) = true by unfold blkP; rw [hfr]; rfl)] at hk
    repeat' (first | with_reducible refine XW.seq ?_ | with_reducible refine XW.block ?_ | with_reducible refine XW.skip ?_ | with_reducible refine XW.exit ?_ | with_reducible refine XW.ret ?_ | ((first | with_reducible refine XW.region hC (fun K' hK' => ?_) | with_reducible refine XW.text hC hm_ok (by kernel_rfl) (fun K' hK' => ?_)); (try simp only [List.toList_toArray]); repeat' (first | with_reducible refine xrun_cons ?_ | with_reducible refine xtxt_cons ?_ | ((first | with_reducible show xoper _ _ _ _ _ _ _ | with_reducible show xdo _ _ _ _ _ _); simp only [zd, zb, zz, RT.at, RT.ty, RT.sub, RT.cut, RT.wr, getS, setT, Ty.dflt, lk, Ty.st, stV, unV, prodTV, Int.reduceToNat, Int.reduceEq, reduceCtorEq, Nat.reduceLT, Nat.reduceEqDiff, Nat.reduceAdd, Nat.reduceMul, Nat.reduceLeDiff, Nat.reduceSub, Nat.reduceBEq, Nat.reduceBNe, Nat.reduceBeqDiff, ↓reduceIte, tab, tL, tI, tB, LI, NI, LLI, tLL, PTt, LPT, tPT, GT, tG, SLt, LBt, ROP, ROI, FAMt, FV, tFam, pixSp, spW1, nextSp, eachSp, spL, List.set_cons_zero, List.getD_cons_zero, Nat.zero_max, Nat.max_zero, hfr]) | with_reducible refine xgd_intro (fun hg => ?_) (fun hg => ?_) <;> (try simp only [zh, zz, reduceCtorEq, bne_iff_ne, beq_iff_eq, ne_eq, Decidable.not_not, beq_eq_false_iff_ne, bne_eq_false_iff_eq] at hg) | ((with_reducible show (_ : Bool) = true); kernel_rfl) | with_reducible refine And.intro ?_ ?_ | with_reducible refine xrun_nil ?_ | with_reducible refine xtxt_nil ?_ | (refine hK' _ ?_; clear hK'; clear K') | (with_reducible intro hg; try simp only [zh, zz, reduceCtorEq, bne_iff_ne, beq_iff_eq, ne_eq, Decidable.not_not, beq_eq_false_iff_ne, bne_eq_false_iff_eq] at hg))) | ((with_reducible show XW _ _ _ _ (.cond _ _ _) _ _); refine XW.cond rfl (fun h => ?_) (fun h => ?_) <;> (try simp only [zh, zz, reduceCtorEq, bne_iff_ne, beq_iff_eq, ne_eq, Decidable.not_not, beq_eq_false_iff_ne, bne_eq_false_iff_eq] at h) <;> (try (exfalso; omega))) | ((with_reducible show XW.thn _ _ _ _); dsimp only [XW.thn]) | ((with_reducible show XW.blk _ _ _ _); simp only [XW.blk, ↓reduceIte, Nat.reduceEqDiff, Nat.zero_ne_one, Nat.one_ne_zero, ne_eq]) | ((with_reducible show retS _ _ _ _ _ _ _); simp only [retS, boxS, outsOf, outOf, List.length_cons, List.length_nil, zb, zz, RT.at, RT.ty, RT.sub, RT.cut, RT.wr, getS, setT, Ty.dflt, lk, Ty.st, stV, unV, prodTV, Int.reduceToNat, Int.reduceEq, reduceCtorEq, Nat.reduceLT, Nat.reduceEqDiff, Nat.reduceAdd, Nat.reduceMul, Nat.reduceLeDiff, Nat.reduceSub, Nat.reduceBEq, Nat.reduceBNe, Nat.reduceBeqDiff, ↓reduceIte, tab, tL, tI, tB, LI, NI, LLI, tLL, PTt, LPT, tPT, GT, tG, SLt, LBt, ROP, ROI, FAMt, FV, tFam, pixSp, spW1, nextSp, eachSp, spL, List.set_cons_zero, List.getD_cons_zero, Nat.zero_max, Nat.max_zero, hfr])); all_goals (try (first | omega | with_reducible exact Int.le_refl _ | (show (_ : Int) ≤ _; omega)))
    all_goals first
      | exact hk
      | exact ⟨hp, hW8, hH8⟩
      | exact hp
      | (exfalso; omega)
      | omega
  | true =>
    rw [if_neg (show ¬ blkP W free (px, py) = true by unfold blkP; rw [hfr]; simp)] at hk
    have hps2 := cntT_set hfr
    by_cases hlim : 1000000 < steps + 1
    · rw [if_pos (show (FV.env ⟨W, H, ⟨vb, bar⟩, ⟨v1, st⟩, ⟨v2, en⟩, ⟨v3, way⟩⟩ most).lim < steps + 1 from hlim)] at hk
      repeat' (first | with_reducible refine XW.seq ?_ | with_reducible refine XW.block ?_ | with_reducible refine XW.skip ?_ | with_reducible refine XW.exit ?_ | with_reducible refine XW.ret ?_ | ((first | with_reducible refine XW.region hC (fun K' hK' => ?_) | with_reducible refine XW.text hC hm_ok (by kernel_rfl) (fun K' hK' => ?_)); (try simp only [List.toList_toArray]); repeat' (first | with_reducible refine xrun_cons ?_ | with_reducible refine xtxt_cons ?_ | ((first | with_reducible show xoper _ _ _ _ _ _ _ | with_reducible show xdo _ _ _ _ _ _); simp only [zd, zb, zz, RT.at, RT.ty, RT.sub, RT.cut, RT.wr, getS, setT, Ty.dflt, lk, Ty.st, stV, unV, prodTV, Int.reduceToNat, Int.reduceEq, reduceCtorEq, Nat.reduceLT, Nat.reduceEqDiff, Nat.reduceAdd, Nat.reduceMul, Nat.reduceLeDiff, Nat.reduceSub, Nat.reduceBEq, Nat.reduceBNe, Nat.reduceBeqDiff, ↓reduceIte, tab, tL, tI, tB, LI, NI, LLI, tLL, PTt, LPT, tPT, GT, tG, SLt, LBt, ROP, ROI, FAMt, FV, tFam, pixSp, spW1, nextSp, eachSp, spL, List.set_cons_zero, List.getD_cons_zero, Nat.zero_max, Nat.max_zero, hfr]) | with_reducible refine xgd_intro (fun hg => ?_) (fun hg => ?_) <;> (try simp only [zh, zz, reduceCtorEq, bne_iff_ne, beq_iff_eq, ne_eq, Decidable.not_not, beq_eq_false_iff_ne, bne_eq_false_iff_eq] at hg) | ((with_reducible show (_ : Bool) = true); kernel_rfl) | with_reducible refine And.intro ?_ ?_ | with_reducible refine xrun_nil ?_ | with_reducible refine xtxt_nil ?_ | (refine hK' _ ?_; clear hK'; clear K') | (with_reducible intro hg; try simp only [zh, zz, reduceCtorEq, bne_iff_ne, beq_iff_eq, ne_eq, Decidable.not_not, beq_eq_false_iff_ne, bne_eq_false_iff_eq] at hg))) | ((with_reducible show XW _ _ _ _ (.cond _ _ _) _ _); refine XW.cond rfl (fun h => ?_) (fun h => ?_) <;> (try simp only [zh, zz, reduceCtorEq, bne_iff_ne, beq_iff_eq, ne_eq, Decidable.not_not, beq_eq_false_iff_ne, bne_eq_false_iff_eq] at h) <;> (try (exfalso; omega))) | ((with_reducible show XW.thn _ _ _ _); dsimp only [XW.thn]) | ((with_reducible show XW.blk _ _ _ _); simp only [XW.blk, ↓reduceIte, Nat.reduceEqDiff, Nat.zero_ne_one, Nat.one_ne_zero, ne_eq]) | ((with_reducible show retS _ _ _ _ _ _ _); simp only [retS, boxS, outsOf, outOf, List.length_cons, List.length_nil, zb, zz, RT.at, RT.ty, RT.sub, RT.cut, RT.wr, getS, setT, Ty.dflt, lk, Ty.st, stV, unV, prodTV, Int.reduceToNat, Int.reduceEq, reduceCtorEq, Nat.reduceLT, Nat.reduceEqDiff, Nat.reduceAdd, Nat.reduceMul, Nat.reduceLeDiff, Nat.reduceSub, Nat.reduceBEq, Nat.reduceBNe, Nat.reduceBeqDiff, ↓reduceIte, tab, tL, tI, tB, LI, NI, LLI, tLL, PTt, LPT, tPT, GT, tG, SLt, LBt, ROP, ROI, FAMt, FV, tFam, pixSp, spW1, nextSp, eachSp, spL, List.set_cons_zero, List.getD_cons_zero, Nat.zero_max, Nat.max_zero, hfr])); all_goals (try (first | omega | with_reducible exact Int.le_refl _ | (show (_ : Int) ≤ _; omega)))
      all_goals first
        | exact hk
        | exact ⟨hp, hW8, hH8⟩
        | exact hp
        | (exfalso; omega)
        | omega
    rw [if_neg (show ¬ (FV.env ⟨W, H, ⟨vb, bar⟩, ⟨v1, st⟩, ⟨v2, en⟩, ⟨v3, way⟩⟩ most).lim < steps + 1 from hlim)] at hk
    have hfin : (FV.env ⟨W, H, ⟨vb, bar⟩, ⟨v1, st⟩, ⟨v2, en⟩, ⟨v3, way⟩⟩ most).fin k = en.getD (way.getD k.toNat 0).toNat (0, 0) := rfl
    rw [hfin] at hk
    by_cases he : px = (en.getD (way.getD k.toNat 0).toNat (0, 0)).1 ∧ py = (en.getD (way.getD k.toNat 0).toNat (0, 0)).2
    · rw [if_pos (Prod.ext he.1 he.2)] at hk
      have ek : ∀ (fr : List Bool) (nw : List ByteArray), fr = free → nw = now →
          K [tB (nxt (blkP W) (addP W) (FV.env ⟨W, H, ⟨vb, bar⟩, ⟨v1, st⟩, ⟨v2, en⟩, ⟨v3, way⟩⟩ most) m (k + 1) (free.set (pix W (px, py)).toNat false) (now ++ [path]) ⟨steps + 1, n, first, 0⟩).1]
            [tFam ⟨W, H, ⟨vb, bar⟩, ⟨v1, st⟩, ⟨v2, en⟩, ⟨v3, way⟩⟩ fr nw (nxt (blkP W) (addP W) (FV.env ⟨W, H, ⟨vb, bar⟩, ⟨v1, st⟩, ⟨v2, en⟩, ⟨v3, way⟩⟩ most) m (k + 1) (free.set (pix W (px, py)).toNat false) (now ++ [path]) ⟨steps + 1, n, first, 0⟩).2.first most
              (nxt (blkP W) (addP W) (FV.env ⟨W, H, ⟨vb, bar⟩, ⟨v1, st⟩, ⟨v2, en⟩, ⟨v3, way⟩⟩ most) m (k + 1) (free.set (pix W (px, py)).toNat false) (now ++ [path]) ⟨steps + 1, n, first, 0⟩).2.n
              (nxt (blkP W) (addP W) (FV.env ⟨W, H, ⟨vb, bar⟩, ⟨v1, st⟩, ⟨v2, en⟩, ⟨v3, way⟩⟩ most) m (k + 1) (free.set (pix W (px, py)).toNat false) (now ++ [path]) ⟨steps + 1, n, first, 0⟩).2.steps] := fun fr nw h1 h2 => by
        subst h1 h2
        exact hk
      clear hk
      repeat' (first | with_reducible refine XW.seq ?_ | with_reducible refine XW.block ?_ | with_reducible refine XW.skip ?_ | with_reducible refine XW.exit ?_ | with_reducible refine XW.ret ?_ | ((first | with_reducible refine XW.region hC (fun K' hK' => ?_) | with_reducible refine XW.text hC hm_ok (by kernel_rfl) (fun K' hK' => ?_)); (try simp only [List.toList_toArray]); repeat' (first | with_reducible refine xrun_cons ?_ | with_reducible refine xtxt_cons ?_ | ((first | with_reducible show xoper _ _ _ _ _ _ _ | with_reducible show xdo _ _ _ _ _ _); simp only [zd, zb, zz, RT.at, RT.ty, RT.sub, RT.cut, RT.wr, getS, setT, Ty.dflt, lk, Ty.st, stV, unV, prodTV, Int.reduceToNat, Int.reduceEq, reduceCtorEq, Nat.reduceLT, Nat.reduceEqDiff, Nat.reduceAdd, Nat.reduceMul, Nat.reduceLeDiff, Nat.reduceSub, Nat.reduceBEq, Nat.reduceBNe, Nat.reduceBeqDiff, ↓reduceIte, tab, tL, tI, tB, LI, NI, LLI, tLL, PTt, LPT, tPT, GT, tG, SLt, LBt, ROP, ROI, FAMt, FV, tFam, pixSp, spW1, nextSp, eachSp, spL, List.set_cons_zero, List.getD_cons_zero, Nat.zero_max, Nat.max_zero, hfr]) | with_reducible refine xgd_intro (fun hg => ?_) (fun hg => ?_) <;> (try simp only [zh, zz, reduceCtorEq, bne_iff_ne, beq_iff_eq, ne_eq, Decidable.not_not, beq_eq_false_iff_ne, bne_eq_false_iff_eq] at hg) | ((with_reducible show (_ : Bool) = true); kernel_rfl) | with_reducible refine And.intro ?_ ?_ | with_reducible refine xrun_nil ?_ | with_reducible refine xtxt_nil ?_ | (refine hK' _ ?_; clear hK'; clear K') | (with_reducible intro hg; try simp only [zh, zz, reduceCtorEq, bne_iff_ne, beq_iff_eq, ne_eq, Decidable.not_not, beq_eq_false_iff_ne, bne_eq_false_iff_eq] at hg))) | ((with_reducible show XW _ _ _ _ (.cond _ _ _) _ _); refine XW.cond rfl (fun h => ?_) (fun h => ?_) <;> (try simp only [zh, zz, reduceCtorEq, bne_iff_ne, beq_iff_eq, ne_eq, Decidable.not_not, beq_eq_false_iff_ne, bne_eq_false_iff_eq] at h) <;> (try (exfalso; omega))) | ((with_reducible show XW.thn _ _ _ _); dsimp only [XW.thn]) | ((with_reducible show XW.blk _ _ _ _); simp only [XW.blk, ↓reduceIte, Nat.reduceEqDiff, Nat.zero_ne_one, Nat.one_ne_zero, ne_eq]) | ((with_reducible show retS _ _ _ _ _ _ _); simp only [retS, boxS, outsOf, outOf, List.length_cons, List.length_nil, zb, zz, RT.at, RT.ty, RT.sub, RT.cut, RT.wr, getS, setT, Ty.dflt, lk, Ty.st, stV, unV, prodTV, Int.reduceToNat, Int.reduceEq, reduceCtorEq, Nat.reduceLT, Nat.reduceEqDiff, Nat.reduceAdd, Nat.reduceMul, Nat.reduceLeDiff, Nat.reduceSub, Nat.reduceBEq, Nat.reduceBNe, Nat.reduceBeqDiff, ↓reduceIte, tab, tL, tI, tB, LI, NI, LLI, tLL, PTt, LPT, tPT, GT, tG, SLt, LBt, ROP, ROI, FAMt, FV, tFam, pixSp, spW1, nextSp, eachSp, spL, List.set_cons_zero, List.getD_cons_zero, Nat.zero_max, Nat.max_zero, hfr])); all_goals (try (first | omega | with_reducible exact Int.le_refl _ | (show (_ : Int) ≤ _; omega)))
      all_goals first
        | exact ⟨hp, hW8, hH8⟩
        | exact hp
        | exact hF
        | exact hS.next hfr (by omega) path
        | (exfalso; omega)
        | exact absurd he (by assumption)
        | omega
        | exact ek _ _ (set_back hfr) (by simp)
    · rw [if_neg (show ¬ ((px, py) : Pt) = en.getD (way.getD k.toNat 0).toNat (0, 0) from fun h => he ⟨congrArg Prod.fst h, congrArg Prod.snd h⟩)] at hk
      obtain ⟨R, hR⟩ : ∃ R, st4 (blkP W) (addP W) (FV.env ⟨W, H, ⟨vb, bar⟩, ⟨v1, st⟩, ⟨v2, en⟩, ⟨v3, way⟩⟩ most) m k (px, py) path free now ⟨steps, n, first, 0⟩ = R := ⟨_, rfl⟩
      have ek : ∀ (fr : List Bool) (bb : Bool) (fi : List ByteArray) (n' st' : Int), fr = free → (bb, SSt.nf ⟨st', n', fi, 0⟩) = (R.1, R.2.nf) →
          K [tB bb] [tFam ⟨W, H, ⟨vb, bar⟩, ⟨v1, st⟩, ⟨v2, en⟩, ⟨v3, way⟩⟩ fr now fi most n' st'] := fun fr bb fi n' st' h1 h2 => by
        obtain ⟨rfl, h3⟩ := Prod.mk.inj h2
        obtain ⟨rfl, rfl, rfl⟩ := nf_iff.1 h3
        subst h1 hR
        exact hk
      clear hk
      have hin1 : px < (en.getD (way.getD k.toNat 0).toNat (0, 0)).1 → inG W H (px + 1, py) := fun h => (FamOK.envOK hF most).right hp h
      have hin2 : py < (en.getD (way.getD k.toNat 0).toNat (0, 0)).2 → inG W H (px, py + 1) := fun h => (FamOK.envOK hF most).up hp h
      have hS2 := fun h => hS.step hfr h
      have hsz : (path ++ sR).size = path.size + 1 := ByteArray.size_append
      have hsz2 : (path ++ sU).size = path.size + 1 := ByteArray.size_append
      have hinv := fun (h : steps + 1 ≤ 1000000) => srch_inv0 (blk := blkP W) (add := addP W) (E := FV.env ⟨W, H, ⟨vb, bar⟩, ⟨v1, st⟩, ⟨v2, en⟩, ⟨v3, way⟩⟩ most) m k (px + 1, py) (path ++ sR) (free.set (pix W (px, py)).toNat false) now (steps := steps + 1) (n := n) first hn0 (by omega) h
      repeat' (first | with_reducible refine XW.seq ?_ | with_reducible refine XW.block ?_ | with_reducible refine XW.skip ?_ | with_reducible refine XW.exit ?_ | with_reducible refine XW.ret ?_ | ((first | with_reducible refine XW.region hC (fun K' hK' => ?_) | with_reducible refine XW.text hC hm_ok (by kernel_rfl) (fun K' hK' => ?_)); (try simp only [List.toList_toArray]); repeat' (first | with_reducible refine xrun_cons ?_ | with_reducible refine xtxt_cons ?_ | ((first | with_reducible show xoper _ _ _ _ _ _ _ | with_reducible show xdo _ _ _ _ _ _); simp only [zd, zb, zz, RT.at, RT.ty, RT.sub, RT.cut, RT.wr, getS, setT, Ty.dflt, lk, Ty.st, stV, unV, prodTV, Int.reduceToNat, Int.reduceEq, reduceCtorEq, Nat.reduceLT, Nat.reduceEqDiff, Nat.reduceAdd, Nat.reduceMul, Nat.reduceLeDiff, Nat.reduceSub, Nat.reduceBEq, Nat.reduceBNe, Nat.reduceBeqDiff, ↓reduceIte, tab, tL, tI, tB, LI, NI, LLI, tLL, PTt, LPT, tPT, GT, tG, SLt, LBt, ROP, ROI, FAMt, FV, tFam, pixSp, spW1, nextSp, eachSp, spL, List.set_cons_zero, List.getD_cons_zero, Nat.zero_max, Nat.max_zero, hfr]) | with_reducible refine xgd_intro (fun hg => ?_) (fun hg => ?_) <;> (try simp only [zh, zz, reduceCtorEq, bne_iff_ne, beq_iff_eq, ne_eq, Decidable.not_not, beq_eq_false_iff_ne, bne_eq_false_iff_eq] at hg) | ((with_reducible show (_ : Bool) = true); kernel_rfl) | with_reducible refine And.intro ?_ ?_ | with_reducible refine xrun_nil ?_ | with_reducible refine xtxt_nil ?_ | (refine hK' _ ?_; clear hK'; clear K') | (with_reducible intro hg; try simp only [zh, zz, reduceCtorEq, bne_iff_ne, beq_iff_eq, ne_eq, Decidable.not_not, beq_eq_false_iff_ne, bne_eq_false_iff_eq] at hg))) | ((with_reducible show XW _ _ _ _ (.cond _ _ _) _ _); refine XW.cond rfl (fun h => ?_) (fun h => ?_) <;> (try simp only [zh, zz, reduceCtorEq, bne_iff_ne, beq_iff_eq, ne_eq, Decidable.not_not, beq_eq_false_iff_ne, bne_eq_false_iff_eq] at h) <;> (try (exfalso; omega))) | ((with_reducible show XW.thn _ _ _ _); dsimp only [XW.thn]) | ((with_reducible show XW.blk _ _ _ _); simp only [XW.blk, ↓reduceIte, Nat.reduceEqDiff, Nat.zero_ne_one, Nat.one_ne_zero, ne_eq]) | ((with_reducible show retS _ _ _ _ _ _ _); simp only [retS, boxS, outsOf, outOf, List.length_cons, List.length_nil, zb, zz, RT.at, RT.ty, RT.sub, RT.cut, RT.wr, getS, setT, Ty.dflt, lk, Ty.st, stV, unV, prodTV, Int.reduceToNat, Int.reduceEq, reduceCtorEq, Nat.reduceLT, Nat.reduceEqDiff, Nat.reduceAdd, Nat.reduceMul, Nat.reduceLeDiff, Nat.reduceSub, Nat.reduceBEq, Nat.reduceBNe, Nat.reduceBeqDiff, ↓reduceIte, tab, tL, tI, tB, LI, NI, LLI, tLL, PTt, LPT, tPT, GT, tG, SLt, LBt, ROP, ROI, FAMt, FV, tFam, pixSp, spW1, nextSp, eachSp, spL, List.set_cons_zero, List.getD_cons_zero, Nat.zero_max, Nat.max_zero, hfr])); all_goals (try (first | omega | with_reducible exact Int.le_refl _ | (show (_ : Int) ≤ _; omega)))
      all_goals first
        | exact ⟨hp, hW8, hH8⟩
        | exact hp
        | exact hF
        | exact hS2 (by omega)
        | (exfalso; omega)
        | exact absurd (by assumption) he
        | exact hin1 (by assumption)
        | exact hin2 (by assumption)
        | (show path.size + 1 ≤ (9223372036854775807 : Nat); omega)
        | (show (path ++ sR).size + _ ≤ 1000; rw [hsz]; omega)
        | (show (path ++ sU).size + _ ≤ 1000; rw [hsz2]; omega)
        | exact (hS2 (by omega)).after (hinv (by omega)) (by assumption)
        | (refine ek _ _ _ _ _ (set_back hfr) ?_; rw [← hR, st4_C (Int.not_lt.2 (by assumption)) (by assumption)]; rfl)
        | (refine ek _ _ _ _ _ (set_back hfr) ?_; rw [← hR, st4_D (Int.not_lt.2 (by assumption)) (Int.not_lt.2 (by assumption))]; rfl)
        | (refine ek _ _ _ _ _ (set_back hfr) ?_; rw [← hR, st4_B (by assumption) (fun hh => by first | exact absurd hh.2 (Int.not_lt.2 (by assumption)) | exact absurd hh.1 (by assumption) | exact Bool.noConfusion (hh.1.symm.trans (by assumption)))]; rfl)
        | (refine ek _ _ _ _ _ (set_back hfr) ?_
           rw [← hR]
           have := st4_A (blk := blkP W) (add := addP W) (E := FV.env ⟨W, H, ⟨vb, bar⟩, ⟨v1, st⟩, ⟨v2, en⟩, ⟨v3, way⟩⟩ most) (f := m) (k := k) (p := (px, py)) (path := path) (a := free) (now := now) (st := ⟨steps, n, first, 0⟩) rfl (by assumption) (by assumption) (by assumption)
           exact Prod.ext this.1 this.2)

end Fer
