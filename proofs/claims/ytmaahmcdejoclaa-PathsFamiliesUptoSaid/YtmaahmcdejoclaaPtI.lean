/-
  Walk: the reference's search, a closure that turns what it caught. No condition.
-/
import Derived.Test.YtmaahmcdejoclaaRows
import Derived.Test.YtmaahmcdejoclaaPtE
import Derived.Test.YtmaahmcdejoclaaFerZa
set_option linter.unusedSimpArgs false
set_option linter.unusedVariables false
set_option maxHeartbeats 16000000
-- SPECS: tL, tI, tB, LI, NI, LLI, tLL, PTt, LPT, tPT, SLt, conPtSp, lookPat, lookSp, spL, List.set_cons_zero, List.getD_cons_zero
namespace Fer
open Go Go.Proofs

section
variable {w : World} {T : Nat → Prop} {t : Ty} {e : Nat} {ps : List PA} {bl : List Nat} {vals boxes : List TV} {vs : List Value} {F : Nat → Prop}
theorem sa_val (h : StArgs w T (.val t :: ps) bl vals boxes vs F) : ∃ (x : t.den) (vals' : List TV) (vs' : List Value) (F' : Nat → Prop), vals = ⟨t, x⟩ :: vals' ∧ StArgs w T ps bl vals' boxes vs' F' := by
  cases h with
  | val h hl => exact ⟨_, _, _, _, rfl, hl⟩
theorem sa_capl (h : StArgs w T (.capl t :: ps) bl vals boxes vs F) : ∃ (x : t.den) (b : Nat) (vals' : List TV) (vs' : List Value) (F' : Nat → Prop), vals = ⟨t, x⟩ :: ⟨.int .i64, (b : Int)⟩ :: vals' ∧ StArgs w T ps bl vals' boxes vs' F' := by
  cases h with
  | capl h1 h2 h3 h4 hl => exact ⟨_, _, _, _, _, rfl, hl⟩
theorem sa_box (h : StArgs w T (.box e t :: ps) bl vals boxes vs F) : ∃ (b : Nat) (x : t.den) (bl' : List Nat) (boxes' : List TV) (vs' : List Value) (F' : Nat → Prop), bl = b :: bl' ∧ boxes = ⟨t, x⟩ :: boxes' ∧ StArgs w T ps bl' vals boxes' vs' F' := by
  cases h with
  | box h hd hl => exact ⟨_, _, _, _, _, _, rfl, rfl, hl⟩
theorem sa_nil (h : StArgs w T [] bl vals boxes vs F) : bl = [] ∧ vals = [] ∧ boxes = [] := by
  cases h; exact ⟨rfl, rfl, rfl⟩
end

@[reducible] def lookPat : List PA := [.val (.int .i64), .val PTt, .val .str, .box 48 LPT, .box 3 (.int .i64), .capl (.int .i64), .capl LPT, .capl (.list 3 (.int .i64)), .box 52 SLt, .capl LPT, .capl .func, .box 3 (.int .i64), .box 52 SLt, .box 3 (.int .i64)]
def FV.mk0 (W H : Int) (st en : List Pt) (way : List Int) : FV := ⟨W, H, (.nilFunc, []), (.nilFunc, st), (.nilFunc, en), (.nilFunc, way)⟩
structure LookOK (W H : Int) (E : SEnv) (gone : List Pt) (now : List ByteArray) (s : SSt) (m : Nat) : Prop where
  F : FamOK (FV.mk0 W H E.starts E.ends E.way)
  lm : E.lim ≤ 1000000
  ct : cntT (freeOf W H gone) < m
  nw : now.length + cntT (freeOf W H gone) ≤ 1000
  gl : gone.length + cntT (freeOf W H gone) ≤ 1000
  iv : SInv E s
  s1 : s.steps ≤ E.lim
def lookSp (m : Nat) : SpecS := ⟨lookPat, fun bl vals boxes K => match bl, vals, boxes with
  | [bg, bs, bw, bn, bi, bd], [⟨.int _, k⟩, ⟨.prod (.int _) (.int _), p⟩, ⟨.str, path⟩, ⟨.int _, lim⟩, ⟨.int _, cl⟩, ⟨.list _ (.prod (.int _) (.int _)), en⟩, ⟨.int _, ce⟩, ⟨.list _ (.int _), way⟩, ⟨.int _, cw⟩, ⟨.list _ (.prod (.int _) (.int _)), st⟩, ⟨.int _, cs⟩, ⟨.func, fr⟩, ⟨.int _, cf⟩],
    [⟨.list _ (.prod (.int _) (.int _)), gone⟩, ⟨.int _, steps⟩, ⟨.list _ .str, now⟩, ⟨.int _, n⟩, ⟨.list _ .str, first⟩, ⟨.int _, found⟩] =>
    ((∃ W H, LookOK W H ⟨st, en, way, lim, false⟩ gone now ⟨steps, n, first, found⟩ m ∧ inG W H p ∧ path.size + cntT (freeOf W H gone) ≤ 1000) ∧ (0 ≤ k ∧ k < (st.length : Int)) ∧
      fr = some (64, [bg, bs, cl.toNat, ce.toNat, cw.toNat, bw, cs.toNat, cf.toNat, bn, bi, bd])) ∧
      K [tB (srch blkR addR ⟨st, en, way, lim, false⟩ m k p path gone now ⟨steps, n, first, found⟩).1] [tPT gone, tI (srch blkR addR ⟨st, en, way, lim, false⟩ m k p path gone now ⟨steps, n, first, found⟩).2.steps, ⟨SLt, now⟩,
        tI (srch blkR addR ⟨st, en, way, lim, false⟩ m k p path gone now ⟨steps, n, first, found⟩).2.n, ⟨SLt, (srch blkR addR ⟨st, en, way, lim, false⟩ m k p path gone now ⟨steps, n, first, found⟩).2.first⟩, tI (srch blkR addR ⟨st, en, way, lim, false⟩ m k p path gone now ⟨steps, n, first, found⟩).2.found]
  | _, _, _ => False⟩

theorem gone_cnt {W H : Int} {gone : List Pt} {p : Pt} (hW : 1 ≤ W) (hH : 1 ≤ H) (hp : inG W H p) (hg : p ∉ gone) : cntT (freeOf W H (gone ++ [p])) + 1 = cntT (freeOf W H gone) := by
  rw [← freeOf_add hW hH hp]
  exact cntT_set (by rw [freeOf_get hW hp]; simpa using hg)
theorem SInv.tick {E : SEnv} {st : SSt} (h : SInv E st) (h1 : st.steps ≤ E.lim) : SInv E st.tick :=
  ⟨h.n0, by have := h.ns; show st.n ≤ st.steps + 1; omega, by show st.steps + 1 ≤ E.lim + 1; omega, h.fd⟩
theorem LookOK.step {W H : Int} {E : SEnv} {gone : List Pt} {now : List ByteArray} {s : SSt} {m : Nat} (h : LookOK W H E gone now s (m + 1)) {p : Pt} (hp : inG W H p) (hg : p ∉ gone) (h1 : s.steps + 1 ≤ E.lim) : LookOK W H E (gone ++ [p]) now s.tick m := by
  have hc := gone_cnt h.F.W1 h.F.H1 hp hg
  have hc : cntT (freeOf W H (gone ++ [p])) + 1 = cntT (freeOf W H gone) := hc
  have h2 := h.ct
  have h3 := h.nw
  have h4 := h.gl
  exact ⟨h.F, h.lm, by omega, by omega, by rw [List.length_append, List.length_singleton]; omega, h.iv.tick h.s1, h1⟩
theorem LookOK.next {W H : Int} {E : SEnv} {gone : List Pt} {now : List ByteArray} {s : SSt} {m : Nat} (h : LookOK W H E gone now s (m + 1)) {p : Pt} (hp : inG W H p) (hg : p ∉ gone) (h1 : s.steps + 1 ≤ E.lim) (path : ByteArray) : LookOK W H E (gone ++ [p]) (now ++ [path]) s.tick m := by
  have hc := gone_cnt h.F.W1 h.F.H1 hp hg
  have hc : cntT (freeOf W H (gone ++ [p])) + 1 = cntT (freeOf W H gone) := hc
  have h2 := h.ct
  have h3 := h.nw
  have h4 := h.gl
  exact ⟨h.F, h.lm, by omega, by rw [List.length_append, List.length_singleton]; omega, by rw [List.length_append, List.length_singleton]; omega, h.iv.tick h.s1, h1⟩
theorem LookOK.after {W H : Int} {E : SEnv} {gone : List Pt} {now : List ByteArray} {s : SSt} {m : Nat} (h : LookOK W H E gone now s m) {f : Nat} {k : Int} {p : Pt} {path : ByteArray} (h1 : (srch blkR addR E f k p path gone now s).1 = true) : LookOK W H E gone now (srch blkR addR E f k p path gone now s).2 m := by
  obtain ⟨i1, _, i3⟩ := srch_inv (blk := blkR) (add := addR) (E := E) f k p path gone now s h.iv h.s1
  exact ⟨h.F, h.lm, h.ct, h.nw, h.gl, i1, i3 h1⟩

set_option maxRecDepth 10000 in
theorem look_step (m : Nat) (ih : FnSt Try.prog 64 (lookSp m)) : FnSt Try.prog 64 (lookSp (m + 1)) := by
  have hC : ∀ {w0 : World} {S0 : Nat → Prop}, CtxOK Try.prog ⟨114, tab, fun f => lk [(65, conPtSp)] f, fun f => lk [] f, fun f => lk [] f, fun f => lk [] f, fun f => lk [(64, lookSp m)] f⟩ w0 S0 := ctx_ok ⟨conPt_ok, trivial⟩ trivial trivial trivial ⟨ih, trivial⟩
  refine FnSt_of (C := ⟨114, tab, fun f => lk [(65, conPtSp)] f, fun f => lk [] f, fun f => lk [] f, fun f => lk [] f, fun f => lk [(64, lookSp m)] f⟩) 64 Try.f64 _ [17] (lookSp (m + 1)) Try.func64 rfl (by decide) rfl rfl (Nat.le_of_ble_eq_true rfl) fun bl vals boxes K hA hK w0 sd => ?_
  obtain ⟨w1, T1, vs, F1, hA0⟩ := hA
  obtain ⟨(k : Int), v0, _, _, e0, hA1⟩ := sa_val hA0
  clear hA0
  subst e0
  obtain ⟨(p : Pt), v1, _, _, e1, hA2⟩ := sa_val hA1
  clear hA1
  subst e1
  obtain ⟨(path : ByteArray), v2, _, _, e2, hA3⟩ := sa_val hA2
  clear hA2
  subst e2
  obtain ⟨bg, (gone : List Pt), l3, x3, _, _, e3, g3, hA4⟩ := sa_box hA3
  clear hA3
  subst e3 g3
  obtain ⟨bs, (steps : Int), l4, x4, _, _, e4, g4, hA5⟩ := sa_box hA4
  clear hA4
  subst e4 g4
  obtain ⟨(lim : Int), cl, v5, _, _, e5, hA6⟩ := sa_capl hA5
  clear hA5
  subst e5
  obtain ⟨(en : List Pt), ce, v6, _, _, e6, hA7⟩ := sa_capl hA6
  clear hA6
  subst e6
  obtain ⟨(way : List Int), cw, v7, _, _, e7, hA8⟩ := sa_capl hA7
  clear hA7
  subst e7
  obtain ⟨bw, (now : List ByteArray), l8, x8, _, _, e8, g8, hA9⟩ := sa_box hA8
  clear hA8
  subst e8 g8
  obtain ⟨(st : List Pt), cs, v9, _, _, e9, hA10⟩ := sa_capl hA9
  clear hA9
  subst e9
  obtain ⟨(fr : Option (Nat × List Nat)), cf, v10, _, _, e10, hA11⟩ := sa_capl hA10
  clear hA10
  subst e10
  obtain ⟨bn, (n : Int), l11, x11, _, _, e11, g11, hA12⟩ := sa_box hA11
  clear hA11
  subst e11 g11
  obtain ⟨bi, (first : List ByteArray), l12, x12, _, _, e12, g12, hA13⟩ := sa_box hA12
  clear hA12
  subst e12 g12
  obtain ⟨bd, (found : Int), l13, x13, _, _, e13, g13, hA14⟩ := sa_box hA13
  clear hA13
  subst e13 g13
  obtain ⟨rfl, rfl, rfl⟩ := sa_nil hA14
  obtain ⟨⟨⟨W, H, hO, hp, hps⟩, ⟨hk0, hk1⟩, hfr⟩, hk⟩ : ((∃ W H, LookOK W H ⟨st, en, way, lim, false⟩ gone now ⟨steps, n, first, found⟩ (m + 1) ∧ inG W H p ∧ path.size + cntT (freeOf W H gone) ≤ 1000) ∧ (0 ≤ k ∧ k < (st.length : Int)) ∧
      fr = some (64, [bg, bs, cl, ce, cw, bw, cs, cf, bn, bi, bd])) ∧
      K [tB (srch blkR addR ⟨st, en, way, lim, false⟩ (m + 1) k p path gone now ⟨steps, n, first, found⟩).1] [tPT gone, tI (srch blkR addR ⟨st, en, way, lim, false⟩ (m + 1) k p path gone now ⟨steps, n, first, found⟩).2.steps, ⟨SLt, now⟩,
        tI (srch blkR addR ⟨st, en, way, lim, false⟩ (m + 1) k p path gone now ⟨steps, n, first, found⟩).2.n, ⟨SLt, (srch blkR addR ⟨st, en, way, lim, false⟩ (m + 1) k p path gone now ⟨steps, n, first, found⟩).2.first⟩, tI (srch blkR addR ⟨st, en, way, lim, false⟩ (m + 1) k p path gone now ⟨steps, n, first, found⟩).2.found] := hK
  clear hA14
  subst hfr
  obtain ⟨px, py⟩ := p
  have hF := hO.F
  have hl4 : st.length ≤ 4 := hF.l4
  have hle : en.length = st.length := hF.le
  have hkw : k < (way.length : Int) := by
    rcases hF.lw with h | h
    · have h : way.length = st.length := h
      omega
    · have h : way = [0, 1, 2, 3] := h
      rw [h]
      show k < 4
      omega
  obtain ⟨hw0, hw1⟩ : 0 ≤ way.getD k.toNat 0 ∧ way.getD k.toNat 0 < st.length := hF.wy k.toNat (show k.toNat < st.length by omega)
  have hW8 : W ≤ 8 := hF.W8
  have hH8 : H ≤ 8 := hF.H8
  have hnw := hO.nw
  have hgl := hO.gl
  have hn0 : 0 ≤ n := hO.iv.n0
  have hns : n ≤ steps := hO.iv.ns
  have hlm : lim ≤ 1000000 := hO.lm
  have hs1 : steps ≤ lim := hO.s1
  have hct := hO.ct
  have hpx0 : 0 ≤ px := hp.1
  have hpy0 : 0 ≤ py := hp.2.1
  have hpx8 : px < 8 := by
    have h : px < W := hp.2.2.1
    omega
  have hpy8 : py < 8 := by
    have h : py < H := hp.2.2.2
    omega
  have hnl : (now ++ [path]).length = now.length + 1 := by rw [List.length_append]; rfl
  have hgl2 : (gone ++ [((px, py) : Pt)]).length = gone.length + 1 := by rw [List.length_append]; rfl
  obtain ⟨R, hR⟩ : ∃ R, srch blkR addR ⟨st, en, way, lim, false⟩ (m + 1) k (px, py) path gone now ⟨steps, n, first, found⟩ = R := ⟨_, rfl⟩
  rw [hR] at hk
  have ek : ∀ (bb : Bool) (g : List Pt) (s' : Int) (nw : List ByteArray) (n' : Int) (fi : List ByteArray) (fd : Int), g = gone → nw = now → (bb, (⟨s', n', fi, fd⟩ : SSt)) = R → K [tB bb] [tPT g, tI s', ⟨SLt, nw⟩, tI n', ⟨SLt, fi⟩, tI fd] := fun bb g s' nw n' fi fd h1 h2 h3 => by
    subst h1 h2 h3
    exact hk
  clear hk
  rw [srch_succ] at hR
  by_cases hg : ((px, py) : Pt) ∈ gone
  · rw [if_pos (show blkR gone (px, py) = true from decide_eq_true hg)] at hR
    have hgd : decide (((px, py) : Pt) ∈ gone) = true := decide_eq_true hg
    repeat' (first | with_reducible refine XW.seq ?_ | with_reducible refine XW.block ?_ | with_reducible refine XW.skip ?_ | with_reducible refine XW.exit ?_ | with_reducible refine XW.ret ?_ | ((first | with_reducible refine XW.region hC (fun K' hK' => ?_) | with_reducible refine XW.text hC hm_ok (by kernel_rfl) (fun K' hK' => ?_)); (try simp only [List.toList_toArray]); repeat' (first | with_reducible refine xrun_cons ?_ | with_reducible refine xtxt_cons ?_ | ((first | with_reducible show xoper _ _ _ _ _ _ _ | with_reducible show xdo _ _ _ _ _ _); simp only [zd, zb, zz, RT.at, RT.ty, RT.sub, RT.cut, RT.wr, getS, setT, Ty.dflt, lk, Ty.st, stV, unV, prodTV, Int.reduceToNat, Int.reduceEq, reduceCtorEq, Nat.reduceLT, Nat.reduceEqDiff, Nat.reduceAdd, Nat.reduceMul, Nat.reduceLeDiff, Nat.reduceSub, Nat.reduceBEq, Nat.reduceBNe, Nat.reduceBeqDiff, ↓reduceIte, tab, tL, tI, tB, LI, NI, LLI, tLL, PTt, LPT, tPT, SLt, conPtSp, lookPat, lookSp, spL, List.set_cons_zero, List.getD_cons_zero, hgd]) | with_reducible refine xgd_intro (fun hg => ?_) (fun hg => ?_) <;> (try simp only [zh, zz, reduceCtorEq, bne_iff_ne, beq_iff_eq, ne_eq, Decidable.not_not, beq_eq_false_iff_ne, bne_eq_false_iff_eq] at hg) | ((with_reducible show (_ : Bool) = true); kernel_rfl) | with_reducible refine And.intro ?_ ?_ | with_reducible refine xrun_nil ?_ | with_reducible refine xtxt_nil ?_ | (refine hK' _ ?_; clear hK'; clear K') | (with_reducible intro hg; try simp only [zh, zz, reduceCtorEq, bne_iff_ne, beq_iff_eq, ne_eq, Decidable.not_not, beq_eq_false_iff_ne, bne_eq_false_iff_eq] at hg))) | ((with_reducible show XW _ _ _ _ (.cond _ _ _) _ _); refine XW.cond rfl (fun h => ?_) (fun h => ?_) <;> (try simp only [zh, zz, reduceCtorEq, bne_iff_ne, beq_iff_eq, ne_eq, Decidable.not_not, beq_eq_false_iff_ne, bne_eq_false_iff_eq] at h) <;> (try (exfalso; omega))) | ((with_reducible show XW.thn _ _ _ _); dsimp only [XW.thn]) | ((with_reducible show XW.blk _ _ _ _); simp only [XW.blk, ↓reduceIte, Nat.reduceEqDiff, Nat.zero_ne_one, Nat.one_ne_zero, ne_eq]) | ((with_reducible show retS _ _ _ _ _ _ _); simp only [retS, boxS, outsOf, outOf, List.length_cons, List.length_nil, zb, zz, RT.at, RT.ty, RT.sub, RT.cut, RT.wr, getS, setT, Ty.dflt, lk, Ty.st, stV, unV, prodTV, Int.reduceToNat, Int.reduceEq, reduceCtorEq, Nat.reduceLT, Nat.reduceEqDiff, Nat.reduceAdd, Nat.reduceMul, Nat.reduceLeDiff, Nat.reduceSub, Nat.reduceBEq, Nat.reduceBNe, Nat.reduceBeqDiff, ↓reduceIte, tab, tL, tI, tB, LI, NI, LLI, tLL, PTt, LPT, tPT, SLt, conPtSp, lookPat, lookSp, spL, List.set_cons_zero, List.getD_cons_zero, hgd])); all_goals (try (first | omega | with_reducible exact Int.le_refl _ | (show (_ : Int) ≤ _; omega)))
    all_goals first
      | exact ek _ _ _ _ _ _ _ rfl rfl hR
      | (exfalso; omega)
      | exact absurd hg (by assumption)
      | skip
  rw [if_neg (show ¬ blkR gone (px, py) = true from fun h => hg (of_decide_eq_true h))] at hR
  have hgd : decide (((px, py) : Pt) ∈ gone) = false := decide_eq_false hg
  by_cases hlim : lim < steps + 1
  · rw [if_pos (show (SEnv.mk st en way lim false).lim < steps + 1 from hlim)] at hR
    repeat' (first | with_reducible refine XW.seq ?_ | with_reducible refine XW.block ?_ | with_reducible refine XW.skip ?_ | with_reducible refine XW.exit ?_ | with_reducible refine XW.ret ?_ | ((first | with_reducible refine XW.region hC (fun K' hK' => ?_) | with_reducible refine XW.text hC hm_ok (by kernel_rfl) (fun K' hK' => ?_)); (try simp only [List.toList_toArray]); repeat' (first | with_reducible refine xrun_cons ?_ | with_reducible refine xtxt_cons ?_ | ((first | with_reducible show xoper _ _ _ _ _ _ _ | with_reducible show xdo _ _ _ _ _ _); simp only [zd, zb, zz, RT.at, RT.ty, RT.sub, RT.cut, RT.wr, getS, setT, Ty.dflt, lk, Ty.st, stV, unV, prodTV, Int.reduceToNat, Int.reduceEq, reduceCtorEq, Nat.reduceLT, Nat.reduceEqDiff, Nat.reduceAdd, Nat.reduceMul, Nat.reduceLeDiff, Nat.reduceSub, Nat.reduceBEq, Nat.reduceBNe, Nat.reduceBeqDiff, ↓reduceIte, tab, tL, tI, tB, LI, NI, LLI, tLL, PTt, LPT, tPT, SLt, conPtSp, lookPat, lookSp, spL, List.set_cons_zero, List.getD_cons_zero, hgd]) | with_reducible refine xgd_intro (fun hg => ?_) (fun hg => ?_) <;> (try simp only [zh, zz, reduceCtorEq, bne_iff_ne, beq_iff_eq, ne_eq, Decidable.not_not, beq_eq_false_iff_ne, bne_eq_false_iff_eq] at hg) | ((with_reducible show (_ : Bool) = true); kernel_rfl) | with_reducible refine And.intro ?_ ?_ | with_reducible refine xrun_nil ?_ | with_reducible refine xtxt_nil ?_ | (refine hK' _ ?_; clear hK'; clear K') | (with_reducible intro hg; try simp only [zh, zz, reduceCtorEq, bne_iff_ne, beq_iff_eq, ne_eq, Decidable.not_not, beq_eq_false_iff_ne, bne_eq_false_iff_eq] at hg))) | ((with_reducible show XW _ _ _ _ (.cond _ _ _) _ _); refine XW.cond rfl (fun h => ?_) (fun h => ?_) <;> (try simp only [zh, zz, reduceCtorEq, bne_iff_ne, beq_iff_eq, ne_eq, Decidable.not_not, beq_eq_false_iff_ne, bne_eq_false_iff_eq] at h) <;> (try (exfalso; omega))) | ((with_reducible show XW.thn _ _ _ _); dsimp only [XW.thn]) | ((with_reducible show XW.blk _ _ _ _); simp only [XW.blk, ↓reduceIte, Nat.reduceEqDiff, Nat.zero_ne_one, Nat.one_ne_zero, ne_eq]) | ((with_reducible show retS _ _ _ _ _ _ _); simp only [retS, boxS, outsOf, outOf, List.length_cons, List.length_nil, zb, zz, RT.at, RT.ty, RT.sub, RT.cut, RT.wr, getS, setT, Ty.dflt, lk, Ty.st, stV, unV, prodTV, Int.reduceToNat, Int.reduceEq, reduceCtorEq, Nat.reduceLT, Nat.reduceEqDiff, Nat.reduceAdd, Nat.reduceMul, Nat.reduceLeDiff, Nat.reduceSub, Nat.reduceBEq, Nat.reduceBNe, Nat.reduceBeqDiff, ↓reduceIte, tab, tL, tI, tB, LI, NI, LLI, tLL, PTt, LPT, tPT, SLt, conPtSp, lookPat, lookSp, spL, List.set_cons_zero, List.getD_cons_zero, hgd])); all_goals (try (first | omega | with_reducible exact Int.le_refl _ | (show (_ : Int) ≤ _; omega)))
    all_goals first
      | exact ek _ _ _ _ _ _ _ rfl rfl hR
      | (exfalso; omega)
      | exact absurd (by assumption) hg
      | skip
  rw [if_neg (show ¬ (SEnv.mk st en way lim false).lim < steps + 1 from hlim)] at hR
  have hfin : (SEnv.mk st en way lim false).fin k = en.getD (way.getD k.toNat 0).toNat (0, 0) := rfl
  rw [hfin] at hR
  by_cases he : px = (en.getD (way.getD k.toNat 0).toNat (0, 0)).1 ∧ py = (en.getD (way.getD k.toNat 0).toNat (0, 0)).2
  · rw [if_pos (Prod.ext he.1 he.2)] at hR
    unfold nxt at hR
    have hpre : path.size + cntT (freeOf W H gone) ≤ 1000 := hps
    have hst2 : ∀ i : Nat, inG W H (st.getD i (0, 0)) := fun i => getD_in hF.W1 hF.H1 hF.st i
    have hz : (ByteArray.empty).size = 0 := rfl
    have hcn : cntT (freeOf W H (gone ++ [((px, py) : Pt)])) ≤ 1000 := by
      have := gone_cnt hF.W1 hF.H1 hp hg
      have this : cntT (freeOf W H (gone ++ [((px, py) : Pt)])) + 1 = cntT (freeOf W H gone) := this
      omega
    have hO2 : LookOK W H ⟨st, en, way, lim, false⟩ (gone ++ [((px, py) : Pt)]) (now ++ [path]) ⟨steps + 1, n, first, found⟩ m := hO.next hp hg (by show steps + 1 ≤ lim; omega) path
    have hcn2 : ByteArray.empty.size + cntT (freeOf W H (gone ++ [((px, py) : Pt)])) ≤ 1000 := by rw [hz, Nat.zero_add]; exact hcn
    by_cases hkl : k + 1 < (st.length : Int)
    · rw [if_pos (show k + 1 < ((SEnv.mk st en way lim false).starts.length : Int) from hkl)] at hR
      repeat' (first | with_reducible refine XW.seq ?_ | with_reducible refine XW.block ?_ | with_reducible refine XW.skip ?_ | with_reducible refine XW.exit ?_ | with_reducible refine XW.ret ?_ | ((first | ((with_reducible show XW _ _ _ _ (.region _ _ true) _ _); refine XW.draw hC hm_ok [0, 2, 1, 3, 4] (by decide +kernel) (fun K' hK' => ?_)) | with_reducible refine XW.region hC (fun K' hK' => ?_) | with_reducible refine XW.text hC hm_ok (by kernel_rfl) (fun K' hK' => ?_)); (try simp only [List.toList_toArray]); repeat' (first | with_reducible refine xrun_cons ?_ | with_reducible refine xtxt_cons ?_ | ((with_reducible show xord _ _ _ (_ :: _) _); refine xord_cons (by simp only [List.getElem?_toArray, List.getElem?_cons_succ, List.getElem?_cons_zero]; rfl) ?_) | ((first | with_reducible show xoper _ _ _ _ _ _ _ | with_reducible show xdo _ _ _ _ _ _); simp only [zd, zb, zz, RT.at, RT.ty, RT.sub, RT.cut, RT.wr, getS, setT, Ty.dflt, lk, Ty.st, stV, unV, prodTV, Int.reduceToNat, Int.reduceEq, reduceCtorEq, Nat.reduceLT, Nat.reduceEqDiff, Nat.reduceAdd, Nat.reduceMul, Nat.reduceLeDiff, Nat.reduceSub, Nat.reduceBEq, Nat.reduceBNe, Nat.reduceBeqDiff, ↓reduceIte, tab, tL, tI, tB, LI, NI, LLI, tLL, PTt, LPT, tPT, SLt, conPtSp, lookPat, lookSp, spL, List.set_cons_zero, List.getD_cons_zero, hgd]) | with_reducible refine xgd_intro (fun hg => ?_) (fun hg => ?_) <;> (try simp only [zh, zz, reduceCtorEq, bne_iff_ne, beq_iff_eq, ne_eq, Decidable.not_not, beq_eq_false_iff_ne, bne_eq_false_iff_eq] at hg) | ((with_reducible show (_ : Bool) = true); kernel_rfl) | with_reducible refine And.intro ?_ ?_ | with_reducible refine xrun_nil ?_ | with_reducible refine xtxt_nil ?_ | with_reducible refine xord_nil ?_ | (refine hK' _ ?_; clear hK'; clear K') | (with_reducible intro hg; try simp only [zh, zz, reduceCtorEq, bne_iff_ne, beq_iff_eq, ne_eq, Decidable.not_not, beq_eq_false_iff_ne, bne_eq_false_iff_eq] at hg))) | ((with_reducible show XW _ _ _ _ (.cond _ _ _) _ _); refine XW.cond rfl (fun h => ?_) (fun h => ?_) <;> (try simp only [zh, zz, reduceCtorEq, bne_iff_ne, beq_iff_eq, ne_eq, Decidable.not_not, beq_eq_false_iff_ne, bne_eq_false_iff_eq] at h) <;> (try (exfalso; omega))) | ((with_reducible show XW.thn _ _ _ _); dsimp only [XW.thn]) | ((with_reducible show XW.blk _ _ _ _); simp only [XW.blk, ↓reduceIte, Nat.reduceEqDiff, Nat.zero_ne_one, Nat.one_ne_zero, ne_eq]) | ((with_reducible show retS _ _ _ _ _ _ _); simp only [retS, boxS, outsOf, outOf, List.length_cons, List.length_nil, zb, zz, RT.at, RT.ty, RT.sub, RT.cut, RT.wr, getS, setT, Ty.dflt, lk, Ty.st, stV, unV, prodTV, Int.reduceToNat, Int.reduceEq, reduceCtorEq, Nat.reduceLT, Nat.reduceEqDiff, Nat.reduceAdd, Nat.reduceMul, Nat.reduceLeDiff, Nat.reduceSub, Nat.reduceBEq, Nat.reduceBNe, Nat.reduceBeqDiff, ↓reduceIte, tab, tL, tI, tB, LI, NI, LLI, tLL, PTt, LPT, tPT, SLt, conPtSp, lookPat, lookSp, spL, List.set_cons_zero, List.getD_cons_zero, hgd])); all_goals (try (first | omega | with_reducible exact Int.le_refl _ | (show (_ : Int) ≤ _; omega)))
      all_goals first
        | exact ek _ _ _ _ _ _ _ (by simp) (by simp) hR
        | exact ⟨W, H, hO2, hst2 _, hcn2⟩
        | rfl
        | (exfalso; omega)
        | exact absurd he (by assumption)
        | exact absurd (by assumption) hg
        | omega
    · rw [if_neg (show ¬ k + 1 < ((SEnv.mk st en way lim false).starts.length : Int) from hkl)] at hR
      repeat' (first | with_reducible refine XW.seq ?_ | with_reducible refine XW.block ?_ | with_reducible refine XW.skip ?_ | with_reducible refine XW.exit ?_ | with_reducible refine XW.ret ?_ | ((first | ((with_reducible show XW _ _ _ _ (.region _ _ true) _ _); refine XW.draw hC hm_ok [0, 2, 1, 3, 4] (by decide +kernel) (fun K' hK' => ?_)) | with_reducible refine XW.region hC (fun K' hK' => ?_) | with_reducible refine XW.text hC hm_ok (by kernel_rfl) (fun K' hK' => ?_)); (try simp only [List.toList_toArray]); repeat' (first | with_reducible refine xrun_cons ?_ | with_reducible refine xtxt_cons ?_ | ((with_reducible show xord _ _ _ (_ :: _) _); refine xord_cons (by simp only [List.getElem?_toArray, List.getElem?_cons_succ, List.getElem?_cons_zero]; rfl) ?_) | ((first | with_reducible show xoper _ _ _ _ _ _ _ | with_reducible show xdo _ _ _ _ _ _); simp only [zd, zb, zz, RT.at, RT.ty, RT.sub, RT.cut, RT.wr, getS, setT, Ty.dflt, lk, Ty.st, stV, unV, prodTV, Int.reduceToNat, Int.reduceEq, reduceCtorEq, Nat.reduceLT, Nat.reduceEqDiff, Nat.reduceAdd, Nat.reduceMul, Nat.reduceLeDiff, Nat.reduceSub, Nat.reduceBEq, Nat.reduceBNe, Nat.reduceBeqDiff, ↓reduceIte, tab, tL, tI, tB, LI, NI, LLI, tLL, PTt, LPT, tPT, SLt, conPtSp, lookPat, lookSp, spL, List.set_cons_zero, List.getD_cons_zero, hgd]) | with_reducible refine xgd_intro (fun hg => ?_) (fun hg => ?_) <;> (try simp only [zh, zz, reduceCtorEq, bne_iff_ne, beq_iff_eq, ne_eq, Decidable.not_not, beq_eq_false_iff_ne, bne_eq_false_iff_eq] at hg) | ((with_reducible show (_ : Bool) = true); kernel_rfl) | with_reducible refine And.intro ?_ ?_ | with_reducible refine xrun_nil ?_ | with_reducible refine xtxt_nil ?_ | with_reducible refine xord_nil ?_ | (refine hK' _ ?_; clear hK'; clear K') | (with_reducible intro hg; try simp only [zh, zz, reduceCtorEq, bne_iff_ne, beq_iff_eq, ne_eq, Decidable.not_not, beq_eq_false_iff_ne, bne_eq_false_iff_eq] at hg))) | ((with_reducible show XW _ _ _ _ (.cond _ _ _) _ _); refine XW.cond rfl (fun h => ?_) (fun h => ?_) <;> (try simp only [zh, zz, reduceCtorEq, bne_iff_ne, beq_iff_eq, ne_eq, Decidable.not_not, beq_eq_false_iff_ne, bne_eq_false_iff_eq] at h) <;> (try (exfalso; omega))) | ((with_reducible show XW.thn _ _ _ _); dsimp only [XW.thn]) | ((with_reducible show XW.blk _ _ _ _); simp only [XW.blk, ↓reduceIte, Nat.reduceEqDiff, Nat.zero_ne_one, Nat.one_ne_zero, ne_eq]) | ((with_reducible show retS _ _ _ _ _ _ _); simp only [retS, boxS, outsOf, outOf, List.length_cons, List.length_nil, zb, zz, RT.at, RT.ty, RT.sub, RT.cut, RT.wr, getS, setT, Ty.dflt, lk, Ty.st, stV, unV, prodTV, Int.reduceToNat, Int.reduceEq, reduceCtorEq, Nat.reduceLT, Nat.reduceEqDiff, Nat.reduceAdd, Nat.reduceMul, Nat.reduceLeDiff, Nat.reduceSub, Nat.reduceBEq, Nat.reduceBNe, Nat.reduceBeqDiff, ↓reduceIte, tab, tL, tI, tB, LI, NI, LLI, tLL, PTt, LPT, tPT, SLt, conPtSp, lookPat, lookSp, spL, List.set_cons_zero, List.getD_cons_zero, hgd])); all_goals (try (first | omega | with_reducible exact Int.le_refl _ | (show (_ : Int) ≤ _; omega)))
      all_goals first
        | (refine ek _ _ _ _ _ _ _ (by simp) (by simp) ?_
           rw [← hR]
           unfold SSt.hit
           first
             | (rw [if_pos (show (SSt.tick ⟨steps, n, first, found⟩).n = 0 by assumption)]; simp only [if_pos (show (SSt.tick ⟨steps, n, first, found⟩).n = 0 by assumption)]; rfl)
             | (rw [if_neg (show ¬ (SSt.tick ⟨steps, n, first, found⟩).n = 0 by assumption)]; simp only [if_neg (show ¬ (SSt.tick ⟨steps, n, first, found⟩).n = 0 by assumption)]; rfl))
        | rfl
        | (exfalso; omega)
        | exact absurd he (by assumption)
        | exact absurd (by assumption) hg
        | omega
  · rw [if_neg (show ¬ ((px, py) : Pt) = en.getD (way.getD k.toNat 0).toNat (0, 0) from fun h => he ⟨congrArg Prod.fst h, congrArg Prod.snd h⟩)] at hR
    have hR : st4 blkR addR ⟨st, en, way, lim, false⟩ m k (px, py) path gone now ⟨steps, n, first, found⟩ = R := hR
    have hE : EnvOK W H ⟨st, en, way, lim, false⟩ := ⟨hF.W1, hF.H1, hF.W8, hF.H8, hF.st, hF.en⟩
    have hin1 : px < (en.getD (way.getD k.toNat 0).toNat (0, 0)).1 → inG W H (px + 1, py) := fun h => hE.right hp h
    have hin2 : py < (en.getD (way.getD k.toNat 0).toNat (0, 0)).2 → inG W H (px, py + 1) := fun h => hE.up hp h
    have hO2 : LookOK W H ⟨st, en, way, lim, false⟩ (gone ++ [((px, py) : Pt)]) now ⟨steps + 1, n, first, found⟩ m := hO.step hp hg (by show steps + 1 ≤ lim; omega)
    have hcn : cntT (freeOf W H (gone ++ [((px, py) : Pt)])) + 1 = cntT (freeOf W H gone) := gone_cnt hF.W1 hF.H1 hp hg
    have hsz : (path ++ sR).size + cntT (freeOf W H (gone ++ [((px, py) : Pt)])) ≤ 1000 := by
      have : (path ++ sR).size = path.size + 1 := ByteArray.size_append
      omega
    have hsz2 : (path ++ sU).size + cntT (freeOf W H (gone ++ [((px, py) : Pt)])) ≤ 1000 := by
      have : (path ++ sU).size = path.size + 1 := ByteArray.size_append
      omega
    repeat' (first | with_reducible refine XW.seq ?_ | with_reducible refine XW.block ?_ | with_reducible refine XW.skip ?_ | with_reducible refine XW.exit ?_ | with_reducible refine XW.ret ?_ | ((first | ((with_reducible show XW _ _ _ _ (.region _ _ true) _ _); refine XW.draw hC hm_ok [0, 2, 1, 3, 4] (by decide +kernel) (fun K' hK' => ?_)) | with_reducible refine XW.region hC (fun K' hK' => ?_) | with_reducible refine XW.text hC hm_ok (by kernel_rfl) (fun K' hK' => ?_)); (try simp only [List.toList_toArray]); repeat' (first | with_reducible refine xrun_cons ?_ | with_reducible refine xtxt_cons ?_ | ((with_reducible show xord _ _ _ (_ :: _) _); refine xord_cons (by simp only [List.getElem?_toArray, List.getElem?_cons_succ, List.getElem?_cons_zero]; rfl) ?_) | ((first | with_reducible show xoper _ _ _ _ _ _ _ | with_reducible show xdo _ _ _ _ _ _); simp only [zd, zb, zz, RT.at, RT.ty, RT.sub, RT.cut, RT.wr, getS, setT, Ty.dflt, lk, Ty.st, stV, unV, prodTV, Int.reduceToNat, Int.reduceEq, reduceCtorEq, Nat.reduceLT, Nat.reduceEqDiff, Nat.reduceAdd, Nat.reduceMul, Nat.reduceLeDiff, Nat.reduceSub, Nat.reduceBEq, Nat.reduceBNe, Nat.reduceBeqDiff, ↓reduceIte, tab, tL, tI, tB, LI, NI, LLI, tLL, PTt, LPT, tPT, SLt, conPtSp, lookPat, lookSp, spL, List.set_cons_zero, List.getD_cons_zero, hgd]) | with_reducible refine xgd_intro (fun hg => ?_) (fun hg => ?_) <;> (try simp only [zh, zz, reduceCtorEq, bne_iff_ne, beq_iff_eq, ne_eq, Decidable.not_not, beq_eq_false_iff_ne, bne_eq_false_iff_eq] at hg) | ((with_reducible show (_ : Bool) = true); kernel_rfl) | with_reducible refine And.intro ?_ ?_ | with_reducible refine xrun_nil ?_ | with_reducible refine xtxt_nil ?_ | with_reducible refine xord_nil ?_ | (refine hK' _ ?_; clear hK'; clear K') | (with_reducible intro hg; try simp only [zh, zz, reduceCtorEq, bne_iff_ne, beq_iff_eq, ne_eq, Decidable.not_not, beq_eq_false_iff_ne, bne_eq_false_iff_eq] at hg))) | ((with_reducible show XW _ _ _ _ (.cond _ _ _) _ _); refine XW.cond rfl (fun h => ?_) (fun h => ?_) <;> (try simp only [zh, zz, reduceCtorEq, bne_iff_ne, beq_iff_eq, ne_eq, Decidable.not_not, beq_eq_false_iff_ne, bne_eq_false_iff_eq] at h) <;> (try (exfalso; omega))) | ((with_reducible show XW.thn _ _ _ _); dsimp only [XW.thn]) | ((with_reducible show XW.blk _ _ _ _); simp only [XW.blk, ↓reduceIte, Nat.reduceEqDiff, Nat.zero_ne_one, Nat.one_ne_zero, ne_eq]) | ((with_reducible show retS _ _ _ _ _ _ _); simp only [retS, boxS, outsOf, outOf, List.length_cons, List.length_nil, zb, zz, RT.at, RT.ty, RT.sub, RT.cut, RT.wr, getS, setT, Ty.dflt, lk, Ty.st, stV, unV, prodTV, Int.reduceToNat, Int.reduceEq, reduceCtorEq, Nat.reduceLT, Nat.reduceEqDiff, Nat.reduceAdd, Nat.reduceMul, Nat.reduceLeDiff, Nat.reduceSub, Nat.reduceBEq, Nat.reduceBNe, Nat.reduceBeqDiff, ↓reduceIte, tab, tL, tI, tB, LI, NI, LLI, tLL, PTt, LPT, tPT, SLt, conPtSp, lookPat, lookSp, spL, List.set_cons_zero, List.getD_cons_zero, hgd])); all_goals (try (first | omega | with_reducible exact Int.le_refl _ | (show (_ : Int) ≤ _; omega)))
    all_goals first
      | rfl
      | (exfalso; omega)
      | exact absurd (by assumption) he
      | exact absurd (by assumption) hg
      | omega
      | (show path.size + 1 ≤ (9223372036854775807 : Nat); omega)
      | exact ⟨W, H, hO2, hin1 (by assumption), hsz⟩
      | exact ⟨W, H, hO2, hin2 (by assumption), hsz2⟩
      | exact ⟨W, H, hO2.after (by assumption), hin2 (by assumption), hsz2⟩
      | (refine ek _ _ _ _ _ _ _ (by simp) rfl ?_; rw [← hR, st4_C (Int.not_lt.2 (by assumption)) (by assumption)]; rfl)
      | (refine ek _ _ _ _ _ _ _ (by simp) rfl ?_; rw [← hR, st4_D (Int.not_lt.2 (by assumption)) (Int.not_lt.2 (by assumption))]; rfl)
      | (refine ek _ _ _ _ _ _ _ (by simp) rfl ?_; rw [← hR, st4_B (by assumption) (fun hh => by first | exact absurd hh.2 (Int.not_lt.2 (by assumption)) | exact absurd hh.1 (by assumption) | exact Bool.noConfusion (hh.1.symm.trans (by assumption)))]; rfl)
      | (refine ek _ _ _ _ _ _ _ (by simp) rfl ?_; rw [← hR, st4_A0 (by assumption) (by assumption) (by assumption)]; rfl)

theorem look_none : FnSt Try.prog 64 (lookSp 0) := by
  refine ⟨⟨_, Try.func64, by decide, rfl⟩, fun bl vals boxes K hK => ?_⟩
  exfalso
  simp only [lookSp] at hK
  split at hK
  · obtain ⟨⟨⟨W, H, hO, _⟩, _⟩, _⟩ := hK
    exact Nat.not_lt_zero _ hO.ct
  · exact hK
theorem look_ok : ∀ m, FnSt Try.prog 64 (lookSp m)
  | 0 => look_none
  | m + 1 => look_step m (look_ok m)

end Fer
