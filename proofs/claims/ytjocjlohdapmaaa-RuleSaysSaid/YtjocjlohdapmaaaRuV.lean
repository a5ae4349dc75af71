import Derived.Test.YtjocjlohdapmaaaRows
import Derived.Test.YtjocjlohdapmaaaRuWf
import Derived.Test.YtjocjlohdapmaaaRuS
set_option linter.unusedSimpArgs false
set_option linter.unusedVariables false
set_option maxHeartbeats 16000000
namespace Fer
open Go Go.Proofs

theorem fromN_none : FnSt Try.prog 48 (fromNSp 0) := by
  refine ⟨⟨_, Try.func48, by decide, rfl⟩, fun bl vals boxes K hK => ?_⟩
  exfalso
  simp only [fromNSp] at hK
  split at hK
  · exact Nat.not_lt_zero _ hK.1.2.1.fu
  · exact hK
theorem fromN_ok : ∀ m, FnSt Try.prog 48 (fromNSp m)
  | 0 => fromN_none
  | m + 1 => fromN_step m (fromN_ok m)
theorem fromF_none : FnSt Try.prog 48 (fromFSp 0) := by
  refine ⟨⟨_, Try.func48, by decide, rfl⟩, fun bl vals boxes K hK => ?_⟩
  exfalso
  simp only [fromFSp] at hK
  split at hK
  · exact Nat.not_lt_zero _ hK.1.2.1.fu
  · exact hK
theorem fromF_ok : ∀ m, FnSt Try.prog 48 (fromFSp m)
  | 0 => fromF_none
  | m + 1 => fromF_step m (fromF_ok m)
theorem walkNN_ok : FnSt Try.prog 18 walkNSp := walkN_ok (fromN_ok 1000)
theorem walkFF_ok : FnSt Try.prog 18 walkFSp := walkF_ok (fromF_ok 1000)

noncomputable def ruE (a b c : List Int) : Int := rightE [a, b, c] [a, b, c]
open Classical in
noncomputable def numV (a b c : List Int) : Int := if ruE a b c ≠ 0 then 0 else ((fillP a b c).length : Int)
open Classical in
noncomputable def filV (a b c : List Int) : List Tb := if ruE a b c ≠ 0 then [] else tsort (fillP a b c)
noncomputable def numSp : Spec := ⟨[LI, LI, LI], fun args K => match args with
  | [⟨.list _ (.int _), a⟩, ⟨.list _ (.int _), b⟩, ⟨.list _ (.int _), c⟩] => K [tI (numV a b c), tI (ruE a b c)]
  | _ => False⟩
noncomputable def filSp : Spec := ⟨[LI, LI, LI], fun args K => match args with
  | [⟨.list _ (.int _), a⟩, ⟨.list _ (.int _), b⟩, ⟨.list _ (.int _), c⟩] => K [tTT (filV a b c), tI (ruE a b c)]
  | _ => False⟩
theorem at_rnum {args : List TV} {K : List TV → Prop} (ht : args.map (·.t) = numSp.ps) (hK : numSp.wp args K) : ∃ a b c, args = [tL a, tL b, tL c] ∧ K [tI (numV a b c), tI (ruE a b c)] := by
  match args, ht, hK with
  | [⟨t, x⟩, ⟨u, y⟩, ⟨v, z⟩], ht, hK =>
    simp only [numSp, List.map_cons, List.map_nil, List.cons.injEq, and_true] at ht
    obtain ⟨rfl, rfl, rfl⟩ := ht
    exact ⟨x, y, z, rfl, hK⟩
  | [], ht, _ => simp [numSp] at ht
  | [_], ht, _ => simp [numSp] at ht
  | [_, _], ht, _ => simp [numSp] at ht
  | _ :: _ :: _ :: _ :: _, ht, _ => simp [numSp] at ht
theorem at_fil {args : List TV} {K : List TV → Prop} (ht : args.map (·.t) = filSp.ps) (hK : filSp.wp args K) : ∃ a b c, args = [tL a, tL b, tL c] ∧ K [tTT (filV a b c), tI (ruE a b c)] := by
  match args, ht, hK with
  | [⟨t, x⟩, ⟨u, y⟩, ⟨v, z⟩], ht, hK =>
    simp only [filSp, List.map_cons, List.map_nil, List.cons.injEq, and_true] at ht
    obtain ⟨rfl, rfl, rfl⟩ := ht
    exact ⟨x, y, z, rfl, hK⟩
  | [], ht, _ => simp [filSp] at ht
  | [_], ht, _ => simp [filSp] at ht
  | [_, _], ht, _ => simp [filSp] at ht
  | _ :: _ :: _ :: _ :: _, ht, _ => simp [filSp] at ht
theorem ru_zero {a b c : List Int} (h : ruE a b c = 0) : (partE a = 0 ∧ a.sum ≤ 16) ∧ (partE b = 0 ∧ b.sum ≤ 16) ∧ (partE c = 0 ∧ c.sum ≤ 16) := by
  unfold ruE rightE at h
  split at h
  · rename_i hn; exact absurd h hn
  · rename_i hz
    have hz := partsL_zero.1 (Classical.not_not.1 hz)
    split at h
    · cases h
    · rename_i hb
      have h3 : ∀ p ∈ [a, b, c], p.sum ≤ 16 := fun p hp => Int.not_lt.1 fun hh => hb ⟨p, hp, hh⟩
      exact ⟨⟨hz a (by simp), h3 a (by simp)⟩, ⟨hz b (by simp), h3 b (by simp)⟩, hz c (by simp), h3 c (by simp)⟩

theorem fillP_shape {a b c : List Int} (ha : partRows a) (hb : partRows b) (hc : partRows c) (h16 : c.sum ≤ 16) : ∃ s : List Nat, s.length ≤ 1000 ∧ s.sum ≤ 1000 ∧ ∀ T ∈ fillP a b c, T.map List.length = s := by
  unfold fillP
  by_cases h : a.sum + b.sum = c.sum ∧ within a c ∧ within b c
  · rw [if_pos h]
    have H := abc_of ha hb hc h.1 h.2.1
    have hl := part_len_sum hc
    obtain ⟨s, s1, s2, s3⟩ := stg_shape H h16 (by omega)
    exact ⟨s, s1, s2, fun T hT => s3 T ((mem_stgT H.H).2 ((mem_both H).1 hT))⟩
  · rw [if_neg h]
    exact ⟨[], by decide, by decide, fun T hT => absurd hT (by simp)⟩

set_option maxRecDepth 10000 in
theorem num_ok : FnOK Try.prog 5 numSp := by
  have hC : ∀ {w0 : World} {S0 : Nat → Prop}, CtxOK Try.prog ⟨24, tab, fun f => lk [(17, rightSp)] f, fun f => lk [] f, fun f => lk [] f, fun f => lk [] f, fun f => lk [(18, walkNSp)] f, fun f => lk [] f⟩ w0 S0 := ctx_ok ⟨right_ok, trivial⟩ trivial trivial trivial ⟨walkNN_ok, trivial⟩
  refine FnOK_of (C := ⟨24, tab, fun f => lk [(17, rightSp)] f, fun f => lk [] f, fun f => lk [] f, fun f => lk [] f, fun f => lk [(18, walkNSp)] f, fun f => lk [] f⟩) 5 Try.f5 _ [6, 7] numSp Try.func5 rfl (by decide) rfl rfl (Nat.le_of_ble_eq_true rfl) fun args K ht hK w0 => ?_
  obtain ⟨a, b, c, rfl, hk⟩ := at_rnum ht hK
  unfold numV at hk
  have hru : rightE [a, b, c] [a, b, c] = ruE a b c := rfl
  by_cases hz : ruE a b c = 0
  rotate_left
  · rw [if_pos hz] at hk
    repeat' (first | with_reducible (first | refine XW.seq ?_ | refine XW.block ?_ | refine XW.skip ?_ | refine XW.exit ?_ | refine XW.ret ?_) | ((first | with_reducible refine XW.region hC (fun K' hK' => ?_) | with_reducible refine XW.text hC hm_ok (by kernel_rfl) (fun K' hK' => ?_)); (try simp only [List.toList_toArray]); repeat' (first | with_reducible (first | refine xrun_cons ?_ | refine xtxt_cons ?_) | (with_reducible (first | show xoper _ _ _ _ _ _ _ | show xdo _ _ _ _ _ _); simp only [zd, zb, zz, RT.at, RT.ty, RT.sub, RT.cut, RT.wr, getS, setT, Ty.dflt, lk, Ty.st, stV, unV, prodTV, Int.reduceToNat, Int.reduceEq, reduceCtorEq, Nat.reduceLT, Nat.reduceEqDiff, Nat.reduceAdd, Nat.reduceMul, Nat.reduceLeDiff, Nat.reduceSub, Nat.reduceBEq, Nat.reduceBNe, Nat.reduceBeqDiff, ↓reduceIte, tab, tL, tI, tB, LI, NI, LLI, tLL, LTT, tTT, ROL, SRt, SV, tSr, spL, spT, spLL, rightSp, walkNPat, walkNSp, walkFPat, walkFSp, numSp, filSp, sortTbSp, List.set_cons_zero, List.getD_cons_zero, hru]) | with_reducible refine xgd_intro (fun hg => ?_) (fun hg => ?_) <;> (try simp only [zh, zi, zz, reduceCtorEq] at hg) | ((with_reducible show (_ : Bool) = true); kernel_rfl) | with_reducible (first | refine And.intro ?_ ?_ | refine xrun_nil ?_ | refine xtxt_nil ?_) | (refine hK' _ ?_; clear hK'; clear K') | (with_reducible intro hg; try simp only [zh, zi, zz, reduceCtorEq] at hg))) | ((with_reducible show XW _ _ _ _ (.cond _ _ _) _ _); refine XW.cond rfl (fun h => ?_) (fun h => ?_) <;> (try simp only [zh, zi, zz, reduceCtorEq] at h) <;> (try (exfalso; omega))) | ((with_reducible show XW.thn _ _ _ _); dsimp only [XW.thn]) | ((with_reducible show XW.blk _ _ _ _); simp only [XW.blk, ↓reduceIte, Nat.reduceEqDiff, Nat.zero_ne_one, Nat.one_ne_zero, ne_eq]) | ((with_reducible show retK _ _ _ _); simp only [zd, zb, zz, lk, Nat.reduceEqDiff, Nat.reduceBEq, Nat.reduceBeqDiff, reduceCtorEq, ↓reduceIte])); all_goals (try (first | omega | with_reducible exact Int.le_refl _ | (show (_ : Int) ≤ _; omega)))
    all_goals first
      | exact hk
      | exact absurd (by assumption) hz
      | skip
  rw [if_neg (fun h => h hz)] at hk
  have hp := ru_zero hz
  rw [hz] at hk
  have hru : rightE [a, b, c] [a, b, c] = 0 := hz
  repeat' (first | with_reducible (first | refine XW.seq ?_ | refine XW.block ?_ | refine XW.skip ?_ | refine XW.exit ?_ | refine XW.ret ?_) | ((first | with_reducible refine XW.region hC (fun K' hK' => ?_) | with_reducible refine XW.text hC hm_ok (by kernel_rfl) (fun K' hK' => ?_)); (try simp only [List.toList_toArray]); repeat' (first | with_reducible (first | refine xrun_cons ?_ | refine xtxt_cons ?_) | (with_reducible (first | show xoper _ _ _ _ _ _ _ | show xdo _ _ _ _ _ _); simp only [zd, zb, zz, RT.at, RT.ty, RT.sub, RT.cut, RT.wr, getS, setT, Ty.dflt, lk, Ty.st, stV, unV, prodTV, Int.reduceToNat, Int.reduceEq, reduceCtorEq, Nat.reduceLT, Nat.reduceEqDiff, Nat.reduceAdd, Nat.reduceMul, Nat.reduceLeDiff, Nat.reduceSub, Nat.reduceBEq, Nat.reduceBNe, Nat.reduceBeqDiff, ↓reduceIte, tab, tL, tI, tB, LI, NI, LLI, tLL, LTT, tTT, ROL, SRt, SV, tSr, spL, spT, spLL, rightSp, walkNPat, walkNSp, walkFPat, walkFSp, numSp, filSp, sortTbSp, List.set_cons_zero, List.getD_cons_zero, hru]) | with_reducible refine xgd_intro (fun hg => ?_) (fun hg => ?_) <;> (try simp only [zh, zi, zz, reduceCtorEq] at hg) | ((with_reducible show (_ : Bool) = true); kernel_rfl) | with_reducible (first | refine And.intro ?_ ?_ | refine xrun_nil ?_ | refine xtxt_nil ?_) | (refine hK' _ ?_; clear hK'; clear K') | (with_reducible intro hg; try simp only [zh, zi, zz, reduceCtorEq] at hg))) | ((with_reducible show XW _ _ _ _ (.cond _ _ _) _ _); refine XW.cond rfl (fun h => ?_) (fun h => ?_) <;> (try simp only [zh, zi, zz, reduceCtorEq] at h) <;> (try (exfalso; omega))) | ((with_reducible show XW.thn _ _ _ _); dsimp only [XW.thn]) | ((with_reducible show XW.blk _ _ _ _); simp only [XW.blk, ↓reduceIte, Nat.reduceEqDiff, Nat.zero_ne_one, Nat.one_ne_zero, ne_eq]) | ((with_reducible show retK _ _ _ _); simp only [zd, zb, zz, lk, Nat.reduceEqDiff, Nat.reduceBEq, Nat.reduceBeqDiff, reduceCtorEq, ↓reduceIte])); all_goals (try (first | omega | with_reducible exact Int.le_refl _ | (show (_ : Int) ≤ _; omega)))
  all_goals first
    | exact hk
    | exact hp
    | skip

set_option maxRecDepth 10000 in
theorem fil_ok : FnOK Try.prog 6 filSp := by
  have hC : ∀ {w0 : World} {S0 : Nat → Prop}, CtxOK Try.prog ⟨26, tab, fun f => lk [(17, rightSp)] f, fun f => lk [] f, fun f => lk [(22, sortTbSp 23)] f, fun f => lk [] f, fun f => lk [(18, walkFSp)] f, fun f => lk [] f⟩ w0 S0 := ctx_ok ⟨right_ok, trivial⟩ trivial ⟨sortTb1_ok, trivial⟩ trivial ⟨walkFF_ok, trivial⟩
  refine FnOK_of (C := ⟨26, tab, fun f => lk [(17, rightSp)] f, fun f => lk [] f, fun f => lk [(22, sortTbSp 23)] f, fun f => lk [] f, fun f => lk [(18, walkFSp)] f, fun f => lk [] f⟩) 6 Try.f6 _ [6, 7] filSp Try.func6 rfl (by decide) rfl rfl (Nat.le_of_ble_eq_true rfl) fun args K ht hK w0 => ?_
  obtain ⟨a, b, c, rfl, hk⟩ := at_fil ht hK
  unfold filV at hk
  have hru : rightE [a, b, c] [a, b, c] = ruE a b c := rfl
  by_cases hz : ruE a b c = 0
  rotate_left
  · rw [if_pos hz] at hk
    repeat' (first | with_reducible (first | refine XW.seq ?_ | refine XW.block ?_ | refine XW.skip ?_ | refine XW.exit ?_ | refine XW.ret ?_) | ((first | with_reducible refine XW.region hC (fun K' hK' => ?_) | with_reducible refine XW.text hC hm_ok (by kernel_rfl) (fun K' hK' => ?_)); (try simp only [List.toList_toArray]); repeat' (first | with_reducible (first | refine xrun_cons ?_ | refine xtxt_cons ?_) | (with_reducible (first | show xoper _ _ _ _ _ _ _ | show xdo _ _ _ _ _ _); simp only [zd, zb, zz, RT.at, RT.ty, RT.sub, RT.cut, RT.wr, getS, setT, Ty.dflt, lk, Ty.st, stV, unV, prodTV, Int.reduceToNat, Int.reduceEq, reduceCtorEq, Nat.reduceLT, Nat.reduceEqDiff, Nat.reduceAdd, Nat.reduceMul, Nat.reduceLeDiff, Nat.reduceSub, Nat.reduceBEq, Nat.reduceBNe, Nat.reduceBeqDiff, ↓reduceIte, tab, tL, tI, tB, LI, NI, LLI, tLL, LTT, tTT, ROL, SRt, SV, tSr, spL, spT, spLL, rightSp, walkNPat, walkNSp, walkFPat, walkFSp, numSp, filSp, sortTbSp, List.set_cons_zero, List.getD_cons_zero, hru]) | with_reducible refine xgd_intro (fun hg => ?_) (fun hg => ?_) <;> (try simp only [zh, zi, zz, reduceCtorEq] at hg) | ((with_reducible show (_ : Bool) = true); kernel_rfl) | with_reducible (first | refine And.intro ?_ ?_ | refine xrun_nil ?_ | refine xtxt_nil ?_) | (refine hK' _ ?_; clear hK'; clear K') | (with_reducible intro hg; try simp only [zh, zi, zz, reduceCtorEq] at hg))) | ((with_reducible show XW _ _ _ _ (.cond _ _ _) _ _); refine XW.cond rfl (fun h => ?_) (fun h => ?_) <;> (try simp only [zh, zi, zz, reduceCtorEq] at h) <;> (try (exfalso; omega))) | ((with_reducible show XW.thn _ _ _ _); dsimp only [XW.thn]) | ((with_reducible show XW.blk _ _ _ _); simp only [XW.blk, ↓reduceIte, Nat.reduceEqDiff, Nat.zero_ne_one, Nat.one_ne_zero, ne_eq]) | ((with_reducible show retK _ _ _ _); simp only [zd, zb, zz, lk, Nat.reduceEqDiff, Nat.reduceBEq, Nat.reduceBeqDiff, reduceCtorEq, ↓reduceIte])); all_goals (try (first | omega | with_reducible exact Int.le_refl _ | (show (_ : Int) ≤ _; omega)))
    all_goals first
      | exact hk
      | exact absurd (by assumption) hz
      | skip
  rw [if_neg (fun h => h hz)] at hk
  have hp := ru_zero hz
  have ra := (partE_zero hp.1.1).1
  have rb := (partE_zero hp.2.1.1).1
  have rc := (partE_zero hp.2.2.1).1
  have hln := (fill_law ra rb rc hp.2.2.2).1
  have hsh := fillP_shape ra rb rc hp.2.2.2
  rw [hz] at hk
  have hru : rightE [a, b, c] [a, b, c] = 0 := hz
  repeat' (first | with_reducible (first | refine XW.seq ?_ | refine XW.block ?_ | refine XW.skip ?_ | refine XW.exit ?_ | refine XW.ret ?_) | ((first | with_reducible refine XW.region hC (fun K' hK' => ?_) | with_reducible refine XW.text hC hm_ok (by kernel_rfl) (fun K' hK' => ?_)); (try simp only [List.toList_toArray]); repeat' (first | with_reducible (first | refine xrun_cons ?_ | refine xtxt_cons ?_) | (with_reducible (first | show xoper _ _ _ _ _ _ _ | show xdo _ _ _ _ _ _); simp only [zd, zb, zz, RT.at, RT.ty, RT.sub, RT.cut, RT.wr, getS, setT, Ty.dflt, lk, Ty.st, stV, unV, prodTV, Int.reduceToNat, Int.reduceEq, reduceCtorEq, Nat.reduceLT, Nat.reduceEqDiff, Nat.reduceAdd, Nat.reduceMul, Nat.reduceLeDiff, Nat.reduceSub, Nat.reduceBEq, Nat.reduceBNe, Nat.reduceBeqDiff, ↓reduceIte, tab, tL, tI, tB, LI, NI, LLI, tLL, LTT, tTT, ROL, SRt, SV, tSr, spL, spT, spLL, rightSp, walkNPat, walkNSp, walkFPat, walkFSp, numSp, filSp, sortTbSp, List.set_cons_zero, List.getD_cons_zero, hru]) | with_reducible refine xgd_intro (fun hg => ?_) (fun hg => ?_) <;> (try simp only [zh, zi, zz, reduceCtorEq] at hg) | ((with_reducible show (_ : Bool) = true); kernel_rfl) | with_reducible (first | refine And.intro ?_ ?_ | refine xrun_nil ?_ | refine xtxt_nil ?_) | (refine hK' _ ?_; clear hK'; clear K') | (with_reducible intro hg; try simp only [zh, zi, zz, reduceCtorEq] at hg))) | ((with_reducible show XW _ _ _ _ (.cond _ _ _) _ _); refine XW.cond rfl (fun h => ?_) (fun h => ?_) <;> (try simp only [zh, zi, zz, reduceCtorEq] at h) <;> (try (exfalso; omega))) | ((with_reducible show XW.thn _ _ _ _); dsimp only [XW.thn]) | ((with_reducible show XW.blk _ _ _ _); simp only [XW.blk, ↓reduceIte, Nat.reduceEqDiff, Nat.zero_ne_one, Nat.one_ne_zero, ne_eq]) | ((with_reducible show retK _ _ _ _); simp only [zd, zb, zz, lk, Nat.reduceEqDiff, Nat.reduceBEq, Nat.reduceBeqDiff, reduceCtorEq, ↓reduceIte])); all_goals (try (first | omega | with_reducible exact Int.le_refl _ | (show (_ : Int) ≤ _; omega)))
  all_goals first
    | exact hk
    | exact hp
    | exact hsh
    | omega
    | exact Nat.le_trans hln (by decide)
    | skip

end Fer
