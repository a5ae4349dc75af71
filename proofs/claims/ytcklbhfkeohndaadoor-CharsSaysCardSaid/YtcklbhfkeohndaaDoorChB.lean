import Derived.Test.YtcklbhfkeohndaaDoorRows
import Derived.Test.YtcklbhfkeohndaaDoorChS
set_option linter.unusedSimpArgs false
set_option linter.unusedVariables false
set_option maxHeartbeats 4000000
namespace Fer
open Go Go.Proofs

structure PartS (p : List Int) : Prop where
  pt : PartL p
  s40 : sumL p ≤ 40
theorem PartS.len {p : List Int} (h : PartS p) : p.length ≤ 40 := by
  have := sumL_pos h.pt.pos
  have := h.s40
  omega
theorem sumL_le : ∀ {p : List Int}, (∀ a ∈ p, 1 ≤ a) → ∀ a ∈ p, a ≤ sumL p
  | [], _, a, ha => by cases ha
  | b :: p, h, a, ha => by
    have h1 := sumL_pos fun x hx => h x (List.mem_cons_of_mem _ hx)
    have h2 := h b List.mem_cons_self
    rw [sumL_cons]
    rcases List.mem_cons.1 ha with rfl | ha
    · omega
    · have := sumL_le (fun x hx => h x (List.mem_cons_of_mem _ hx)) a ha
      omega
theorem PartS.get {p : List Int} (h : PartS p) {i : Nat} (hi : i < p.length) : 1 ≤ p.getD i 0 ∧ p.getD i 0 ≤ 40 := by
  have h1 := getD_mem 0 hi
  have := sumL_le h.pt.pos _ h1
  have := h.s40
  exact ⟨h.pt.pos _ h1, by omega⟩
theorem PartS.bead {p : List Int} (h : PartS p) {i : Nat} (hi : i < p.length) : 0 ≤ (beads p).getD i 0 ∧ (beads p).getD i 0 ≤ 100 := by
  have h1 := beads_getD p i hi
  have h2 := h.get hi
  have h3 := h.len
  omega

def sF (p : List Int) (k : Int) (m : Nat) : List (List Int × Int) := ((List.range p.length).drop m).reverse.filterMap (stepL p k)
theorem sF_top (p : List Int) (k : Int) : sF p k p.length = [] := by
  unfold sF
  rw [List.drop_eq_nil_of_le (by simp)]
  rfl
theorem sF_zero (p : List Int) (k : Int) : sF p k 0 = strips p k := rfl
theorem sF_step {p : List Int} {k : Int} {m : Nat} (h : m < p.length) : sF p k m = sF p k (m + 1) ++ (stepL p k m).toList := by
  unfold sF
  rw [List.drop_eq_getElem_cons (by simpa using h), List.reverse_cons, List.filterMap_append, List.getElem_range]
  congr 1
theorem sF_len (p : List Int) (k : Int) (m : Nat) : (sF p k m).length ≤ p.length := by
  unfold sF
  refine Nat.le_trans (List.length_filterMap_le _ _) ?_
  rw [List.length_reverse, List.length_drop, List.length_range]
  omega

def shB1 (b : List Int) (i c : Nat) : List Int := b.take i ++ (b.drop (i + 1)).take c ++ b.drop (i + c)
theorem shB1_zero {b : List Int} {i : Nat} : shB1 b i 0 = b := by
  unfold shB1
  rw [List.take_zero, List.append_nil, Nat.add_zero, List.take_append_drop]
theorem shB1_len {b : List Int} {i c : Nat} (h : i + c < b.length) : (shB1 b i c).length = b.length := by
  unfold shB1
  simp only [List.length_append, List.length_take, List.length_drop]
  omega
theorem shB1_get {b : List Int} {i c : Nat} (h : i + c < b.length) {r : Nat} (hr : i + c ≤ r) : (shB1 b i c).getD r 0 = b.getD r 0 := by
  unfold shB1
  have hl : (b.take i ++ (b.drop (i + 1)).take c).length = i + c := by
    simp only [List.length_append, List.length_take, List.length_drop]
    omega
  rw [List.getD_eq_getElem?_getD, List.getElem?_append_right (by omega), hl, List.getElem?_drop, show i + c + (r - (i + c)) = r by omega, ← List.getD_eq_getElem?_getD]
theorem shB1_set {b : List Int} {i c : Nat} {v : Int} (h : i + c < b.length) : (shB1 b i c).set (i + c) v = b.take i ++ (b.drop (i + 1)).take c ++ v :: b.drop (i + c + 1) := by
  unfold shB1
  have hl : (b.take i ++ (b.drop (i + 1)).take c).length = i + c := by
    simp only [List.length_append, List.length_take, List.length_drop]
    omega
  rw [List.set_append_right _ _ (by omega), hl, Nat.sub_self, List.drop_eq_getElem_cons h, List.set_cons_zero]
theorem shB1_succ {b : List Int} {i c : Nat} (h : i + c + 1 < b.length) : (shB1 b i c).set (i + c) (b.getD (i + c + 1) 0) = shB1 b i (c + 1) := by
  rw [shB1_set (by omega)]
  unfold shB1
  have hd : (b.drop (i + 1))[c]? = some (b.getD (i + c + 1) 0) := by
    rw [List.getElem?_drop, show i + 1 + c = i + c + 1 by omega, List.getD_eq_getElem?_getD, List.getElem?_eq_getElem h]
    rfl
  rw [List.take_add_one, hd, show i + (c + 1) = i + c + 1 by omega]
  simp
theorem step_none_of {p : List Int} {k : Int} {i : Nat} {to : Int} (hto : (beads p).getD i 0 - k = to) (h : to < 0 ∨ to ∈ beads p) : stepL p k i = none := by
  unfold stepL
  rw [hto, if_pos h]
theorem step_some_of {p : List Int} {k : Int} {i c : Nat} {to : Int} (hto : (beads p).getD i 0 - k = to) (h : ¬ (to < 0 ∨ to ∈ beads p)) (hi : i + c < p.length) (h1 : ∀ r, i < r → r ≤ i + c → to < (beads p).getD r 0) (h2 : i + c + 1 < p.length → ¬ to < (beads p).getD (i + c + 1) 0) :
    stepL p k i = some ((unb ((shB1 (beads p) i c).set (i + c) to)).filter (fun a => decide (0 < a)), (c : Int)) := by
  have hbl := beads_len p
  have hgd : ∀ (r : Nat) (h : r < (beads p).length), (beads p)[r] = (beads p).getD r 0 := fun r h => by
    rw [List.getD_eq_getElem?_getD, List.getElem?_eq_getElem h]; rfl
  obtain ⟨e1, e2⟩ := while_take (f := fun b => decide (to < b)) (l := (beads p).drop (i + 1)) (m := c) (by rw [List.length_drop]; omega)
    (fun r hr hrm => by
      rw [List.getElem_drop, hgd]
      exact decide_eq_true (h1 _ (by omega) (by omega)))
    (fun h => by
      rw [List.length_drop] at h
      rw [List.getElem_drop, hgd]
      have := h2 (by omega)
      rw [show i + c + 1 = i + 1 + c by omega] at this
      exact decide_eq_false this)
  unfold stepL
  rw [hto, if_neg h, e1, e2, shB1_set (by omega), List.drop_drop]
  have hwl : (((beads p).drop (i + 1)).take c).length = c := by rw [List.length_take, List.length_drop]; omega
  rw [hwl, show i + 1 + c = i + c + 1 by omega]

def posU (L : List Int) (r : Nat) : List Int := ((unb L).take r).filter (fun a => decide (0 < a))
theorem posU_zero (L : List Int) : posU L 0 = [] := rfl
theorem posU_end {L : List Int} {n : Nat} (h : L.length = n) : posU L n = (unb L).filter (fun a => decide (0 < a)) := by
  unfold posU
  rw [List.take_of_length_le (by rw [unb_len]; omega)]
theorem posU_len (L : List Int) (r : Nat) : (posU L r).length ≤ r := by
  unfold posU
  refine Nat.le_trans (List.length_filter_le _ _) ?_
  rw [List.length_take]
  omega
theorem posU_pos {L : List Int} {r : Nat} (h : r < L.length) (hp : 0 < L.getD r 0 - ((L.length : Int) - 1 - r)) : posU L (r + 1) = posU L r ++ [L.getD r 0 - ((L.length : Int) - 1 - r)] := by
  unfold posU
  rw [take_succ_getD 0 (by rw [unb_len]; exact h), List.filter_append, unb_getD L r h, List.filter_cons, if_pos (by rw [decide_eq_true_eq]; exact hp), List.filter_nil]
theorem posU_neg {L : List Int} {r : Nat} (h : r < L.length) (hp : L.getD r 0 - ((L.length : Int) - 1 - r) ≤ 0) : posU L (r + 1) = posU L r := by
  unfold posU
  rw [take_succ_getD 0 (by rw [unb_len]; exact h), List.filter_append, unb_getD L r h, List.filter_cons, if_neg (by rw [decide_eq_true_eq]; omega), List.filter_nil, List.append_nil]

def stripsSp : Spec := spLI fun p k K => (PartS p ∧ 1 ≤ k ∧ k ≤ 9223372036854775807) ∧ K [tSP (strips p k)]

set_option maxRecDepth 10000 in
theorem strips_ok : FnOK Tryd.prog 18 stripsSp := by
  have hC : ∀ {w0 : World} {S0 : Nat → Prop}, CtxOK Tryd.prog ⟨120, tab, fun f => lk [(32, containsSp), (33, cloneSp)] f, fun f => lk [] f, fun f => lk [(21, sortStSp 34)] f, fun f => lk [] f, fun f => lk [] f, fun f => lk [] f⟩ w0 S0 := ctx_ok ⟨contains_ok, clone_ok, trivial⟩ trivial ⟨sortSt_ok, trivial⟩ trivial trivial
  refine FnOK_of (C := ⟨120, tab, fun f => lk [(32, containsSp), (33, cloneSp)] f, fun f => lk [] f, fun f => lk [(21, sortStSp 34)] f, fun f => lk [] f, fun f => lk [] f, fun f => lk [] f⟩) 18 Tryd.f18 _ [4] stripsSp Tryd.func18 rfl (by decide) rfl rfl (Nat.le_of_ble_eq_true rfl) fun args K ht hK w0 => ?_
  obtain ⟨p, k, rfl, ⟨hp, hk1, hk2⟩, hk⟩ := at_LI (f := fun p k K => (PartS p ∧ 1 ≤ k ∧ k ≤ 9223372036854775807) ∧ K [tSP (strips p k)]) ht hK
  have hl := hp.len
  have hbl := beads_len p
  repeat' (first | with_reducible refine XW.seq ?_ | with_reducible refine XW.block ?_ | with_reducible refine XW.skip ?_ | with_reducible refine XW.exit ?_ | with_reducible refine XW.ret ?_ | ((first | with_reducible refine XW.region hC (fun K' hK' => ?_) | with_reducible refine XW.text hC hm_ok (by kernel_rfl) (fun K' hK' => ?_)); (try simp only [List.toList_toArray]); repeat' (first | with_reducible refine xrun_cons ?_ | with_reducible refine xtxt_cons ?_ | ((first | with_reducible show xoper _ _ _ _ _ _ _ | with_reducible show xdo _ _ _ _ _ _); simp only [zd, zb, zz, RT.at, RT.ty, RT.sub, RT.cut, RT.wr, getS, setT, Ty.dflt, lk, Ty.st, stV, unV, prodTV, Int.reduceToNat, Int.reduceEq, reduceCtorEq, Nat.reduceLT, Nat.reduceEqDiff, Nat.reduceAdd, Nat.reduceMul, Nat.reduceLeDiff, Nat.reduceSub, Nat.reduceBEq, Nat.reduceBNe, Nat.reduceBeqDiff, ↓reduceIte, tab, tL, tI, tB, LI, NI, LLI, tLL, SPt, LSP, tSP, spL, spLI, spIL, spLL, containsSp, cloneSp, sortStSp, stripsSp, List.set_cons_zero, List.getD_cons_zero]) | with_reducible refine xgd_intro (fun hg => ?_) (fun hg => ?_) <;> (try simp only [zh, zi, zz, reduceCtorEq] at hg) | ((with_reducible show (_ : Bool) = true); kernel_rfl) | with_reducible refine And.intro ?_ ?_ | with_reducible refine xrun_nil ?_ | with_reducible refine xtxt_nil ?_ | (refine hK' _ ?_; clear hK'; clear K') | (with_reducible intro hg; try simp only [zh, zi, zz, reduceCtorEq] at hg))) | ((with_reducible show XW _ _ _ _ (.cond _ _ _) _ _); refine XW.cond rfl (fun h => ?_) (fun h => ?_) <;> (try simp only [zh, zi, zz, reduceCtorEq] at h) <;> (try (exfalso; omega))) | ((with_reducible show XW.thn _ _ _ _); dsimp only [XW.thn]) | ((with_reducible show XW.blk _ _ _ _); simp only [XW.blk, ↓reduceIte, Nat.reduceEqDiff, Nat.zero_ne_one, Nat.one_ne_zero, ne_eq]) | ((with_reducible show retK _ _ _ _); simp only [zd, zb, zz, lk, Nat.reduceEqDiff, Nat.reduceBEq, Nat.reduceBeqDiff, reduceCtorEq, ↓reduceIte])); all_goals (try (first | omega | with_reducible exact Int.le_refl _ | (show (_ : Int) ≤ _; omega)))
  refine XW.loop (ι := Nat) (fun i => ⟨[(25, .dat NI (i : Int)), (24, .dat NI (p.length : Int)), (23, .dat LI p), (6, .ref 1 []), (5, .dat NI (p.length : Int)), (1, .dat NI k)], [(1, ⟨3, NI, 0, (beads p).take i ++ List.replicate (p.length - i) 0, none⟩)], 2, []⟩)
    (fun i => i ≤ p.length) (fun i => p.length - i) 0 [(1, 1)] (Nat.zero_le _) ?_ fun i hi => ?_
  · simp only [Fits, distinct, fitEnv, fitB, fitL, fitRoots, fitRT, idsOK, AV.ids, zb, zz, RT.at, RT.ty, RT.sub, RT.cut, RT.wr, getS, setT, Ty.dflt, lk, Ty.st, stV, unV, prodTV, Int.reduceToNat, Int.reduceEq, reduceCtorEq, Nat.reduceLT, Nat.reduceEqDiff, Nat.reduceAdd, Nat.reduceMul, Nat.reduceLeDiff, Nat.reduceSub, Nat.reduceBEq, Nat.reduceBNe, Nat.reduceBeqDiff, ↓reduceIte, tab, tL, tI, tB, LI, NI, LLI, tLL, SPt, LSP, tSP, spL, spLI, spIL, spLL, containsSp, cloneSp, sortStSp, stripsSp, List.set_cons_zero, List.getD_cons_zero]
    all_goals first | rfl | simp
  by_cases hil : i < p.length
  · have hpi := hp.get hil
    have hbd := beads_getD p i hil
    have hlen : ((beads p).take i ++ List.replicate (p.length - i) (0 : Int)).length = p.length := by
      rw [List.length_append, List.length_take, List.length_replicate]; omega
    repeat' (first | with_reducible refine XW.seq ?_ | with_reducible refine XW.block ?_ | with_reducible refine XW.skip ?_ | with_reducible refine XW.exit ?_ | with_reducible refine XW.ret ?_ | ((first | with_reducible refine XW.region hC (fun K' hK' => ?_) | with_reducible refine XW.text hC hm_ok (by kernel_rfl) (fun K' hK' => ?_)); (try simp only [List.toList_toArray]); repeat' (first | with_reducible refine xrun_cons ?_ | with_reducible refine xtxt_cons ?_ | ((first | with_reducible show xoper _ _ _ _ _ _ _ | with_reducible show xdo _ _ _ _ _ _); simp only [zd, zb, zz, RT.at, RT.ty, RT.sub, RT.cut, RT.wr, getS, setT, Ty.dflt, lk, Ty.st, stV, unV, prodTV, Int.reduceToNat, Int.reduceEq, reduceCtorEq, Nat.reduceLT, Nat.reduceEqDiff, Nat.reduceAdd, Nat.reduceMul, Nat.reduceLeDiff, Nat.reduceSub, Nat.reduceBEq, Nat.reduceBNe, Nat.reduceBeqDiff, ↓reduceIte, tab, tL, tI, tB, LI, NI, LLI, tLL, SPt, LSP, tSP, spL, spLI, spIL, spLL, containsSp, cloneSp, sortStSp, stripsSp, List.set_cons_zero, List.getD_cons_zero]) | with_reducible refine xgd_intro (fun hg => ?_) (fun hg => ?_) <;> (try simp only [zh, zi, zz, reduceCtorEq] at hg) | ((with_reducible show (_ : Bool) = true); kernel_rfl) | with_reducible refine And.intro ?_ ?_ | with_reducible refine xrun_nil ?_ | with_reducible refine xtxt_nil ?_ | (refine hK' _ ?_; clear hK'; clear K') | (with_reducible intro hg; try simp only [zh, zi, zz, reduceCtorEq] at hg))) | ((with_reducible show XW _ _ _ _ (.cond _ _ _) _ _); refine XW.cond rfl (fun h => ?_) (fun h => ?_) <;> (try simp only [zh, zi, zz, reduceCtorEq] at h) <;> (try (exfalso; omega))) | ((with_reducible show XW.thn _ _ _ _); dsimp only [XW.thn]) | ((with_reducible show XW.blk _ _ _ _); simp only [XW.blk, ↓reduceIte, Nat.reduceEqDiff, Nat.zero_ne_one, Nat.one_ne_zero, ne_eq]) | ((with_reducible show retK _ _ _ _); simp only [zd, zb, zz, lk, Nat.reduceEqDiff, Nat.reduceBEq, Nat.reduceBeqDiff, reduceCtorEq, ↓reduceIte])); all_goals (try (first | omega | with_reducible exact Int.le_refl _ | (show (_ : Int) ≤ _; omega)))
    all_goals first
      | (exfalso; omega)
      | omega
      | skip
    refine ⟨i + 1, [(1, 1)], by omega, by omega, ?_⟩
    have e : (beads p).take (i + 1) ++ List.replicate (p.length - (i + 1)) 0 = ((beads p).take i ++ List.replicate (p.length - i) (0 : Int)).set i (p.getD i 0 + p.length - 1 - i) := by
      rw [List.set_append_right _ _ (by rw [List.length_take]; omega), List.length_take, show i - min i (beads p).length = 0 by omega, show p.length - i = (p.length - (i + 1)) + 1 by omega, List.replicate_succ, List.set_cons_zero, take_succ_getD 0 (show i < (beads p).length by omega), List.append_assoc, hbd]
      rw [show p.getD i 0 + ((p.length : Int) - 1 - i) = p.getD i 0 + p.length - 1 - i by omega]
      rfl
    rw [e]
    simp only [Fits, distinct, fitEnv, fitB, fitL, fitRoots, fitRT, idsOK, AV.ids, zb, zz, RT.at, RT.ty, RT.sub, RT.cut, RT.wr, getS, setT, Ty.dflt, lk, Ty.st, stV, unV, prodTV, Int.reduceToNat, Int.reduceEq, reduceCtorEq, Nat.reduceLT, Nat.reduceEqDiff, Nat.reduceAdd, Nat.reduceMul, Nat.reduceLeDiff, Nat.reduceSub, Nat.reduceBEq, Nat.reduceBNe, Nat.reduceBeqDiff, ↓reduceIte, tab, tL, tI, tB, LI, NI, LLI, tLL, SPt, LSP, tSP, spL, spLI, spIL, spLL, containsSp, cloneSp, sortStSp, stripsSp, List.set_cons_zero, List.getD_cons_zero]
    all_goals first | rfl | exact ⟨rfl, rfl⟩
  obtain rfl : i = p.length := by omega
  have e0 : (beads p).take p.length ++ List.replicate (p.length - p.length) 0 = beads p := by
    rw [List.take_of_length_le (by omega), Nat.sub_self]
    simp
  rw [e0]
  repeat' (first | with_reducible refine XW.seq ?_ | with_reducible refine XW.block ?_ | with_reducible refine XW.skip ?_ | with_reducible refine XW.exit ?_ | with_reducible refine XW.ret ?_ | ((first | with_reducible refine XW.region hC (fun K' hK' => ?_) | with_reducible refine XW.text hC hm_ok (by kernel_rfl) (fun K' hK' => ?_)); (try simp only [List.toList_toArray]); repeat' (first | with_reducible refine xrun_cons ?_ | with_reducible refine xtxt_cons ?_ | ((first | with_reducible show xoper _ _ _ _ _ _ _ | with_reducible show xdo _ _ _ _ _ _); simp only [zd, zb, zz, RT.at, RT.ty, RT.sub, RT.cut, RT.wr, getS, setT, Ty.dflt, lk, Ty.st, stV, unV, prodTV, Int.reduceToNat, Int.reduceEq, reduceCtorEq, Nat.reduceLT, Nat.reduceEqDiff, Nat.reduceAdd, Nat.reduceMul, Nat.reduceLeDiff, Nat.reduceSub, Nat.reduceBEq, Nat.reduceBNe, Nat.reduceBeqDiff, ↓reduceIte, tab, tL, tI, tB, LI, NI, LLI, tLL, SPt, LSP, tSP, spL, spLI, spIL, spLL, containsSp, cloneSp, sortStSp, stripsSp, List.set_cons_zero, List.getD_cons_zero]) | with_reducible refine xgd_intro (fun hg => ?_) (fun hg => ?_) <;> (try simp only [zh, zi, zz, reduceCtorEq] at hg) | ((with_reducible show (_ : Bool) = true); kernel_rfl) | with_reducible refine And.intro ?_ ?_ | with_reducible refine xrun_nil ?_ | with_reducible refine xtxt_nil ?_ | (refine hK' _ ?_; clear hK'; clear K') | (with_reducible intro hg; try simp only [zh, zi, zz, reduceCtorEq] at hg))) | ((with_reducible show XW _ _ _ _ (.cond _ _ _) _ _); refine XW.cond rfl (fun h => ?_) (fun h => ?_) <;> (try simp only [zh, zi, zz, reduceCtorEq] at h) <;> (try (exfalso; omega))) | ((with_reducible show XW.thn _ _ _ _); dsimp only [XW.thn]) | ((with_reducible show XW.blk _ _ _ _); simp only [XW.blk, ↓reduceIte, Nat.reduceEqDiff, Nat.zero_ne_one, Nat.one_ne_zero, ne_eq]) | ((with_reducible show retK _ _ _ _); simp only [zd, zb, zz, lk, Nat.reduceEqDiff, Nat.reduceBEq, Nat.reduceBeqDiff, reduceCtorEq, ↓reduceIte])); all_goals (try (first | omega | with_reducible exact Int.le_refl _ | (show (_ : Int) ≤ _; omega)))
  all_goals skip
  refine XW.loop (ι := Int) (fun z => ⟨[(10, .dat NI z), (9, .ref 0 []), (6, .ref 1 []), (5, .dat NI (p.length : Int)), (1, .dat NI k)], [(0, ⟨30, SPt, 1, sF p k (z + 1).toNat, none⟩), (1, ⟨3, NI, 0, beads p, none⟩)], 2, []⟩)
    (fun z => -1 ≤ z ∧ z < p.length) (fun z => (z + 1).toNat) ((p.length : Int) - 1) [(0, 2), (1, 1)] ⟨by omega, by omega⟩ ?_ fun z hz => ?_
  · rw [show ((p.length : Int) - 1 + 1).toNat = p.length by omega, sF_top]
    simp only [Fits, distinct, fitEnv, fitB, fitL, fitRoots, fitRT, idsOK, AV.ids, zb, zz, RT.at, RT.ty, RT.sub, RT.cut, RT.wr, getS, setT, Ty.dflt, lk, Ty.st, stV, unV, prodTV, Int.reduceToNat, Int.reduceEq, reduceCtorEq, Nat.reduceLT, Nat.reduceEqDiff, Nat.reduceAdd, Nat.reduceMul, Nat.reduceLeDiff, Nat.reduceSub, Nat.reduceBEq, Nat.reduceBNe, Nat.reduceBeqDiff, ↓reduceIte, tab, tL, tI, tB, LI, NI, LLI, tLL, SPt, LSP, tSP, spL, spLI, spIL, spLL, containsSp, cloneSp, sortStSp, stripsSp, List.set_cons_zero, List.getD_cons_zero]
    all_goals first | rfl | exact ⟨rfl, rfl⟩ | skip
  by_cases hz0 : 0 ≤ z
  rotate_left
  · have e : z = -1 := by omega
    subst e
    rw [show ((-1 : Int) + 1).toNat = 0 from rfl, sF_zero]
    have hsl := strips_len p k
    have hsd := strips_desc hp.pt hk1
    have hod : ordD (α := List Int × Int) (fun x => x.1) (strips p k) = strips p k := ordD_eq (List.Perm.refl _) hsd
    repeat' (first | with_reducible refine XW.seq ?_ | with_reducible refine XW.block ?_ | with_reducible refine XW.skip ?_ | with_reducible refine XW.exit ?_ | with_reducible refine XW.ret ?_ | ((first | with_reducible refine XW.region hC (fun K' hK' => ?_) | with_reducible refine XW.text hC hm_ok (by kernel_rfl) (fun K' hK' => ?_)); (try simp only [List.toList_toArray]); repeat' (first | with_reducible refine xrun_cons ?_ | with_reducible refine xtxt_cons ?_ | ((first | with_reducible show xoper _ _ _ _ _ _ _ | with_reducible show xdo _ _ _ _ _ _); simp only [zd, zb, zz, RT.at, RT.ty, RT.sub, RT.cut, RT.wr, getS, setT, Ty.dflt, lk, Ty.st, stV, unV, prodTV, Int.reduceToNat, Int.reduceEq, reduceCtorEq, Nat.reduceLT, Nat.reduceEqDiff, Nat.reduceAdd, Nat.reduceMul, Nat.reduceLeDiff, Nat.reduceSub, Nat.reduceBEq, Nat.reduceBNe, Nat.reduceBeqDiff, ↓reduceIte, tab, tL, tI, tB, LI, NI, LLI, tLL, SPt, LSP, tSP, spL, spLI, spIL, spLL, containsSp, cloneSp, sortStSp, stripsSp, List.set_cons_zero, List.getD_cons_zero, Nat.max_zero, hod]) | with_reducible refine xgd_intro (fun hg => ?_) (fun hg => ?_) <;> (try simp only [zh, zi, zz, reduceCtorEq] at hg) | ((with_reducible show (_ : Bool) = true); kernel_rfl) | with_reducible refine And.intro ?_ ?_ | with_reducible refine xrun_nil ?_ | with_reducible refine xtxt_nil ?_ | (refine hK' _ ?_; clear hK'; clear K') | (with_reducible intro hg; try simp only [zh, zi, zz, reduceCtorEq] at hg))) | ((with_reducible show XW _ _ _ _ (.cond _ _ _) _ _); refine XW.cond rfl (fun h => ?_) (fun h => ?_) <;> (try simp only [zh, zi, zz, reduceCtorEq] at h) <;> (try (exfalso; omega))) | ((with_reducible show XW.thn _ _ _ _); dsimp only [XW.thn]) | ((with_reducible show XW.blk _ _ _ _); simp only [XW.blk, ↓reduceIte, Nat.reduceEqDiff, Nat.zero_ne_one, Nat.one_ne_zero, ne_eq]) | ((with_reducible show retK _ _ _ _); simp only [zd, zb, zz, lk, Nat.reduceEqDiff, Nat.reduceBEq, Nat.reduceBeqDiff, reduceCtorEq, ↓reduceIte])); all_goals (try (first | omega | with_reducible exact Int.le_refl _ | (show (_ : Int) ≤ _; omega)))
    all_goals first
      | (exfalso; omega)
      | omega
      | exact ⟨strips p k, List.Perm.refl _, hsd⟩
      | exact hk
      | skip
  obtain ⟨i, rfl⟩ : ∃ i : Nat, z = (i : Int) := ⟨z.toNat, by omega⟩
  have hin : i < p.length := by omega
  have hbi := hp.bead hin
  rw [show ((i : Int) + 1).toNat = i + 1 by omega]
  have hst := sF_step (k := k) hin
  obtain ⟨to, hto⟩ : ∃ to, (beads p).getD i 0 - k = to := ⟨_, rfl⟩
  by_cases hc : to < 0 ∨ to ∈ beads p
  · rw [step_none_of hto hc] at hst
    have hst : sF p k i = sF p k (i + 1) := by rw [hst]; simp
    repeat' (first | with_reducible refine XW.seq ?_ | with_reducible refine XW.block ?_ | with_reducible refine XW.skip ?_ | with_reducible refine XW.exit ?_ | with_reducible refine XW.ret ?_ | ((first | with_reducible refine XW.region hC (fun K' hK' => ?_) | with_reducible refine XW.text hC hm_ok (by kernel_rfl) (fun K' hK' => ?_)); (try simp only [List.toList_toArray]); repeat' (first | with_reducible refine xrun_cons ?_ | with_reducible refine xtxt_cons ?_ | ((first | with_reducible show xoper _ _ _ _ _ _ _ | with_reducible show xdo _ _ _ _ _ _); simp only [zd, zb, zz, RT.at, RT.ty, RT.sub, RT.cut, RT.wr, getS, setT, Ty.dflt, lk, Ty.st, stV, unV, prodTV, Int.reduceToNat, Int.reduceEq, reduceCtorEq, Nat.reduceLT, Nat.reduceEqDiff, Nat.reduceAdd, Nat.reduceMul, Nat.reduceLeDiff, Nat.reduceSub, Nat.reduceBEq, Nat.reduceBNe, Nat.reduceBeqDiff, ↓reduceIte, tab, tL, tI, tB, LI, NI, LLI, tLL, SPt, LSP, tSP, spL, spLI, spIL, spLL, containsSp, cloneSp, sortStSp, stripsSp, List.set_cons_zero, List.getD_cons_zero, hto]) | with_reducible refine xgd_intro (fun hg => ?_) (fun hg => ?_) <;> (try simp only [zh, zi, zz, reduceCtorEq] at hg) | ((with_reducible show (_ : Bool) = true); kernel_rfl) | with_reducible refine And.intro ?_ ?_ | with_reducible refine xrun_nil ?_ | with_reducible refine xtxt_nil ?_ | (refine hK' _ ?_; clear hK'; clear K') | (with_reducible intro hg; try simp only [zh, zi, zz, reduceCtorEq] at hg))) | ((with_reducible show XW _ _ _ _ (.cond _ _ _) _ _); refine XW.cond rfl (fun h => ?_) (fun h => ?_) <;> (try simp only [zh, zi, zz, reduceCtorEq] at h) <;> (try (exfalso; omega))) | ((with_reducible show XW.thn _ _ _ _); dsimp only [XW.thn]) | ((with_reducible show XW.blk _ _ _ _); simp only [XW.blk, ↓reduceIte, Nat.reduceEqDiff, Nat.zero_ne_one, Nat.one_ne_zero, ne_eq]) | ((with_reducible show retK _ _ _ _); simp only [zd, zb, zz, lk, Nat.reduceEqDiff, Nat.reduceBEq, Nat.reduceBeqDiff, reduceCtorEq, ↓reduceIte])); all_goals (try (first | omega | with_reducible exact Int.le_refl _ | (show (_ : Int) ≤ _; omega)))
    all_goals first
      | (exfalso; omega)
      | (exfalso; exact hc.elim (fun h => by omega) (by assumption))
      | (refine ⟨(i : Int) - 1, [(0, 0), (1, 1)], ⟨by omega, by omega⟩, by omega, ?_⟩
         rw [show ((i : Int) - 1 + 1).toNat = i by omega, hst]
         simp only [Fits, distinct, fitEnv, fitB, fitL, fitRoots, fitRT, idsOK, AV.ids, zb, zz, RT.at, RT.ty, RT.sub, RT.cut, RT.wr, getS, setT, Ty.dflt, lk, Ty.st, stV, unV, prodTV, Int.reduceToNat, Int.reduceEq, reduceCtorEq, Nat.reduceLT, Nat.reduceEqDiff, Nat.reduceAdd, Nat.reduceMul, Nat.reduceLeDiff, Nat.reduceSub, Nat.reduceBEq, Nat.reduceBNe, Nat.reduceBeqDiff, ↓reduceIte, tab, tL, tI, tB, LI, NI, LLI, tLL, SPt, LSP, tSP, spL, spLI, spIL, spLL, containsSp, cloneSp, sortStSp, stripsSp, List.set_cons_zero, List.getD_cons_zero]
         first | done | rfl | exact ⟨rfl, rfl⟩)
      | omega
      | skip
  have hto0 : 0 ≤ to := by omega
  have hnm : to ∉ beads p := fun h => hc (.inr h)
  have hcl : ∀ x ∈ beads p, 0 ≤ x ∧ x ≤ 100 := fun x hx => by
    obtain ⟨r, hr⟩ := List.getElem?_of_mem hx
    have hrl := (List.getElem?_eq_some_iff.1 hr).1
    have := hp.bead (i := r) (by omega)
    rw [List.getD_eq_getElem?_getD, hr] at this
    exact this
  have hsfl := sF_len p k (i + 1)
  repeat' (first | with_reducible refine XW.seq ?_ | with_reducible refine XW.block ?_ | with_reducible refine XW.skip ?_ | with_reducible refine XW.exit ?_ | with_reducible refine XW.ret ?_ | ((first | with_reducible refine XW.region hC (fun K' hK' => ?_) | with_reducible refine XW.text hC hm_ok (by kernel_rfl) (fun K' hK' => ?_)); (try simp only [List.toList_toArray]); repeat' (first | with_reducible refine xrun_cons ?_ | with_reducible refine xtxt_cons ?_ | ((first | with_reducible show xoper _ _ _ _ _ _ _ | with_reducible show xdo _ _ _ _ _ _); simp only [zd, zb, zz, RT.at, RT.ty, RT.sub, RT.cut, RT.wr, getS, setT, Ty.dflt, lk, Ty.st, stV, unV, prodTV, Int.reduceToNat, Int.reduceEq, reduceCtorEq, Nat.reduceLT, Nat.reduceEqDiff, Nat.reduceAdd, Nat.reduceMul, Nat.reduceLeDiff, Nat.reduceSub, Nat.reduceBEq, Nat.reduceBNe, Nat.reduceBeqDiff, ↓reduceIte, tab, tL, tI, tB, LI, NI, LLI, tLL, SPt, LSP, tSP, spL, spLI, spIL, spLL, containsSp, cloneSp, sortStSp, stripsSp, List.set_cons_zero, List.getD_cons_zero, hto]) | with_reducible refine xgd_intro (fun hg => ?_) (fun hg => ?_) <;> (try simp only [zh, zi, zz, reduceCtorEq] at hg) | ((with_reducible show (_ : Bool) = true); kernel_rfl) | with_reducible refine And.intro ?_ ?_ | with_reducible refine xrun_nil ?_ | with_reducible refine xtxt_nil ?_ | (refine hK' _ ?_; clear hK'; clear K') | (with_reducible intro hg; try simp only [zh, zi, zz, reduceCtorEq] at hg))) | ((with_reducible show XW _ _ _ _ (.cond _ _ _) _ _); refine XW.cond rfl (fun h => ?_) (fun h => ?_) <;> (try simp only [zh, zi, zz, reduceCtorEq] at h) <;> (try (exfalso; omega))) | ((with_reducible show XW.thn _ _ _ _); dsimp only [XW.thn]) | ((with_reducible show XW.blk _ _ _ _); simp only [XW.blk, ↓reduceIte, Nat.reduceEqDiff, Nat.zero_ne_one, Nat.one_ne_zero, ne_eq]) | ((with_reducible show retK _ _ _ _); simp only [zd, zb, zz, lk, Nat.reduceEqDiff, Nat.reduceBEq, Nat.reduceBeqDiff, reduceCtorEq, ↓reduceIte])); all_goals (try (first | omega | with_reducible exact Int.le_refl _ | (show (_ : Int) ≤ _; omega)))
  all_goals first
    | (exfalso; omega)
    | (exfalso; exact hnm (by assumption))
    | omega
    | skip
  refine XW.loop (ι := Nat) (fun c => ⟨[(14, .dat NI ((i + c : Nat) : Int)), (13, .dat NI (c : Int)), (12, .ref 2 []), (11, .dat NI to), (10, .dat NI (i : Int)), (9, .ref 0 []), (6, .ref 1 []), (5, .dat NI (p.length : Int)), (1, .dat NI k)],
      [(0, ⟨30, SPt, 1, sF p k (i + 1), none⟩), (1, ⟨3, NI, 0, beads p, none⟩), (2, ⟨3, NI, 0, shB1 (beads p) i c, none⟩)], 3, []⟩)
    (fun c => i + c < p.length ∧ ∀ r, i < r → r ≤ i + c → to < (beads p).getD r 0) (fun c => p.length - c) 0 [(0, 0), (1, 1), (2, 2)] ⟨by omega, fun r h1 h2 => by omega⟩ ?_ fun c hci => ?_
  · rw [shB1_zero]
    simp only [Fits, distinct, fitEnv, fitB, fitL, fitRoots, fitRT, idsOK, AV.ids, zb, zz, RT.at, RT.ty, RT.sub, RT.cut, RT.wr, getS, setT, Ty.dflt, lk, Ty.st, stV, unV, prodTV, Int.reduceToNat, Int.reduceEq, reduceCtorEq, Nat.reduceLT, Nat.reduceEqDiff, Nat.reduceAdd, Nat.reduceMul, Nat.reduceLeDiff, Nat.reduceSub, Nat.reduceBEq, Nat.reduceBNe, Nat.reduceBeqDiff, ↓reduceIte, tab, tL, tI, tB, LI, NI, LLI, tLL, SPt, LSP, tSP, spL, spLI, spIL, spLL, containsSp, cloneSp, sortStSp, stripsSp, List.set_cons_zero, List.getD_cons_zero]
    all_goals first | rfl | exact ⟨rfl, rfl⟩ | skip
  obtain ⟨c1, c2⟩ := hci
  have hsl1 := shB1_len (b := beads p) (i := i) (c := c) (by omega)
  have hsg1 := shB1_get (b := beads p) (i := i) (c := c) (by omega) (r := i + c + 1) (by omega)
  have hss1 := fun h => shB1_succ (b := beads p) (i := i) (c := c) h
  by_cases hgo : i + c + 1 < p.length ∧ to < (beads p).getD (i + c + 1) 0
  · have hgi : (((i + c : Nat) : Int) + 1).toNat = i + c + 1 := by omega
    have hgo2 := hgo.2
    repeat' (first | with_reducible refine XW.seq ?_ | with_reducible refine XW.block ?_ | with_reducible refine XW.skip ?_ | with_reducible refine XW.exit ?_ | with_reducible refine XW.ret ?_ | ((first | with_reducible refine XW.region hC (fun K' hK' => ?_) | with_reducible refine XW.text hC hm_ok (by kernel_rfl) (fun K' hK' => ?_)); (try simp only [List.toList_toArray]); repeat' (first | with_reducible refine xrun_cons ?_ | with_reducible refine xtxt_cons ?_ | ((first | with_reducible show xoper _ _ _ _ _ _ _ | with_reducible show xdo _ _ _ _ _ _); simp only [zd, zb, zz, RT.at, RT.ty, RT.sub, RT.cut, RT.wr, getS, setT, Ty.dflt, lk, Ty.st, stV, unV, prodTV, Int.reduceToNat, Int.reduceEq, reduceCtorEq, Nat.reduceLT, Nat.reduceEqDiff, Nat.reduceAdd, Nat.reduceMul, Nat.reduceLeDiff, Nat.reduceSub, Nat.reduceBEq, Nat.reduceBNe, Nat.reduceBeqDiff, ↓reduceIte, tab, tL, tI, tB, LI, NI, LLI, tLL, SPt, LSP, tSP, spL, spLI, spIL, spLL, containsSp, cloneSp, sortStSp, stripsSp, List.set_cons_zero, List.getD_cons_zero, hto, hgi, hsg1]) | with_reducible refine xgd_intro (fun hg => ?_) (fun hg => ?_) <;> (try simp only [zh, zi, zz, reduceCtorEq] at hg) | ((with_reducible show (_ : Bool) = true); kernel_rfl) | with_reducible refine And.intro ?_ ?_ | with_reducible refine xrun_nil ?_ | with_reducible refine xtxt_nil ?_ | (refine hK' _ ?_; clear hK'; clear K') | (with_reducible intro hg; try simp only [zh, zi, zz, reduceCtorEq] at hg))) | ((with_reducible show XW _ _ _ _ (.cond _ _ _) _ _); refine XW.cond rfl (fun h => ?_) (fun h => ?_) <;> (try simp only [zh, zi, zz, reduceCtorEq] at h) <;> (try (exfalso; omega))) | ((with_reducible show XW.thn _ _ _ _); dsimp only [XW.thn]) | ((with_reducible show XW.blk _ _ _ _); simp only [XW.blk, ↓reduceIte, Nat.reduceEqDiff, Nat.zero_ne_one, Nat.one_ne_zero, ne_eq]) | ((with_reducible show retK _ _ _ _); simp only [zd, zb, zz, lk, Nat.reduceEqDiff, Nat.reduceBEq, Nat.reduceBeqDiff, reduceCtorEq, ↓reduceIte])); all_goals (try (first | omega | with_reducible exact Int.le_refl _ | (show (_ : Int) ≤ _; omega)))
    all_goals first
      | (exfalso; omega)
      | omega
      | (refine ⟨c + 1, [(0, 0), (1, 1), (2, 2)], ⟨by omega, fun r h1 h2 => ?_⟩, by omega, ?_⟩
         · by_cases e : r = i + c + 1
           · subst e; exact hgo2
           · exact c2 r h1 (by omega)
         · rw [← hss1 (by omega)]
           simp only [Fits, distinct, fitEnv, fitB, fitL, fitRoots, fitRT, idsOK, AV.ids, zb, zz, RT.at, RT.ty, RT.sub, RT.cut, RT.wr, getS, setT, Ty.dflt, lk, Ty.st, stV, unV, prodTV, Int.reduceToNat, Int.reduceEq, reduceCtorEq, Nat.reduceLT, Nat.reduceEqDiff, Nat.reduceAdd, Nat.reduceMul, Nat.reduceLeDiff, Nat.reduceSub, Nat.reduceBEq, Nat.reduceBNe, Nat.reduceBeqDiff, ↓reduceIte, tab, tL, tI, tB, LI, NI, LLI, tLL, SPt, LSP, tSP, spL, spLI, spIL, spLL, containsSp, cloneSp, sortStSp, stripsSp, List.set_cons_zero, List.getD_cons_zero]
           first | done | rfl | exact ⟨rfl, rfl⟩ | exact ⟨by omega, by omega⟩ | exact ⟨by omega, by omega, rfl⟩)
      | skip
  obtain ⟨L, hL⟩ : ∃ L, (shB1 (beads p) i c).set (i + c) to = L := ⟨_, rfl⟩
  have hLl : L.length = p.length := by rw [← hL, List.length_set, hsl1, hbl]
  have hLb : ∀ r, r < p.length → 0 ≤ L.getD r 0 ∧ L.getD r 0 ≤ 100 := fun r hr => by
    have hm := getD_mem 0 (show r < L.length by omega)
    rw [← hL] at hm ⊢
    rcases List.mem_or_eq_of_mem_set hm with h | h
    · refine hcl _ ?_
      unfold shB1 at h
      rcases List.mem_append.1 h with h | h
      · rcases List.mem_append.1 h with h | h
        · exact List.mem_of_mem_take h
        · exact List.mem_of_mem_drop (List.mem_of_mem_take h)
      · exact List.mem_of_mem_drop h
    · rw [h]; omega
  have hsome := step_some_of hto hc c1 c2 (fun h1 h2 => hgo ⟨h1, h2⟩)
  rw [hL] at hsome
  rw [hsome] at hst
  have hul := unb_len L
  have hgi : (((i + c : Nat) : Int) + 1).toNat = i + c + 1 := by omega
  repeat' (first | with_reducible refine XW.seq ?_ | with_reducible refine XW.block ?_ | with_reducible refine XW.skip ?_ | with_reducible refine XW.exit ?_ | with_reducible refine XW.ret ?_ | ((first | with_reducible refine XW.region hC (fun K' hK' => ?_) | with_reducible refine XW.text hC hm_ok (by kernel_rfl) (fun K' hK' => ?_)); (try simp only [List.toList_toArray]); repeat' (first | with_reducible refine xrun_cons ?_ | with_reducible refine xtxt_cons ?_ | ((first | with_reducible show xoper _ _ _ _ _ _ _ | with_reducible show xdo _ _ _ _ _ _); simp only [zd, zb, zz, RT.at, RT.ty, RT.sub, RT.cut, RT.wr, getS, setT, Ty.dflt, lk, Ty.st, stV, unV, prodTV, Int.reduceToNat, Int.reduceEq, reduceCtorEq, Nat.reduceLT, Nat.reduceEqDiff, Nat.reduceAdd, Nat.reduceMul, Nat.reduceLeDiff, Nat.reduceSub, Nat.reduceBEq, Nat.reduceBNe, Nat.reduceBeqDiff, ↓reduceIte, tab, tL, tI, tB, LI, NI, LLI, tLL, SPt, LSP, tSP, spL, spLI, spIL, spLL, containsSp, cloneSp, sortStSp, stripsSp, List.set_cons_zero, List.getD_cons_zero, hto, hgi, hL]) | with_reducible refine xgd_intro (fun hg => ?_) (fun hg => ?_) <;> (try simp only [zh, zi, zz, reduceCtorEq] at hg) | ((with_reducible show (_ : Bool) = true); kernel_rfl) | with_reducible refine And.intro ?_ ?_ | with_reducible refine xrun_nil ?_ | with_reducible refine xtxt_nil ?_ | (refine hK' _ ?_; clear hK'; clear K') | (with_reducible intro hg; try simp only [zh, zi, zz, reduceCtorEq] at hg))) | ((with_reducible show XW _ _ _ _ (.cond _ _ _) _ _); refine XW.cond rfl (fun h => ?_) (fun h => ?_) <;> (try simp only [zh, zi, zz, reduceCtorEq] at h) <;> (try (exfalso; omega))) | ((with_reducible show XW.thn _ _ _ _); dsimp only [XW.thn]) | ((with_reducible show XW.blk _ _ _ _); simp only [XW.blk, ↓reduceIte, Nat.reduceEqDiff, Nat.zero_ne_one, Nat.one_ne_zero, ne_eq]) | ((with_reducible show retK _ _ _ _); simp only [zd, zb, zz, lk, Nat.reduceEqDiff, Nat.reduceBEq, Nat.reduceBeqDiff, reduceCtorEq, ↓reduceIte])); all_goals (try (first | omega | with_reducible exact Int.le_refl _ | (show (_ : Int) ≤ _; omega)))
  all_goals first
    | (exfalso; omega)
    | (exfalso; exact hgo ⟨by omega, by omega⟩)
    | omega
    | skip
  all_goals
    refine XW.loop (ι := Nat) (fun r => ⟨[(93, .dat NI (r : Int)), (92, .dat NI (p.length : Int)), (91, .ref 2 []), (15, .ref 3 []), (13, .dat NI (c : Int)), (10, .dat NI (i : Int)), (9, .ref 0 []), (6, .ref 1 []), (5, .dat NI (p.length : Int)), (1, .dat NI k)],
        [(0, ⟨30, SPt, 1, sF p k (i + 1), none⟩), (1, ⟨3, NI, 0, beads p, none⟩), (2, ⟨3, NI, 0, L, none⟩), (3, ⟨3, NI, 0, posU L r, none⟩)], 4, []⟩)
      (fun r => r ≤ p.length) (fun r => p.length - r) 0 [(0, 0), (1, 1), (2, 2), (3, 3)] (Nat.zero_le _) ?_ fun r hr => ?_
    · rw [← hLl, posU_zero]
      simp only [Fits, distinct, fitEnv, fitB, fitL, fitRoots, fitRT, idsOK, AV.ids, zb, zz, RT.at, RT.ty, RT.sub, RT.cut, RT.wr, getS, setT, Ty.dflt, lk, Ty.st, stV, unV, prodTV, Int.reduceToNat, Int.reduceEq, reduceCtorEq, Nat.reduceLT, Nat.reduceEqDiff, Nat.reduceAdd, Nat.reduceMul, Nat.reduceLeDiff, Nat.reduceSub, Nat.reduceBEq, Nat.reduceBNe, Nat.reduceBeqDiff, ↓reduceIte, tab, tL, tI, tB, LI, NI, LLI, tLL, SPt, LSP, tSP, spL, spLI, spIL, spLL, containsSp, cloneSp, sortStSp, stripsSp, List.set_cons_zero, List.getD_cons_zero]
      all_goals first | rfl | exact ⟨rfl, rfl⟩ | exact ⟨rfl, rfl, rfl⟩ | skip
    by_cases hrl : r < p.length
    · have hLr := hLb r hrl
      have hul := posU_len L r
      have hup := fun h => posU_pos (L := L) (r := r) (by omega) h
      have hun := fun h => posU_neg (L := L) (r := r) (by omega) h
      rw [hLl] at hup hun
      repeat' (first | with_reducible refine XW.seq ?_ | with_reducible refine XW.block ?_ | with_reducible refine XW.skip ?_ | with_reducible refine XW.exit ?_ | with_reducible refine XW.ret ?_ | ((first | with_reducible refine XW.region hC (fun K' hK' => ?_) | with_reducible refine XW.text hC hm_ok (by kernel_rfl) (fun K' hK' => ?_)); (try simp only [List.toList_toArray]); repeat' (first | with_reducible refine xrun_cons ?_ | with_reducible refine xtxt_cons ?_ | ((first | with_reducible show xoper _ _ _ _ _ _ _ | with_reducible show xdo _ _ _ _ _ _); simp only [zd, zb, zz, RT.at, RT.ty, RT.sub, RT.cut, RT.wr, getS, setT, Ty.dflt, lk, Ty.st, stV, unV, prodTV, Int.reduceToNat, Int.reduceEq, reduceCtorEq, Nat.reduceLT, Nat.reduceEqDiff, Nat.reduceAdd, Nat.reduceMul, Nat.reduceLeDiff, Nat.reduceSub, Nat.reduceBEq, Nat.reduceBNe, Nat.reduceBeqDiff, ↓reduceIte, tab, tL, tI, tB, LI, NI, LLI, tLL, SPt, LSP, tSP, spL, spLI, spIL, spLL, containsSp, cloneSp, sortStSp, stripsSp, List.set_cons_zero, List.getD_cons_zero]) | with_reducible refine xgd_intro (fun hg => ?_) (fun hg => ?_) <;> (try simp only [zh, zi, zz, reduceCtorEq] at hg) | ((with_reducible show (_ : Bool) = true); kernel_rfl) | with_reducible refine And.intro ?_ ?_ | with_reducible refine xrun_nil ?_ | with_reducible refine xtxt_nil ?_ | (refine hK' _ ?_; clear hK'; clear K') | (with_reducible intro hg; try simp only [zh, zi, zz, reduceCtorEq] at hg))) | ((with_reducible show XW _ _ _ _ (.cond _ _ _) _ _); refine XW.cond rfl (fun h => ?_) (fun h => ?_) <;> (try simp only [zh, zi, zz, reduceCtorEq] at h) <;> (try (exfalso; omega))) | ((with_reducible show XW.thn _ _ _ _); dsimp only [XW.thn]) | ((with_reducible show XW.blk _ _ _ _); simp only [XW.blk, ↓reduceIte, Nat.reduceEqDiff, Nat.zero_ne_one, Nat.one_ne_zero, ne_eq]) | ((with_reducible show retK _ _ _ _); simp only [zd, zb, zz, lk, Nat.reduceEqDiff, Nat.reduceBEq, Nat.reduceBeqDiff, reduceCtorEq, ↓reduceIte])); all_goals (try (first | omega | with_reducible exact Int.le_refl _ | (show (_ : Int) ≤ _; omega)))
      all_goals first
        | (exfalso; omega)
        | omega
        | (refine ⟨r + 1, [(0, 0), (1, 1), (2, 2), (3, 5)], by omega, by omega, ?_⟩
           rw [hup (by omega)]
           simp only [Fits, distinct, fitEnv, fitB, fitL, fitRoots, fitRT, idsOK, AV.ids, zb, zz, RT.at, RT.ty, RT.sub, RT.cut, RT.wr, getS, setT, Ty.dflt, lk, Ty.st, stV, unV, prodTV, Int.reduceToNat, Int.reduceEq, reduceCtorEq, Nat.reduceLT, Nat.reduceEqDiff, Nat.reduceAdd, Nat.reduceMul, Nat.reduceLeDiff, Nat.reduceSub, Nat.reduceBEq, Nat.reduceBNe, Nat.reduceBeqDiff, ↓reduceIte, tab, tL, tI, tB, LI, NI, LLI, tLL, SPt, LSP, tSP, spL, spLI, spIL, spLL, containsSp, cloneSp, sortStSp, stripsSp, List.set_cons_zero, List.getD_cons_zero]
           first | done | rfl | exact ⟨rfl, rfl⟩ | exact ⟨by omega, by omega⟩)
        | (refine ⟨r + 1, [(0, 0), (1, 1), (2, 2), (3, 3)], by omega, by omega, ?_⟩
           rw [hun (by omega)]
           simp only [Fits, distinct, fitEnv, fitB, fitL, fitRoots, fitRT, idsOK, AV.ids, zb, zz, RT.at, RT.ty, RT.sub, RT.cut, RT.wr, getS, setT, Ty.dflt, lk, Ty.st, stV, unV, prodTV, Int.reduceToNat, Int.reduceEq, reduceCtorEq, Nat.reduceLT, Nat.reduceEqDiff, Nat.reduceAdd, Nat.reduceMul, Nat.reduceLeDiff, Nat.reduceSub, Nat.reduceBEq, Nat.reduceBNe, Nat.reduceBeqDiff, ↓reduceIte, tab, tL, tI, tB, LI, NI, LLI, tLL, SPt, LSP, tSP, spL, spLI, spIL, spLL, containsSp, cloneSp, sortStSp, stripsSp, List.set_cons_zero, List.getD_cons_zero]
           first | done | rfl | exact ⟨rfl, rfl⟩ | exact ⟨by omega, by omega⟩)
        | skip
    obtain rfl : r = p.length := by omega
    rw [posU_end hLl]
    repeat' (first | with_reducible refine XW.seq ?_ | with_reducible refine XW.block ?_ | with_reducible refine XW.skip ?_ | with_reducible refine XW.exit ?_ | with_reducible refine XW.ret ?_ | ((first | with_reducible refine XW.region hC (fun K' hK' => ?_) | with_reducible refine XW.text hC hm_ok (by kernel_rfl) (fun K' hK' => ?_)); (try simp only [List.toList_toArray]); repeat' (first | with_reducible refine xrun_cons ?_ | with_reducible refine xtxt_cons ?_ | ((first | with_reducible show xoper _ _ _ _ _ _ _ | with_reducible show xdo _ _ _ _ _ _); simp only [zd, zb, zz, RT.at, RT.ty, RT.sub, RT.cut, RT.wr, getS, setT, Ty.dflt, lk, Ty.st, stV, unV, prodTV, Int.reduceToNat, Int.reduceEq, reduceCtorEq, Nat.reduceLT, Nat.reduceEqDiff, Nat.reduceAdd, Nat.reduceMul, Nat.reduceLeDiff, Nat.reduceSub, Nat.reduceBEq, Nat.reduceBNe, Nat.reduceBeqDiff, ↓reduceIte, tab, tL, tI, tB, LI, NI, LLI, tLL, SPt, LSP, tSP, spL, spLI, spIL, spLL, containsSp, cloneSp, sortStSp, stripsSp, List.set_cons_zero, List.getD_cons_zero]) | with_reducible refine xgd_intro (fun hg => ?_) (fun hg => ?_) <;> (try simp only [zh, zi, zz, reduceCtorEq] at hg) | ((with_reducible show (_ : Bool) = true); kernel_rfl) | with_reducible refine And.intro ?_ ?_ | with_reducible refine xrun_nil ?_ | with_reducible refine xtxt_nil ?_ | (refine hK' _ ?_; clear hK'; clear K') | (with_reducible intro hg; try simp only [zh, zi, zz, reduceCtorEq] at hg))) | ((with_reducible show XW _ _ _ _ (.cond _ _ _) _ _); refine XW.cond rfl (fun h => ?_) (fun h => ?_) <;> (try simp only [zh, zi, zz, reduceCtorEq] at h) <;> (try (exfalso; omega))) | ((with_reducible show XW.thn _ _ _ _); dsimp only [XW.thn]) | ((with_reducible show XW.blk _ _ _ _); simp only [XW.blk, ↓reduceIte, Nat.reduceEqDiff, Nat.zero_ne_one, Nat.one_ne_zero, ne_eq]) | ((with_reducible show retK _ _ _ _); simp only [zd, zb, zz, lk, Nat.reduceEqDiff, Nat.reduceBEq, Nat.reduceBeqDiff, reduceCtorEq, ↓reduceIte])); all_goals (try (first | omega | with_reducible exact Int.le_refl _ | (show (_ : Int) ≤ _; omega)))
    all_goals first
      | (exfalso; omega)
      | omega
      | (refine ⟨(i : Int) - 1, [(0, 5), (1, 1)], ⟨by omega, by omega⟩, by omega, ?_⟩
         rw [show ((i : Int) - 1 + 1).toNat = i by omega, hst]
         simp only [Fits, distinct, fitEnv, fitB, fitL, fitRoots, fitRT, idsOK, AV.ids, zb, zz, RT.at, RT.ty, RT.sub, RT.cut, RT.wr, getS, setT, Ty.dflt, lk, Ty.st, stV, unV, prodTV, Int.reduceToNat, Int.reduceEq, reduceCtorEq, Nat.reduceLT, Nat.reduceEqDiff, Nat.reduceAdd, Nat.reduceMul, Nat.reduceLeDiff, Nat.reduceSub, Nat.reduceBEq, Nat.reduceBNe, Nat.reduceBeqDiff, ↓reduceIte, tab, tL, tI, tB, LI, NI, LLI, tLL, SPt, LSP, tSP, spL, spLI, spIL, spLL, containsSp, cloneSp, sortStSp, stripsSp, List.set_cons_zero, List.getD_cons_zero]
         first | done | rfl | exact ⟨rfl, rfl⟩)
      | skip

end Fer
