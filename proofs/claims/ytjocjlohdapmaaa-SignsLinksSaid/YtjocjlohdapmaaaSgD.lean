import Derived.Test.YtjocjlohdapmaaaRows
import Derived.Test.YtjocjlohdapmaaaSgC
import Derived.Test.YtjocjlohdapmaaaFerJa
set_option linter.unusedSimpArgs false
set_option linter.unusedVariables false
set_option maxHeartbeats 16000000
namespace Fer
open Go Go.Proofs

noncomputable def linkedSp : Spec := spT fun m K => signOK m ∧ K [tL ((List.range (2 * m.length)).map fun e => (linkV m e : Int))]

structure GdP (m : List (List Int)) (P0 P : PMp) : Prop where
  key : keyP P = keyP P0
  lab : LabOK m (getP P0) (getP P)
  rng : inP 1000 P
def RndP (m : List (List Int)) (P : PMp) (i j : Nat) (t : Bool) (P' : PMp) : Prop :=
  (t = false → P' = P ∧ ∀ v, drX m v → (v.1.1 < i ∨ (v.1.1 = i ∧ v.1.2 < j)) → getP P (lnD v) = getP P (lnD (mat4 m v))) ∧ (t = true → sumP P' < sumP P)
def L4 (i j : Nat) : List (Int × Int) := [(2 * (i : Int), 2 * (j : Int) - 1), (2 * (i : Int), 2 * (j : Int) + 1), (2 * (i : Int) - 1, 2 * (j : Int)), (2 * (i : Int) + 1, 2 * (j : Int))]
def lst4 (m : List (List Int)) (i j q : Nat) : List (Int × Int) := ((L4 i j).take q).filter fun k => decide (0 < getP (drwL m) k)
theorem lst4_yes {m : List (List Int)} {i j q : Nat} (hq : q < 4) (h : 0 < getP (drwL m) ((L4 i j).getD q (0, 0))) : lst4 m i j (q + 1) = lst4 m i j q ++ [(L4 i j).getD q (0, 0)] := by
  unfold lst4
  rw [take_succ_getD (0, 0) (show q < (L4 i j).length from hq), List.filter_append, List.filter_cons_of_pos (by simpa using h)]
  rfl
theorem lst4_no {m : List (List Int)} {i j q : Nat} (hq : q < 4) (h : ¬ 0 < getP (drwL m) ((L4 i j).getD q (0, 0))) : lst4 m i j (q + 1) = lst4 m i j q := by
  unfold lst4
  rw [take_succ_getD (0, 0) (show q < (L4 i j).length from hq), List.filter_append, List.filter_cons_of_neg (by simpa using h)]
  simp
theorem lst4_len (m : List (List Int)) (i j q : Nat) : (lst4 m i j q).length ≤ 4 := by
  have h1 := List.length_filter_le (fun k => decide (0 < getP (drwL m) k)) ((L4 i j).take q)
  have h2 : ((L4 i j).take q).length ≤ 4 := by rw [List.length_take]; exact Nat.min_le_right _ _
  unfold lst4
  omega
def lkF (n : Nat) (p : Int × Int → Int) (e f : Nat) : Bool := decide (f ≠ e ∧ p (lnD (endD n (2 * f))) = p (lnD (endD n (2 * e))))
def lkR (n : Nat) (p : Int × Int → Int) (e f : Nat) : List Int := (((List.range e).flatMap fun e => (List.range (2 * n)).filter (lkF n p e)) ++ (List.range f).filter (lkF n p e)).map fun (f : Nat) => (f : Int)
theorem flat_len_le {F : Nat → List Nat} {k : Nat} (h : ∀ e, (F e).length ≤ k) : ∀ e : Nat, ((List.range e).flatMap F).length ≤ e * k
  | 0 => by simp
  | e + 1 => by
    have h1 := flat_len_le h e
    have h2 := h e
    have e1 : ([e].flatMap F).length = (F e).length := by simp
    rw [List.range_succ, List.flatMap_append, List.length_append, Nat.add_mul, Nat.one_mul, e1]
    exact Nat.add_le_add h1 h2
theorem lkR_len (n : Nat) (p : Int × Int → Int) (e f : Nat) : (lkR n p e f).length ≤ e * (2 * n) + f := by
  unfold lkR
  rw [List.length_map, List.length_append]
  have h1 := flat_len_le (F := fun e => (List.range (2 * n)).filter (lkF n p e)) (k := 2 * n) (fun e => by have := List.length_filter_le (lkF n p e) (List.range (2 * n)); rwa [List.length_range] at this) e
  have h2 := List.length_filter_le (lkF n p e) (List.range f)
  rw [List.length_range] at h2
  omega
theorem lkR_yes {n : Nat} {p : Int × Int → Int} {e f : Nat} (h : lkF n p e f = true) : lkR n p e (f + 1) = lkR n p e f ++ [(f : Int)] := by
  unfold lkR
  rw [List.range_succ, List.filter_append, List.filter_cons_of_pos h, ← List.append_assoc, List.map_append]
  rfl
theorem lkR_no {n : Nat} {p : Int × Int → Int} {e f : Nat} (h : lkF n p e f = false) : lkR n p e (f + 1) = lkR n p e f := by
  unfold lkR
  rw [List.range_succ, List.filter_append, List.filter_cons_of_neg (by rw [h]; decide)]
  simp
theorem lkR_row (n : Nat) (p : Int × Int → Int) (e : Nat) : lkR n p e (2 * n) = lkR n p (e + 1) 0 := by
  unfold lkR
  rw [List.range_succ, List.flatMap_append]
  simp
theorem lkR_end (n : Nat) (p : Int × Int → Int) : lkR n p (2 * n) 0 = (linkR n p).map fun (f : Nat) => (f : Int) := by
  unfold lkR linkR
  simp only [List.range_zero, List.filter_nil, List.append_nil]
  rfl
theorem rnd_start (m : List (List Int)) (P : PMp) : RndP m P 0 0 false P := ⟨fun _ => ⟨rfl, fun v _ h => by rcases h with h | h <;> omega⟩, fun h => by cases h⟩
theorem rnd_row {m : List (List Int)} {P P' : PMp} {i : Nat} {t : Bool} (h : RndP m P i m.length t P') : RndP m P (i + 1) 0 t P' :=
  ⟨fun ht => ⟨(h.1 ht).1, fun v hv hlt => (h.1 ht).2 v hv (by have := hv.2.1; rcases hlt with h | h <;> omega)⟩, h.2⟩
theorem rnd_end {m : List (List Int)} {P P' : PMp} {t : Bool} (h : RndP m P m.length 0 t P') (ht : t = false) : P' = P ∧ ∀ v, drX m v → getP P (lnD v) = getP P (lnD (mat4 m v)) :=
  ⟨(h.1 ht).1, fun v hv => (h.1 ht).2 v hv (.inl hv.1)⟩

set_option maxRecDepth 10000 in
theorem linked_ok : FnOK Try.prog 14 linkedSp := by
  have hC : ∀ {w0 : World} {S0 : Nat → Prop}, CtxOK Try.prog ⟨163, tab, fun f => lk [(41, outerSp)] f, fun f => lk [] f, fun f => lk [] f, fun f => lk [] f, fun f => lk [] f, fun f => lk [] f⟩ w0 S0 := ctx_ok ⟨outer_ok, trivial⟩ trivial trivial trivial trivial
  refine FnOK_of (C := ⟨163, tab, fun f => lk [(41, outerSp)] f, fun f => lk [] f, fun f => lk [] f, fun f => lk [] f, fun f => lk [] f, fun f => lk [] f⟩) 14 Try.f14 _ [2] linkedSp Try.func14 rfl (by decide) rfl rfl (Nat.le_of_ble_eq_true rfl) fun args K ht hK w0 => ?_
  obtain ⟨m, rfl, hs, hk⟩ := at_T ht hK
  have n1 := hs.1
  have n7 := hs.2.1
  repeat' (first | with_reducible (first | refine XW.seq ?_ | refine XW.block ?_ | refine XW.skip ?_ | refine XW.exit ?_ | refine XW.ret ?_) | ((first | ((with_reducible show XW _ _ _ _ (.region 2 _ false) _ _); refine XW.regionMk hC drawn_ok rfl rfl (fun t h => by cases h; decide) (fun K' hK' => ?_)) | with_reducible refine XW.region hC (fun K' hK' => ?_) | with_reducible refine XW.text hC hm_ok (by kernel_rfl) (fun K' hK' => ?_)); (try simp only [List.toList_toArray]); repeat' (first | (first | ((with_reducible show ∃ p l, _ = some (p, l) ∧ _ ∧ _); refine ⟨_, _, rfl, ?_, ?_⟩; all_goals try dsimp only [drawnSp]) | ((with_reducible show ∀ b, newBl _ _ _ → _); intro b _ K' hK'; dsimp only [XS.put])) | with_reducible (first | refine xrun_cons ?_ | refine xtxt_cons ?_) | (with_reducible (first | show xoper _ _ _ _ _ _ _ | show xdo _ _ _ _ _ _); simp only [zd, zb, zz, RT.at, RT.ty, RT.sub, RT.cut, RT.wr, getS, setT, Ty.dflt, lk, Ty.st, stV, unV, prodTV, Int.reduceToNat, Int.reduceEq, reduceCtorEq, Nat.reduceLT, Nat.reduceEqDiff, Nat.reduceAdd, Nat.reduceMul, Nat.reduceLeDiff, Nat.reduceSub, Nat.reduceBEq, Nat.reduceBNe, Nat.reduceBeqDiff, ↓reduceIte, tab, tL, tI, tB, LI, NI, LLI, tLL, LNt, LLN, tLN, spL, spT, outerSp, linkedSp, List.set_cons_zero, List.getD_cons_zero, Nat.zero_max]) | with_reducible refine xgd_intro (fun hg => ?_) (fun hg => ?_) <;> (try simp only [zh, zi, zz, reduceCtorEq] at hg) | ((with_reducible show (_ : Bool) = true); kernel_rfl) | with_reducible (first | refine And.intro ?_ ?_ | refine xrun_nil ?_ | refine xtxt_nil ?_) | (refine hK' _ ?_; clear hK'; clear K') | (with_reducible intro hg; try simp only [zh, zi, zz, reduceCtorEq] at hg))) | ((with_reducible show XW _ _ _ _ (.cond _ _ _) _ _); refine XW.cond rfl (fun h => ?_) (fun h => ?_) <;> (try simp only [zh, zi, zz, reduceCtorEq] at h) <;> (try (exfalso; omega))) | ((with_reducible show XW.thn _ _ _ _); dsimp only [XW.thn]) | ((with_reducible show XW.blk _ _ _ _); simp only [XW.blk, ↓reduceIte, Nat.reduceEqDiff, Nat.zero_ne_one, Nat.one_ne_zero, ne_eq]) | ((with_reducible show retK _ _ _ _); simp only [zd, zb, zz, lk, Nat.reduceEqDiff, Nat.reduceBEq, Nat.reduceBeqDiff, reduceCtorEq, ↓reduceIte])); all_goals (try (first | omega | with_reducible exact Int.le_refl _ | (show (_ : Int) ≤ _; omega)))
  all_goals try first | exact hs | trivial | omega
  rename_i b2 hne ib
  obtain ⟨q1, q2, _, _⟩ := hg
  have f1 : (b = ib) = False := eq_false q1
  have f2 : (b2 = ib) = False := eq_false q2
  have f3 : (b = b2) = False := eq_false hne
  have f4 : (ib = b) = False := eq_false (Ne.symm q1)
  have f5 : (ib = b2) = False := eq_false (Ne.symm q2)
  have f6 : (b2 = b) = False := eq_false (Ne.symm hne)
  have hg : GoodP (drwL m) := good_drP (m := m) n7 m.length
  have hg0 := hg
  refine XW.loop (ι := List Nat) (fun seen => ⟨[(26, .mp ib (.look b (drwL m).length seen)), (5, .mp b2 (.prs (labL (drwL m) seen))), (4, .mp b (.prs (drwL m))), (3, .dat NI (m.length : Int)), (0, .dat LLI m)], [], 1, []⟩)
    (fun seen => seen.Nodup ∧ ∀ q ∈ seen, q < (drwL m).length) (fun seen => (drwL m).length - seen.length) [] [] ⟨List.nodup_nil, fun _ h => by cases h⟩ ?_ fun seen hI => ?_
  · simp only [Fits, distinct, fitEnv, fitB, fitL, fitRoots, fitRT, idsOK, AV.ids, zb, zz, RT.at, RT.ty, RT.sub, RT.cut, RT.wr, getS, setT, Ty.dflt, lk, Ty.st, stV, unV, prodTV, Int.reduceToNat, Int.reduceEq, reduceCtorEq, Nat.reduceLT, Nat.reduceEqDiff, Nat.reduceAdd, Nat.reduceMul, Nat.reduceLeDiff, Nat.reduceSub, Nat.reduceBEq, Nat.reduceBNe, Nat.reduceBeqDiff, ↓reduceIte, tab, tL, tI, tB, LI, NI, LLI, tLL, LNt, LLN, tLN, spL, spT, outerSp, linkedSp, List.set_cons_zero, List.getD_cons_zero]
    all_goals first | rfl | exact ⟨rfl, rfl⟩ | skip
  obtain ⟨hnd, hlt⟩ := hI
  have hset := fun (j : Nat) (hj : j < (drwL m).length) (hn : j ∉ seen) => labL_set hg.nod hlt hj hn
  have hll := len_labL (drwL m) seen
  have hnx : ∀ j, j < (drwL m).length → j ∉ seen → (seen ++ [j]).Nodup ∧ (∀ q ∈ seen ++ [j], q < (drwL m).length) ∧ seen.length < (drwL m).length := fun j hj hn => by
    have h1 : (seen ++ [j]).Nodup := List.nodup_append.2 ⟨hnd, by simp, fun a ha c hc e => hn (by rw [List.mem_singleton.1 hc] at e; exact e ▸ ha)⟩
    have h2 : ∀ q ∈ seen ++ [j], q < (drwL m).length := fun q hq => by
      rcases List.mem_append.1 hq with h | h
      · exact hlt q h
      · rw [List.mem_singleton.1 h]; exact hj
    have h3 := nodup_subl (seen ++ [j]) (List.range (drwL m).length) h1 fun x hx => List.mem_range.2 (h2 x hx)
    rw [List.length_append, List.length_range, List.length_singleton] at h3
    exact ⟨h1, h2, by omega⟩
  repeat' (first | with_reducible (first | refine XW.seq ?_ | refine XW.block ?_ | refine XW.skip ?_ | refine XW.exit ?_ | refine XW.ret ?_) | ((first | with_reducible refine XW.region hC (fun K' hK' => ?_) | with_reducible refine XW.text hC hm_ok (by kernel_rfl) (fun K' hK' => ?_)); (try simp only [List.toList_toArray]); repeat' (first | with_reducible (first | refine xrun_cons ?_ | refine xtxt_cons ?_) | (with_reducible (first | show xoper _ _ _ _ _ _ _ | show xdo _ _ _ _ _ _); simp only [zd, zb, zz, RT.at, RT.ty, RT.sub, RT.cut, RT.wr, getS, setT, Ty.dflt, lk, Ty.st, stV, unV, prodTV, Int.reduceToNat, Int.reduceEq, reduceCtorEq, Nat.reduceLT, Nat.reduceEqDiff, Nat.reduceAdd, Nat.reduceMul, Nat.reduceLeDiff, Nat.reduceSub, Nat.reduceBEq, Nat.reduceBNe, Nat.reduceBeqDiff, ↓reduceIte, tab, tL, tI, tB, LI, NI, LLI, tLL, LNt, LLN, tLN, spL, spT, outerSp, linkedSp, List.set_cons_zero, List.getD_cons_zero, f1, f2, f3, f4, f5, f6, glast, hll]) | with_reducible refine xgd_intro (fun hg => ?_) (fun hg => ?_) <;> (try simp only [zh, zi, zz, reduceCtorEq] at hg) | ((with_reducible show (_ : Bool) = true); kernel_rfl) | with_reducible (first | refine And.intro ?_ ?_ | refine xrun_nil ?_ | refine xtxt_nil ?_) | (refine hK' _ ?_; clear hK'; clear K') | (with_reducible intro hg; try simp only [zh, zi, zz, reduceCtorEq] at hg))) | ((with_reducible show XW _ _ _ _ (.cond _ _ _) _ _); refine XW.cond rfl (fun h => ?_) (fun h => ?_) <;> (try simp only [zh, zi, zz, reduceCtorEq] at h) <;> (try (exfalso; omega))) | ((with_reducible show XW.thn _ _ _ _); dsimp only [XW.thn]) | ((with_reducible show XW.blk _ _ _ _); simp only [XW.blk, ↓reduceIte, Nat.reduceEqDiff, Nat.zero_ne_one, Nat.one_ne_zero, ne_eq]) | ((with_reducible show retK _ _ _ _); simp only [zd, zb, zz, lk, Nat.reduceEqDiff, Nat.reduceBEq, Nat.reduceBeqDiff, reduceCtorEq, ↓reduceIte])); all_goals (try (first | omega | with_reducible exact Int.le_refl _ | (show (_ : Int) ≤ _; omega)))
  all_goals try omega
  all_goals try
    (rename_i j hj
     obtain ⟨h1, h2, h3⟩ := hnx j hj (by assumption)
     refine ⟨seen ++ [j], [], ⟨h1, h2⟩, by rw [List.length_append, List.length_singleton]; omega, ?_⟩
     rw [hset j hj (by assumption)]
     simp only [Fits, distinct, fitEnv, fitB, fitL, fitRoots, fitRT, idsOK, AV.ids, zb, zz, RT.at, RT.ty, RT.sub, RT.cut, RT.wr, getS, setT, Ty.dflt, lk, Ty.st, stV, unV, prodTV, Int.reduceToNat, Int.reduceEq, reduceCtorEq, Nat.reduceLT, Nat.reduceEqDiff, Nat.reduceAdd, Nat.reduceMul, Nat.reduceLeDiff, Nat.reduceSub, Nat.reduceBEq, Nat.reduceBNe, Nat.reduceBeqDiff, ↓reduceIte, tab, tL, tI, tB, LI, NI, LLI, tLL, LNt, LLN, tLN, spL, spT, outerSp, linkedSp, List.set_cons_zero, List.getD_cons_zero]
     all_goals first | rfl | exact ⟨rfl, rfl⟩)
  rename_i hall
  have hallm : ∀ k, k ∈ keyP (drwL m) → k ∈ keyP (labL (drwL m) seen) := fun k hk => by
    rw [labL_keys]
    obtain ⟨x, hx, e⟩ := List.mem_map.1 hk
    obtain ⟨j, hj, e2⟩ := List.mem_iff_getElem.1 hx
    exact List.mem_map.2 ⟨j, hg j hj, by rw [List.getD_eq_getElem?_getD, List.getElem?_eq_getElem hj, Option.getD_some, e2, e]⟩
  have hP0n : (keyP (labL (drwL m) seen)).Nodup := by
    rw [labL_keys]
    exact List.pairwise_map.2 (hnd.imp_of_mem fun ha hb hne e => hne (key_inj hg0.nod (hlt _ ha) (hlt _ hb) e))
  have hln : (drwL m).length ≤ 1000 := by
    have h1 : (keyP (drwL m)).length ≤ ((drD m.length).map lnD).length := nodup_subl _ _ hg0.nod fun k hk => by
      obtain ⟨v, hv, e⟩ := mem_drwL.1 hk
      exact List.mem_map.2 ⟨v, (way_ok hs).fin v hv, e⟩
    have h2 : ∀ n, n ≤ 7 → (drD n).length ≤ 1000 := by decide
    rw [List.length_map] at h1
    have := h2 _ n7
    have e : (keyP (drwL m)).length = (drwL m).length := by unfold keyP; simp
    omega
  have hsl : seen.length ≤ (drwL m).length := by
    have := nodup_subl seen (List.range (drwL m).length) hnd fun x hx => List.mem_range.2 (hlt x hx)
    rwa [List.length_range] at this
  have hgd0 : GdP m (labL (drwL m) seen) (labL (drwL m) seen) := ⟨rfl, lab_start _, fun k => by have := labL_in (drwL m) seen k; omega⟩
  have hinj : ∀ u v, drX m u → drX m v → getP (labL (drwL m) seen) (lnD u) = getP (labL (drwL m) seen) (lnD v) → lnD u = lnD v := fun u v hu hv e => labL_inj (hallm _ (mem_drwL.2 ⟨u, hu, rfl⟩)) (hallm _ (mem_drwL.2 ⟨v, hv, rfl⟩)) e
  generalize hP0 : labL (drwL m) seen = P0 at *
  refine XW.loop (ι := Bool × PMp) (fun x => ⟨[(7, .dat .bool x.1), (5, .mp b2 (.prs x.2)), (4, .mp b (.prs (drwL m))), (3, .dat NI (m.length : Int)), (0, .dat LLI m)], [], 1, []⟩)
    (fun x => GdP m P0 x.2 ∧ (x.1 = false → ∀ v, drX m v → getP x.2 (lnD v) = getP x.2 (lnD (mat4 m v)))) (fun x => (2 * sumP x.2 + (if x.1 = true then 1 else 0)).toNat) (true, P0) [] ⟨hgd0, fun h => by cases h⟩ ?_ fun x hI => ?_
  · simp only [Fits, distinct, fitEnv, fitB, fitL, fitRoots, fitRT, idsOK, AV.ids, zb, zz, RT.at, RT.ty, RT.sub, RT.cut, RT.wr, getS, setT, Ty.dflt, lk, Ty.st, stV, unV, prodTV, Int.reduceToNat, Int.reduceEq, reduceCtorEq, Nat.reduceLT, Nat.reduceEqDiff, Nat.reduceAdd, Nat.reduceMul, Nat.reduceLeDiff, Nat.reduceSub, Nat.reduceBEq, Nat.reduceBNe, Nat.reduceBeqDiff, ↓reduceIte, tab, tL, tI, tB, LI, NI, LLI, tLL, LNt, LLN, tLN, spL, spT, outerSp, linkedSp, List.set_cons_zero, List.getD_cons_zero]
    all_goals first | rfl | exact ⟨rfl, rfl⟩ | skip
  obtain ⟨tu, P⟩ := x
  obtain ⟨hgd, hfin⟩ := hI
  dsimp only at hgd hfin ⊢
  cases tu with
  | false =>
    have hfin := hfin rfl
    have hlaw := link_law hs hgd.lab hfin hinj
    repeat' (first | with_reducible (first | refine XW.seq ?_ | refine XW.block ?_ | refine XW.skip ?_ | refine XW.exit ?_ | refine XW.ret ?_) | ((first | with_reducible refine XW.region hC (fun K' hK' => ?_) | with_reducible refine XW.text hC hm_ok (by kernel_rfl) (fun K' hK' => ?_)); (try simp only [List.toList_toArray]); repeat' (first | with_reducible (first | refine xrun_cons ?_ | refine xtxt_cons ?_) | (with_reducible (first | show xoper _ _ _ _ _ _ _ | show xdo _ _ _ _ _ _); simp only [zd, zb, zz, RT.at, RT.ty, RT.sub, RT.cut, RT.wr, getS, setT, Ty.dflt, lk, Ty.st, stV, unV, prodTV, Int.reduceToNat, Int.reduceEq, reduceCtorEq, Nat.reduceLT, Nat.reduceEqDiff, Nat.reduceAdd, Nat.reduceMul, Nat.reduceLeDiff, Nat.reduceSub, Nat.reduceBEq, Nat.reduceBNe, Nat.reduceBeqDiff, ↓reduceIte, tab, tL, tI, tB, LI, NI, LLI, tLL, LNt, LLN, tLN, spL, spT, outerSp, linkedSp, List.set_cons_zero, List.getD_cons_zero, f1, f2, f3, f4, f5, f6]) | with_reducible refine xgd_intro (fun hg => ?_) (fun hg => ?_) <;> (try simp only [zh, zi, zz, reduceCtorEq] at hg) | ((with_reducible show (_ : Bool) = true); kernel_rfl) | with_reducible (first | refine And.intro ?_ ?_ | refine xrun_nil ?_ | refine xtxt_nil ?_) | (refine hK' _ ?_; clear hK'; clear K') | (with_reducible intro hg; try simp only [zh, zi, zz, reduceCtorEq] at hg))) | ((with_reducible show XW _ _ _ _ (.cond _ _ _) _ _); refine XW.cond rfl (fun h => ?_) (fun h => ?_) <;> (try simp only [zh, zi, zz, reduceCtorEq] at h) <;> (try (exfalso; omega))) | ((with_reducible show XW.thn _ _ _ _); dsimp only [XW.thn]) | ((with_reducible show XW.blk _ _ _ _); simp only [XW.blk, ↓reduceIte, Nat.reduceEqDiff, Nat.zero_ne_one, Nat.one_ne_zero, ne_eq]) | ((with_reducible show retK _ _ _ _); simp only [zd, zb, zz, lk, Nat.reduceEqDiff, Nat.reduceBEq, Nat.reduceBeqDiff, reduceCtorEq, ↓reduceIte])); all_goals (try (first | omega | with_reducible exact Int.le_refl _ | (show (_ : Int) ≤ _; omega)))
    all_goals try omega
    have hres : (linkR m.length (getP P)).map (fun (f : Nat) => (f : Int)) = (List.range (2 * m.length)).map fun e => (linkV m e : Int) := by
      rw [hlaw, List.map_map]; rfl
    rw [← hres, ← lkR_end] at hk
    refine XW.loop (ι := Nat) (fun e => ⟨[(18, .dat NI (e : Int)), (17, .ref 0 []), (16, .ref 1 []), (5, .mp b2 (.prs P)), (3, .dat NI (m.length : Int))], [(0, ⟨3, NI, 0, lkR m.length (getP P) e 0, none⟩), (1, ⟨65, LNt, 0, outerL m.length, none⟩)], 2, []⟩)
      (fun e => e ≤ 2 * m.length) (fun e => 2 * m.length - e) 0 [(0, 2), (1, 1)] (Nat.zero_le _) ?_ fun e he => ?_
    · simp only [Fits, distinct, fitEnv, fitB, fitL, fitRoots, fitRT, idsOK, AV.ids, zb, zz, RT.at, RT.ty, RT.sub, RT.cut, RT.wr, getS, setT, Ty.dflt, lk, Ty.st, stV, unV, prodTV, Int.reduceToNat, Int.reduceEq, reduceCtorEq, Nat.reduceLT, Nat.reduceEqDiff, Nat.reduceAdd, Nat.reduceMul, Nat.reduceLeDiff, Nat.reduceSub, Nat.reduceBEq, Nat.reduceBNe, Nat.reduceBeqDiff, ↓reduceIte, tab, tL, tI, tB, LI, NI, LLI, tLL, LNt, LLN, tLN, spL, spT, outerSp, linkedSp, List.set_cons_zero, List.getD_cons_zero]
      all_goals first | rfl | exact ⟨rfl, rfl⟩ | skip
    by_cases hen : e < 2 * m.length
    rotate_left
    · obtain rfl : e = 2 * m.length := by omega
      repeat' (first | with_reducible (first | refine XW.seq ?_ | refine XW.block ?_ | refine XW.skip ?_ | refine XW.exit ?_ | refine XW.ret ?_) | ((first | with_reducible refine XW.region hC (fun K' hK' => ?_) | with_reducible refine XW.text hC hm_ok (by kernel_rfl) (fun K' hK' => ?_)); (try simp only [List.toList_toArray]); repeat' (first | with_reducible (first | refine xrun_cons ?_ | refine xtxt_cons ?_) | (with_reducible (first | show xoper _ _ _ _ _ _ _ | show xdo _ _ _ _ _ _); simp only [zd, zb, zz, RT.at, RT.ty, RT.sub, RT.cut, RT.wr, getS, setT, Ty.dflt, lk, Ty.st, stV, unV, prodTV, Int.reduceToNat, Int.reduceEq, reduceCtorEq, Nat.reduceLT, Nat.reduceEqDiff, Nat.reduceAdd, Nat.reduceMul, Nat.reduceLeDiff, Nat.reduceSub, Nat.reduceBEq, Nat.reduceBNe, Nat.reduceBeqDiff, ↓reduceIte, tab, tL, tI, tB, LI, NI, LLI, tLL, LNt, LLN, tLN, spL, spT, outerSp, linkedSp, List.set_cons_zero, List.getD_cons_zero]) | with_reducible refine xgd_intro (fun hg => ?_) (fun hg => ?_) <;> (try simp only [zh, zi, zz, reduceCtorEq] at hg) | ((with_reducible show (_ : Bool) = true); kernel_rfl) | with_reducible (first | refine And.intro ?_ ?_ | refine xrun_nil ?_ | refine xtxt_nil ?_) | (refine hK' _ ?_; clear hK'; clear K') | (with_reducible intro hg; try simp only [zh, zi, zz, reduceCtorEq] at hg))) | ((with_reducible show XW _ _ _ _ (.cond _ _ _) _ _); refine XW.cond rfl (fun h => ?_) (fun h => ?_) <;> (try simp only [zh, zi, zz, reduceCtorEq] at h) <;> (try (exfalso; omega))) | ((with_reducible show XW.thn _ _ _ _); dsimp only [XW.thn]) | ((with_reducible show XW.blk _ _ _ _); simp only [XW.blk, ↓reduceIte, Nat.reduceEqDiff, Nat.zero_ne_one, Nat.one_ne_zero, ne_eq]) | ((with_reducible show retK _ _ _ _); simp only [zd, zb, zz, lk, Nat.reduceEqDiff, Nat.reduceBEq, Nat.reduceBeqDiff, reduceCtorEq, ↓reduceIte])); all_goals (try (first | omega | with_reducible exact Int.le_refl _ | (show (_ : Int) ≤ _; omega)))
      all_goals first
        | exact hk
        | omega
        | skip
    have hol : (outerL m.length).length = 4 * m.length := by unfold outerL; simp
    have hog : ∀ k, k < 4 * m.length → (outerL m.length).getD k (0, 0) = lnD (endD m.length k) := fun k hk => range_map_getD _ _ hk
    repeat' (first | with_reducible (first | refine XW.seq ?_ | refine XW.block ?_ | refine XW.skip ?_ | refine XW.exit ?_ | refine XW.ret ?_) | ((first | with_reducible refine XW.region hC (fun K' hK' => ?_) | with_reducible refine XW.text hC hm_ok (by kernel_rfl) (fun K' hK' => ?_)); (try simp only [List.toList_toArray]); repeat' (first | with_reducible (first | refine xrun_cons ?_ | refine xtxt_cons ?_) | (with_reducible (first | show xoper _ _ _ _ _ _ _ | show xdo _ _ _ _ _ _); simp only [zd, zb, zz, RT.at, RT.ty, RT.sub, RT.cut, RT.wr, getS, setT, Ty.dflt, lk, Ty.st, stV, unV, prodTV, Int.reduceToNat, Int.reduceEq, reduceCtorEq, Nat.reduceLT, Nat.reduceEqDiff, Nat.reduceAdd, Nat.reduceMul, Nat.reduceLeDiff, Nat.reduceSub, Nat.reduceBEq, Nat.reduceBNe, Nat.reduceBeqDiff, ↓reduceIte, tab, tL, tI, tB, LI, NI, LLI, tLL, LNt, LLN, tLN, spL, spT, outerSp, linkedSp, List.set_cons_zero, List.getD_cons_zero]) | with_reducible refine xgd_intro (fun hg => ?_) (fun hg => ?_) <;> (try simp only [zh, zi, zz, reduceCtorEq] at hg) | ((with_reducible show (_ : Bool) = true); kernel_rfl) | with_reducible (first | refine And.intro ?_ ?_ | refine xrun_nil ?_ | refine xtxt_nil ?_) | (refine hK' _ ?_; clear hK'; clear K') | (with_reducible intro hg; try simp only [zh, zi, zz, reduceCtorEq] at hg))) | ((with_reducible show XW _ _ _ _ (.cond _ _ _) _ _); refine XW.cond rfl (fun h => ?_) (fun h => ?_) <;> (try simp only [zh, zi, zz, reduceCtorEq] at h) <;> (try (exfalso; omega))) | ((with_reducible show XW.thn _ _ _ _); dsimp only [XW.thn]) | ((with_reducible show XW.blk _ _ _ _); simp only [XW.blk, ↓reduceIte, Nat.reduceEqDiff, Nat.zero_ne_one, Nat.one_ne_zero, ne_eq]) | ((with_reducible show retK _ _ _ _); simp only [zd, zb, zz, lk, Nat.reduceEqDiff, Nat.reduceBEq, Nat.reduceBeqDiff, reduceCtorEq, ↓reduceIte])); all_goals (try (first | omega | with_reducible exact Int.le_refl _ | (show (_ : Int) ≤ _; omega)))
    all_goals try omega
    refine XW.loop (ι := Nat) (fun f => ⟨[(19, .dat NI (f : Int)), (18, .dat NI (e : Int)), (17, .ref 0 []), (16, .ref 1 []), (5, .mp b2 (.prs P)), (3, .dat NI (m.length : Int))], [(0, ⟨3, NI, 0, lkR m.length (getP P) e f, none⟩), (1, ⟨65, LNt, 0, outerL m.length, none⟩)], 2, []⟩)
      (fun f => f ≤ 2 * m.length) (fun f => 2 * m.length - f) 0 [(0, 0), (1, 1)] (Nat.zero_le _) ?_ fun f hf => ?_
    · simp only [Fits, distinct, fitEnv, fitB, fitL, fitRoots, fitRT, idsOK, AV.ids, zb, zz, RT.at, RT.ty, RT.sub, RT.cut, RT.wr, getS, setT, Ty.dflt, lk, Ty.st, stV, unV, prodTV, Int.reduceToNat, Int.reduceEq, reduceCtorEq, Nat.reduceLT, Nat.reduceEqDiff, Nat.reduceAdd, Nat.reduceMul, Nat.reduceLeDiff, Nat.reduceSub, Nat.reduceBEq, Nat.reduceBNe, Nat.reduceBeqDiff, ↓reduceIte, tab, tL, tI, tB, LI, NI, LLI, tLL, LNt, LLN, tLN, spL, spT, outerSp, linkedSp, List.set_cons_zero, List.getD_cons_zero]
      all_goals first | rfl | exact ⟨rfl, rfl⟩ | skip
    by_cases hfn : f < 2 * m.length
    rotate_left
    · obtain rfl : f = 2 * m.length := by omega
      rw [lkR_row]
      repeat' (first | with_reducible (first | refine XW.seq ?_ | refine XW.block ?_ | refine XW.skip ?_ | refine XW.exit ?_ | refine XW.ret ?_) | ((first | with_reducible refine XW.region hC (fun K' hK' => ?_) | with_reducible refine XW.text hC hm_ok (by kernel_rfl) (fun K' hK' => ?_)); (try simp only [List.toList_toArray]); repeat' (first | with_reducible (first | refine xrun_cons ?_ | refine xtxt_cons ?_) | (with_reducible (first | show xoper _ _ _ _ _ _ _ | show xdo _ _ _ _ _ _); simp only [zd, zb, zz, RT.at, RT.ty, RT.sub, RT.cut, RT.wr, getS, setT, Ty.dflt, lk, Ty.st, stV, unV, prodTV, Int.reduceToNat, Int.reduceEq, reduceCtorEq, Nat.reduceLT, Nat.reduceEqDiff, Nat.reduceAdd, Nat.reduceMul, Nat.reduceLeDiff, Nat.reduceSub, Nat.reduceBEq, Nat.reduceBNe, Nat.reduceBeqDiff, ↓reduceIte, tab, tL, tI, tB, LI, NI, LLI, tLL, LNt, LLN, tLN, spL, spT, outerSp, linkedSp, List.set_cons_zero, List.getD_cons_zero]) | with_reducible refine xgd_intro (fun hg => ?_) (fun hg => ?_) <;> (try simp only [zh, zi, zz, reduceCtorEq] at hg) | ((with_reducible show (_ : Bool) = true); kernel_rfl) | with_reducible (first | refine And.intro ?_ ?_ | refine xrun_nil ?_ | refine xtxt_nil ?_) | (refine hK' _ ?_; clear hK'; clear K') | (with_reducible intro hg; try simp only [zh, zi, zz, reduceCtorEq] at hg))) | ((with_reducible show XW _ _ _ _ (.cond _ _ _) _ _); refine XW.cond rfl (fun h => ?_) (fun h => ?_) <;> (try simp only [zh, zi, zz, reduceCtorEq] at h) <;> (try (exfalso; omega))) | ((with_reducible show XW.thn _ _ _ _); dsimp only [XW.thn]) | ((with_reducible show XW.blk _ _ _ _); simp only [XW.blk, ↓reduceIte, Nat.reduceEqDiff, Nat.zero_ne_one, Nat.one_ne_zero, ne_eq]) | ((with_reducible show retK _ _ _ _); simp only [zd, zb, zz, lk, Nat.reduceEqDiff, Nat.reduceBEq, Nat.reduceBeqDiff, reduceCtorEq, ↓reduceIte])); all_goals (try (first | omega | with_reducible exact Int.le_refl _ | (show (_ : Int) ≤ _; omega)))
      all_goals first
        | omega
        | (refine ⟨e + 1, [(0, 0), (1, 1)], by omega, by omega, ?_⟩
           simp only [Fits, distinct, fitEnv, fitB, fitL, fitRoots, fitRT, idsOK, AV.ids, zb, zz, RT.at, RT.ty, RT.sub, RT.cut, RT.wr, getS, setT, Ty.dflt, lk, Ty.st, stV, unV, prodTV, Int.reduceToNat, Int.reduceEq, reduceCtorEq, Nat.reduceLT, Nat.reduceEqDiff, Nat.reduceAdd, Nat.reduceMul, Nat.reduceLeDiff, Nat.reduceSub, Nat.reduceBEq, Nat.reduceBNe, Nat.reduceBeqDiff, ↓reduceIte, tab, tL, tI, tB, LI, NI, LLI, tLL, LNt, LLN, tLN, spL, spT, outerSp, linkedSp, List.set_cons_zero, List.getD_cons_zero]
           all_goals first | rfl | exact ⟨rfl, rfl⟩ | (show (_ : Int) = _; omega))
        | skip
    have of1 := hog (2 * f) (by omega)
    have oe1 := hog (2 * e) (by omega)
    have tf : (2 * (f : Int)).toNat = 2 * f := by omega
    have te : (2 * (e : Int)).toNat = 2 * e := by omega
    have hlk : (lkR m.length (getP P) e f).length ≤ 1000 := by
      have h1 := lkR_len m.length (getP P) e f
      have h2 : e * (2 * m.length) ≤ 14 * 14 := Nat.mul_le_mul (by omega) (by omega)
      omega
    repeat' (first | with_reducible (first | refine XW.seq ?_ | refine XW.block ?_ | refine XW.skip ?_ | refine XW.exit ?_ | refine XW.ret ?_) | ((first | ((with_reducible show XW _ _ _ _ (.region _ _ true) _ _); refine XW.tree hC hm_ok (.one 0 (.one 1 (.one 2 (.one 3 (.one 4 (.one 5 (.one 6 (.one 7 (.one 8 (.one 9 (.one 11 (.one 12 (.one 13 (.one 14 (.one 15 (.one 16 (.two 10 (.one 17 (.one 18 (.one 19 .nil))) 17 (.one 10 (.one 18 (.one 19 .nil)))))))))))))))))))) (by decide +kernel) (fun K' hK' => ?_)) | with_reducible refine XW.region hC (fun K' hK' => ?_) | with_reducible refine XW.text hC hm_ok (by kernel_rfl) (fun K' hK' => ?_)); (try simp only [List.toList_toArray]); repeat' (first | with_reducible refine xrun_cons ?_ | with_reducible refine xtree_two ?_ ?_ | with_reducible refine xtree_three ?_ ?_ ?_ | with_reducible refine xtree_nil ?_ | ((with_reducible show xtree _ _ _ (.one _ _) _); refine xtree_one (by simp only [List.getElem?_toArray, List.getElem?_cons_succ, List.getElem?_cons_zero]; rfl) ?_) | with_reducible refine xtxt_cons ?_ | ((with_reducible show xord _ _ _ (_ :: _) _); refine xord_cons (by simp only [List.getElem?_toArray, List.getElem?_cons_succ, List.getElem?_cons_zero]; rfl) ?_) | (with_reducible (first | show xoper _ _ _ _ _ _ _ | show xdo _ _ _ _ _ _); simp only [zd, zb, zz, RT.at, RT.ty, RT.sub, RT.cut, RT.wr, getS, setT, Ty.dflt, lk, Ty.st, stV, unV, prodTV, Int.reduceToNat, Int.reduceEq, reduceCtorEq, Nat.reduceLT, Nat.reduceEqDiff, Nat.reduceAdd, Nat.reduceMul, Nat.reduceLeDiff, Nat.reduceSub, Nat.reduceBEq, Nat.reduceBNe, Nat.reduceBeqDiff, ↓reduceIte, tab, tL, tI, tB, LI, NI, LLI, tLL, LNt, LLN, tLN, spL, spT, outerSp, linkedSp, List.set_cons_zero, List.getD_cons_zero, tf, te, of1, oe1, hol]) | with_reducible refine xgd_intro (fun hg => ?_) (fun hg => ?_) <;> (try simp only [zh, zi, zz, reduceCtorEq] at hg) | ((with_reducible show (_ : Bool) = true); kernel_rfl) | with_reducible (first | refine And.intro ?_ ?_ | refine xrun_nil ?_ | refine xtxt_nil ?_) | with_reducible refine xord_nil ?_ | (refine hK' _ ?_; clear hK'; clear K') | (with_reducible intro hg; try simp only [zh, zi, zz, reduceCtorEq] at hg))) | ((with_reducible show XW _ _ _ _ (.cond _ _ _) _ _); refine XW.cond rfl (fun h => ?_) (fun h => ?_) <;> (try simp only [zh, zi, zz, reduceCtorEq] at h) <;> (try (exfalso; omega))) | ((with_reducible show XW.thn _ _ _ _); dsimp only [XW.thn]) | ((with_reducible show XW.blk _ _ _ _); simp only [XW.blk, ↓reduceIte, Nat.reduceEqDiff, Nat.zero_ne_one, Nat.one_ne_zero, ne_eq]) | ((with_reducible show retK _ _ _ _); simp only [zd, zb, zz, lk, Nat.reduceEqDiff, Nat.reduceBEq, Nat.reduceBeqDiff, reduceCtorEq, ↓reduceIte])); all_goals (try (first | omega | with_reducible exact Int.le_refl _ | (show (_ : Int) ≤ _; omega)))
    all_goals first
      | omega
      | (refine ⟨f + 1, [(0, 0), (1, 1)], by omega, by omega, ?_⟩
         rw [lkR_no (decide_eq_false fun hh => by have h1 := hh.1; have h2 := hh.2; omega)]
         simp only [Fits, distinct, fitEnv, fitB, fitL, fitRoots, fitRT, idsOK, AV.ids, zb, zz, RT.at, RT.ty, RT.sub, RT.cut, RT.wr, getS, setT, Ty.dflt, lk, Ty.st, stV, unV, prodTV, Int.reduceToNat, Int.reduceEq, reduceCtorEq, Nat.reduceLT, Nat.reduceEqDiff, Nat.reduceAdd, Nat.reduceMul, Nat.reduceLeDiff, Nat.reduceSub, Nat.reduceBEq, Nat.reduceBNe, Nat.reduceBeqDiff, ↓reduceIte, tab, tL, tI, tB, LI, NI, LLI, tLL, LNt, LLN, tLN, spL, spT, outerSp, linkedSp, List.set_cons_zero, List.getD_cons_zero]
         all_goals first | rfl | exact ⟨rfl, rfl⟩ | (show (_ : Int) = _; omega))
      | (refine ⟨f + 1, [(0, 3), (1, 1)], by omega, by omega, ?_⟩
         rw [lkR_yes (decide_eq_true ⟨by omega, by assumption⟩)]
         simp only [Fits, distinct, fitEnv, fitB, fitL, fitRoots, fitRT, idsOK, AV.ids, zb, zz, RT.at, RT.ty, RT.sub, RT.cut, RT.wr, getS, setT, Ty.dflt, lk, Ty.st, stV, unV, prodTV, Int.reduceToNat, Int.reduceEq, reduceCtorEq, Nat.reduceLT, Nat.reduceEqDiff, Nat.reduceAdd, Nat.reduceMul, Nat.reduceLeDiff, Nat.reduceSub, Nat.reduceBEq, Nat.reduceBNe, Nat.reduceBeqDiff, ↓reduceIte, tab, tL, tI, tB, LI, NI, LLI, tLL, LNt, LLN, tLN, spL, spT, outerSp, linkedSp, List.set_cons_zero, List.getD_cons_zero]
         all_goals first | rfl | exact ⟨rfl, rfl⟩ | (show (_ : Int) = _; omega))
      | skip
  | true =>
    clear hfin
    have hsum : 0 ≤ sumP P := sum_nonneg (by rw [hgd.key]; exact hP0n) hgd.rng
    repeat' (first | with_reducible (first | refine XW.seq ?_ | refine XW.block ?_ | refine XW.skip ?_ | refine XW.exit ?_ | refine XW.ret ?_) | ((first | with_reducible refine XW.region hC (fun K' hK' => ?_) | with_reducible refine XW.text hC hm_ok (by kernel_rfl) (fun K' hK' => ?_)); (try simp only [List.toList_toArray]); repeat' (first | with_reducible (first | refine xrun_cons ?_ | refine xtxt_cons ?_) | (with_reducible (first | show xoper _ _ _ _ _ _ _ | show xdo _ _ _ _ _ _); simp only [zd, zb, zz, RT.at, RT.ty, RT.sub, RT.cut, RT.wr, getS, setT, Ty.dflt, lk, Ty.st, stV, unV, prodTV, Int.reduceToNat, Int.reduceEq, reduceCtorEq, Nat.reduceLT, Nat.reduceEqDiff, Nat.reduceAdd, Nat.reduceMul, Nat.reduceLeDiff, Nat.reduceSub, Nat.reduceBEq, Nat.reduceBNe, Nat.reduceBeqDiff, ↓reduceIte, tab, tL, tI, tB, LI, NI, LLI, tLL, LNt, LLN, tLN, spL, spT, outerSp, linkedSp, List.set_cons_zero, List.getD_cons_zero, f1, f2, f3, f4, f5, f6]) | with_reducible refine xgd_intro (fun hg => ?_) (fun hg => ?_) <;> (try simp only [zh, zi, zz, reduceCtorEq] at hg) | ((with_reducible show (_ : Bool) = true); kernel_rfl) | with_reducible (first | refine And.intro ?_ ?_ | refine xrun_nil ?_ | refine xtxt_nil ?_) | (refine hK' _ ?_; clear hK'; clear K') | (with_reducible intro hg; try simp only [zh, zi, zz, reduceCtorEq] at hg))) | ((with_reducible show XW _ _ _ _ (.cond _ _ _) _ _); refine XW.cond rfl (fun h => ?_) (fun h => ?_) <;> (try simp only [zh, zi, zz, reduceCtorEq] at h) <;> (try (exfalso; omega))) | ((with_reducible show XW.thn _ _ _ _); dsimp only [XW.thn]) | ((with_reducible show XW.blk _ _ _ _); simp only [XW.blk, ↓reduceIte, Nat.reduceEqDiff, Nat.zero_ne_one, Nat.one_ne_zero, ne_eq]) | ((with_reducible show retK _ _ _ _); simp only [zd, zb, zz, lk, Nat.reduceEqDiff, Nat.reduceBEq, Nat.reduceBeqDiff, reduceCtorEq, ↓reduceIte])); all_goals (try (first | omega | with_reducible exact Int.le_refl _ | (show (_ : Int) ≤ _; omega)))
    all_goals try omega
    refine XW.loop (ι := Nat × Bool × PMp) (fun x => ⟨[(8, .dat NI (x.1 : Int)), (7, .dat .bool x.2.1), (5, .mp b2 (.prs x.2.2)), (4, .mp b (.prs (drwL m))), (3, .dat NI (m.length : Int)), (0, .dat LLI m)], [], 1, []⟩)
      (fun x => x.1 ≤ m.length ∧ GdP m P0 x.2.2 ∧ RndP m P x.1 0 x.2.1 x.2.2) (fun x => m.length - x.1) (0, false, P) [] ⟨Nat.zero_le _, hgd, rnd_start m P⟩ ?_ fun x hI => ?_
    · simp only [Fits, distinct, fitEnv, fitB, fitL, fitRoots, fitRT, idsOK, AV.ids, zb, zz, RT.at, RT.ty, RT.sub, RT.cut, RT.wr, getS, setT, Ty.dflt, lk, Ty.st, stV, unV, prodTV, Int.reduceToNat, Int.reduceEq, reduceCtorEq, Nat.reduceLT, Nat.reduceEqDiff, Nat.reduceAdd, Nat.reduceMul, Nat.reduceLeDiff, Nat.reduceSub, Nat.reduceBEq, Nat.reduceBNe, Nat.reduceBeqDiff, ↓reduceIte, tab, tL, tI, tB, LI, NI, LLI, tLL, LNt, LLN, tLN, spL, spT, outerSp, linkedSp, List.set_cons_zero, List.getD_cons_zero]
      all_goals first | rfl | exact ⟨rfl, rfl⟩ | skip
    obtain ⟨i, t1, P1⟩ := x
    obtain ⟨hi, hgd1, hrn1⟩ := hI
    dsimp only at hi hgd1 hrn1 ⊢
    by_cases hin : i < m.length
    rotate_left
    · obtain rfl : i = m.length := by omega
      have hend := rnd_end hrn1
      have hdec := hrn1.2
      repeat' (first | with_reducible (first | refine XW.seq ?_ | refine XW.block ?_ | refine XW.skip ?_ | refine XW.exit ?_ | refine XW.ret ?_) | ((first | with_reducible refine XW.region hC (fun K' hK' => ?_) | with_reducible refine XW.text hC hm_ok (by kernel_rfl) (fun K' hK' => ?_)); (try simp only [List.toList_toArray]); repeat' (first | with_reducible (first | refine xrun_cons ?_ | refine xtxt_cons ?_) | (with_reducible (first | show xoper _ _ _ _ _ _ _ | show xdo _ _ _ _ _ _); simp only [zd, zb, zz, RT.at, RT.ty, RT.sub, RT.cut, RT.wr, getS, setT, Ty.dflt, lk, Ty.st, stV, unV, prodTV, Int.reduceToNat, Int.reduceEq, reduceCtorEq, Nat.reduceLT, Nat.reduceEqDiff, Nat.reduceAdd, Nat.reduceMul, Nat.reduceLeDiff, Nat.reduceSub, Nat.reduceBEq, Nat.reduceBNe, Nat.reduceBeqDiff, ↓reduceIte, tab, tL, tI, tB, LI, NI, LLI, tLL, LNt, LLN, tLN, spL, spT, outerSp, linkedSp, List.set_cons_zero, List.getD_cons_zero, f1, f2, f3, f4, f5, f6]) | with_reducible refine xgd_intro (fun hg => ?_) (fun hg => ?_) <;> (try simp only [zh, zi, zz, reduceCtorEq] at hg) | ((with_reducible show (_ : Bool) = true); kernel_rfl) | with_reducible (first | refine And.intro ?_ ?_ | refine xrun_nil ?_ | refine xtxt_nil ?_) | (refine hK' _ ?_; clear hK'; clear K') | (with_reducible intro hg; try simp only [zh, zi, zz, reduceCtorEq] at hg))) | ((with_reducible show XW _ _ _ _ (.cond _ _ _) _ _); refine XW.cond rfl (fun h => ?_) (fun h => ?_) <;> (try simp only [zh, zi, zz, reduceCtorEq] at h) <;> (try (exfalso; omega))) | ((with_reducible show XW.thn _ _ _ _); dsimp only [XW.thn]) | ((with_reducible show XW.blk _ _ _ _); simp only [XW.blk, ↓reduceIte, Nat.reduceEqDiff, Nat.zero_ne_one, Nat.one_ne_zero, ne_eq]) | ((with_reducible show retK _ _ _ _); simp only [zd, zb, zz, lk, Nat.reduceEqDiff, Nat.reduceBEq, Nat.reduceBeqDiff, reduceCtorEq, ↓reduceIte])); all_goals (try (first | omega | with_reducible exact Int.le_refl _ | (show (_ : Int) ≤ _; omega)))
      all_goals first
        | omega
        | (refine ⟨(t1, P1), [], ⟨hgd1, fun h => ?_⟩, ?_, ?_⟩
           · obtain ⟨e1, e2⟩ := hend h
             rw [e1]; exact e2
           · dsimp only
             cases t1 with
             | true =>
               have h1 := hdec rfl
               have h2 : 0 ≤ sumP P1 := sum_nonneg (by rw [hgd1.key]; exact hP0n) hgd1.rng
               simp only [if_true]
               omega
             | false =>
               obtain ⟨e1, _⟩ := hend rfl
               rw [e1]
               simp
               omega
           · simp only [Fits, distinct, fitEnv, fitB, fitL, fitRoots, fitRT, idsOK, AV.ids, zb, zz, RT.at, RT.ty, RT.sub, RT.cut, RT.wr, getS, setT, Ty.dflt, lk, Ty.st, stV, unV, prodTV, Int.reduceToNat, Int.reduceEq, reduceCtorEq, Nat.reduceLT, Nat.reduceEqDiff, Nat.reduceAdd, Nat.reduceMul, Nat.reduceLeDiff, Nat.reduceSub, Nat.reduceBEq, Nat.reduceBNe, Nat.reduceBeqDiff, ↓reduceIte, tab, tL, tI, tB, LI, NI, LLI, tLL, LNt, LLN, tLN, spL, spT, outerSp, linkedSp, List.set_cons_zero, List.getD_cons_zero]
             all_goals first | rfl | exact ⟨rfl, rfl⟩)
        | skip
    repeat' (first | with_reducible (first | refine XW.seq ?_ | refine XW.block ?_ | refine XW.skip ?_ | refine XW.exit ?_ | refine XW.ret ?_) | ((first | with_reducible refine XW.region hC (fun K' hK' => ?_) | with_reducible refine XW.text hC hm_ok (by kernel_rfl) (fun K' hK' => ?_)); (try simp only [List.toList_toArray]); repeat' (first | with_reducible (first | refine xrun_cons ?_ | refine xtxt_cons ?_) | (with_reducible (first | show xoper _ _ _ _ _ _ _ | show xdo _ _ _ _ _ _); simp only [zd, zb, zz, RT.at, RT.ty, RT.sub, RT.cut, RT.wr, getS, setT, Ty.dflt, lk, Ty.st, stV, unV, prodTV, Int.reduceToNat, Int.reduceEq, reduceCtorEq, Nat.reduceLT, Nat.reduceEqDiff, Nat.reduceAdd, Nat.reduceMul, Nat.reduceLeDiff, Nat.reduceSub, Nat.reduceBEq, Nat.reduceBNe, Nat.reduceBeqDiff, ↓reduceIte, tab, tL, tI, tB, LI, NI, LLI, tLL, LNt, LLN, tLN, spL, spT, outerSp, linkedSp, List.set_cons_zero, List.getD_cons_zero, f1, f2, f3, f4, f5, f6]) | with_reducible refine xgd_intro (fun hg => ?_) (fun hg => ?_) <;> (try simp only [zh, zi, zz, reduceCtorEq] at hg) | ((with_reducible show (_ : Bool) = true); kernel_rfl) | with_reducible (first | refine And.intro ?_ ?_ | refine xrun_nil ?_ | refine xtxt_nil ?_) | (refine hK' _ ?_; clear hK'; clear K') | (with_reducible intro hg; try simp only [zh, zi, zz, reduceCtorEq] at hg))) | ((with_reducible show XW _ _ _ _ (.cond _ _ _) _ _); refine XW.cond rfl (fun h => ?_) (fun h => ?_) <;> (try simp only [zh, zi, zz, reduceCtorEq] at h) <;> (try (exfalso; omega))) | ((with_reducible show XW.thn _ _ _ _); dsimp only [XW.thn]) | ((with_reducible show XW.blk _ _ _ _); simp only [XW.blk, ↓reduceIte, Nat.reduceEqDiff, Nat.zero_ne_one, Nat.one_ne_zero, ne_eq]) | ((with_reducible show retK _ _ _ _); simp only [zd, zb, zz, lk, Nat.reduceEqDiff, Nat.reduceBEq, Nat.reduceBeqDiff, reduceCtorEq, ↓reduceIte])); all_goals (try (first | omega | with_reducible exact Int.le_refl _ | (show (_ : Int) ≤ _; omega)))
    all_goals try omega
    refine XW.loop (ι := Nat × Bool × PMp) (fun x => ⟨[(9, .dat NI (x.1 : Int)), (8, .dat NI (i : Int)), (7, .dat .bool x.2.1), (5, .mp b2 (.prs x.2.2)), (4, .mp b (.prs (drwL m))), (3, .dat NI (m.length : Int)), (0, .dat LLI m)], [], 1, []⟩)
      (fun x => x.1 ≤ m.length ∧ GdP m P0 x.2.2 ∧ RndP m P i x.1 x.2.1 x.2.2) (fun x => m.length - x.1) (0, t1, P1) [] ⟨Nat.zero_le _, hgd1, hrn1⟩ ?_ fun x hI => ?_
    · simp only [Fits, distinct, fitEnv, fitB, fitL, fitRoots, fitRT, idsOK, AV.ids, zb, zz, RT.at, RT.ty, RT.sub, RT.cut, RT.wr, getS, setT, Ty.dflt, lk, Ty.st, stV, unV, prodTV, Int.reduceToNat, Int.reduceEq, reduceCtorEq, Nat.reduceLT, Nat.reduceEqDiff, Nat.reduceAdd, Nat.reduceMul, Nat.reduceLeDiff, Nat.reduceSub, Nat.reduceBEq, Nat.reduceBNe, Nat.reduceBeqDiff, ↓reduceIte, tab, tL, tI, tB, LI, NI, LLI, tLL, LNt, LLN, tLN, spL, spT, outerSp, linkedSp, List.set_cons_zero, List.getD_cons_zero]
      all_goals first | rfl | exact ⟨rfl, rfl⟩ | skip
    obtain ⟨j, t2, P2⟩ := x
    obtain ⟨hj, hgd2, hrn2⟩ := hI
    dsimp only at hj hgd2 hrn2 ⊢
    by_cases hjn : j < m.length
    rotate_left
    · obtain rfl : j = m.length := by omega
      repeat' (first | with_reducible (first | refine XW.seq ?_ | refine XW.block ?_ | refine XW.skip ?_ | refine XW.exit ?_ | refine XW.ret ?_) | ((first | with_reducible refine XW.region hC (fun K' hK' => ?_) | with_reducible refine XW.text hC hm_ok (by kernel_rfl) (fun K' hK' => ?_)); (try simp only [List.toList_toArray]); repeat' (first | with_reducible (first | refine xrun_cons ?_ | refine xtxt_cons ?_) | (with_reducible (first | show xoper _ _ _ _ _ _ _ | show xdo _ _ _ _ _ _); simp only [zd, zb, zz, RT.at, RT.ty, RT.sub, RT.cut, RT.wr, getS, setT, Ty.dflt, lk, Ty.st, stV, unV, prodTV, Int.reduceToNat, Int.reduceEq, reduceCtorEq, Nat.reduceLT, Nat.reduceEqDiff, Nat.reduceAdd, Nat.reduceMul, Nat.reduceLeDiff, Nat.reduceSub, Nat.reduceBEq, Nat.reduceBNe, Nat.reduceBeqDiff, ↓reduceIte, tab, tL, tI, tB, LI, NI, LLI, tLL, LNt, LLN, tLN, spL, spT, outerSp, linkedSp, List.set_cons_zero, List.getD_cons_zero, f1, f2, f3, f4, f5, f6]) | with_reducible refine xgd_intro (fun hg => ?_) (fun hg => ?_) <;> (try simp only [zh, zi, zz, reduceCtorEq] at hg) | ((with_reducible show (_ : Bool) = true); kernel_rfl) | with_reducible (first | refine And.intro ?_ ?_ | refine xrun_nil ?_ | refine xtxt_nil ?_) | (refine hK' _ ?_; clear hK'; clear K') | (with_reducible intro hg; try simp only [zh, zi, zz, reduceCtorEq] at hg))) | ((with_reducible show XW _ _ _ _ (.cond _ _ _) _ _); refine XW.cond rfl (fun h => ?_) (fun h => ?_) <;> (try simp only [zh, zi, zz, reduceCtorEq] at h) <;> (try (exfalso; omega))) | ((with_reducible show XW.thn _ _ _ _); dsimp only [XW.thn]) | ((with_reducible show XW.blk _ _ _ _); simp only [XW.blk, ↓reduceIte, Nat.reduceEqDiff, Nat.zero_ne_one, Nat.one_ne_zero, ne_eq]) | ((with_reducible show retK _ _ _ _); simp only [zd, zb, zz, lk, Nat.reduceEqDiff, Nat.reduceBEq, Nat.reduceBeqDiff, reduceCtorEq, ↓reduceIte])); all_goals (try (first | omega | with_reducible exact Int.le_refl _ | (show (_ : Int) ≤ _; omega)))
      all_goals first
        | omega
        | (refine ⟨(i + 1, t2, P2), [], ⟨by dsimp only; omega, hgd2, rnd_row hrn2⟩, by dsimp only; omega, ?_⟩
           simp only [Fits, distinct, fitEnv, fitB, fitL, fitRoots, fitRT, idsOK, AV.ids, zb, zz, RT.at, RT.ty, RT.sub, RT.cut, RT.wr, getS, setT, Ty.dflt, lk, Ty.st, stV, unV, prodTV, Int.reduceToNat, Int.reduceEq, reduceCtorEq, Nat.reduceLT, Nat.reduceEqDiff, Nat.reduceAdd, Nat.reduceMul, Nat.reduceLeDiff, Nat.reduceSub, Nat.reduceBEq, Nat.reduceBNe, Nat.reduceBeqDiff, ↓reduceIte, tab, tL, tI, tB, LI, NI, LLI, tLL, LNt, LLN, tLN, spL, spT, outerSp, linkedSp, List.set_cons_zero, List.getD_cons_zero]
           all_goals first | rfl | exact ⟨rfl, rfl⟩ | (show (_ : Int) = _; omega))
        | skip
    have hL4 : (L4 i j).length = 4 := rfl
    repeat' (first | with_reducible (first | refine XW.seq ?_ | refine XW.block ?_ | refine XW.skip ?_ | refine XW.exit ?_ | refine XW.ret ?_) | ((first | with_reducible refine XW.region hC (fun K' hK' => ?_) | with_reducible refine XW.text hC hm_ok (by kernel_rfl) (fun K' hK' => ?_)); (try simp only [List.toList_toArray]); repeat' (first | with_reducible (first | refine xrun_cons ?_ | refine xtxt_cons ?_) | (with_reducible (first | show xoper _ _ _ _ _ _ _ | show xdo _ _ _ _ _ _); simp only [zd, zb, zz, RT.at, RT.ty, RT.sub, RT.cut, RT.wr, getS, setT, Ty.dflt, lk, Ty.st, stV, unV, prodTV, Int.reduceToNat, Int.reduceEq, reduceCtorEq, Nat.reduceLT, Nat.reduceEqDiff, Nat.reduceAdd, Nat.reduceMul, Nat.reduceLeDiff, Nat.reduceSub, Nat.reduceBEq, Nat.reduceBNe, Nat.reduceBeqDiff, ↓reduceIte, tab, tL, tI, tB, LI, NI, LLI, tLL, LNt, LLN, tLN, spL, spT, outerSp, linkedSp, List.set_cons_zero, List.getD_cons_zero, f1, f2, f3, f4, f5, f6]) | with_reducible refine xgd_intro (fun hg => ?_) (fun hg => ?_) <;> (try simp only [zh, zi, zz, reduceCtorEq] at hg) | ((with_reducible show (_ : Bool) = true); kernel_rfl) | with_reducible (first | refine And.intro ?_ ?_ | refine xrun_nil ?_ | refine xtxt_nil ?_) | (refine hK' _ ?_; clear hK'; clear K') | (with_reducible intro hg; try simp only [zh, zi, zz, reduceCtorEq] at hg))) | ((with_reducible show XW _ _ _ _ (.cond _ _ _) _ _); refine XW.cond rfl (fun h => ?_) (fun h => ?_) <;> (try simp only [zh, zi, zz, reduceCtorEq] at h) <;> (try (exfalso; omega))) | ((with_reducible show XW.thn _ _ _ _); dsimp only [XW.thn]) | ((with_reducible show XW.blk _ _ _ _); simp only [XW.blk, ↓reduceIte, Nat.reduceEqDiff, Nat.zero_ne_one, Nat.one_ne_zero, ne_eq]) | ((with_reducible show retK _ _ _ _); simp only [zd, zb, zz, lk, Nat.reduceEqDiff, Nat.reduceBEq, Nat.reduceBeqDiff, reduceCtorEq, ↓reduceIte])); all_goals (try (first | omega | with_reducible exact Int.le_refl _ | (show (_ : Int) ≤ _; omega)))
    all_goals try omega
    refine XW.loop (ι := Nat) (fun q => ⟨[(72, .dat NI (q : Int)), (71, .dat NI 4), (70, .ref 1 []), (10, .ref 0 []), (9, .dat NI (j : Int)), (8, .dat NI (i : Int)), (7, .dat .bool t2), (5, .mp b2 (.prs P2)), (4, .mp b (.prs (drwL m))), (3, .dat NI (m.length : Int)), (0, .dat LLI m)], [(0, ⟨65, LNt, 0, lst4 m i j q, none⟩), (1, ⟨65, LNt, 0, L4 i j, none⟩)], 2, []⟩)
      (fun q => q ≤ 4) (fun q => 4 - q) 0 [(0, 1), (1, 2)] (Nat.zero_le _) ?_ fun q hq => ?_
    · simp only [Fits, distinct, fitEnv, fitB, fitL, fitRoots, fitRT, idsOK, AV.ids, zb, zz, RT.at, RT.ty, RT.sub, RT.cut, RT.wr, getS, setT, Ty.dflt, lk, Ty.st, stV, unV, prodTV, Int.reduceToNat, Int.reduceEq, reduceCtorEq, Nat.reduceLT, Nat.reduceEqDiff, Nat.reduceAdd, Nat.reduceMul, Nat.reduceLeDiff, Nat.reduceSub, Nat.reduceBEq, Nat.reduceBNe, Nat.reduceBeqDiff, ↓reduceIte, tab, tL, tI, tB, LI, NI, LLI, tLL, LNt, LLN, tLN, spL, spT, outerSp, linkedSp, List.set_cons_zero, List.getD_cons_zero]
      all_goals first | rfl | exact ⟨rfl, rfl⟩ | skip
    have hll4 := lst4_len m i j q
    by_cases hq4 : q < 4
    · repeat' (first | with_reducible (first | refine XW.seq ?_ | refine XW.block ?_ | refine XW.skip ?_ | refine XW.exit ?_ | refine XW.ret ?_) | ((first | with_reducible refine XW.region hC (fun K' hK' => ?_) | with_reducible refine XW.text hC hm_ok (by kernel_rfl) (fun K' hK' => ?_)); (try simp only [List.toList_toArray]); repeat' (first | with_reducible (first | refine xrun_cons ?_ | refine xtxt_cons ?_) | (with_reducible (first | show xoper _ _ _ _ _ _ _ | show xdo _ _ _ _ _ _); simp only [zd, zb, zz, RT.at, RT.ty, RT.sub, RT.cut, RT.wr, getS, setT, Ty.dflt, lk, Ty.st, stV, unV, prodTV, Int.reduceToNat, Int.reduceEq, reduceCtorEq, Nat.reduceLT, Nat.reduceEqDiff, Nat.reduceAdd, Nat.reduceMul, Nat.reduceLeDiff, Nat.reduceSub, Nat.reduceBEq, Nat.reduceBNe, Nat.reduceBeqDiff, ↓reduceIte, tab, tL, tI, tB, LI, NI, LLI, tLL, LNt, LLN, tLN, spL, spT, outerSp, linkedSp, List.set_cons_zero, List.getD_cons_zero, f1, f2, f3, f4, f5, f6, hL4]) | with_reducible refine xgd_intro (fun hg => ?_) (fun hg => ?_) <;> (try simp only [zh, zi, zz, reduceCtorEq] at hg) | ((with_reducible show (_ : Bool) = true); kernel_rfl) | with_reducible (first | refine And.intro ?_ ?_ | refine xrun_nil ?_ | refine xtxt_nil ?_) | (refine hK' _ ?_; clear hK'; clear K') | (with_reducible intro hg; try simp only [zh, zi, zz, reduceCtorEq] at hg))) | ((with_reducible show XW _ _ _ _ (.cond _ _ _) _ _); refine XW.cond rfl (fun h => ?_) (fun h => ?_) <;> (try simp only [zh, zi, zz, reduceCtorEq] at h) <;> (try (exfalso; omega))) | ((with_reducible show XW.thn _ _ _ _); dsimp only [XW.thn]) | ((with_reducible show XW.blk _ _ _ _); simp only [XW.blk, ↓reduceIte, Nat.reduceEqDiff, Nat.zero_ne_one, Nat.one_ne_zero, ne_eq]) | ((with_reducible show retK _ _ _ _); simp only [zd, zb, zz, lk, Nat.reduceEqDiff, Nat.reduceBEq, Nat.reduceBeqDiff, reduceCtorEq, ↓reduceIte])); all_goals (try (first | omega | with_reducible exact Int.le_refl _ | (show (_ : Int) ≤ _; omega)))
      all_goals first
        | omega
        | (refine ⟨q + 1, [(0, 0), (1, 1)], by omega, by omega, ?_⟩
           rw [lst4_no hq4 (Int.not_lt.2 (by assumption))]
           simp only [Fits, distinct, fitEnv, fitB, fitL, fitRoots, fitRT, idsOK, AV.ids, zb, zz, RT.at, RT.ty, RT.sub, RT.cut, RT.wr, getS, setT, Ty.dflt, lk, Ty.st, stV, unV, prodTV, Int.reduceToNat, Int.reduceEq, reduceCtorEq, Nat.reduceLT, Nat.reduceEqDiff, Nat.reduceAdd, Nat.reduceMul, Nat.reduceLeDiff, Nat.reduceSub, Nat.reduceBEq, Nat.reduceBNe, Nat.reduceBeqDiff, ↓reduceIte, tab, tL, tI, tB, LI, NI, LLI, tLL, LNt, LLN, tLN, spL, spT, outerSp, linkedSp, List.set_cons_zero, List.getD_cons_zero]
           all_goals first | rfl | exact ⟨rfl, rfl⟩ | (show (_ : Int) = _; omega))
        | (refine ⟨q + 1, [(0, 4), (1, 1)], by omega, by omega, ?_⟩
           rw [lst4_yes hq4 (by assumption)]
           simp only [Fits, distinct, fitEnv, fitB, fitL, fitRoots, fitRT, idsOK, AV.ids, zb, zz, RT.at, RT.ty, RT.sub, RT.cut, RT.wr, getS, setT, Ty.dflt, lk, Ty.st, stV, unV, prodTV, Int.reduceToNat, Int.reduceEq, reduceCtorEq, Nat.reduceLT, Nat.reduceEqDiff, Nat.reduceAdd, Nat.reduceMul, Nat.reduceLeDiff, Nat.reduceSub, Nat.reduceBEq, Nat.reduceBNe, Nat.reduceBeqDiff, ↓reduceIte, tab, tL, tI, tB, LI, NI, LLI, tLL, LNt, LLN, tLN, spL, spT, outerSp, linkedSp, List.set_cons_zero, List.getD_cons_zero]
           all_goals first | rfl | exact ⟨rfl, rfl⟩ | (show (_ : Int) = _; omega))
        | skip
    · obtain rfl : q = 4 := by omega
      obtain ⟨d, hd, hdp, hl2⟩ := two_lines hs hin hjn
      have e4 : lst4 m i j 4 = [lnD d, lnD (mat4 m d)] := hl2
      have hmd := (mat4_ok hs hd).1
      have hk0 : lnD d ∈ keyP P2 := by rw [hgd2.key]; exact hallm _ (mem_drwL.2 ⟨d, hd, rfl⟩)
      have hk1 : lnD (mat4 m d) ∈ keyP P2 := by rw [hgd2.key]; exact hallm _ (mem_drwL.2 ⟨_, hmd, rfl⟩)
      have hne01 := ln_ne hs hd
      have hs0 : RndP m P i j t2 P2 → getP P2 (lnD d) = getP P2 (lnD (mat4 m d)) → RndP m P i (j + 1) t2 P2 := fun hr he =>
        ⟨fun ht => ⟨(hr.1 ht).1, fun v hv hlt => by
          have hP := (hr.1 ht).1
          by_cases e : v.1 = (i, j)
          · rw [← hP]
            rcases place_all hs hd hv (e.trans hdp.symm) with rfl | rfl
            · exact he
            · rw [(mat4_ok hs hd).2.1]; exact he.symm
          · refine (hr.1 ht).2 v hv ?_
            obtain ⟨⟨a, b⟩, w⟩ := v
            simp only [Prod.mk.injEq] at e
            simp only at hlt ⊢
            omega⟩, hr.2⟩
      have hsum2 : sumP P2 ≤ sumP P := by
        cases ht2 : t2 with
        | true => exact Int.le_of_lt (hrn2.2 ht2)
        | false => rw [(hrn2.1 ht2).1]; exact Int.le_refl _
      have hjoin : getP P2 (lnD d) ≠ getP P2 (lnD (mat4 m d)) → GdP m P0 (joinP P2 (lnD d) (lnD (mat4 m d))) ∧ RndP m P i (j + 1) true (joinP P2 (lnD d) (lnD (mat4 m d))) := fun he => by
        refine ⟨⟨by rw [keys_join hk0 hk1]; exact hgd2.key, ?_, in_join hgd2.rng _ _⟩, ⟨fun h => (by cases h), fun _ => by have := sum_join hk0 hk1 hne01 he; omega⟩⟩
        have := lab_step hs hgd2.lab hd (q := min (getP P2 (lnD d)) (getP P2 (lnD (mat4 m d)))) (by omega)
        have e : getP (joinP P2 (lnD d) (lnD (mat4 m d))) = fun k => if k = lnD (mat4 m d) then min (getP P2 (lnD d)) (getP P2 (lnD (mat4 m d))) else if k = lnD d then min (getP P2 (lnD d)) (getP P2 (lnD (mat4 m d))) else getP P2 k := funext fun k => getP_join _ _ _ _
        rw [e]
        exact this
      have hr0 := hgd2.rng (lnD d)
      have hr1 := hgd2.rng (lnD (mat4 m d))
      rw [e4]
      clear e4 hl2 hll4
      generalize lnD d = k0 at *
      generalize lnD (mat4 m d) = k1 at *
      have hen0 := (ent_pos P2 k0).2
      have hen1 := (ent_pos (putP (entP P2 k0) (idxP P2 k0) (min (getP P2 k0) (getP P2 k1))) k1).2
      have hl2 : ([k0, k1] : List (Int × Int)).length = 2 := rfl
      repeat' (first | with_reducible (first | refine XW.seq ?_ | refine XW.block ?_ | refine XW.skip ?_ | refine XW.exit ?_ | refine XW.ret ?_) | ((first | with_reducible refine XW.region hC (fun K' hK' => ?_) | with_reducible refine XW.text hC hm_ok (by kernel_rfl) (fun K' hK' => ?_)); (try simp only [List.toList_toArray]); repeat' (first | with_reducible (first | refine xrun_cons ?_ | refine xtxt_cons ?_) | (with_reducible (first | show xoper _ _ _ _ _ _ _ | show xdo _ _ _ _ _ _); simp only [zd, zb, zz, RT.at, RT.ty, RT.sub, RT.cut, RT.wr, getS, setT, Ty.dflt, lk, Ty.st, stV, unV, prodTV, Int.reduceToNat, Int.reduceEq, reduceCtorEq, Nat.reduceLT, Nat.reduceEqDiff, Nat.reduceAdd, Nat.reduceMul, Nat.reduceLeDiff, Nat.reduceSub, Nat.reduceBEq, Nat.reduceBNe, Nat.reduceBeqDiff, ↓reduceIte, tab, tL, tI, tB, LI, NI, LLI, tLL, LNt, LLN, tLN, spL, spT, outerSp, linkedSp, List.set_cons_zero, List.getD_cons_zero, f1, f2, f3, f4, f5, f6]) | with_reducible refine xgd_intro (fun hg => ?_) (fun hg => ?_) <;> (try simp only [zh, zi, zz, reduceCtorEq] at hg) | ((with_reducible show (_ : Bool) = true); kernel_rfl) | with_reducible (first | refine And.intro ?_ ?_ | refine xrun_nil ?_ | refine xtxt_nil ?_) | (refine hK' _ ?_; clear hK'; clear K') | (with_reducible intro hg; try simp only [zh, zi, zz, reduceCtorEq] at hg))) | ((with_reducible show XW _ _ _ _ (.cond _ _ _) _ _); refine XW.cond rfl (fun h => ?_) (fun h => ?_) <;> (try simp only [zh, zi, zz, reduceCtorEq] at h) <;> (try (exfalso; omega))) | ((with_reducible show XW.thn _ _ _ _); dsimp only [XW.thn]) | ((with_reducible show XW.blk _ _ _ _); simp only [XW.blk, ↓reduceIte, Nat.reduceEqDiff, Nat.zero_ne_one, Nat.one_ne_zero, ne_eq]) | ((with_reducible show retK _ _ _ _); simp only [zd, zb, zz, lk, Nat.reduceEqDiff, Nat.reduceBEq, Nat.reduceBeqDiff, reduceCtorEq, ↓reduceIte])); all_goals (try (first | omega | with_reducible exact Int.le_refl _ | (show (_ : Int) ≤ _; omega)))
      all_goals try omega
      refine XW.loop (ι := Nat × Bool × PMp) (fun x => ⟨[(13, .dat NI (x.1 : Int)), (10, .ref 0 []), (9, .dat NI (j : Int)), (8, .dat NI (i : Int)), (7, .dat .bool x.2.1), (5, .mp b2 (.prs x.2.2)), (4, .mp b (.prs (drwL m))), (3, .dat NI (m.length : Int)), (0, .dat LLI m)], [(0, ⟨65, LNt, 0, [k0, k1], none⟩)], 1, []⟩)
        (fun x => (x.1 = 1 ∧ x.2.1 = t2 ∧ x.2.2 = P2) ∨ (x.1 = 2 ∧ GdP m P0 x.2.2 ∧ RndP m P i (j + 1) x.2.1 x.2.2)) (fun x => 2 - x.1) (1, t2, P2) [(0, 0)] (.inl ⟨rfl, rfl, rfl⟩) ?_ fun x hI => ?_
      · simp only [Fits, distinct, fitEnv, fitB, fitL, fitRoots, fitRT, idsOK, AV.ids, zb, zz, RT.at, RT.ty, RT.sub, RT.cut, RT.wr, getS, setT, Ty.dflt, lk, Ty.st, stV, unV, prodTV, Int.reduceToNat, Int.reduceEq, reduceCtorEq, Nat.reduceLT, Nat.reduceEqDiff, Nat.reduceAdd, Nat.reduceMul, Nat.reduceLeDiff, Nat.reduceSub, Nat.reduceBEq, Nat.reduceBNe, Nat.reduceBeqDiff, ↓reduceIte, tab, tL, tI, tB, LI, NI, LLI, tLL, LNt, LLN, tLN, spL, spT, outerSp, linkedSp, List.set_cons_zero, List.getD_cons_zero]
        all_goals first | rfl | exact ⟨rfl, rfl⟩ | skip
      obtain ⟨k, t3, P3⟩ := x
      dsimp only at hI ⊢
      rcases hI with ⟨rfl, rfl, rfl⟩ | ⟨rfl, hgd3, hrn3⟩
      rotate_left
      · have hc2 : ((2 : Nat) : Int) = 2 := rfl
        repeat' (first | with_reducible (first | refine XW.seq ?_ | refine XW.block ?_ | refine XW.skip ?_ | refine XW.exit ?_ | refine XW.ret ?_) | ((first | with_reducible refine XW.region hC (fun K' hK' => ?_) | with_reducible refine XW.text hC hm_ok (by kernel_rfl) (fun K' hK' => ?_)); (try simp only [List.toList_toArray]); repeat' (first | with_reducible (first | refine xrun_cons ?_ | refine xtxt_cons ?_) | (with_reducible (first | show xoper _ _ _ _ _ _ _ | show xdo _ _ _ _ _ _); simp only [zd, zb, zz, RT.at, RT.ty, RT.sub, RT.cut, RT.wr, getS, setT, Ty.dflt, lk, Ty.st, stV, unV, prodTV, Int.reduceToNat, Int.reduceEq, reduceCtorEq, Nat.reduceLT, Nat.reduceEqDiff, Nat.reduceAdd, Nat.reduceMul, Nat.reduceLeDiff, Nat.reduceSub, Nat.reduceBEq, Nat.reduceBNe, Nat.reduceBeqDiff, ↓reduceIte, tab, tL, tI, tB, LI, NI, LLI, tLL, LNt, LLN, tLN, spL, spT, outerSp, linkedSp, List.set_cons_zero, List.getD_cons_zero, f1, f2, f3, f4, f5, f6, hc2]) | with_reducible refine xgd_intro (fun hg => ?_) (fun hg => ?_) <;> (try simp only [zh, zi, zz, reduceCtorEq] at hg) | ((with_reducible show (_ : Bool) = true); kernel_rfl) | with_reducible (first | refine And.intro ?_ ?_ | refine xrun_nil ?_ | refine xtxt_nil ?_) | (refine hK' _ ?_; clear hK'; clear K') | (with_reducible intro hg; try simp only [zh, zi, zz, reduceCtorEq] at hg))) | ((with_reducible show XW _ _ _ _ (.cond _ _ _) _ _); refine XW.cond rfl (fun h => ?_) (fun h => ?_) <;> (try simp only [zh, zi, zz, reduceCtorEq] at h) <;> (try (exfalso; omega))) | ((with_reducible show XW.thn _ _ _ _); dsimp only [XW.thn]) | ((with_reducible show XW.blk _ _ _ _); simp only [XW.blk, ↓reduceIte, Nat.reduceEqDiff, Nat.zero_ne_one, Nat.one_ne_zero, ne_eq]) | ((with_reducible show retK _ _ _ _); simp only [zd, zb, zz, lk, Nat.reduceEqDiff, Nat.reduceBEq, Nat.reduceBeqDiff, reduceCtorEq, ↓reduceIte])); all_goals (try (first | omega | with_reducible exact Int.le_refl _ | (show (_ : Int) ≤ _; omega)))
        all_goals first
          | omega
          | (refine ⟨(j + 1, t3, P3), [], ⟨by dsimp only; omega, hgd3, hrn3⟩, by dsimp only; omega, ?_⟩
             simp only [Fits, distinct, fitEnv, fitB, fitL, fitRoots, fitRT, idsOK, AV.ids, zb, zz, RT.at, RT.ty, RT.sub, RT.cut, RT.wr, getS, setT, Ty.dflt, lk, Ty.st, stV, unV, prodTV, Int.reduceToNat, Int.reduceEq, reduceCtorEq, Nat.reduceLT, Nat.reduceEqDiff, Nat.reduceAdd, Nat.reduceMul, Nat.reduceLeDiff, Nat.reduceSub, Nat.reduceBEq, Nat.reduceBNe, Nat.reduceBeqDiff, ↓reduceIte, tab, tL, tI, tB, LI, NI, LLI, tLL, LNt, LLN, tLN, spL, spT, outerSp, linkedSp, List.set_cons_zero, List.getD_cons_zero]
             all_goals first | rfl | exact ⟨rfl, rfl⟩ | (show (_ : Int) = _; omega))
          | skip
      · have hc1 : ((1 : Nat) : Int) = 1 := rfl
        have hgt1 : ([k0, k1] : List (Int × Int)).getD 1 (0, 0) = k1 := rfl
        repeat' (first | with_reducible (first | refine XW.seq ?_ | refine XW.block ?_ | refine XW.skip ?_ | refine XW.exit ?_ | refine XW.ret ?_) | ((first | ((with_reducible show XW _ _ _ _ (.region 27 _ true) _ _); refine XW.tree hC hm_ok (.one 0 (.one 1 (.one 2 (.one 3 (.one 5 (.one 6 (.one 7 (.one 8 (.one 9 (.two 4 (.one 10 (.one 11 (.one 12 .nil))) 10 (.one 4 (.one 11 (.one 12 .nil))))))))))))) (by decide +kernel) (fun K' hK' => ?_)) | with_reducible refine XW.region hC (fun K' hK' => ?_) | with_reducible refine XW.text hC hm_ok (by kernel_rfl) (fun K' hK' => ?_)); (try simp only [List.toList_toArray]); repeat' (first | (first | with_reducible refine xtree_two ?_ ?_ | with_reducible refine xtree_nil ?_ | ((with_reducible show xtree _ _ _ (.one _ _) _); refine xtree_one (by simp only [List.getElem?_toArray, List.getElem?_cons_succ, List.getElem?_cons_zero]; rfl) ?_)) | with_reducible (first | refine xrun_cons ?_ | refine xtxt_cons ?_) | (with_reducible (first | show xoper _ _ _ _ _ _ _ | show xdo _ _ _ _ _ _); simp only [zd, zb, zz, RT.at, RT.ty, RT.sub, RT.cut, RT.wr, getS, setT, Ty.dflt, lk, Ty.st, stV, unV, prodTV, Int.reduceToNat, Int.reduceEq, reduceCtorEq, Nat.reduceLT, Nat.reduceEqDiff, Nat.reduceAdd, Nat.reduceMul, Nat.reduceLeDiff, Nat.reduceSub, Nat.reduceBEq, Nat.reduceBNe, Nat.reduceBeqDiff, ↓reduceIte, tab, tL, tI, tB, LI, NI, LLI, tLL, LNt, LLN, tLN, spL, spT, outerSp, linkedSp, List.set_cons_zero, List.getD_cons_zero, f1, f2, f3, f4, f5, f6, hc1, hl2, hgt1]) | with_reducible refine xgd_intro (fun hg => ?_) (fun hg => ?_) <;> (try simp only [zh, zi, zz, reduceCtorEq] at hg) | ((with_reducible show (_ : Bool) = true); kernel_rfl) | with_reducible (first | refine And.intro ?_ ?_ | refine xrun_nil ?_ | refine xtxt_nil ?_) | (refine hK' _ ?_; clear hK'; clear K') | (with_reducible intro hg; try simp only [zh, zi, zz, reduceCtorEq] at hg))) | ((with_reducible show XW _ _ _ _ (.cond _ _ _) _ _); refine XW.cond rfl (fun h => ?_) (fun h => ?_) <;> (try simp only [zh, zi, zz, reduceCtorEq] at h) <;> (try (exfalso; omega))) | ((with_reducible show XW.thn _ _ _ _); dsimp only [XW.thn]) | ((with_reducible show XW.blk _ _ _ _); simp only [XW.blk, ↓reduceIte, Nat.reduceEqDiff, Nat.zero_ne_one, Nat.one_ne_zero, ne_eq]) | ((with_reducible show retK _ _ _ _); simp only [zd, zb, zz, lk, Nat.reduceEqDiff, Nat.reduceBEq, Nat.reduceBeqDiff, reduceCtorEq, ↓reduceIte])); all_goals (try (first | omega | with_reducible exact Int.le_refl _ | (show (_ : Int) ≤ _; omega)))
        all_goals first
          | omega
          | exact Int.ofNat_lt.2 hen0
          | exact Int.ofNat_lt.2 hen1
          | (refine ⟨(2, true, joinP P3 k0 k1), [(0, 0)], .inr ⟨rfl, (hjoin (by assumption)).1, (hjoin (by assumption)).2⟩, by dsimp only; omega, ?_⟩
             simp only [Fits, distinct, fitEnv, fitB, fitL, fitRoots, fitRT, idsOK, AV.ids, zb, zz, RT.at, RT.ty, RT.sub, RT.cut, RT.wr, getS, setT, Ty.dflt, lk, Ty.st, stV, unV, prodTV, Int.reduceToNat, Int.reduceEq, reduceCtorEq, Nat.reduceLT, Nat.reduceEqDiff, Nat.reduceAdd, Nat.reduceMul, Nat.reduceLeDiff, Nat.reduceSub, Nat.reduceBEq, Nat.reduceBNe, Nat.reduceBeqDiff, ↓reduceIte, tab, tL, tI, tB, LI, NI, LLI, tLL, LNt, LLN, tLN, spL, spT, outerSp, linkedSp, List.set_cons_zero, List.getD_cons_zero]
             all_goals first | rfl | exact ⟨rfl, rfl⟩ | (show (_ : Int) = _; omega))
          | (refine ⟨(2, t3, P3), [(0, 0)], .inr ⟨rfl, hgd2, hs0 hrn2 (by assumption)⟩, by dsimp only; omega, ?_⟩
             simp only [Fits, distinct, fitEnv, fitB, fitL, fitRoots, fitRT, idsOK, AV.ids, zb, zz, RT.at, RT.ty, RT.sub, RT.cut, RT.wr, getS, setT, Ty.dflt, lk, Ty.st, stV, unV, prodTV, Int.reduceToNat, Int.reduceEq, reduceCtorEq, Nat.reduceLT, Nat.reduceEqDiff, Nat.reduceAdd, Nat.reduceMul, Nat.reduceLeDiff, Nat.reduceSub, Nat.reduceBEq, Nat.reduceBNe, Nat.reduceBeqDiff, ↓reduceIte, tab, tL, tI, tB, LI, NI, LLI, tLL, LNt, LLN, tLN, spL, spT, outerSp, linkedSp, List.set_cons_zero, List.getD_cons_zero]
             all_goals first | rfl | exact ⟨rfl, rfl⟩ | (show (_ : Int) = _; omega))
          | skip

end Fer
