/-
  strings.Split at one byte, as a contract. No condition.
-/
import Derived.Test.YtmaahmcdejoclaaDoorRows
import Derived.Test.YtmaahmcdejoclaaDoorLibF
set_option linter.unusedSimpArgs false
set_option linter.unusedVariables false
set_option maxHeartbeats 2000000
-- SPECS: tL, tI, tB, LI, NI, gspSp, splSp
namespace Fer
open Go Go.Proofs Go.Shelf Go.RowKit

/-- The pieces between bytes b. -/
def bspl (b : UInt8) : List UInt8 → List (List UInt8)
  | [] => [[]]
  | x :: r => if x = b then [] :: bspl b r else match bspl b r with
    | h :: t => (x :: h) :: t
    | [] => [[x]]
theorem bspl_none {b : UInt8} : ∀ {l : List UInt8}, b ∉ l → bspl b l = [l]
  | [], _ => rfl
  | x :: r, h => by
    rw [bspl, if_neg (fun e => h (by simp [e])), bspl_none fun hr => h (List.mem_cons_of_mem _ hr)]
theorem bspl_app {b : UInt8} (post : List UInt8) : ∀ {pre : List UInt8}, b ∉ pre → bspl b (pre ++ b :: post) = pre :: bspl b post
  | [], _ => by simp [bspl]
  | x :: r, h => by
    rw [List.cons_append, bspl, if_neg (fun e => h (by simp [e])), bspl_app post fun hr => h (List.mem_cons_of_mem _ hr)]
theorem bsL_tolist (s : ByteArray) : bsL s.data.toList = s := rfl
theorem splitB_spl (b : UInt8) : ∀ (k : Nat) (l : List UInt8), l.count b ≤ k → Lib.splitB ⟨#[b]⟩ 0 k (bsL l) = (bspl b l).map bsL := by
  intro k
  induction k with
  | zero =>
    intro l h
    have : b ∉ l := by rw [← List.count_eq_zero]; omega
    rw [Lib.splitB_zero, bspl_none this]
    rfl
  | succ k ih =>
    intro l h
    have hi : Lib.indexB (bsL l) ⟨#[b]⟩ = Lib.indexByte l b := Lib.index_one l b
    by_cases hm : b ∈ l
    · obtain ⟨pre, post, rfl, hp⟩ : ∃ pre post, l = pre ++ b :: post ∧ b ∉ pre := by
        clear h hi
        induction l with
        | nil => cases hm
        | cons x r ihl =>
          by_cases e : x = b
          · exact ⟨[], r, by simp [e], by simp⟩
          · obtain ⟨pre, post, h1, h2⟩ := ihl (by
              rcases List.mem_cons.1 hm with h | h
              · exact absurd h.symm e
              · exact h)
            exact ⟨x :: pre, post, by simp [h1], by simp [h2, Ne.symm e]⟩
      have hix : Lib.indexByte (pre ++ b :: post) b = (pre.length : Nat) := by
        clear hi h hm
        induction pre with
        | nil => simp [Lib.indexByte]
        | cons x r ihp =>
          have hx : (x == b) = false := by simp; intro e; exact hp (by simp [e])
          have := ihp fun h => hp (List.mem_cons_of_mem _ h)
          rw [List.cons_append, Lib.indexByte, hx, if_neg (by simp), this, if_neg (by simp only [beq_iff_eq]; omega)]
          simp
      rw [hix] at hi
      rw [Lib.splitB_hit _ _ _ _ pre.length hi, bspl_app post hp, List.map_cons]
      have e1 : (bsL (pre ++ b :: post)).extract 0 (pre.length + 0) = bsL pre := by
        apply ByteArray.ext
        simp [bsL]
      have e2 : (bsL (pre ++ b :: post)).extract (pre.length + (⟨#[b]⟩ : ByteArray).size) (bsL (pre ++ b :: post)).size = bsL post := by
        apply ByteArray.ext
        have : (⟨#[b]⟩ : ByteArray).size = 1 := rfl
        rw [this]
        simp [bsL, ByteArray.size]
        exact List.take_of_length_le (by omega)
      rw [e1, e2, ih post (by rw [List.count_append, List.count_cons_self] at h; omega)]
    · rw [Lib.splitB_miss _ _ _ _ (hi.trans ?_), bspl_none hm]
      · rfl
      · clear h hi
        induction l with
        | nil => rfl
        | cons x r ihl =>
          have hx : (x == b) = false := by simp; intro e; exact hm (by simp [e])
          rw [Lib.indexByte, hx, if_neg (by simp), ihl fun h => hm (List.mem_cons_of_mem _ h)]
          rfl

def gspSp : Spec := ⟨[.str, .str, .int .i64, .int .i64], fun args K => match args with
  | [⟨.str, s⟩, ⟨.str, c⟩, ⟨.int _, m⟩, ⟨.int _, n⟩] => m = (0 : Int) ∧ n = (-1 : Int) ∧ (ByteArray.size c == 1) = true ∧ ByteArray.size s ≤ 1000000 ∧ K [⟨.list 9 .str, (bspl (b0 c) s.data.toList).map bsL⟩]
  | _ => False⟩
def splSp : Spec := ⟨[.str, .str], fun args K => match args with
  | [⟨.str, s⟩, ⟨.str, c⟩] => (ByteArray.size c == 1) = true ∧ ByteArray.size s ≤ 1000000 ∧ K [⟨.list 9 .str, (bspl (b0 c) s.data.toList).map bsL⟩]
  | _ => False⟩

theorem gsplit_ok : FnOK Tryd.prog 33 gspSp := by
  refine ⟨⟨_, Tryd.func33, by decide, rfl⟩, fun args K hK w vs hA => ?_⟩
  obtain ⟨s, c, rfl, h1, h2, hk⟩ : ∃ s c : ByteArray, args = [⟨.str, s⟩, ⟨.str, c⟩, ⟨.int .i64, (0 : Int)⟩, ⟨.int .i64, (-1 : Int)⟩] ∧ (c.size == 1) = true ∧ s.size ≤ 1000000 ∧ K [⟨.list 9 .str, (bspl (b0 c) s.data.toList).map bsL⟩] := by
    have ht := (args_get hA).2.1
    match args, ht, hK with
    | [⟨t, x⟩, ⟨u, y⟩, ⟨v, m⟩, ⟨q, n⟩], ht, hK =>
      simp only [gspSp, List.map_cons, List.map_nil, List.cons.injEq, and_true] at ht
      obtain ⟨rfl, rfl, rfl, rfl⟩ := ht
      obtain ⟨e1, e2, hK⟩ := hK
      have e1' : m = (0 : Int) := e1
      have e2' : n = (-1 : Int) := e2
      subst e1'; subst e2'
      exact ⟨x, y, rfl, hK⟩
    | [], ht, _ => simp [gspSp] at ht
    | [_], ht, _ => simp [gspSp] at ht
    | [_, _], ht, _ => simp [gspSp] at ht
    | [_, _, _], ht, _ => simp [gspSp] at ht
    | _ :: _ :: _ :: _ :: _ :: _, ht, _ => simp [gspSp] at ht
  have hvs : vs = [.string s, .string c, .int .i64 0, .int .i64 (-1)] := by
    cases hA with
    | cons a1 hl =>
      cases hl with
      | cons a2 hl =>
        cases hl with
        | cons a3 hl =>
          cases hl with
          | cons a4 hl =>
            cases hl
            obtain rfl := str1 a1
            obtain rfl := str1 a2
            have a3' : _ = [Value.int .i64 0] := a3
            have a4' : _ = [Value.int .i64 (-1)] := a4
            subst a3'; subst a4'
            rfl
  subst hvs
  have hcb := one_b0 h1
  have hcs : c.size = 1 := by simpa using h1
  have hcnt : Lib.countB s c = s.data.toList.count (b0 c) := by
    rw [hcb]; exact Lib.count_one _ _
  have hle : s.data.toList.count (b0 c) ≤ s.size := by
    exact List.count_le_length (a := b0 c) (l := s.data.toList)
  have hcore := Any.strings_genSplit_core lib_n221 (by kernel_rfl) s c 0 (-1) (s.data.toList.count (b0 c) + 1) w (by omega) (by omega) (by omega)
    (fun x cc hx => by
      have := Any.strings_Index_one lib_n143 x (b0 c) (w.alloc (.cells cc (libRen.t 9)))
      rw [← hcb] at this
      refine this.mono fun e w' he => ⟨?_, he.2⟩
      rw [he.1]
      have e2 : Lib.indexB x c = Lib.indexByte x.data.toList (b0 c) := by
        have := Lib.index_one x.data.toList (b0 c)
        rw [hcb]; exact this
      rw [e2]) (by
      have := Any.strings_Count_one lib_n138 s (b0 c) w
      rw [← hcb] at this
      refine this.mono fun e w' he => ⟨?_, he.2⟩
      rw [he.1, hcnt]
      rfl) (by omega) (by omega) (by rw [hcnt, if_pos (by omega)]; omega)
  rw [Nat.add_sub_cancel] at hcore
  have hsp : Lib.splitB c 0 (s.data.toList.count (b0 c)) s = (bspl (b0 c) s.data.toList).map bsL := by
    have := splitB_spl (b0 c) (s.data.toList.count (b0 c)) s.data.toList (Nat.le_refl _)
    rw [bsL_tolist, ← hcb] at this
    exact this
  rw [hsp] at hcore
  refine hcore.mono fun e w' he => ?_
  obtain ⟨rfl, rfl⟩ := he
  have g := Grew.alloc w (Lib.cellsOf ((bspl (b0 c) s.data.toList).map bsL) (s.data.toList.count (b0 c) + 1)) 9
  have hlen : ∀ (l : List UInt8) (b : UInt8), (bspl b l).length = l.count b + 1 := by
    intro l b
    induction l with
    | nil => rfl
    | cons x r ih =>
      rw [bspl]
      split
      · rename_i e; subst e; rw [List.length_cons, ih, List.count_cons_self]
      · rename_i e
        rw [List.count_cons_of_ne (fun h => e (by simpa using h))]
        cases hq : bspl b r with
        | nil => rw [hq] at ih; simp at ih
        | cons h t => rw [hq] at ih; simpa using ih
  have hll : ((bspl (b0 c) s.data.toList).map bsL).length = s.data.toList.count (b0 c) + 1 := by rw [List.length_map, hlen]
  have hcells : (Lib.cellsOf ((bspl (b0 c) s.data.toList).map bsL) (s.data.toList.count (b0 c) + 1)).size = (s.data.toList.count (b0 c) + 1) * (Ty.str).width := by
    rw [Lib.cellsOf_size (Nat.le_of_eq hll)]; simp [Ty.width]
  refine ⟨g, _, [_], _, hk, rfl, .cons (F := fun n => n = w.heap.size ∨ ∃ i, i < ((bspl (b0 c) s.data.toList).map bsL).length ∧ noF n) ⟨fun n hn => ?_, .node w.heap.size (s.data.toList.count (b0 c) + 1) (fun _ => .leaf), ?_⟩ .nil fun _ _ h => h⟩
  · rcases hn with rfl | ⟨_, _, h⟩
    · exact ⟨fun h => absurd h (Nat.lt_irrefl _), by simp⟩
    · exact h.elim
  · refine own_row (t := .str) (k := 0) (l := (bspl (b0 c) s.data.toList).map bsL) (kids := fun _ => .leaf) (Fs := fun _ => noF) (heap_alloc_new w _) hcells (Nat.le_of_eq hll) (by unfold maxLen; omega) (fun i hi => ⟨fun _ h => h, .inr ⟨rfl, ?_⟩⟩) (fun _ _ h => h) (fun _ _ _ _ _ h => h.elim)
    have hlt : i < (Lib.cellsOf ((bspl (b0 c) s.data.toList).map bsL) (s.data.toList.count (b0 c) + 1)).toList.length := by
      have : (Lib.cellsOf ((bspl (b0 c) s.data.toList).map bsL) (s.data.toList.count (b0 c) + 1)).toList.length = s.data.toList.count (b0 c) + 1 := Lib.cellsOf_size (Nat.le_of_eq hll)
      omega
    show cellsAt (Lib.cellsOf ((bspl (b0 c) s.data.toList).map bsL) (s.data.toList.count (b0 c) + 1)) (i * 1) 1 = [Value.string (((bspl (b0 c) s.data.toList).map bsL).getD i ByteArray.empty)]
    unfold cellsAt
    rw [Nat.mul_one, List.drop_eq_getElem_cons hlt]
    simp only [List.take_succ_cons, List.take_zero, List.cons.injEq, and_true]
    rw [List.getD_eq_getElem?_getD, List.getElem?_eq_getElem hi]
    simp [Lib.cellsOf, List.getElem_append, hi]
    rw [List.length_map] at hi
    simp [hi]

set_option maxRecDepth 10000 in
theorem split_ok : FnOK Tryd.prog 23 splSp := by
  have hC : CtxOK Tryd.prog ⟨8, tab, fun f => lk [(33, gspSp)] f, fun f => lk [] f, fun f => lk [] f, fun f => lk [] f, fun f => lk [] f⟩ := ctx_ok ⟨gsplit_ok, trivial⟩ trivial trivial trivial trivial
  refine FnOK_of (C := ⟨8, tab, fun f => lk [(33, gspSp)] f, fun f => lk [] f, fun f => lk [] f, fun f => lk [] f, fun f => lk [] f⟩) 23 Tryd.f23 _ [4] splSp Tryd.func23 rfl (by decide) rfl rfl (Nat.le_of_ble_eq_true rfl) fun args K ht hK w0 => ?_
  obtain ⟨s, c, rfl, h1, h2, hk⟩ : ∃ s c : ByteArray, args = [⟨.str, s⟩, ⟨.str, c⟩] ∧ (c.size == 1) = true ∧ s.size ≤ 1000000 ∧ K [⟨.list 9 .str, (bspl (b0 c) s.data.toList).map bsL⟩] := by
    match args, ht, hK with
    | [⟨t, x⟩, ⟨u, y⟩], ht, hK =>
      simp only [splSp, List.map_cons, List.map_nil, List.cons.injEq, and_true] at ht
      obtain ⟨rfl, rfl⟩ := ht
      exact ⟨x, y, rfl, hK⟩
    | [], ht, _ => simp [splSp] at ht
    | [_], ht, _ => simp [splSp] at ht
    | _ :: _ :: _ :: _, ht, _ => simp [splSp] at ht
  obtain ⟨b, rfl⟩ := Lib.one_byte c (by simpa using h1)
  repeat' (first | with_reducible refine XW.seq ?_ | with_reducible refine XW.block ?_ | with_reducible refine XW.skip ?_ | with_reducible refine XW.exit ?_ | with_reducible refine XW.ret ?_ | ((first | with_reducible refine XW.region hC (fun K' hK' => ?_) | with_reducible refine XW.text hC hm_ok (by kernel_rfl) (fun K' hK' => ?_)); (try simp only [List.toList_toArray]); repeat' (first | with_reducible refine xrun_cons ?_ | with_reducible refine xtxt_cons ?_ | ((with_reducible show xord _ _ _ (_ :: _) _); refine xord_cons (by simp only [List.getElem?_toArray, List.getElem?_cons_succ, List.getElem?_cons_zero]; rfl) ?_) | ((first | with_reducible show xoper _ _ _ _ _ _ _ | with_reducible show xdo _ _ _ _ _ _); simp only [zz, stCall, stBox, oneOf, oneIn, named, locOf, locIn, stRoots, killAll, capAV, stVals, stBoxes, noP, isBoxP, stKeep, stCut, stAdd, distinctL, evs, XS.initS, envS, rtsS, locS, Option.map_some, wholeAV, noPin, capTV, XS.initC, envC, xoper, xwant, cutAt, bxAV, bld3AV, bld0AV, strIdx, XS.trunc, XS.inPlace, RT.withX, isNilP, isOneP, fldAV, fldP, fldR, cpAV, okB, loOf, hiOf, cutL, List.length_set, Int.reduceToNat, Int.reduceEq, List.getElem?_toArray, List.getElem?_cons_succ, List.getElem?_cons_zero, xgd_true, xgd_false, known, beq_true, beq_false, xdo, mpOp, mpSet, AV.setMp, AV.plain, isMove, nilAt, nilCmp, xpure, xpureT, xmem, XS.ev, constAV, XS.init, XS.initMv, env0, XS.put, XS.get, XS.root, lk, rm, dOK, PF.of, PR.pf, Option.map_none, Option.bind_some, Option.bind_none, opt2, binAV, idxAV, idxPair, bldAV, idxRO, idxRef, idxSub, idxArr, ldAV, ldPtr, lenAV, slAV, sameAV, convAV, TE.ty, appAV, own1, srcAV, stAV, mkAV, bsAV, alAV, argAV, argsAV, calleeOf, List.size_toArray, datOf, datsOf, retAV, retsAV, retsPut, castL_self, castV_self, fitD_self, List.length_cons, List.length_nil, List.map_cons, List.map_nil, if_true, if_false, forall_const, reduceCtorEq, ↓reduceIte, beq_self_eq_true, dite_true, dite_false, ne_eq, bne_self_eq_false, List.all_nil, List.all_cons, List.nil_append, List.cons_append, List.contains_nil, List.contains_cons, Ty.list.injEq, Ty.int.injEq, Ty.prod.injEq, List.cons.injEq, List.length_replicate, Option.some.injEq, Int.cast_ofNat_Int, binInt, cmpInt, binBool, binStr, Nat.reduceLT, Nat.reduceEqDiff, Nat.reduceAdd, Nat.reduceMul, Nat.reduceLeDiff, Nat.reduceSub, Nat.reduceBEq, Nat.reduceBNe, Nat.reduceBeqDiff, elAt, RT.at, RT.ty, RT.sub, RT.cut, RT.wr, getS, dep, okS, okNode, hclear, TV.len, TV.ew, XS.addRoot, XS.kill, XS.also, XS.setRoot, XS.redo, XS.redo2, XS.wrote, XS.took, pinAlso, nilRT, tchOf, tchOK, XS.pin, qOf, isNil, Ty.flat, Ty.lev, Ty.dflt, Ty.width, cutEnv, AV.shallow, shB, safeR, safeP, setT, bnd, capsOf, inR, outsOf, outOf, retK, XW.thn, XW.blk, prodOf, tab, tL, tI, tB, LI, NI, gspSp, splSp]) | with_reducible refine xgd_intro (fun hg => ?_) (fun hg => ?_) <;> (try simp only [zh, zz, reduceCtorEq, bne_iff_ne, beq_iff_eq, ne_eq, Decidable.not_not, beq_eq_false_iff_ne, bne_eq_false_iff_eq] at hg) | ((with_reducible show (_ : Bool) = true); kernel_rfl) | with_reducible refine And.intro ?_ ?_ | with_reducible refine xrun_nil ?_ | with_reducible refine xtxt_nil ?_ | with_reducible refine xord_nil ?_ | (refine hK' _ ?_; clear hK'; clear K') | (with_reducible intro hg; try simp only [zh, zz, reduceCtorEq, bne_iff_ne, beq_iff_eq, ne_eq, Decidable.not_not, beq_eq_false_iff_ne, bne_eq_false_iff_eq] at hg))) | ((with_reducible show XW _ _ _ _ (.cond _ _ _) _ _); refine XW.cond rfl (fun h => ?_) (fun h => ?_) <;> (try simp only [zh, zz, reduceCtorEq, bne_iff_ne, beq_iff_eq, ne_eq, Decidable.not_not, beq_eq_false_iff_ne, bne_eq_false_iff_eq] at h) <;> (try (exfalso; omega))) | ((with_reducible show XW.thn _ _ _ _); dsimp only [XW.thn]) | ((with_reducible show XW.blk _ _ _ _); simp only [XW.blk, ↓reduceIte, Nat.reduceEqDiff, Nat.zero_ne_one, Nat.one_ne_zero, ne_eq]) | ((with_reducible show retK _ _ _ _); simp only [retK, outsOf, outOf, zz, Option.map_some, List.length_set, Int.reduceToNat, Int.reduceEq, List.getElem?_toArray, List.getElem?_cons_succ, List.getElem?_cons_zero, beq_true, beq_false, XS.put, XS.get, XS.root, lk, rm, Option.map_none, Option.bind_some, Option.bind_none, opt2, List.size_toArray, castL_self, castV_self, fitD_self, List.length_cons, List.length_nil, List.map_cons, List.map_nil, if_true, if_false, forall_const, reduceCtorEq, ↓reduceIte, beq_self_eq_true, dite_true, dite_false, ne_eq, bne_self_eq_false, List.all_nil, List.all_cons, List.nil_append, List.cons_append, List.contains_nil, List.contains_cons, Ty.list.injEq, Ty.int.injEq, Ty.prod.injEq, List.cons.injEq, List.length_replicate, Option.some.injEq, Int.cast_ofNat_Int, Nat.reduceLT, Nat.reduceEqDiff, Nat.reduceAdd, Nat.reduceMul, Nat.reduceLeDiff, Nat.reduceSub, Nat.reduceBEq, Nat.reduceBNe, Nat.reduceBeqDiff, RT.at, RT.ty, RT.sub, RT.cut, RT.wr, getS, dep, okS, hclear, TV.len, XS.addRoot, XS.kill, XS.setRoot, pinAlso, Ty.flat, Ty.lev, Ty.dflt, Ty.width, setT, prodOf, tab, tL, tI, tB, LI, NI, gspSp, splSp])); all_goals (try (first | omega | with_reducible exact Int.le_refl _ | (show (_ : Int) ≤ _; omega)))
  all_goals first
    | exact hk
    | skip

end Fer
