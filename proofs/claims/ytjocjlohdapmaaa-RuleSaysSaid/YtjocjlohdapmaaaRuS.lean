import Derived.Shelf.SlSortCmp.NoneTotal
import Derived.Test.YtjocjlohdapmaaaRows
import Derived.Test.YtjocjlohdapmaaaRuB
set_option linter.unusedSimpArgs false
set_option linter.unusedVariables false
set_option maxHeartbeats 1000000
namespace Fer
open Go Go.Proofs Go.Sort

def cfT (x y : Tb) : Int := cmpL x.flatten y.flatten
theorem cfT_lt (x y : Tb) : ltOf cfT x y = decide (cfT x y < 0) := rfl
theorem cfT_swo : SWO (ltOf cfT) where
  irrefl x := by rw [cfT_lt]; unfold cfT; rw [cmpL_self]; rfl
  trans x y z h1 h2 := by
    have h1 : decide (cmpL x.flatten y.flatten < 0) = true := h1
    have h2 : decide (cmpL y.flatten z.flatten < 0) = true := h2
    show decide (cmpL x.flatten z.flatten < 0) = true
    exact decide_eq_true (cmpL_lt (of_decide_eq_true h1) (Int.le_of_lt (of_decide_eq_true h2)))
  ntrans x y z h1 h2 := by
    have h1 : decide (cmpL x.flatten y.flatten < 0) = false := h1
    have h2 : decide (cmpL y.flatten z.flatten < 0) = false := h2
    show decide (cmpL x.flatten z.flatten < 0) = false
    have h1 := of_decide_eq_false h1
    have h2 := of_decide_eq_false h2
    refine decide_eq_false ?_
    have e1 := cmpL_neg x.flatten y.flatten
    have e2 := cmpL_neg y.flatten z.flatten
    have e3 := cmpL_neg x.flatten z.flatten
    have := (cmpL_trans (x := z.flatten) (y := y.flatten) (z := x.flatten) (by omega) (by omega)).1
    omega
theorem sorted_leT {l : List Tb} (hs : SortedL cfT l) : l.Pairwise fun a b => leT a b = true := by
  rw [List.pairwise_iff_getElem]
  intro i j hi hj hij
  have h1 := hs i j hij hj
  rw [List.getD_eq_getElem?_getD, List.getD_eq_getElem?_getD, List.getElem?_eq_getElem hi, List.getElem?_eq_getElem hj] at h1
  simp only [Option.getD_some, cfT] at h1
  have := cmpL_neg l[i].flatten l[j].flatten
  exact decide_eq_true (by omega)
def sortTbSp (g : Nat) : Spec := ⟨[LTT, .raw], fun args K => match args with
  | [⟨.list _ (.list _ (.list _ (.int _))), l⟩, ⟨.raw, fv⟩] => fv = .func (.func g) #[] #[] ∧ l.length ≤ 2000000000000 ∧ (∃ s : List Nat, s.length ≤ 1000 ∧ s.sum ≤ 1000 ∧ ∀ T ∈ l, T.map List.length = s) ∧ K [tTT (tsort l)]
  | _ => False⟩
theorem flat_len (T : Tb) : T.flatten.length = (T.map List.length).sum := by rw [List.length_flatten]

def tbRen : Go.Shelf.Ren := ⟨fun | 6 => 22 | 15 => 50 | 14 => 49 | 28 => 65 | 29 => 66 | 20 => 57 | 21 => 58 | 22 => 59 | 23 => 60 | 24 => 61 | 25 => 62 | 26 => 63 | 27 => 64 | 46 => 68 | 47 => 69 | 48 => 70 | 49 => 71 | 50 => 72 | 57 => 73 | n => n, fun | 22 => 26 | 24 => 33 | 25 => 47 | 3 => 3 | 39 => 76 | 0 => 0 | 53 => 90 | 55 => 92 | 4 => 4 | 46 => 83 | 45 => 82 | 50 => 87 | 5 => 5 | 9 => 9 | 66 => 94 | 70 => 98 | 76 => 100 | 77 => 101 | n => n, fun n => n⟩
set_option maxRecDepth 100000 in
theorem tbLay : SlLaysF.n6 Try.prog tbRen where
  mixed := by kernel_rfl
  f6 := ⟨Try.f22.name, by decide, Try.func22.trans (congrArg some (by kernel_rfl))⟩
  f14 := ⟨Try.f49.name, by decide, Try.func49.trans (congrArg some (by kernel_rfl))⟩
  f15 := Try.func50.trans (congrArg some (by kernel_rfl))
  f20 := ⟨Try.f57.name, by decide, Try.func57.trans (congrArg some (by kernel_rfl))⟩
  f21 := ⟨Try.f58.name, by decide, Try.func58.trans (congrArg some (by kernel_rfl))⟩
  f22 := ⟨Try.f59.name, by decide, Try.func59.trans (congrArg some (by kernel_rfl))⟩
  f23 := ⟨Try.f60.name, by decide, Try.func60.trans (congrArg some (by kernel_rfl))⟩
  f24 := ⟨Try.f61.name, by decide, Try.func61.trans (congrArg some (by kernel_rfl))⟩
  f25 := ⟨Try.f62.name, by decide, Try.func62.trans (congrArg some (by kernel_rfl))⟩
  f26 := ⟨Try.f63.name, by decide, Try.func63.trans (congrArg some (by kernel_rfl))⟩
  f27 := ⟨Try.f64.name, by decide, Try.func64.trans (congrArg some (by kernel_rfl))⟩
  f28 := Try.func65.trans (congrArg some (by kernel_rfl))
  f29 := Try.func66.trans (congrArg some (by kernel_rfl))
  f46 := ⟨Try.f68.name, by decide, Try.func68.trans (congrArg some (by kernel_rfl))⟩
  f47 := Try.func69.trans (congrArg some (by kernel_rfl))
  f48 := Try.func70.trans (congrArg some (by kernel_rfl))
  f49 := ⟨Try.f71.name, by decide, Try.func71.trans (congrArg some (by kernel_rfl))⟩
  f50 := ⟨Try.f72.name, by decide, Try.func72.trans (congrArg some (by kernel_rfl))⟩
  f57 := ⟨Try.f73.name, by decide, Try.func73.trans (congrArg some (by kernel_rfl))⟩
  t0 := Try.underlying0
  a0 := Try.isAgg0
  z0 := Try.sizeOf0
  v0 := Try.zeroValue0
  t3 := Try.underlying3
  a3 := Try.isAgg3
  z3 := Try.sizeOf3
  v3 := Try.zeroValue3
  t4 := Try.underlying4
  a4 := Try.isAgg4
  z4 := Try.sizeOf4
  v4 := Try.zeroValue4
  t5 := Try.underlying5
  a5 := Try.isAgg5
  z5 := Try.sizeOf5
  v5 := Try.zeroValue5
  t9 := Try.underlying9
  a9 := Try.isAgg9
  z9 := Try.sizeOf9
  v9 := Try.zeroValue9
  t22 := Try.underlying26
  a22 := Try.isAgg26
  z22 := Try.sizeOf26
  v22 := Try.zeroValue26
  a24 := Try.isAgg33
  z24 := Try.sizeOf33
  t25 := Try.underlying47
  a25 := Try.isAgg47
  z25 := Try.sizeOf47
  v25 := Try.zeroValue47
  t39 := Try.underlying76
  a39 := Try.isAgg76
  z39 := Try.sizeOf76
  v39 := Try.zeroValue76
  t45 := Try.underlying82
  a45 := Try.isAgg82
  z45 := Try.sizeOf82
  v45 := Try.zeroValue82
  t46 := Try.underlying83
  a46 := Try.isAgg83
  z46 := Try.sizeOf83
  v46 := Try.zeroValue83
  t50 := Try.underlying87
  a50 := Try.isAgg87
  z50 := Try.sizeOf87
  v50 := Try.zeroValue87
  t53 := Try.underlying90
  a53 := Try.isAgg90
  z53 := Try.sizeOf90
  v53 := Try.zeroValue90
  t55 := Try.underlying92
  a55 := Try.isAgg92
  z55 := Try.sizeOf92
  v55 := Try.zeroValue92
  t66 := Try.underlying94
  a66 := Try.isAgg94
  z66 := Try.sizeOf94
  v66 := Try.zeroValue94
  t70 := Try.underlying98
  a70 := Try.isAgg98
  z70 := Try.sizeOf98
  v70 := Try.zeroValue98
  t76 := Try.underlying100
  a76 := Try.isAgg100
  z76 := Try.sizeOf100
  v76 := Try.zeroValue100
  t77 := Try.underlying101
  a77 := Try.isAgg101
  z77 := Try.sizeOf101
  v77 := Try.zeroValue101



theorem sortTb1_ok : FnIp Try.prog 22 (sortTbSp 23) :=
  sort_coreQ (t := LLI) rfl (cf := cfT) fcmp_ok rfl cfT_swo ⟨_, Try.func22, by decide, rfl⟩
    (AnyF.slices_SortFunc_none (ρ := tbRen) { tbLay with }) (sortCall_one (ρ := tbRen) (t := LLI) tbLay rfl rfl fcmp_ok) rfl
    (fun l fv K h => by
      obtain ⟨h1, h2, ⟨s, s1, s2, s3⟩, hk⟩ := h
      refine ⟨fun T : Tb => T.map List.length = s, fun x y K hx hy h => ⟨hx.trans hy.symm, h⟩, h1, by omega, s3, fun l' hp hs => ?_⟩
      rw [tsort_uniq s3 hp (sorted_leT hs)]
      exact hk)
theorem sortTb2_ok : FnIp Try.prog 22 (sortTbSp 32) :=
  sort_coreQ (t := LLI) rfl (cf := cfT) rless_ok rfl cfT_swo ⟨_, Try.func22, by decide, rfl⟩
    (AnyF.slices_SortFunc_none (ρ := tbRen) { tbLay with }) (sortCall_one (ρ := tbRen) (t := LLI) tbLay rfl rfl rless_ok) rfl
    (fun l fv K h => by
      obtain ⟨h1, h2, ⟨s, s1, s2, s3⟩, hk⟩ := h
      refine ⟨fun T : Tb => T.map List.length = s, fun x y K hx hy h => ⟨?_, h⟩, h1, by omega, s3, fun l' hp hs => ?_⟩
      · have hx : x.map List.length = s := hx
        have hy : y.map List.length = s := hy
        have e1 := congrArg List.length hx
        have e2 := congrArg List.length hy
        rw [List.length_map] at e1 e2
        have f1 := flat_len x
        have f2 := flat_len y
        rw [hx] at f1
        rw [hy] at f2
        exact ⟨by omega, by omega, by omega, by omega⟩
      · rw [tsort_uniq s3 hp (sorted_leT hs)]
        exact hk)

end Fer
