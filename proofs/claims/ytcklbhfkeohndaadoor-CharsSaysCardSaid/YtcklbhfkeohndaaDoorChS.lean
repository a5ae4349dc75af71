import Derived.Shelf.SlSortCmp.NoneTotal
import Derived.Test.YtcklbhfkeohndaaDoorRows
import Derived.Test.YtcklbhfkeohndaaDoorChA
set_option linter.unusedSimpArgs false
set_option linter.unusedVariables false
set_option maxHeartbeats 1000000
namespace Fer
open Go Go.Proofs Go.Sort

theorem cmpK_lt {α : Type} (key : α → List Int) (x y : α) : ltOf (fun x y => cmpL (key y) (key x)) x y = decide (cmpL (key y) (key x) < 0) := rfl
theorem cmpK_swo {α : Type} (key : α → List Int) : SWO (ltOf (fun x y : α => cmpL (key y) (key x))) where
  irrefl x := by rw [cmpK_lt, cmpL_self]; rfl
  trans x y z h1 h2 := by
    rw [cmpK_lt] at *
    simp only [decide_eq_true_eq] at *
    exact cmpL_lt h2 (Int.le_of_lt h1)
  ntrans x y z h1 h2 := by
    rw [cmpK_lt] at *
    simp only [decide_eq_false_iff_not] at *
    have e1 := cmpL_neg (key y) (key x)
    have e2 := cmpL_neg (key z) (key y)
    have e3 := cmpL_neg (key z) (key x)
    have := (cmpL_trans (x := key x) (y := key y) (z := key z) (by omega) (by omega)).1
    omega
theorem sorted_uniq {α : Type} [Inhabited α] (key : α → List Int) {l l' : List α} (hp : l'.Perm l) (hs : SortedL (fun x y : α => cmpL (key y) (key x)) l') (hst : l.Pairwise fun a b => cmpL (key b) (key a) < 0) : l' = l := by
  refine hp.eq_of_pairwise (le := fun a b => cmpL (key b) (key a) ≤ 0) (fun a b ha hb h1 h2 => ?_) ?_ (hst.imp fun h => Int.le_of_lt h)
  · have e := cmpL_neg (key a) (key b)
    by_cases hab : a = b
    · exact hab
    · have ha := hp.mem_iff.1 ha
      obtain ⟨i, hi⟩ := List.getElem?_of_mem ha
      obtain ⟨j, hj⟩ := List.getElem?_of_mem hb
      have hil := (List.getElem?_eq_some_iff.1 hi).1
      have hjl := (List.getElem?_eq_some_iff.1 hj).1
      have hi := (List.getElem?_eq_some_iff.1 hi).2
      have hj := (List.getElem?_eq_some_iff.1 hj).2
      rcases Nat.lt_trichotomy i j with h | h | h
      · have := List.pairwise_iff_getElem.1 hst i j hil hjl h
        rw [hi, hj] at this
        omega
      · subst h
        exact absurd (hi.symm.trans hj) hab
      · have := List.pairwise_iff_getElem.1 hst j i hjl hil h
        rw [hi, hj] at this
        omega
  · rw [List.pairwise_iff_getElem]
    intro i j hi hj hij
    have h1 := hs i j hij hj
    rw [List.getD_eq_getElem?_getD, List.getD_eq_getElem?_getD, List.getElem?_eq_getElem hi, List.getElem?_eq_getElem hj] at h1
    simp only [Option.getD_some] at h1
    have := cmpL_neg (key l'[i]) (key l'[j])
    omega

def HasD {α : Type} (key : α → List Int) (l : List α) : Prop := ∃ r : List α, r.Perm l ∧ r.Pairwise fun a b => cmpL (key b) (key a) < 0
open Classical in
noncomputable def ordD {α : Type} (key : α → List Int) (l : List α) : List α := if h : HasD key l then h.choose else l
theorem ordD_spec {α : Type} {key : α → List Int} {l : List α} (h : HasD key l) : (ordD key l).Perm l ∧ (ordD key l).Pairwise fun a b => cmpL (key b) (key a) < 0 := by
  unfold ordD
  rw [dif_pos h]
  exact h.choose_spec
theorem strict_uniq {α : Type} (key : α → List Int) {l l' : List α} (hp : l'.Perm l) (hst : l.Pairwise fun a b => cmpL (key b) (key a) < 0) (hst' : l'.Pairwise fun a b => cmpL (key b) (key a) < 0) : l' = l :=
  hp.eq_of_pairwise (le := fun a b => cmpL (key b) (key a) < 0) (fun a b _ _ h1 h2 => by
    have := cmpL_neg (key a) (key b)
    omega) hst' hst
theorem ordD_eq {α : Type} {key : α → List Int} {l r : List α} (hr : r.Perm l) (hd : r.Pairwise fun a b => cmpL (key b) (key a) < 0) : ordD key l = r := by
  obtain ⟨h1, h2⟩ := ordD_spec ⟨r, hr, hd⟩
  exact strict_uniq key (h1.trans hr.symm) hd h2
noncomputable def sortStSp (g : Nat) : Spec := ⟨[LSP, .raw], fun args K => match args with
  | [⟨.list _ (.prod (.list _ (.int _)) (.int _)), l⟩, ⟨.raw, fv⟩] => fv = .func (.func g) #[] #[] ∧ l.length ≤ 1000000 ∧ HasD (α := List Int × Int) (fun x => x.1) l ∧ K [tSP (ordD (α := List Int × Int) (fun x => x.1) l)]
  | _ => False⟩
noncomputable def sortLiSp (g : Nat) : Spec := ⟨[LLI, .raw], fun args K => match args with
  | [⟨.list _ (.list _ (.int _)), l⟩, ⟨.raw, fv⟩] => fv = .func (.func g) #[] #[] ∧ l.length ≤ 1000000 ∧ HasD (α := List Int) (fun x => x) l ∧ K [tLL (ordD (α := List Int) (fun x => x) l)]
  | _ => False⟩

def stRen : Go.Shelf.Ren := ⟨fun | 6 => 21 | 15 => 38 | 14 => 37 | 28 => 51 | 29 => 52 | 20 => 43 | 21 => 44 | 22 => 45 | 23 => 46 | 24 => 47 | 25 => 48 | 26 => 49 | 27 => 50 | 46 => 62 | 47 => 63 | 48 => 64 | 49 => 65 | 50 => 66 | 57 => 70 | n => n, fun | 22 => 23 | 24 => 30 | 25 => 47 | 3 => 3 | 39 => 59 | 0 => 0 | 53 => 73 | 55 => 75 | 4 => 4 | 46 => 66 | 45 => 65 | 50 => 70 | 5 => 5 | 9 => 9 | 66 => 82 | 70 => 86 | 76 => 90 | 77 => 91 | n => n, fun n => n⟩
set_option maxRecDepth 100000 in
theorem stLay : SlLaysF0.n6 Tryd.prog stRen where
  mixed := by kernel_rfl
  f6 := ⟨Tryd.f21.name, by decide, Tryd.func21.trans (congrArg some (by kernel_rfl))⟩
  f14 := ⟨Tryd.f37.name, by decide, Tryd.func37.trans (congrArg some (by kernel_rfl))⟩
  f15 := Tryd.func38.trans (congrArg some (by kernel_rfl))
  f20 := ⟨Tryd.f43.name, by decide, Tryd.func43.trans (congrArg some (by kernel_rfl))⟩
  f21 := ⟨Tryd.f44.name, by decide, Tryd.func44.trans (congrArg some (by kernel_rfl))⟩
  f22 := ⟨Tryd.f45.name, by decide, Tryd.func45.trans (congrArg some (by kernel_rfl))⟩
  f23 := ⟨Tryd.f46.name, by decide, Tryd.func46.trans (congrArg some (by kernel_rfl))⟩
  f24 := ⟨Tryd.f47.name, by decide, Tryd.func47.trans (congrArg some (by kernel_rfl))⟩
  f25 := ⟨Tryd.f48.name, by decide, Tryd.func48.trans (congrArg some (by kernel_rfl))⟩
  f26 := ⟨Tryd.f49.name, by decide, Tryd.func49.trans (congrArg some (by kernel_rfl))⟩
  f27 := ⟨Tryd.f50.name, by decide, Tryd.func50.trans (congrArg some (by kernel_rfl))⟩
  f28 := Tryd.func51.trans (congrArg some (by kernel_rfl))
  f29 := Tryd.func52.trans (congrArg some (by kernel_rfl))
  f46 := ⟨Tryd.f62.name, by decide, Tryd.func62.trans (congrArg some (by kernel_rfl))⟩
  f47 := Tryd.func63.trans (congrArg some (by kernel_rfl))
  f48 := Tryd.func64.trans (congrArg some (by kernel_rfl))
  f49 := ⟨Tryd.f65.name, by decide, Tryd.func65.trans (congrArg some (by kernel_rfl))⟩
  f50 := ⟨Tryd.f66.name, by decide, Tryd.func66.trans (congrArg some (by kernel_rfl))⟩
  f57 := ⟨Tryd.f70.name, by decide, Tryd.func70.trans (congrArg some (by kernel_rfl))⟩
  t0 := Tryd.underlying0
  a0 := Tryd.isAgg0
  z0 := Tryd.sizeOf0
  v0 := Tryd.zeroValue0
  t3 := Tryd.underlying3
  a3 := Tryd.isAgg3
  z3 := Tryd.sizeOf3
  v3 := Tryd.zeroValue3
  t4 := Tryd.underlying4
  a4 := Tryd.isAgg4
  z4 := Tryd.sizeOf4
  v4 := Tryd.zeroValue4
  t5 := Tryd.underlying5
  a5 := Tryd.isAgg5
  z5 := Tryd.sizeOf5
  v5 := Tryd.zeroValue5
  t9 := Tryd.underlying9
  a9 := Tryd.isAgg9
  z9 := Tryd.sizeOf9
  v9 := Tryd.zeroValue9
  t22 := Tryd.underlying23
  a22 := Tryd.isAgg23
  z22 := Tryd.sizeOf23
  v22 := Tryd.zeroValue23
  t25 := Tryd.underlying47
  a25 := Tryd.isAgg47
  z25 := Tryd.sizeOf47
  v25 := Tryd.zeroValue47
  t39 := Tryd.underlying59
  a39 := Tryd.isAgg59
  z39 := Tryd.sizeOf59
  v39 := Tryd.zeroValue59
  t45 := Tryd.underlying65
  a45 := Tryd.isAgg65
  z45 := Tryd.sizeOf65
  v45 := Tryd.zeroValue65
  t46 := Tryd.underlying66
  a46 := Tryd.isAgg66
  z46 := Tryd.sizeOf66
  v46 := Tryd.zeroValue66
  t50 := Tryd.underlying70
  a50 := Tryd.isAgg70
  z50 := Tryd.sizeOf70
  v50 := Tryd.zeroValue70
  t53 := Tryd.underlying73
  a53 := Tryd.isAgg73
  z53 := Tryd.sizeOf73
  v53 := Tryd.zeroValue73
  t55 := Tryd.underlying75
  a55 := Tryd.isAgg75
  z55 := Tryd.sizeOf75
  v55 := Tryd.zeroValue75
  t66 := Tryd.underlying82
  a66 := Tryd.isAgg82
  z66 := Tryd.sizeOf82
  v66 := Tryd.zeroValue82
  t70 := Tryd.underlying86
  a70 := Tryd.isAgg86
  z70 := Tryd.sizeOf86
  v70 := Tryd.zeroValue86
  t76 := Tryd.underlying90
  a76 := Tryd.isAgg90
  z76 := Tryd.sizeOf90
  v76 := Tryd.zeroValue90
  t77 := Tryd.underlying91
  a77 := Tryd.isAgg91
  z77 := Tryd.sizeOf91
  v77 := Tryd.zeroValue91


def liRen : Go.Shelf.Ren := ⟨fun | 6 => 29 | 15 => 38 | 14 => 41 | 28 => 51 | 29 => 52 | 20 => 54 | 21 => 55 | 22 => 56 | 23 => 57 | 24 => 58 | 25 => 59 | 26 => 60 | 27 => 61 | 46 => 67 | 47 => 63 | 48 => 64 | 49 => 68 | 50 => 69 | 57 => 71 | n => n, fun | 22 => 38 | 24 => 22 | 25 => 36 | 3 => 3 | 39 => 59 | 0 => 0 | 53 => 73 | 55 => 75 | 4 => 4 | 46 => 66 | 45 => 65 | 50 => 70 | 5 => 5 | 9 => 9 | 66 => 82 | 70 => 86 | 76 => 90 | 77 => 91 | n => n, fun n => n⟩
set_option maxRecDepth 100000 in
theorem liLay : SlLaysF.n6 Tryd.prog liRen where
  mixed := by kernel_rfl
  f6 := ⟨Tryd.f29.name, by decide, Tryd.func29.trans (congrArg some (by kernel_rfl))⟩
  f14 := ⟨Tryd.f41.name, by decide, Tryd.func41.trans (congrArg some (by kernel_rfl))⟩
  f15 := Tryd.func38.trans (congrArg some (by kernel_rfl))
  f20 := ⟨Tryd.f54.name, by decide, Tryd.func54.trans (congrArg some (by kernel_rfl))⟩
  f21 := ⟨Tryd.f55.name, by decide, Tryd.func55.trans (congrArg some (by kernel_rfl))⟩
  f22 := ⟨Tryd.f56.name, by decide, Tryd.func56.trans (congrArg some (by kernel_rfl))⟩
  f23 := ⟨Tryd.f57.name, by decide, Tryd.func57.trans (congrArg some (by kernel_rfl))⟩
  f24 := ⟨Tryd.f58.name, by decide, Tryd.func58.trans (congrArg some (by kernel_rfl))⟩
  f25 := ⟨Tryd.f59.name, by decide, Tryd.func59.trans (congrArg some (by kernel_rfl))⟩
  f26 := ⟨Tryd.f60.name, by decide, Tryd.func60.trans (congrArg some (by kernel_rfl))⟩
  f27 := ⟨Tryd.f61.name, by decide, Tryd.func61.trans (congrArg some (by kernel_rfl))⟩
  f28 := Tryd.func51.trans (congrArg some (by kernel_rfl))
  f29 := Tryd.func52.trans (congrArg some (by kernel_rfl))
  f46 := ⟨Tryd.f67.name, by decide, Tryd.func67.trans (congrArg some (by kernel_rfl))⟩
  f47 := Tryd.func63.trans (congrArg some (by kernel_rfl))
  f48 := Tryd.func64.trans (congrArg some (by kernel_rfl))
  f49 := ⟨Tryd.f68.name, by decide, Tryd.func68.trans (congrArg some (by kernel_rfl))⟩
  f50 := ⟨Tryd.f69.name, by decide, Tryd.func69.trans (congrArg some (by kernel_rfl))⟩
  f57 := ⟨Tryd.f71.name, by decide, Tryd.func71.trans (congrArg some (by kernel_rfl))⟩
  t0 := Tryd.underlying0
  a0 := Tryd.isAgg0
  z0 := Tryd.sizeOf0
  v0 := Tryd.zeroValue0
  t3 := Tryd.underlying3
  a3 := Tryd.isAgg3
  z3 := Tryd.sizeOf3
  v3 := Tryd.zeroValue3
  t4 := Tryd.underlying4
  a4 := Tryd.isAgg4
  z4 := Tryd.sizeOf4
  v4 := Tryd.zeroValue4
  t5 := Tryd.underlying5
  a5 := Tryd.isAgg5
  z5 := Tryd.sizeOf5
  v5 := Tryd.zeroValue5
  t9 := Tryd.underlying9
  a9 := Tryd.isAgg9
  z9 := Tryd.sizeOf9
  v9 := Tryd.zeroValue9
  t22 := Tryd.underlying38
  a22 := Tryd.isAgg38
  z22 := Tryd.sizeOf38
  v22 := Tryd.zeroValue38
  a24 := Tryd.isAgg22
  z24 := Tryd.sizeOf22
  t25 := Tryd.underlying36
  a25 := Tryd.isAgg36
  z25 := Tryd.sizeOf36
  v25 := Tryd.zeroValue36
  t39 := Tryd.underlying59
  a39 := Tryd.isAgg59
  z39 := Tryd.sizeOf59
  v39 := Tryd.zeroValue59
  t45 := Tryd.underlying65
  a45 := Tryd.isAgg65
  z45 := Tryd.sizeOf65
  v45 := Tryd.zeroValue65
  t46 := Tryd.underlying66
  a46 := Tryd.isAgg66
  z46 := Tryd.sizeOf66
  v46 := Tryd.zeroValue66
  t50 := Tryd.underlying70
  a50 := Tryd.isAgg70
  z50 := Tryd.sizeOf70
  v50 := Tryd.zeroValue70
  t53 := Tryd.underlying73
  a53 := Tryd.isAgg73
  z53 := Tryd.sizeOf73
  v53 := Tryd.zeroValue73
  t55 := Tryd.underlying75
  a55 := Tryd.isAgg75
  z55 := Tryd.sizeOf75
  v55 := Tryd.zeroValue75
  t66 := Tryd.underlying82
  a66 := Tryd.isAgg82
  z66 := Tryd.sizeOf82
  v66 := Tryd.zeroValue82
  t70 := Tryd.underlying86
  a70 := Tryd.isAgg86
  z70 := Tryd.sizeOf86
  v70 := Tryd.zeroValue86
  t76 := Tryd.underlying90
  a76 := Tryd.isAgg90
  z76 := Tryd.sizeOf90
  v76 := Tryd.zeroValue90
  t77 := Tryd.underlying91
  a77 := Tryd.isAgg91
  z77 := Tryd.sizeOf91
  v77 := Tryd.zeroValue91



theorem sortSt_of {g : Nat} {gsp : Spec} (hg : FnOK Tryd.prog g gsp) (hgp : gsp.ps = [SPt, SPt]) (hgw : ∀ (x y : SPt.den) (K : List TV → Prop), K [tI (cmpL y.1 x.1)] → gsp.wp [⟨SPt, x⟩, ⟨SPt, y⟩] K) : FnIp Tryd.prog 21 (sortStSp g) :=
  sort_coreN (t := SPt) rfl (fun _ => True) (cf := fun x y : List Int × Int => cmpL y.1 x.1) hg hgp (fun x y K _ _ h => hgw x y K h) (cmpK_swo (fun x : List Int × Int => x.1)) ⟨_, Tryd.func21, by decide, rfl⟩
    (AnyF.slices_SortFunc_none (ρ := stRen) stLay) (sortCall_prod (ρ := stRen) (t := SPt) stLay rfl Tryd.isAgg30 Tryd.sizeOf30 hg) rfl
    (fun l fv K h => by
      obtain ⟨h1, h2, h3, hk⟩ := h
      obtain ⟨hr, hd⟩ := ordD_spec h3
      refine ⟨h1, h2, fun _ _ => trivial, fun l' hp hs => ?_⟩
      have e := sorted_uniq (α := SPt.den) (fun x : List Int × Int => x.1) (hp.trans hr.symm) hs hd
      rw [e]
      exact hk)
theorem sortSt_ok : FnIp Tryd.prog 21 (sortStSp 34) := sortSt_of cmpSt_ok rfl fun _ _ _ h => h
theorem sortSt2_ok : FnIp Tryd.prog 21 (sortStSp 22) := sortSt_of cmpSt2_ok rfl fun _ _ _ h => h
theorem sortLi_ok : FnIp Tryd.prog 29 (sortLiSp 30) :=
  sort_coreN (t := LI) rfl (fun _ => True) (cf := fun x y : List Int => cmpL y x) cmpRv_ok rfl (fun x y K _ _ h => h) (cmpK_swo (fun x : List Int => x)) ⟨_, Tryd.func29, by decide, rfl⟩
    (AnyF.slices_SortFunc_none (ρ := liRen) { liLay with }) (sortCall_one (ρ := liRen) (t := LI) liLay rfl rfl cmpRv_ok) rfl
    (fun l fv K h => by
      obtain ⟨h1, h2, h3, hk⟩ := h
      obtain ⟨hr, hd⟩ := ordD_spec h3
      refine ⟨h1, h2, fun _ _ => trivial, fun l' hp hs => ?_⟩
      have e := sorted_uniq (α := LI.den) (fun x : List Int => x) (hp.trans hr.symm) hs hd
      rw [e]
      exact hk)

end Fer
