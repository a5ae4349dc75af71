/-
  ferlaw.CubesPaths answers true, whatever it is handed: Paths, FromPaths, Turned, Mirrored, Rest are the document's. The row lists two package-level tables (the library's), which the card ties to the program's text; the walks never read them. No other condition.
-/
import Derived.Test.YtmaahmcdejoclaaDoorCards
import Derived.Test.YtmaahmcdejoclaaDoorTie
import Derived.Test.YtmaahmcdejoclaaDoorCbJ
import Derived.WalkKit
import Derived.ProofKit
import Derived.OpenShut
import Derived.JoinedCond
import Derived.Deep.DeepHandedRow
import Derived.Lib.LaidTab
import Derived.Lay
namespace Go.Proofs.YtmaahmcdejoclaaDoor.cubesPathsLaw
open Go Go.Proofs Go.ChangeShapes Go.WideShapes Go.ChangeAt Go.RowKit

theorem own : ownKnob Tryd.prog.godebug = none := by kernel_rfl

set_option maxRecDepth 100000 in
theorem contract (H : Type) (enc : TypeId × Value → H) (W : World) (args : Array Value) (ds gs : List (DataW H)) (before : List MemPlace)
    (hval : ∀ (j : Nat) t v, Tryd.f3.params[j]? = some t → args[j]? = some v → Value.okWide Tryd.prog W .any 0 t v)
    (hW : DataW.Whole enc Tryd.prog Tryd.f3.params.toList Rows.cubesPathsSpec.vars false W args.toList ds gs before) :
    Calls Tryd.prog 3 args W fun e W' => ∃ v, e = .returned v ∧ Rows.cubesPathsSpec.post enc Tryd.prog Tryd.f3 false true false false W args v W' := by
  have hds : ds.length = 3 := by
    obtain ⟨p, q, hA, _⟩ := hW
    rw [Tryd.params3] at hA
    exact Fer.trodAll_len hA
  match ds, hds with
  | [d1, d2, d3], _ =>
  have e1 : Rows.cubesPathsSpec.fn H [d1, d2, d3] = { results := [.lit (.bool true)], args := [d1, d2, d3] } := rfl
  have e2 : Rows.cubesPathsSpec.vars = [] := rfl
  have e3 : Fer.tysOK Fer.tab Tryd.f3.params.toList Fer.cpSp.ps = true := by kernel_rfl
  have wp : ∀ tvs : List Fer.TV, tvs.map (·.t) = Fer.cpSp.ps → Fer.RdAll tvs ([d1, d2, d3] : List (DataW H)) → Fer.cpSp.wp tvs fun outs => outs = [⟨.bool, true⟩] := fun tvs ht hR => by
    match tvs, ht, hR with
    | [⟨t, x⟩, ⟨t', y⟩, ⟨t'', u⟩], ht, hR =>
      simp only [Fer.cpSp, List.map_cons, List.map_nil, List.cons.injEq, and_true] at ht
      obtain ⟨h1, h2, h3⟩ := ht
      subst h1
      subst h2
      subst h3
      exact (rfl : ([⟨.bool, true⟩] : List Fer.TV) = [⟨.bool, true⟩])
    | [], ht, _ => simp [Fer.cpSp] at ht
    | [_], ht, _ => simp [Fer.cpSp] at ht
    | [_, _], ht, _ => simp [Fer.cpSp] at ht
    | _ :: _ :: _ :: _ :: _, ht, _ => simp [Fer.cpSp] at ht
  have e4 : Tryd.f3.resultTypes = #[4] := rfl
  exact Fer.law_calls2 (s := Rows.cubesPathsSpec) Fer.tab_ok Fer.cp_ok e3 e4 Tryd.underlying4 e2 e1 hval hW wp

theorem laid_met (os : Os) : laidMet Tryd.prog Rows.cubesPathsRow.laid ((World.laidAll Tryd.prog os Rows.cubesPathsRow.laid).forCall (fun _ _ => 0) ⟨#[], #[.slice Option.none 0 0, .int .i64 0, .slice Option.none 0 0], []⟩).memory :=
  laidMet_laidAll _ (by kernel_rfl) (by kernel_rfl)
theorem reads (os : Os) {H : Type} (enc : TypeId × Value → H) : ∃ places, DataW.whole enc Tryd.prog ((World.laidAll Tryd.prog os Rows.cubesPathsRow.laid).forCall (fun _ _ => 0) ⟨#[], #[.slice Option.none 0 0, .int .i64 0, .slice Option.none 0 0], []⟩).memory Tryd.f3.params.toList Rows.cubesPathsSpec.vars false #[Value.slice Option.none 0 0, .int .i64 0, .slice Option.none 0 0].toList 8 = some ([.nil, .lit (.int .i64 0), .nil], [], places) :=
  ⟨[], by kernel_rfl⟩

set_option maxRecDepth 100000 in
theorem lifted (os : Os) (started : os.Started) (H : Type) (enc : TypeId × Value → H) (F : Stop.Interp) :
    ReturnsInHanded {} Tryd.checked os 3 .any ((OpenSpec.ofChange Rows.cubesPathsSpec).preRow enc Tryd.prog Tryd.f3 Rows.cubesPathsRow.domain false Rows.cubesPathsRow.laid) (((OpenSpec.ofChange Rows.cubesPathsSpec).at F).post enc Tryd.prog Tryd.f3 false true false false) := by
  obtain ⟨places, hx⟩ := reads os enc
  refine returnsInHanded_of_row (C := Tryd.checked) (s := OpenSpec.ofChange Rows.cubesPathsSpec) own started (by kernel_rfl) Tryd.func3
    (witness_row_at (enc := enc) (C := Tryd.checked) false (World.laidAll Tryd.prog os Rows.cubesPathsRow.laid) #[.slice Option.none 0 0, .int .i64 0, .slice Option.none 0 0] (World.laidAll_os _ _ _) (by kernel_rfl) (by kernel_rfl) (by kernel_rfl)
      (OpenSpec.preRow_of_cond 8 hx (by kernel_rfl) (fun k hk => by cases hk) (by kernel_rfl) (laid_met os))) ?_
  intro W base args ds gs before hval hW _ hcond _ _ _ _
  exact contract H enc W args ds gs before (fun j t v h1 h2 => hval j t v h1 h2) hW

theorem said : Rows.CubesPathsSaid :=
  OpenClaim.holds_of_cond 3 Tryd.f3 rfl rfl rfl rfl rfl rfl rfl ⟨rfl, rfl, rfl, rfl, rfl⟩ rfl rfl rfl rfl rfl (by kernel_rfl) Tryd.func3 (by kernel_rfl)
    (of_decide_eq_true (by kernel_rfl)) (by unfold Func.isWrapper; first | (rw [if_pos (by decide +kernel)]; kernel_rfl) | (rw [if_neg (by decide +kernel)]; exact ⟨rfl, rfl⟩))
    (fun os started H enc _ F => by rw [OpenClaim.pre_eq_preRow]; exact lifted os started H enc F)

/-- No parameter wants a stand-in; the program's own looks are off: what the card asks. -/
theorem plain (f : FuncId) (fn : Func) (hf : Tryd.pinned.checked.prog.funcNamed "ferrers/ferlaw.CubesPaths" = some f) (hfn : Tryd.pinned.checked.prog.funcs[f]? = some fn) :
    false = Tryd.pinned.checked.prog.looks [] ∧ ∀ (j : Nat) t, fn.params[j]? = some t → Tryd.pinned.checked.prog.wantsStandIn t = false := by
  obtain rfl : f = 3 := Option.some.inj ((show Tryd.prog.funcNamed "ferrers/ferlaw.CubesPaths" = some 3 by kernel_rfl).symm.trans hf) |>.symm
  obtain rfl : fn = Tryd.f3 := (Option.some.inj (Tryd.func3.symm.trans hfn)).symm
  refine ⟨by kernel_rfl, fun j t ht => ?_⟩
  rw [Tryd.params3] at ht
  rcases (by simpa using Array.mem_of_getElem? ht : t = 22 ∨ t = 3 ∨ t = 23) with rfl | rfl | rfl
  · exact (show Tryd.prog.wantsStandIn 22 = false by kernel_rfl)
  · exact (show Tryd.prog.wantsStandIn 3 = false by kernel_rfl)
  · exact (show Tryd.prog.wantsStandIn 23 = false by kernel_rfl)

end Go.Proofs.YtmaahmcdejoclaaDoor.cubesPathsLaw
namespace Go.Proofs.YtmaahmcdejoclaaDoor

theorem cubesPaths_holds : Rows.CubesPathsCardSaid :=
  Claim7.holds_tied_plain_at .later [] _ _ _ _ cubesPathsLaw.said (fun _ h => by cases h) (by kernel_rfl) (fun _ h => by cases h) cubesPaths_row_tie rfl ⟨rfl, rfl⟩ (by kernel_rfl) rfl cubesPathsLaw.plain (by kernel_rfl)

end Go.Proofs.YtmaahmcdejoclaaDoor
