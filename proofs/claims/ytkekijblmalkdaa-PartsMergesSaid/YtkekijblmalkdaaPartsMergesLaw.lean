/-
  ferlaw.PartsMerges answers true, whatever it is handed: Merge, Split, Franklin are the document's. No condition.
-/
import Derived.Test.YtkekijblmalkdaaRows
import Derived.Test.YtkekijblmalkdaaMgE
import Derived.JoinedCond
namespace Go.Proofs.Ytkekijblmalkdaa.partsMergesLaw
open Go Go.Proofs Go.ChangeShapes Go.WideShapes Go.ChangeAt Go.RowKit

theorem own : ownKnob Try.prog.godebug = none := by kernel_rfl

set_option maxRecDepth 100000 in
theorem contract (H : Type) (enc : TypeId × Value → H) (W : World) (args : Array Value) (ds gs : List (DataW H)) (before : List MemPlace)
    (hval : ∀ (j : Nat) t v, Try.f5.params[j]? = some t → args[j]? = some v → Value.okWide Try.prog W .any 0 t v)
    (hW : DataW.Whole enc Try.prog Try.f5.params.toList Rows.partsMergesSpec.vars false W args.toList ds gs before) :
    Calls Try.prog 5 args W fun e W' => ∃ v, e = .returned v ∧ Rows.partsMergesSpec.post enc Try.prog Try.f5 false true false false W args v W' := by
  have hds : ds.length = 1 := by
    obtain ⟨p, q, hA, _⟩ := hW
    rw [Try.params5] at hA
    exact Fer.trodAll_len hA
  match ds, hds with
  | [d1], _ =>
  have e1 : Rows.partsMergesSpec.fn H [d1] = { results := [.lit (.bool true)], args := [d1] } := rfl
  have e2 : Rows.partsMergesSpec.vars = [] := rfl
  have e3 : Fer.tysOK Fer.tab Try.f5.params.toList Fer.pmSp.ps = true := by kernel_rfl
  have wp : ∀ tvs : List Fer.TV, Fer.RdAll tvs ([d1] : List (DataW H)) → Fer.pmSp.wp tvs fun outs => outs = [⟨.bool, true⟩] := fun _ _ => rfl
  have e4 : Try.f5.resultTypes = #[4] := rfl
  exact Fer.law_calls (s := Rows.partsMergesSpec) Fer.tab_ok Fer.pm_ok e3 e4 Try.underlying4 e2 e1 hval hW wp

set_option maxRecDepth 100000 in
theorem lifted (os : Os) (started : os.Started) (H : Type) (enc : TypeId × Value → H) :
    ReturnsInHanded {} Try.checked os 5 .any (Rows.partsMergesSpec.pre6 enc Try.prog Try.f5 Rows.partsMergesRow.domain false) (Rows.partsMergesSpec.post enc Try.prog Try.f5 false true false false) := by
  refine returnsInHanded_of_change (C := Try.checked) (s := Rows.partsMergesSpec) own started (by kernel_rfl) Try.func5
    (ChangeSpec.witness6 (enc := enc) (C := Try.checked) false ⟨#[], #[.slice Option.none 0 0], []⟩ 8 (by kernel_rfl) (by kernel_rfl) (by kernel_rfl) (by kernel_rfl)) ?_
  intro W base args ds gs before hval hW _ _
  exact contract H enc W args ds gs before hval hW

end Go.Proofs.Ytkekijblmalkdaa.partsMergesLaw
namespace Go.Proofs.Ytkekijblmalkdaa

theorem partsMerges_holds : Rows.PartsMergesSaid :=
  OpenClaim.holds_of_wide 5 Try.f5 rfl rfl rfl rfl rfl rfl rfl ⟨rfl, rfl, rfl, rfl, rfl⟩ rfl rfl rfl rfl rfl (by kernel_rfl) Try.func5 (by kernel_rfl)
    (of_decide_eq_true (by kernel_rfl)) (by unfold Func.isWrapper; first | (rw [if_pos (by decide +kernel)]; kernel_rfl) | (rw [if_neg (by decide +kernel)]; exact ⟨rfl, rfl⟩))
    (fun os started H enc _ => partsMergesLaw.lifted os started H enc)

end Go.Proofs.Ytkekijblmalkdaa
