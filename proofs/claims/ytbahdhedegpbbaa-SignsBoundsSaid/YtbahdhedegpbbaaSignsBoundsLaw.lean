/-
  ferlaw.SignsBounds answers true, whatever it is handed: Below, Meet, Join are the document's. No condition.
-/
import Derived.Test.YtbahdhedegpbbaaRows
import Derived.Test.YtbahdhedegpbbaaWalkSB
import Derived.JoinedCond
namespace Go.Proofs.Ytbahdhedegpbbaa.signsBoundsLaw
open Go Go.Proofs Go.ChangeShapes Go.WideShapes Go.ChangeAt Go.RowKit

theorem own : ownKnob Try.prog.godebug = none := by kernel_rfl

theorem contract (H : Type) (enc : TypeId × Value → H) (W : World) (args : Array Value) (ds gs : List (DataW H)) (before : List MemPlace)
    (hval : ∀ (j : Nat) t v, Try.f3.params[j]? = some t → args[j]? = some v → Value.okWide Try.prog W .any 0 t v)
    (hW : DataW.Whole enc Try.prog Try.f3.params.toList Rows.signsBoundsSpec.vars false W args.toList ds gs before) :
    Calls Try.prog 3 args W fun e W' => ∃ v, e = .returned v ∧ Rows.signsBoundsSpec.post enc Try.prog Try.f3 false true false false W args v W' := by
  have hds : ds.length = 2 := by
    obtain ⟨p, q, hA, _⟩ := hW
    rw [Try.params3] at hA
    exact Fer.trodAll_len hA
  match ds, hds with
  | [d1, d2], _ =>
  have e1 : Rows.signsBoundsSpec.fn H [d1, d2] = { results := [.lit (.bool true)], args := [d1, d2] } := rfl
  have e2 : Rows.signsBoundsSpec.vars = [] := rfl
  have e3 : Fer.tysOK Fer.tab Try.f3.params.toList Fer.sbSp.ps = true := by kernel_rfl
  have wp : ∀ tvs : List Fer.TV, Fer.RdAll tvs ([d1, d2] : List (DataW H)) → Fer.sbSp.wp tvs fun outs => outs = [⟨.bool, true⟩] := fun _ _ => rfl
  have e4 : Try.f3.resultTypes = #[4] := rfl
  exact Fer.law_calls (s := Rows.signsBoundsSpec) Fer.tab_ok Fer.sb_ok e3 e4 Try.underlying4 e2 e1 hval hW wp

set_option maxRecDepth 100000 in
theorem lifted (os : Os) (started : os.Started) (H : Type) (enc : TypeId × Value → H) :
    ReturnsInHanded {} Try.checked os 3 .any (Rows.signsBoundsSpec.pre6 enc Try.prog Try.f3 Rows.signsBoundsRow.domain false) (Rows.signsBoundsSpec.post enc Try.prog Try.f3 false true false false) := by
  refine returnsInHanded_of_change (C := Try.checked) (s := Rows.signsBoundsSpec) own started (by kernel_rfl) Try.func3
    (ChangeSpec.witness6 (enc := enc) (C := Try.checked) false ⟨#[], #[.slice Option.none 0 0, .slice Option.none 0 0], []⟩ 8 (by kernel_rfl) (by kernel_rfl) (by kernel_rfl) (by kernel_rfl)) ?_
  intro W base args ds gs before hval hW _ _
  exact contract H enc W args ds gs before hval hW

end Go.Proofs.Ytbahdhedegpbbaa.signsBoundsLaw
namespace Go.Proofs.Ytbahdhedegpbbaa

theorem signsBounds_holds : Rows.SignsBoundsSaid :=
  OpenClaim.holds_of_wide 3 Try.f3 rfl rfl rfl rfl rfl rfl rfl ⟨rfl, rfl, rfl, rfl, rfl⟩ rfl rfl rfl rfl rfl (by kernel_rfl) Try.func3 (by kernel_rfl)
    (of_decide_eq_true (by kernel_rfl)) (by unfold Func.isWrapper; first | (rw [if_pos (by decide +kernel)]; kernel_rfl) | (rw [if_neg (by decide +kernel)]; exact ⟨rfl, rfl⟩))
    (fun os started H enc _ => signsBoundsLaw.lifted os started H enc)

end Go.Proofs.Ytbahdhedegpbbaa
