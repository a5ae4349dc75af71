/-
  ferlaw.SignsLinks answers true, whatever it is handed: Links, Gyrate are the document's. No condition.
-/
import Derived.Test.YtjocjlohdapmaaaRows
import Derived.Test.YtjocjlohdapmaaaSgI
import Derived.JoinedCond
namespace Go.Proofs.Ytjocjlohdapmaaa.signsLinksLaw
open Go Go.Proofs Go.ChangeShapes Go.WideShapes Go.ChangeAt Go.RowKit

theorem own : ownKnob Try.prog.godebug = none := by kernel_rfl

set_option maxRecDepth 100000 in
theorem contract (H : Type) (enc : TypeId × Value → H) (W : World) (args : Array Value) (ds gs : List (DataW H)) (before : List MemPlace)
    (hval : ∀ (j : Nat) t v, Try.f4.params[j]? = some t → args[j]? = some v → Value.okWide Try.prog W .any 0 t v)
    (hW : DataW.Whole enc Try.prog Try.f4.params.toList Rows.signsLinksSpec.vars false W args.toList ds gs before) :
    Calls Try.prog 4 args W fun e W' => ∃ v, e = .returned v ∧ Rows.signsLinksSpec.post enc Try.prog Try.f4 false true false false W args v W' := by
  have hds : ds.length = 1 := by
    obtain ⟨p, q, hA, _⟩ := hW
    rw [Try.params4] at hA
    exact Fer.trodAll_len hA
  match ds, hds with
  | [d1], _ =>
  have e1 : Rows.signsLinksSpec.fn H [d1] = { results := [.lit (.bool true)], args := [d1] } := rfl
  have e2 : Rows.signsLinksSpec.vars = [] := rfl
  have e3 : Fer.tysOK Fer.tab Try.f4.params.toList Fer.slSp.ps = true := by kernel_rfl
  have wp : ∀ tvs : List Fer.TV, Fer.RdAll tvs ([d1] : List (DataW H)) → Fer.slSp.wp tvs fun outs => outs = [⟨.bool, true⟩] := fun _ _ => rfl
  have e4 : Try.f4.resultTypes = #[4] := rfl
  exact Fer.law_calls (s := Rows.signsLinksSpec) Fer.tab_ok Fer.sl_ok e3 e4 Try.underlying4 e2 e1 hval hW wp

set_option maxRecDepth 100000 in
theorem lifted (os : Os) (started : os.Started) (H : Type) (enc : TypeId × Value → H) :
    ReturnsInHanded {} Try.checked os 4 .any (Rows.signsLinksSpec.pre6 enc Try.prog Try.f4 Rows.signsLinksRow.domain false) (Rows.signsLinksSpec.post enc Try.prog Try.f4 false true false false) := by
  refine returnsInHanded_of_change (C := Try.checked) (s := Rows.signsLinksSpec) own started (by kernel_rfl) Try.func4
    (ChangeSpec.witness6 (enc := enc) (C := Try.checked) false ⟨#[], #[.slice Option.none 0 0], []⟩ 8 (by kernel_rfl) (by kernel_rfl) (by kernel_rfl) (by kernel_rfl)) ?_
  intro W base args ds gs before hval hW _ _
  exact contract H enc W args ds gs before hval hW

end Go.Proofs.Ytjocjlohdapmaaa.signsLinksLaw
namespace Go.Proofs.Ytjocjlohdapmaaa

theorem signsLinks_holds : Rows.SignsLinksSaid :=
  OpenClaim.holds_of_wide 4 Try.f4 rfl rfl rfl rfl rfl rfl rfl ⟨rfl, rfl, rfl, rfl, rfl⟩ rfl rfl rfl rfl rfl (by kernel_rfl) Try.func4 (by kernel_rfl)
    (of_decide_eq_true (by kernel_rfl)) (by unfold Func.isWrapper; first | (rw [if_pos (by decide +kernel)]; kernel_rfl) | (rw [if_neg (by decide +kernel)]; exact ⟨rfl, rfl⟩))
    (fun os started H enc _ => signsLinksLaw.lifted os started H enc)

end Go.Proofs.Ytjocjlohdapmaaa
