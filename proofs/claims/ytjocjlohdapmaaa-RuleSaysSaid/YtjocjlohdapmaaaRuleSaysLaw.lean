/-
  ferlaw.RuleSays answers true, whatever three lists it is handed: Number, Fillings are the document's. No condition.
-/
import Derived.Test.YtjocjlohdapmaaaRows
import Derived.Test.YtjocjlohdapmaaaRuJ
import Derived.JoinedCond
namespace Go.Proofs.Ytjocjlohdapmaaa.ruleSaysLaw
open Go Go.Proofs Go.ChangeShapes Go.WideShapes Go.ChangeAt Go.RowKit

theorem own : ownKnob Try.prog.godebug = none := by kernel_rfl

set_option maxRecDepth 100000 in
theorem contract (H : Type) (enc : TypeId × Value → H) (W : World) (args : Array Value) (ds gs : List (DataW H)) (before : List MemPlace)
    (hval : ∀ (j : Nat) t v, Try.f3.params[j]? = some t → args[j]? = some v → Value.okWide Try.prog W .any 0 t v)
    (hW : DataW.Whole enc Try.prog Try.f3.params.toList Rows.ruleSaysSpec.vars false W args.toList ds gs before) :
    Calls Try.prog 3 args W fun e W' => ∃ v, e = .returned v ∧ Rows.ruleSaysSpec.post enc Try.prog Try.f3 false true false false W args v W' := by
  have hds : ds.length = 3 := by
    obtain ⟨p, q, hA, _⟩ := hW
    rw [Try.params3] at hA
    exact Fer.trodAll_len hA
  match ds, hds with
  | [d1, d2, d3], _ =>
  have e1 : Rows.ruleSaysSpec.fn H [d1, d2, d3] = { results := [.lit (.bool true)], args := [d1, d2, d3] } := rfl
  have e2 : Rows.ruleSaysSpec.vars = [] := rfl
  have e3 : Fer.tysOK Fer.tab Try.f3.params.toList Fer.rusSp.ps = true := by kernel_rfl
  have wp : ∀ tvs : List Fer.TV, tvs.map (·.t) = Fer.rusSp.ps → Fer.RdAll tvs ([d1, d2, d3] : List (DataW H)) → Fer.rusSp.wp tvs fun outs => outs = [⟨.bool, true⟩] := fun tvs ht hR => by
    match tvs, ht, hR with
    | [⟨t, x⟩, ⟨t', y⟩, ⟨t'', u⟩], ht, hR =>
      simp only [Fer.rusSp, List.map_cons, List.map_nil, List.cons.injEq, and_true] at ht
      obtain ⟨h1, h2, h3⟩ := ht
      subst h1
      subst h2
      subst h3
      exact (rfl : ([⟨.bool, true⟩] : List Fer.TV) = [⟨.bool, true⟩])
    | [], ht, _ => simp [Fer.rusSp] at ht
    | [_], ht, _ => simp [Fer.rusSp] at ht
    | [_, _], ht, _ => simp [Fer.rusSp] at ht
    | _ :: _ :: _ :: _ :: _, ht, _ => simp [Fer.rusSp] at ht
  have e4 : Try.f3.resultTypes = #[4] := rfl
  exact Fer.law_calls2 (s := Rows.ruleSaysSpec) Fer.tab_ok Fer.rus_ok e3 e4 Try.underlying4 e2 e1 hval hW wp

set_option maxRecDepth 100000 in
theorem lifted (os : Os) (started : os.Started) (H : Type) (enc : TypeId × Value → H) :
    ReturnsInHanded {} Try.checked os 3 .any (Rows.ruleSaysSpec.pre6 enc Try.prog Try.f3 Rows.ruleSaysRow.domain false) (Rows.ruleSaysSpec.post enc Try.prog Try.f3 false true false false) := by
  refine returnsInHanded_of_change (C := Try.checked) (s := Rows.ruleSaysSpec) own started (by kernel_rfl) Try.func3
    (ChangeSpec.witness6 (enc := enc) (C := Try.checked) false ⟨#[], #[.slice Option.none 0 0, .slice Option.none 0 0, .slice Option.none 0 0], []⟩ 8 (by kernel_rfl) (by kernel_rfl) (by kernel_rfl) (by kernel_rfl)) ?_
  intro W base args ds gs before hval hW _ _
  exact contract H enc W args ds gs before hval hW

end Go.Proofs.Ytjocjlohdapmaaa.ruleSaysLaw
namespace Go.Proofs.Ytjocjlohdapmaaa

theorem ruleSays_holds : Rows.RuleSaysSaid :=
  OpenClaim.holds_of_wide 3 Try.f3 rfl rfl rfl rfl rfl rfl rfl ⟨rfl, rfl, rfl, rfl, rfl⟩ rfl rfl rfl rfl rfl (by kernel_rfl) Try.func3 (by kernel_rfl)
    (of_decide_eq_true (by kernel_rfl)) (by unfold Func.isWrapper; first | (rw [if_pos (by decide +kernel)]; kernel_rfl) | (rw [if_neg (by decide +kernel)]; exact ⟨rfl, rfl⟩))
    (fun os started H enc _ => ruleSaysLaw.lifted os started H enc)

end Go.Proofs.Ytjocjlohdapmaaa
