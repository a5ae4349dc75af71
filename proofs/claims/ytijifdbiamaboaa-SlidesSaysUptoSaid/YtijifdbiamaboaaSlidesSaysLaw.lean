/-
  ferlaw.SlidesSays answers true, whatever it is handed of bulk at most 1048576: Check, Word, Slide, Rectify, RectifyBy are the document's. No other condition.
-/
import Derived.Test.YtijifdbiamaboaaRows
import Derived.Test.YtijifdbiamaboaaWalkSS
import Derived.Test.YtijifdbiamaboaaBulk
import Derived.ProofKit
import Derived.OpenShut
import Derived.JoinedCond
namespace Go.Proofs.Ytijifdbiamaboaa.slidesSaysLaw
open Go Go.Proofs Go.ChangeShapes Go.WideShapes Go.ChangeAt Go.RowKit

theorem own : ownKnob Try.prog.godebug = none := by kernel_rfl

theorem contract (H : Type) (enc : TypeId × Value → H) (W : World) (args : Array Value) (ds gs : List (DataW H)) (before : List MemPlace)
    (hval : ∀ (j : Nat) t v, Try.f4.params[j]? = some t → args[j]? = some v → Value.okWide Try.prog W .any 0 t v)
    (hW : DataW.Whole enc Try.prog Try.f4.params.toList Rows.slidesSaysSpec.vars false W args.toList ds gs before) (hk : Rows.uptoSmall H (ds ++ gs) = true) :
    Calls Try.prog 4 args W fun e W' => ∃ v, e = .returned v ∧ Rows.slidesSaysSpec.post enc Try.prog Try.f4 false true false false W args v W' := by
  have hds : ds.length = 3 := by
    obtain ⟨p, q, hA, _⟩ := hW
    rw [Try.params4] at hA
    exact Fer.trodAll_len hA
  have hgs : gs = [] := by
    obtain ⟨p, q, hA, hV, _⟩ := hW
    exact (trodVars_none hV).1
  match ds, hds with
  | [d1, d2, d3], _ =>
  have e1 : Rows.slidesSaysSpec.fn H [d1, d2, d3] = { results := [.lit (.bool true)], args := [d1, d2, d3] } := rfl
  have e2 : Rows.slidesSaysSpec.vars = [] := rfl
  have e3 : Fer.tysOK Fer.tab Try.f4.params.toList Fer.ssSp.ps = true := by kernel_rfl
  have hb : Rows.uptoBulkAll [d1, d2, d3] ≤ 1048576 := by
    have := Fer.bulk_of hk
    rw [hgs] at this
    exact this
  have wp : ∀ tvs : List Fer.TV, tvs.map (·.t) = Fer.ssSp.ps → Fer.RdAll tvs ([d1, d2, d3] : List (DataW H)) → Fer.ssSp.wp tvs fun outs => outs = [⟨.bool, true⟩] := fun tvs ht hR => by
    match tvs, ht, hR with
    | [⟨t, x⟩, ⟨u, y⟩, ⟨v, z⟩], ht, hR =>
      simp only [Fer.ssSp, List.map_cons, List.map_nil, List.cons.injEq, and_true] at ht
      obtain ⟨rfl, rfl, rfl⟩ := ht
      cases hR with
      | cons h1 hR =>
        cases hR with
        | cons _ hR =>
          cases hR with
          | cons h3 _ =>
            have hx := Fer.bulk_table h1
            have hz := Fer.bulk_table h3
            have h2 := Fer.bulk_one d2
            simp only [Rows.uptoBulkAll] at hb
            exact ⟨⟨Nat.le_trans (Nat.le_trans (Nat.le_add_right _ _) hx) (by omega), Nat.le_trans (Nat.le_trans (Nat.le_add_left _ _) hx) (by omega), Nat.le_trans (Nat.le_trans (Nat.le_add_right _ _) hz) (by omega), Nat.le_trans (Nat.le_trans (Nat.le_add_left _ _) hz) (by omega)⟩, rfl⟩
    | [], ht, _ => simp [Fer.ssSp] at ht
    | [_], ht, _ => simp [Fer.ssSp] at ht
    | [_, _], ht, _ => simp [Fer.ssSp] at ht
    | _ :: _ :: _ :: _ :: _, ht, _ => simp [Fer.ssSp] at ht
  have e4 : Try.f4.resultTypes = #[4] := rfl
  exact Fer.law_calls2 (s := Rows.slidesSaysSpec) Fer.tab_ok Fer.ss_ok e3 e4 Try.underlying4 e2 e1 hval hW wp

set_option maxRecDepth 100000 in
theorem lifted (os : Os) (started : os.Started) (H : Type) (enc : TypeId × Value → H) (F : Stop.Interp) :
    ReturnsInHanded {} Try.checked os 4 .any ((Rows.OpenSpec.upto Rows.slidesSaysSpec).pre6 enc Try.prog Try.f4 Rows.slidesSaysUptoRow.domain false) (((Rows.OpenSpec.upto Rows.slidesSaysSpec).at F).post enc Try.prog Try.f4 false true false false) := by
  refine returnsInHanded_of_cond (C := Try.checked) (s := Rows.OpenSpec.upto Rows.slidesSaysSpec) (k := Rows.uptoSmall) rfl own started (by kernel_rfl) Try.func4
    (OpenSpec.witness (enc := enc) (C := Try.checked) (s := Rows.OpenSpec.upto Rows.slidesSaysSpec) (k := Rows.uptoSmall) rfl false ⟨#[], #[.slice Option.none 0 0, .int .i64 0, .slice Option.none 0 0], []⟩ 8 (by kernel_rfl) (by kernel_rfl) (by kernel_rfl)
      (x := ([.nil, .lit (.int .i64 0), .nil], [], [])) (by kernel_rfl) rfl (by kernel_rfl)) ?_
  intro W base args ds gs before hval hW _ hk _
  exact contract H enc W args ds gs before hval hW hk

end Go.Proofs.Ytijifdbiamaboaa.slidesSaysLaw
namespace Go.Proofs.Ytijifdbiamaboaa

theorem slidesSays_holds : Rows.SlidesSaysUptoSaid :=
  OpenClaim.holds_of_cond 4 Try.f4 rfl rfl rfl rfl rfl rfl rfl ⟨rfl, rfl, rfl, rfl, rfl⟩ rfl rfl rfl rfl rfl (by kernel_rfl) Try.func4 (by kernel_rfl)
    (of_decide_eq_true (by kernel_rfl)) (by unfold Func.isWrapper; first | (rw [if_pos (by decide +kernel)]; kernel_rfl) | (rw [if_neg (by decide +kernel)]; exact ⟨rfl, rfl⟩))
    (fun os started H enc _ F => slidesSaysLaw.lifted os started H enc F)

end Go.Proofs.Ytijifdbiamaboaa
