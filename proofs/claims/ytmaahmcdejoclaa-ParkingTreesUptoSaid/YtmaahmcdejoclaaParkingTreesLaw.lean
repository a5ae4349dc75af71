/-
  ferlaw.ParkingTrees answers true, whatever it is handed of bulk at most 1048576: Code, Tree, Rooted, Unrooted are the document's. No other condition.
-/
import Derived.Test.YtmaahmcdejoclaaRows
import Derived.Test.YtmaahmcdejoclaaPkR
import Derived.Test.YtmaahmcdejoclaaBulk
import Derived.ProofKit
import Derived.OpenShut
import Derived.JoinedCond
namespace Go.Proofs.Ytmaahmcdejoclaa.parkingTreesLaw
open Go Go.Proofs Go.ChangeShapes Go.WideShapes Go.ChangeAt Go.RowKit

theorem own : ownKnob Try.prog.godebug = none := by kernel_rfl

set_option maxRecDepth 100000 in
theorem contract (H : Type) (enc : TypeId × Value → H) (W : World) (args : Array Value) (ds gs : List (DataW H)) (before : List MemPlace)
    (hval : ∀ (j : Nat) t v, Try.f3.params[j]? = some t → args[j]? = some v → Value.okWide Try.prog W .any 0 t v)
    (hW : DataW.Whole enc Try.prog Try.f3.params.toList Rows.parkingTreesSpec.vars false W args.toList ds gs before) (hk : Rows.uptoSmall H (ds ++ gs) = true) :
    Calls Try.prog 3 args W fun e W' => ∃ v, e = .returned v ∧ Rows.parkingTreesSpec.post enc Try.prog Try.f3 false true false false W args v W' := by
  have hds : ds.length = 3 := by
    obtain ⟨p, q, hA, _⟩ := hW
    rw [Try.params3] at hA
    exact Fer.trodAll_len hA
  have hgs : gs = [] := by
    obtain ⟨p, q, hA, hV, _⟩ := hW
    exact (trodVars_none hV).1
  match ds, hds with
  | [d1, d2, d3], _ =>
  have e1 : Rows.parkingTreesSpec.fn H [d1, d2, d3] = { results := [.lit (.bool true)], args := [d1, d2, d3] } := rfl
  have e2 : Rows.parkingTreesSpec.vars = [] := rfl
  have e3 : Fer.tysOK Fer.tab Try.f3.params.toList Fer.pktSp.ps = true := by kernel_rfl
  have hb : Rows.uptoBulkAll [d1, d2, d3] ≤ 1048576 := by
    have := Fer.bulk_of hk
    rw [hgs] at this
    exact this
  have wp : ∀ tvs : List Fer.TV, tvs.map (·.t) = Fer.pktSp.ps → Fer.RdAll tvs ([d1, d2, d3] : List (DataW H)) → Fer.pktSp.wp tvs fun outs => outs = [⟨.bool, true⟩] := fun tvs ht hR => by
    match tvs, ht, hR with
    | [⟨t, x⟩, ⟨u, y⟩, ⟨v, z⟩], ht, hR =>
      simp only [Fer.pktSp, List.map_cons, List.map_nil, List.cons.injEq, and_true] at ht
      obtain ⟨rfl, rfl, rfl⟩ := ht
      cases hR with
      | cons h1 hR =>
        cases hR with
        | cons h2 hR =>
          cases hR with
          | cons h3 _ =>
            have g1 : List.length x + 1 ≤ Rows.uptoBulk d1 := Fer.bulk_rowG h1
            have g2 : List.length y + 1 ≤ Rows.uptoBulk d2 := Fer.bulk_row h2
            have g3 : List.length z + 1 ≤ Rows.uptoBulk d3 := Fer.bulk_row h3
            simp only [Rows.uptoBulkAll] at hb
            refine ⟨?_, ?_, ?_, rfl⟩
            · show List.length x ≤ 1000000000000000000
              omega
            · show List.length y ≤ 1000000000000000000
              omega
            · show List.length z ≤ 1000000000000000000
              omega
    | [], ht, _ => simp [Fer.pktSp] at ht
    | [_], ht, _ => simp [Fer.pktSp] at ht
    | [_, _], ht, _ => simp [Fer.pktSp] at ht
    | _ :: _ :: _ :: _ :: _, ht, _ => simp [Fer.pktSp] at ht
  have e4 : Try.f3.resultTypes = #[4] := rfl
  exact Fer.law_calls2 (s := Rows.parkingTreesSpec) Fer.tab_ok Fer.pkt_ok e3 e4 Try.underlying4 e2 e1 hval hW wp

set_option maxRecDepth 100000 in
theorem lifted (os : Os) (started : os.Started) (H : Type) (enc : TypeId × Value → H) (F : Stop.Interp) :
    ReturnsInHanded {} Try.checked os 3 .any ((Rows.OpenSpec.upto Rows.parkingTreesSpec).pre6 enc Try.prog Try.f3 Rows.parkingTreesUptoRow.domain false) (((Rows.OpenSpec.upto Rows.parkingTreesSpec).at F).post enc Try.prog Try.f3 false true false false) := by
  refine returnsInHanded_of_cond (C := Try.checked) (s := Rows.OpenSpec.upto Rows.parkingTreesSpec) (k := Rows.uptoSmall) rfl own started (by kernel_rfl) Try.func3
    (OpenSpec.witness (enc := enc) (C := Try.checked) (s := Rows.OpenSpec.upto Rows.parkingTreesSpec) (k := Rows.uptoSmall) rfl false ⟨#[], #[.slice Option.none 0 0, .slice Option.none 0 0, .slice Option.none 0 0], []⟩ 8 (by kernel_rfl) (by kernel_rfl) (by kernel_rfl)
      (x := ([.nil, .nil, .nil], [], [])) (by kernel_rfl) rfl (by kernel_rfl)) ?_
  intro W base args ds gs before hval hW _ hk _
  exact contract H enc W args ds gs before hval hW hk

end Go.Proofs.Ytmaahmcdejoclaa.parkingTreesLaw
namespace Go.Proofs.Ytmaahmcdejoclaa

theorem parkingTrees_holds : Rows.ParkingTreesUptoSaid :=
  OpenClaim.holds_of_cond 3 Try.f3 rfl rfl rfl rfl rfl rfl rfl ⟨rfl, rfl, rfl, rfl, rfl⟩ rfl rfl rfl rfl rfl (by kernel_rfl) Try.func3 (by kernel_rfl)
    (of_decide_eq_true (by kernel_rfl)) (by unfold Func.isWrapper; first | (rw [if_pos (by decide +kernel)]; kernel_rfl) | (rw [if_neg (by decide +kernel)]; exact ⟨rfl, rfl⟩))
    (fun os started H enc _ F => parkingTreesLaw.lifted os started H enc F)

end Go.Proofs.Ytmaahmcdejoclaa
