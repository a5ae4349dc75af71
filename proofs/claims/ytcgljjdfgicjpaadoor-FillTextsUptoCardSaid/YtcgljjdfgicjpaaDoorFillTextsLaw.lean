/-
  ferlaw.FillTexts answers true, whatever it is handed of bulk at most 1048576: Write, Read are the document's. The row lists three package-level tables (the library's), which the card ties to the program's text; the walks never read them. No other condition.
-/
import Derived.Test.YtcgljjdfgicjpaaDoorCards
import Derived.Test.YtcgljjdfgicjpaaDoorTie
import Derived.Test.YtcgljjdfgicjpaaDoorTxE
import Derived.Test.YtcgljjdfgicjpaaDoorBulk
import Derived.WalkKit
import Derived.ProofKit
import Derived.OpenShut
import Derived.JoinedCond
import Derived.Deep.DeepHandedRow
import Derived.Lib.LaidTab
import Derived.Lay
namespace Go.Proofs.YtcgljjdfgicjpaaDoor.fillTextsLaw
open Go Go.Proofs Go.ChangeShapes Go.WideShapes Go.ChangeAt Go.RowKit

theorem own : ownKnob Tryd.prog.godebug = none := by kernel_rfl

theorem bulk_str {H : Type} {s : ByteArray} {d : DataW H} (h : Fer.Rd .str s d) : s.size ≤ Rows.uptoBulk d := by
  obtain ⟨rfl, _⟩ := h
  simp only [Rows.uptoBulk, Array.length_toList]
  exact Nat.le_succ _

set_option maxRecDepth 100000 in
theorem contract (H : Type) (enc : TypeId × Value → H) (W : World) (args : Array Value) (ds gs : List (DataW H)) (before : List MemPlace)
    (hval : ∀ (j : Nat) t v, Tryd.f3.params[j]? = some t → args[j]? = some v → Value.okWide Tryd.prog W .any 0 t v)
    (hW : DataW.Whole enc Tryd.prog Tryd.f3.params.toList Rows.fillTextsSpec.vars false W args.toList ds gs before) (hk : Rows.uptoSmall H (ds ++ gs) = true) :
    Calls Tryd.prog 3 args W fun e W' => ∃ v, e = .returned v ∧ Rows.fillTextsSpec.post enc Tryd.prog Tryd.f3 false true false false W args v W' := by
  have hds : ds.length = 2 := by
    obtain ⟨p, q, hA, _⟩ := hW
    rw [Tryd.params3] at hA
    exact Fer.trodAll_len hA
  have hgs : gs = [] := by
    obtain ⟨p, q, hA, hV, _⟩ := hW
    exact (trodVars_none hV).1
  match ds, hds with
  | [d1, d2], _ =>
  have e1 : Rows.fillTextsSpec.fn H [d1, d2] = { results := [.lit (.bool true)], args := [d1, d2] } := rfl
  have e2 : Rows.fillTextsSpec.vars = [] := rfl
  have e3 : Fer.tysOK Fer.tab Tryd.f3.params.toList Fer.ftxSp.ps = true := by kernel_rfl
  have hb : Rows.uptoBulkAll [d1, d2] ≤ 1048576 := by
    have := Fer.bulk_of hk
    rw [hgs] at this
    exact this
  have wp : ∀ tvs : List Fer.TV, tvs.map (·.t) = Fer.ftxSp.ps → Fer.RdAll tvs ([d1, d2] : List (DataW H)) → Fer.ftxSp.wp tvs fun outs => outs = [⟨.bool, true⟩] := fun tvs ht hR => by
    match tvs, ht, hR with
    | [⟨t, x⟩, ⟨t', y⟩], ht, hR =>
      simp only [Fer.ftxSp, List.map_cons, List.map_nil, List.cons.injEq, and_true] at ht
      obtain ⟨h1, h2⟩ := ht
      subst h1
      subst h2
      cases hR with
      | cons h1 hR =>
        cases hR with
        | cons h2 _ =>
          have hx := Fer.bulk_table h1
          have hy := bulk_str h2
          simp only [Rows.uptoBulkAll] at hb
          exact ⟨Nat.le_trans (Nat.le_trans (Nat.le_add_right _ _) hx) (by omega), Nat.le_trans (Nat.le_trans (Nat.le_add_left _ _) hx) (by omega), Nat.le_trans hy (by omega), rfl⟩
    | [], ht, _ => simp [Fer.ftxSp] at ht
    | [_], ht, _ => simp [Fer.ftxSp] at ht
    | _ :: _ :: _ :: _, ht, _ => simp [Fer.ftxSp] at ht
  have e4 : Tryd.f3.resultTypes = #[4] := rfl
  exact Fer.law_calls2 (s := Rows.fillTextsSpec) Fer.tab_ok Fer.ftx_ok e3 e4 Tryd.underlying4 e2 e1 hval hW wp

theorem laid_met (os : Os) : laidMet Tryd.prog Rows.fillTextsUptoRow.laid ((World.laidAll Tryd.prog os Rows.fillTextsUptoRow.laid).forCall (fun _ _ => 0) ⟨#[], #[.slice Option.none 0 0, .string ⟨#[]⟩], []⟩).memory :=
  laidMet_laidAll _ (by kernel_rfl) (by kernel_rfl)
theorem reads (os : Os) {H : Type} (enc : TypeId × Value → H) : ∃ places, DataW.whole enc Tryd.prog ((World.laidAll Tryd.prog os Rows.fillTextsUptoRow.laid).forCall (fun _ _ => 0) ⟨#[], #[.slice Option.none 0 0, .string ⟨#[]⟩], []⟩).memory Tryd.f3.params.toList Rows.fillTextsSpec.vars false #[Value.slice Option.none 0 0, .string ⟨#[]⟩].toList 8 = some ([.nil, .lit (.string [])], [], places) :=
  ⟨[], by kernel_rfl⟩

set_option maxRecDepth 100000 in
theorem lifted (os : Os) (started : os.Started) (H : Type) (enc : TypeId × Value → H) (F : Stop.Interp) :
    ReturnsInHanded {} Tryd.checked os 3 .any ((Rows.OpenSpec.upto Rows.fillTextsSpec).preRow enc Tryd.prog Tryd.f3 Rows.fillTextsUptoRow.domain false Rows.fillTextsUptoRow.laid) (((Rows.OpenSpec.upto Rows.fillTextsSpec).at F).post enc Tryd.prog Tryd.f3 false true false false) := by
  obtain ⟨places, hx⟩ := reads os enc
  refine returnsInHanded_of_row (C := Tryd.checked) (s := Rows.OpenSpec.upto Rows.fillTextsSpec) own started (by kernel_rfl) Tryd.func3
    (witness_row_at (enc := enc) (C := Tryd.checked) false (World.laidAll Tryd.prog os Rows.fillTextsUptoRow.laid) #[.slice Option.none 0 0, .string ⟨#[]⟩] (World.laidAll_os _ _ _) (by kernel_rfl) (by kernel_rfl) (by kernel_rfl)
      (OpenSpec.preRow_of_cond 8 hx (by kernel_rfl) (fun k hk => by cases hk; kernel_rfl) (by kernel_rfl) (laid_met os))) ?_
  intro W base args ds gs before hval hW _ hcond _ _ _ _
  exact contract H enc W args ds gs before (fun j t v h1 h2 => hval j t v h1 h2) hW (hcond _ rfl)

theorem saidUpto : Rows.FillTextsUptoSaid :=
  OpenClaim.holds_of_cond 3 Tryd.f3 rfl rfl rfl rfl rfl rfl rfl ⟨rfl, rfl, rfl, rfl, rfl⟩ rfl rfl rfl rfl rfl (by kernel_rfl) Tryd.func3 (by kernel_rfl)
    (of_decide_eq_true (by kernel_rfl)) (by unfold Func.isWrapper; first | (rw [if_pos (by decide +kernel)]; kernel_rfl) | (rw [if_neg (by decide +kernel)]; exact ⟨rfl, rfl⟩))
    (fun os started H enc _ F => by rw [OpenClaim.pre_eq_preRow]; exact lifted os started H enc F)

/-- No parameter wants a stand-in; the program's own looks are off: what the card asks. -/
theorem plain (f : FuncId) (fn : Func) (hf : Tryd.pinned.checked.prog.funcNamed "ferrers/ferlaw.FillTexts" = some f) (hfn : Tryd.pinned.checked.prog.funcs[f]? = some fn) :
    false = Tryd.pinned.checked.prog.looks [] ∧ ∀ (j : Nat) t, fn.params[j]? = some t → Tryd.pinned.checked.prog.wantsStandIn t = false := by
  obtain rfl : f = 3 := Option.some.inj ((show Tryd.prog.funcNamed "ferrers/ferlaw.FillTexts" = some 3 by kernel_rfl).symm.trans hf) |>.symm
  obtain rfl : fn = Tryd.f3 := (Option.some.inj (Tryd.func3.symm.trans hfn)).symm
  refine ⟨by kernel_rfl, fun j t ht => ?_⟩
  rw [Tryd.params3] at ht
  rcases (by simpa using Array.mem_of_getElem? ht : t = 22 ∨ t = 9) with rfl | rfl
  · exact (show Tryd.prog.wantsStandIn 22 = false by kernel_rfl)
  · exact (show Tryd.prog.wantsStandIn 9 = false by kernel_rfl)

end Go.Proofs.YtcgljjdfgicjpaaDoor.fillTextsLaw
namespace Go.Proofs.YtcgljjdfgicjpaaDoor

theorem fillTexts_holds : Rows.FillTextsUptoCardSaid :=
  Claim7.holds_tied_plain_at .later [] _ _ _ _ fillTextsLaw.saidUpto (fun _ h => by cases h) (by kernel_rfl) (fun _ h => by cases h) fillTextsUpto_row_tie rfl ⟨rfl, rfl⟩ (by kernel_rfl) rfl fillTextsLaw.plain (by kernel_rfl)

end Go.Proofs.YtcgljjdfgicjpaaDoor
