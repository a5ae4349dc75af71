/-
  ferlaw.PathsFamilies answers true, whatever it is handed of bulk at most 1048576: Apart and First are the document's. No other condition.
-/
import Derived.Test.YtmaahmcdejoclaaRows
import Derived.Test.YtmaahmcdejoclaaPtL
import Derived.Test.YtmaahmcdejoclaaFerS
import Derived.Test.YtmaahmcdejoclaaBulk
import Derived.ProofKit
import Derived.OpenShut
import Derived.JoinedCond
namespace Go.Proofs.Ytmaahmcdejoclaa.pathsFamiliesLaw
open Go Go.Proofs Go.ChangeShapes Go.WideShapes Go.ChangeAt Go.RowKit

theorem own : ownKnob Try.prog.godebug = none := by kernel_rfl

theorem bulk_two {H : Type} : ∀ (els : List (DataW H)), (∀ d ∈ els, 2 ≤ Rows.uptoBulk d) → 2 * els.length ≤ Rows.uptoBulkAll els
  | [], _ => by simp
  | x :: els, h => by
    have ih := bulk_two els fun d hd => h d (List.mem_cons_of_mem _ hd)
    have h0 := h x List.mem_cons_self
    simp only [Rows.uptoBulkAll, List.length_cons]
    omega
theorem bulk_pts {H : Type} {e : Nat} {l : List Fer.PTt.den} {d : DataW H} (h : Fer.Rd (.list e Fer.PTt) l d) : 2 * l.length ≤ Rows.uptoBulk d := by
  rcases h with ⟨rfl, rfl⟩ | ⟨els, sp, rfl, hl, hr⟩
  · simp
  · have := bulk_two els fun d hd => by
      obtain ⟨i, hi⟩ := List.getElem?_of_mem hd
      obtain ⟨d1, d2, rfl, _, _⟩ := hr i d hi
      have := Fer.bulk_one d1
      simp only [Rows.uptoBulk, Rows.uptoBulkAll]
      omega
    have hl2 : els.length = List.length l := hl
    simp only [Rows.uptoBulk]
    omega

set_option maxRecDepth 100000 in
theorem contract (H : Type) (enc : TypeId × Value → H) (W : World) (args : Array Value) (ds gs : List (DataW H)) (before : List MemPlace)
    (hval : ∀ (j : Nat) t v, Try.f5.params[j]? = some t → args[j]? = some v → Value.okWide Try.prog W .any 0 t v)
    (hW : DataW.Whole enc Try.prog Try.f5.params.toList Rows.pathsFamiliesSpec.vars false W args.toList ds gs before) (hk : Rows.uptoSmall H (ds ++ gs) = true) :
    Calls Try.prog 5 args W fun e W' => ∃ v, e = .returned v ∧ Rows.pathsFamiliesSpec.post enc Try.prog Try.f5 false true false false W args v W' := by
  have hds : ds.length = 4 := by
    obtain ⟨p, q, hA, _⟩ := hW
    rw [Try.params5] at hA
    exact Fer.trodAll_len hA
  have hgs : gs = [] := by
    obtain ⟨p, q, hA, hV, _⟩ := hW
    exact (trodVars_none hV).1
  match ds, hds with
  | [d1, d2, d3, d4], _ =>
  have e1 : Rows.pathsFamiliesSpec.fn H [d1, d2, d3, d4] = { results := [.lit (.bool true)], args := [d1, d2, d3, d4] } := rfl
  have e2 : Rows.pathsFamiliesSpec.vars = [] := rfl
  have e3 : Fer.gridT Try.prog Fer.tab 50 89 Fer.PTt = true := by kernel_rfl
  have e5 : Fer.tysOK Fer.tab [48, 48, 23] [Fer.LPT, Fer.LPT, Fer.LI] = true := by kernel_rfl
  have e6 : Try.f5.params.toList = [50, 48, 48, 23] := by kernel_rfl
  have hb : Rows.uptoBulkAll [d1, d2, d3, d4] ≤ 1048576 := by
    have := Fer.bulk_of hk
    rw [hgs] at this
    exact this
  have wp : ∀ (x : (Fer.GridT 89 Fer.PTt).den) (tvs : List Fer.TV) (d : DataW H) (ds' : List (DataW H)), ([d1, d2, d3, d4] : List (DataW H)) = d :: ds' → tvs.map (·.t) = [Fer.LPT, Fer.LPT, Fer.LI] → Fer.RdG 89 Fer.PTt x d → Fer.RdAll tvs ds' →
      Fer.pfSp.wp (⟨Fer.GridT 89 Fer.PTt, x⟩ :: tvs) fun outs => outs = [⟨.bool, true⟩] := fun x tvs d ds' he ht _ hR => by
    simp only [List.cons.injEq] at he
    obtain ⟨rfl, rfl⟩ := he
    match tvs, ht, hR with
    | [⟨t, y⟩, ⟨u, z⟩, ⟨v, q⟩], ht, hR =>
      simp only [List.map_cons, List.map_nil, List.cons.injEq, and_true] at ht
      obtain ⟨rfl, rfl, rfl⟩ := ht
      cases hR with
      | cons h1 hR =>
        cases hR with
        | cons h2 hR =>
          have g1 : 2 * List.length y ≤ Rows.uptoBulk d2 := bulk_pts h1
          have g2 : 2 * List.length z ≤ Rows.uptoBulk d3 := bulk_pts h2
          have g3 := Fer.bulk_one d1
          simp only [Rows.uptoBulkAll] at hb
          refine ⟨?_, rfl⟩
          show ([y, z] : List (List Fer.Pt)).flatten.length ≤ 1000000
          simp only [List.flatten_cons, List.flatten_nil, List.append_nil, List.length_append]
          have g1 : 2 * List.length (α := Fer.Pt) y ≤ Rows.uptoBulk d2 := g1
          have g2 : 2 * List.length (α := Fer.Pt) z ≤ Rows.uptoBulk d3 := g2
          omega
    | [], ht, _ => simp at ht
    | [_], ht, _ => simp at ht
    | [_, _], ht, _ => simp at ht
    | _ :: _ :: _ :: _ :: _, ht, _ => simp at ht
  have e4 : Try.f5.resultTypes = #[4] := rfl
  exact Fer.law_callsG (s := Rows.pathsFamiliesSpec) Fer.tab_ok Fer.pf_ok rfl e6 e3 e5 e4 Try.underlying4 e2 e1 hval hW wp

set_option maxRecDepth 100000 in
theorem lifted (os : Os) (started : os.Started) (H : Type) (enc : TypeId × Value → H) (F : Stop.Interp) :
    ReturnsInHanded {} Try.checked os 5 .any ((Rows.OpenSpec.upto Rows.pathsFamiliesSpec).pre6 enc Try.prog Try.f5 Rows.pathsFamiliesUptoRow.domain false) (((Rows.OpenSpec.upto Rows.pathsFamiliesSpec).at F).post enc Try.prog Try.f5 false true false false) := by
  refine returnsInHanded_of_cond (C := Try.checked) (s := Rows.OpenSpec.upto Rows.pathsFamiliesSpec) (k := Rows.uptoSmall) rfl own started (by kernel_rfl) Try.func5
    (OpenSpec.witness (enc := enc) (C := Try.checked) (s := Rows.OpenSpec.upto Rows.pathsFamiliesSpec) (k := Rows.uptoSmall) rfl false ⟨#[], #[.agg #[.int .i64 0, .int .i64 0, .slice Option.none 0 0], .slice Option.none 0 0, .slice Option.none 0 0, .slice Option.none 0 0], []⟩ 8 (by kernel_rfl) (by kernel_rfl) (by kernel_rfl)
      (x := ([.agg [.lit (.int .i64 0), .lit (.int .i64 0), .nil], .nil, .nil, .nil], [], [])) (by kernel_rfl) rfl (by kernel_rfl)) ?_
  intro W base args ds gs before hval hW _ hk _
  exact contract H enc W args ds gs before hval hW hk

end Go.Proofs.Ytmaahmcdejoclaa.pathsFamiliesLaw
namespace Go.Proofs.Ytmaahmcdejoclaa

theorem pathsFamilies_holds : Rows.PathsFamiliesUptoSaid :=
  OpenClaim.holds_of_cond 5 Try.f5 rfl rfl rfl rfl rfl rfl rfl ⟨rfl, rfl, rfl, rfl, rfl⟩ rfl rfl rfl rfl rfl (by kernel_rfl) Try.func5 (by kernel_rfl)
    (of_decide_eq_true (by kernel_rfl)) (by unfold Func.isWrapper; first | (rw [if_pos (by decide +kernel)]; kernel_rfl) | (rw [if_neg (by decide +kernel)]; exact ⟨rfl, rfl⟩))
    (fun os started H enc _ F => pathsFamiliesLaw.lifted os started H enc F)

end Go.Proofs.Ytmaahmcdejoclaa
