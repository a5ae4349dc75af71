/-
  No cell of these rows narrows 'for every input' (looked for: loops, veiled, ifaces, maps, wideKeys, modest, calm, conditions, laid).
  DERIVED. THE GIVEN ROWS OF THIS SEAT. 4 by the template 'for every input the law returns true; each argument reads behind the call as it read before'; 0 by the template 'total and deterministic' (their statements: YtkekijblmalkdaaTotals.lean).
  GIVEN WITH THE SEED: the statements are not yours to turn. If you find one false, say at which input.
  Laid BY PROGRAM, IN A SANDBOX (cutbox-rows.mjs): the forced cells as the released guide's own fill.sh prints them over the translation d027ad31c864605a… (all of the seat's roots in one cut). By AI agents, Wed Nov 11 2026. No macro, syntax, notation, axiom, sorry.
-/
import Derived.Test.YtkekijblmalkdaaChecked
import GoSem.Claim
import GoSem.ClaimJoined
import GoSem.ClaimMapViews
import Derived.JoinedTies
import Derived.KernelRfl
namespace Go.Proofs.Ytkekijblmalkdaa
/- THE CELL 'sum', in the pinned program and in every row, IS THE sha256 OF THE DUMP (.gsa) THAT YtkekijblmalkdaaProg.lean LOADS. Nothing in Lean hashes anything: it is a label: what it is worth is what the hold of that sum in a sandbox is worth. -/
noncomputable def Try.pinned : Pinned := { name := "ytkekijblmalkdaa", sum := "d027ad31c864605a77f66baa7489bdbd8ecd31b5e47b22855730bff8b2b1b081", checked := Try.checked }
namespace Rows
def none {H : Type} : Left H := { results := [], args := [] }

/-- 'ferlaw.InsertPairs': WHATEVER THE INPUT: true; the input reads as it did. -/
def insertPairsSpec : ChangeSpec := { name := "insertPairs", fn := fun _ => fun
  | [d1, d2, d3] => { results := [.lit (.bool true)], args := [d1, d2, d3] }
  | _ => none }
def insertPairsRow : OpenClaim := { program := "ytkekijblmalkdaa", sum := "d027ad31c864605a77f66baa7489bdbd8ecd31b5e47b22855730bff8b2b1b081", func := "ferrers/ferlaw.InsertPairs", spec := "insertPairs", recurses := true, apart := false }
def InsertPairsSaid : Prop := insertPairsRow.holds Try.pinned (OpenSpec.ofChange insertPairsSpec)

/-- ITS FALSE NEIGHBOUR: 'it returns false'. Refute it at one input. -/
def insertPairsWrong : ChangeSpec := { name := "insertPairs", fn := fun _ => fun
  | [d1, d2, d3] => { results := [.lit (.bool false)], args := [d1, d2, d3] }
  | _ => none }
def InsertPairsWrongFalsely : Prop := insertPairsRow.holds Try.pinned (OpenSpec.ofChange insertPairsWrong)

/-- 'ferlaw.InsertMakes': WHATEVER THE INPUT: true; the input reads as it did. -/
def insertMakesSpec : ChangeSpec := { name := "insertMakes", fn := fun _ => fun
  | [d1, d2, d3] => { results := [.lit (.bool true)], args := [d1, d2, d3] }
  | _ => none }
def insertMakesRow : OpenClaim := { program := "ytkekijblmalkdaa", sum := "d027ad31c864605a77f66baa7489bdbd8ecd31b5e47b22855730bff8b2b1b081", func := "ferrers/ferlaw.InsertMakes", spec := "insertMakes", recurses := true, apart := false }
def InsertMakesSaid : Prop := insertMakesRow.holds Try.pinned (OpenSpec.ofChange insertMakesSpec)

/-- ITS FALSE NEIGHBOUR: 'it returns false'. Refute it at one input. -/
def insertMakesWrong : ChangeSpec := { name := "insertMakes", fn := fun _ => fun
  | [d1, d2, d3] => { results := [.lit (.bool false)], args := [d1, d2, d3] }
  | _ => none }
def InsertMakesWrongFalsely : Prop := insertMakesRow.holds Try.pinned (OpenSpec.ofChange insertMakesWrong)

/-- 'ferlaw.PartsMerges': WHATEVER THE INPUT: true; the input reads as it did. -/
def partsMergesSpec : ChangeSpec := { name := "partsMerges", fn := fun _ => fun
  | [d] => { results := [.lit (.bool true)], args := [d] }
  | _ => none }
def partsMergesRow : OpenClaim := { program := "ytkekijblmalkdaa", sum := "d027ad31c864605a77f66baa7489bdbd8ecd31b5e47b22855730bff8b2b1b081", func := "ferrers/ferlaw.PartsMerges", spec := "partsMerges", unfollowed := true, recurses := true, apart := false }
def PartsMergesSaid : Prop := partsMergesRow.holds Try.pinned (OpenSpec.ofChange partsMergesSpec)

/-- ITS FALSE NEIGHBOUR: 'it returns false'. Refute it at one input. -/
def partsMergesWrong : ChangeSpec := { name := "partsMerges", fn := fun _ => fun
  | [d] => { results := [.lit (.bool false)], args := [d] }
  | _ => none }
def PartsMergesWrongFalsely : Prop := partsMergesRow.holds Try.pinned (OpenSpec.ofChange partsMergesWrong)

/-- 'ferlaw.FillSays': WHATEVER THE INPUT: true; the input reads as it did. -/
def fillSaysSpec : ChangeSpec := { name := "fillSays", fn := fun _ => fun
  | [d] => { results := [.lit (.bool true)], args := [d] }
  | _ => none }
def fillSaysRow : OpenClaim := { program := "ytkekijblmalkdaa", sum := "d027ad31c864605a77f66baa7489bdbd8ecd31b5e47b22855730bff8b2b1b081", func := "ferrers/ferlaw.FillSays", spec := "fillSays", unfollowed := true, recurses := true, apart := false }
def FillSaysSaid : Prop := fillSaysRow.holds Try.pinned (OpenSpec.ofChange fillSaysSpec)

/-- ITS FALSE NEIGHBOUR: 'it returns false'. Refute it at one input. -/
def fillSaysWrong : ChangeSpec := { name := "fillSays", fn := fun _ => fun
  | [d] => { results := [.lit (.bool false)], args := [d] }
  | _ => none }
def FillSaysWrongFalsely : Prop := fillSaysRow.holds Try.pinned (OpenSpec.ofChange fillSaysWrong)

/- THE SECOND FORM. 'bulk': how many values and letters a reading holds, each counted each time it is reached (what is shared counts as often as it is met; a slice's spare places count too). A statement '..UptoSaid' is the law's where the arguments, and the package variables that the reading takes, are together of bulk at most 1048576: NARROWER than '..Said'. Prove '..Said' where nothing that the law and all that it calls make is longer than what came in: it says more and counts as full. Else prove '..UptoSaid'. A law counts once. -/
mutual
def uptoBulk {H : Type} : DataW H → Nat
  | .lit (.string bytes) => bytes.length + 1
  | .lit _ => 1
  | .nil => 1
  | .ptr d => uptoBulk d + 1
  | .slice elems spare => uptoBulkAll elems + uptoBulkAll spare + 1
  | .agg parts => uptoBulkAll parts + 1
  | .iface _ d => uptoBulk d + 1
  | .map entries => uptoBulkEntries entries + 1
  | .held _ => 1
def uptoBulkAll {H : Type} : List (DataW H) → Nat
  | [] => 0
  | d :: r => uptoBulk d + uptoBulkAll r
def uptoBulkEntries {H : Type} : List (Lit × DataW H) → Nat
  | [] => 0
  | x :: r => uptoBulkEntry x + uptoBulkEntries r
def uptoBulkEntry {H : Type} : Lit × DataW H → Nat
  | (.string bytes, d) => bytes.length + uptoBulk d + 1
  | (_, d) => uptoBulk d + 1
 end
def uptoSmall : (H : Type) → List (DataW H) → Bool := fun _ ds => decide (uptoBulkAll ds ≤ 1048576)
def OpenSpec.upto (s : _root_.Go.ChangeSpec) : _root_.Go.OpenSpec := { _root_.Go.OpenSpec.ofChange s with cond := some uptoSmall }

/-- 'ferlaw.InsertPairs', WHERE WHAT IT READS IS OF BULK AT MOST 1048576: true; the input reads as it did. -/
def insertPairsUptoRow : OpenClaim := { program := "ytkekijblmalkdaa", sum := "d027ad31c864605a77f66baa7489bdbd8ecd31b5e47b22855730bff8b2b1b081", func := "ferrers/ferlaw.InsertPairs", spec := "insertPairs", recurses := true, apart := false, narrowed := true }
def InsertPairsUptoSaid : Prop := insertPairsUptoRow.holds Try.pinned (OpenSpec.upto insertPairsSpec)

/-- 'ferlaw.InsertMakes', WHERE WHAT IT READS IS OF BULK AT MOST 1048576: true; the input reads as it did. -/
def insertMakesUptoRow : OpenClaim := { program := "ytkekijblmalkdaa", sum := "d027ad31c864605a77f66baa7489bdbd8ecd31b5e47b22855730bff8b2b1b081", func := "ferrers/ferlaw.InsertMakes", spec := "insertMakes", recurses := true, apart := false, narrowed := true }
def InsertMakesUptoSaid : Prop := insertMakesUptoRow.holds Try.pinned (OpenSpec.upto insertMakesSpec)

/-- 'ferlaw.PartsMerges', WHERE WHAT IT READS IS OF BULK AT MOST 1048576: true; the input reads as it did. -/
def partsMergesUptoRow : OpenClaim := { program := "ytkekijblmalkdaa", sum := "d027ad31c864605a77f66baa7489bdbd8ecd31b5e47b22855730bff8b2b1b081", func := "ferrers/ferlaw.PartsMerges", spec := "partsMerges", unfollowed := true, recurses := true, apart := false, narrowed := true }
def PartsMergesUptoSaid : Prop := partsMergesUptoRow.holds Try.pinned (OpenSpec.upto partsMergesSpec)

/-- 'ferlaw.FillSays', WHERE WHAT IT READS IS OF BULK AT MOST 1048576: true; the input reads as it did. -/
def fillSaysUptoRow : OpenClaim := { program := "ytkekijblmalkdaa", sum := "d027ad31c864605a77f66baa7489bdbd8ecd31b5e47b22855730bff8b2b1b081", func := "ferrers/ferlaw.FillSays", spec := "fillSays", unfollowed := true, recurses := true, apart := false, narrowed := true }
def FillSaysUptoSaid : Prop := fillSaysUptoRow.holds Try.pinned (OpenSpec.upto fillSaysSpec)

end Rows
end Go.Proofs.Ytkekijblmalkdaa
