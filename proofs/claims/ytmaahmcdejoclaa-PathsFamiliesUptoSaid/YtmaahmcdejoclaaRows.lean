/-
  No cell of these rows narrows 'for every input' (looked for: loops, veiled, ifaces, maps, wideKeys, modest, calm, conditions, laid).
  DERIVED. THE GIVEN ROWS OF THIS SEAT. 3 by the template 'for every input the law returns true; each argument reads behind the call as it read before'; 0 by the template 'total and deterministic' (their statements: YtmaahmcdejoclaaTotals.lean).
  GIVEN WITH THE SEED: the statements are not yours to turn. If you find one false, say at which input.
  Laid BY PROGRAM, IN A SANDBOX (cutbox-rows.mjs): the forced cells as the released guide's own fill.sh prints them over the translation 9a8c08621dc67cae… (all of the seat's roots in one cut). By AI agents, Wed Nov 11 2026. No macro, syntax, notation, axiom, sorry.
-/
import Derived.Test.YtmaahmcdejoclaaChecked
import GoSem.Claim
import GoSem.ClaimJoined
import GoSem.ClaimMapViews
import Derived.JoinedTies
import Derived.KernelRfl
namespace Go.Proofs.Ytmaahmcdejoclaa
/- THE CELL 'sum', in the pinned program and in every row, IS THE sha256 OF THE DUMP (.gsa) THAT YtmaahmcdejoclaaProg.lean LOADS. Nothing in Lean hashes anything: it is a label: what it is worth is what the hold of that sum in a sandbox is worth. -/
noncomputable def Try.pinned : Pinned := { name := "ytmaahmcdejoclaa", sum := "9a8c08621dc67caeeafc2ba36fe9178c48beda2f4532c530cc7296db62b4aa0e", checked := Try.checked }
namespace Rows
def none {H : Type} : Left H := { results := [], args := [] }

/-- 'ferlaw.ParkingTrees': WHATEVER THE INPUT: true; the input reads as it did. -/
def parkingTreesSpec : ChangeSpec := { name := "parkingTrees", fn := fun _ => fun
  | [d1, d2, d3] => { results := [.lit (.bool true)], args := [d1, d2, d3] }
  | _ => none }
def parkingTreesRow : OpenClaim := { program := "ytmaahmcdejoclaa", sum := "9a8c08621dc67caeeafc2ba36fe9178c48beda2f4532c530cc7296db62b4aa0e", func := "ferrers/ferlaw.ParkingTrees", spec := "parkingTrees", inPlace := ["slices.overlaps[ferrers/api.Pair]"], unfollowed := true, recurses := true, apart := false }
def ParkingTreesSaid : Prop := parkingTreesRow.holds Try.pinned (OpenSpec.ofChange parkingTreesSpec)

/-- ITS FALSE NEIGHBOUR: 'it returns false'. Refute it at one input. -/
def parkingTreesWrong : ChangeSpec := { name := "parkingTrees", fn := fun _ => fun
  | [d1, d2, d3] => { results := [.lit (.bool false)], args := [d1, d2, d3] }
  | _ => none }
def ParkingTreesWrongFalsely : Prop := parkingTreesRow.holds Try.pinned (OpenSpec.ofChange parkingTreesWrong)

/-- 'ferlaw.RuleSays': WHATEVER THE INPUT: true; the input reads as it did. -/
def ruleSaysSpec : ChangeSpec := { name := "ruleSays", fn := fun _ => fun
  | [d1, d2, d3] => { results := [.lit (.bool true)], args := [d1, d2, d3] }
  | _ => none }
def ruleSaysRow : OpenClaim := { program := "ytmaahmcdejoclaa", sum := "9a8c08621dc67caeeafc2ba36fe9178c48beda2f4532c530cc7296db62b4aa0e", func := "ferrers/ferlaw.RuleSays", spec := "ruleSays", unfollowed := true, recurses := true, apart := false }
def RuleSaysSaid : Prop := ruleSaysRow.holds Try.pinned (OpenSpec.ofChange ruleSaysSpec)

/-- ITS FALSE NEIGHBOUR: 'it returns false'. Refute it at one input. -/
def ruleSaysWrong : ChangeSpec := { name := "ruleSays", fn := fun _ => fun
  | [d1, d2, d3] => { results := [.lit (.bool false)], args := [d1, d2, d3] }
  | _ => none }
def RuleSaysWrongFalsely : Prop := ruleSaysRow.holds Try.pinned (OpenSpec.ofChange ruleSaysWrong)

/-- 'ferlaw.PathsFamilies': WHATEVER THE INPUT: true; the input reads as it did. -/
def pathsFamiliesSpec : ChangeSpec := { name := "pathsFamilies", fn := fun _ => fun
  | [d1, d2, d3, d4] => { results := [.lit (.bool true)], args := [d1, d2, d3, d4] }
  | _ => none }
def pathsFamiliesRow : OpenClaim := { program := "ytmaahmcdejoclaa", sum := "9a8c08621dc67caeeafc2ba36fe9178c48beda2f4532c530cc7296db62b4aa0e", func := "ferrers/ferlaw.PathsFamilies", spec := "pathsFamilies", unfollowed := true, recurses := true, apart := false }
def PathsFamiliesSaid : Prop := pathsFamiliesRow.holds Try.pinned (OpenSpec.ofChange pathsFamiliesSpec)

/-- ITS FALSE NEIGHBOUR: 'it returns false'. Refute it at one input. -/
def pathsFamiliesWrong : ChangeSpec := { name := "pathsFamilies", fn := fun _ => fun
  | [d1, d2, d3, d4] => { results := [.lit (.bool false)], args := [d1, d2, d3, d4] }
  | _ => none }
def PathsFamiliesWrongFalsely : Prop := pathsFamiliesRow.holds Try.pinned (OpenSpec.ofChange pathsFamiliesWrong)

/- THE SECOND FORM. 'bulk': how many values and letters a reading holds, each counted each time it is reached (what is shared counts as often as it is met; a slice's spare places count too). A statement '..UptoSaid' is the law's where the arguments, and the package variables that the reading takes, are together of bulk at most 1048576: NARROWER than '..Said'. Prove '..Said' where nothing that the law and all that it calls make is longer than what came in: it says more and counts as full. Else prove '..UptoSaid'. A law counts once. -/
mutual
def uptoBulk {H : Type} : DataW H → Nat
  | .lit (.string bytes) => bytes.length + 1
  | .lit _ => 1
  | .nil => 1
  | .ptr d => uptoBulk d + 1
  | .slice elems spare => uptoBulkAll elems + uptoBulkAll spare + 1
  | .agg parts => uptoBulkAll parts + 1
  | .iface _ d => uptoBulk d + 1
  | .map entries => uptoBulkEntries entries + 1
  | .held _ => 1
def uptoBulkAll {H : Type} : List (DataW H) → Nat
  | [] => 0
  | d :: r => uptoBulk d + uptoBulkAll r
def uptoBulkEntries {H : Type} : List (Lit × DataW H) → Nat
  | [] => 0
  | x :: r => uptoBulkEntry x + uptoBulkEntries r
def uptoBulkEntry {H : Type} : Lit × DataW H → Nat
  | (.string bytes, d) => bytes.length + uptoBulk d + 1
  | (_, d) => uptoBulk d + 1
 end
def uptoSmall : (H : Type) → List (DataW H) → Bool := fun _ ds => decide (uptoBulkAll ds ≤ 1048576)
def OpenSpec.upto (s : _root_.Go.ChangeSpec) : _root_.Go.OpenSpec := { _root_.Go.OpenSpec.ofChange s with cond := some uptoSmall }

/-- 'ferlaw.ParkingTrees', WHERE WHAT IT READS IS OF BULK AT MOST 1048576: true; the input reads as it did. -/
def parkingTreesUptoRow : OpenClaim := { program := "ytmaahmcdejoclaa", sum := "9a8c08621dc67caeeafc2ba36fe9178c48beda2f4532c530cc7296db62b4aa0e", func := "ferrers/ferlaw.ParkingTrees", spec := "parkingTrees", inPlace := ["slices.overlaps[ferrers/api.Pair]"], unfollowed := true, recurses := true, apart := false, narrowed := true }
def ParkingTreesUptoSaid : Prop := parkingTreesUptoRow.holds Try.pinned (OpenSpec.upto parkingTreesSpec)

/-- 'ferlaw.RuleSays', WHERE WHAT IT READS IS OF BULK AT MOST 1048576: true; the input reads as it did. -/
def ruleSaysUptoRow : OpenClaim := { program := "ytmaahmcdejoclaa", sum := "9a8c08621dc67caeeafc2ba36fe9178c48beda2f4532c530cc7296db62b4aa0e", func := "ferrers/ferlaw.RuleSays", spec := "ruleSays", unfollowed := true, recurses := true, apart := false, narrowed := true }
def RuleSaysUptoSaid : Prop := ruleSaysUptoRow.holds Try.pinned (OpenSpec.upto ruleSaysSpec)

/-- 'ferlaw.PathsFamilies', WHERE WHAT IT READS IS OF BULK AT MOST 1048576: true; the input reads as it did. -/
def pathsFamiliesUptoRow : OpenClaim := { program := "ytmaahmcdejoclaa", sum := "9a8c08621dc67caeeafc2ba36fe9178c48beda2f4532c530cc7296db62b4aa0e", func := "ferrers/ferlaw.PathsFamilies", spec := "pathsFamilies", unfollowed := true, recurses := true, apart := false, narrowed := true }
def PathsFamiliesUptoSaid : Prop := pathsFamiliesUptoRow.holds Try.pinned (OpenSpec.upto pathsFamiliesSpec)

end Rows
end Go.Proofs.Ytmaahmcdejoclaa
