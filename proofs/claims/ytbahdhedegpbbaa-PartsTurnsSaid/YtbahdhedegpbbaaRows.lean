/-
  No cell of these rows narrows 'for every input' (looked for: loops, veiled, ifaces, maps, wideKeys, modest, calm, conditions, laid).
  DERIVED. THE GIVEN ROWS OF THIS SEAT. 4 by the template 'for every input the law returns true; each argument reads behind the call as it read before'; 0 by the template 'total and deterministic' (their statements: YtbahdhedegpbbaaTotals.lean).
  GIVEN WITH THE SEED: the statements are not yours to turn. If you find one false, say at which input.
  Laid BY PROGRAM, IN A SANDBOX (cutbox-rows.mjs): the forced cells as the released guide's own fill.sh prints them over the translation 58fb1eba03134cec… (all of the seat's roots in one cut). By AI agents, Wed Nov 11 2026. No macro, syntax, notation, axiom, sorry.
-/
import Derived.Test.YtbahdhedegpbbaaChecked
import GoSem.Claim
import GoSem.ClaimJoined
import GoSem.ClaimMapViews
import Derived.JoinedTies
import Derived.KernelRfl
namespace Go.Proofs.Ytbahdhedegpbbaa
/- THE CELL 'sum', in the pinned program and in every row, IS THE sha256 OF THE DUMP (.gsa) THAT YtbahdhedegpbbaaProg.lean LOADS. Nothing in Lean hashes anything: it is a label: what it is worth is what the hold of that sum in a sandbox is worth. -/
noncomputable def Try.pinned : Pinned := { name := "ytbahdhedegpbbaa", sum := "58fb1eba03134cec433a904903a6abefc7943614874f41c086ab377ad4ee026d", checked := Try.checked }
namespace Rows
def none {H : Type} : Left H := { results := [], args := [] }

/-- 'ferlaw.SignsBounds': WHATEVER THE INPUT: true; the input reads as it did. -/
def signsBoundsSpec : ChangeSpec := { name := "signsBounds", fn := fun _ => fun
  | [d1, d2] => { results := [.lit (.bool true)], args := [d1, d2] }
  | _ => none }
def signsBoundsRow : OpenClaim := { program := "ytbahdhedegpbbaa", sum := "58fb1eba03134cec433a904903a6abefc7943614874f41c086ab377ad4ee026d", func := "ferrers/ferlaw.SignsBounds", spec := "signsBounds", unfollowed := true, recurses := true, apart := false }
def SignsBoundsSaid : Prop := signsBoundsRow.holds Try.pinned (OpenSpec.ofChange signsBoundsSpec)

/-- ITS FALSE NEIGHBOUR: 'it returns false'. Refute it at one input. -/
def signsBoundsWrong : ChangeSpec := { name := "signsBounds", fn := fun _ => fun
  | [d1, d2] => { results := [.lit (.bool false)], args := [d1, d2] }
  | _ => none }
def SignsBoundsWrongFalsely : Prop := signsBoundsRow.holds Try.pinned (OpenSpec.ofChange signsBoundsWrong)

/-- 'ferlaw.PartsTurns': WHATEVER THE INPUT: true; the input reads as it did. -/
def partsTurnsSpec : ChangeSpec := { name := "partsTurns", fn := fun _ => fun
  | [d1, d2, d3, d4] => { results := [.lit (.bool true)], args := [d1, d2, d3, d4] }
  | _ => none }
def partsTurnsRow : OpenClaim := { program := "ytbahdhedegpbbaa", sum := "58fb1eba03134cec433a904903a6abefc7943614874f41c086ab377ad4ee026d", func := "ferrers/ferlaw.PartsTurns", spec := "partsTurns", apart := false }
def PartsTurnsSaid : Prop := partsTurnsRow.holds Try.pinned (OpenSpec.ofChange partsTurnsSpec)

/-- ITS FALSE NEIGHBOUR: 'it returns false'. Refute it at one input. -/
def partsTurnsWrong : ChangeSpec := { name := "partsTurns", fn := fun _ => fun
  | [d1, d2, d3, d4] => { results := [.lit (.bool false)], args := [d1, d2, d3, d4] }
  | _ => none }
def PartsTurnsWrongFalsely : Prop := partsTurnsRow.holds Try.pinned (OpenSpec.ofChange partsTurnsWrong)

/-- 'ferlaw.InsertSays': WHATEVER THE INPUT: true; the input reads as it did. -/
def insertSaysSpec : ChangeSpec := { name := "insertSays", fn := fun _ => fun
  | [d1, d2] => { results := [.lit (.bool true)], args := [d1, d2] }
  | _ => none }
def insertSaysRow : OpenClaim := { program := "ytbahdhedegpbbaa", sum := "58fb1eba03134cec433a904903a6abefc7943614874f41c086ab377ad4ee026d", func := "ferrers/ferlaw.InsertSays", spec := "insertSays", apart := false }
def InsertSaysSaid : Prop := insertSaysRow.holds Try.pinned (OpenSpec.ofChange insertSaysSpec)

/-- ITS FALSE NEIGHBOUR: 'it returns false'. Refute it at one input. -/
def insertSaysWrong : ChangeSpec := { name := "insertSays", fn := fun _ => fun
  | [d1, d2] => { results := [.lit (.bool false)], args := [d1, d2] }
  | _ => none }
def InsertSaysWrongFalsely : Prop := insertSaysRow.holds Try.pinned (OpenSpec.ofChange insertSaysWrong)

/-- 'ferlaw.SignsCorners': WHATEVER THE INPUT: true; the input reads as it did. -/
def signsCornersSpec : ChangeSpec := { name := "signsCorners", fn := fun _ => fun
  | [d1, d2, d3] => { results := [.lit (.bool true)], args := [d1, d2, d3] }
  | _ => none }
def signsCornersRow : OpenClaim := { program := "ytbahdhedegpbbaa", sum := "58fb1eba03134cec433a904903a6abefc7943614874f41c086ab377ad4ee026d", func := "ferrers/ferlaw.SignsCorners", spec := "signsCorners", apart := false }
def SignsCornersSaid : Prop := signsCornersRow.holds Try.pinned (OpenSpec.ofChange signsCornersSpec)

/-- ITS FALSE NEIGHBOUR: 'it returns false'. Refute it at one input. -/
def signsCornersWrong : ChangeSpec := { name := "signsCorners", fn := fun _ => fun
  | [d1, d2, d3] => { results := [.lit (.bool false)], args := [d1, d2, d3] }
  | _ => none }
def SignsCornersWrongFalsely : Prop := signsCornersRow.holds Try.pinned (OpenSpec.ofChange signsCornersWrong)

/- THE SECOND FORM. 'bulk': how many values and letters a reading holds, each counted each time it is reached (what is shared counts as often as it is met; a slice's spare places count too). A statement '..UptoSaid' is the law's where the arguments, and the package variables that the reading takes, are together of bulk at most 1048576: NARROWER than '..Said'. Prove '..Said' where nothing that the law and all that it calls make is longer than what came in: it says more and counts as full. Else prove '..UptoSaid'. A law counts once. -/
mutual
def uptoBulk {H : Type} : DataW H → Nat
  | .lit (.string bytes) => bytes.length + 1
  | .lit _ => 1
  | .nil => 1
  | .ptr d => uptoBulk d + 1
  | .slice elems spare => uptoBulkAll elems + uptoBulkAll spare + 1
  | .agg parts => uptoBulkAll parts + 1
  | .iface _ d => uptoBulk d + 1
  | .map entries => uptoBulkEntries entries + 1
  | .held _ => 1
def uptoBulkAll {H : Type} : List (DataW H) → Nat
  | [] => 0
  | d :: r => uptoBulk d + uptoBulkAll r
def uptoBulkEntries {H : Type} : List (Lit × DataW H) → Nat
  | [] => 0
  | x :: r => uptoBulkEntry x + uptoBulkEntries r
def uptoBulkEntry {H : Type} : Lit × DataW H → Nat
  | (.string bytes, d) => bytes.length + uptoBulk d + 1
  | (_, d) => uptoBulk d + 1
 end
def uptoSmall : (H : Type) → List (DataW H) → Bool := fun _ ds => decide (uptoBulkAll ds ≤ 1048576)
def OpenSpec.upto (s : _root_.Go.ChangeSpec) : _root_.Go.OpenSpec := { _root_.Go.OpenSpec.ofChange s with cond := some uptoSmall }

/-- 'ferlaw.SignsBounds', WHERE WHAT IT READS IS OF BULK AT MOST 1048576: true; the input reads as it did. -/
def signsBoundsUptoRow : OpenClaim := { program := "ytbahdhedegpbbaa", sum := "58fb1eba03134cec433a904903a6abefc7943614874f41c086ab377ad4ee026d", func := "ferrers/ferlaw.SignsBounds", spec := "signsBounds", unfollowed := true, recurses := true, apart := false, narrowed := true }
def SignsBoundsUptoSaid : Prop := signsBoundsUptoRow.holds Try.pinned (OpenSpec.upto signsBoundsSpec)

/-- 'ferlaw.PartsTurns', WHERE WHAT IT READS IS OF BULK AT MOST 1048576: true; the input reads as it did. -/
def partsTurnsUptoRow : OpenClaim := { program := "ytbahdhedegpbbaa", sum := "58fb1eba03134cec433a904903a6abefc7943614874f41c086ab377ad4ee026d", func := "ferrers/ferlaw.PartsTurns", spec := "partsTurns", apart := false, narrowed := true }
def PartsTurnsUptoSaid : Prop := partsTurnsUptoRow.holds Try.pinned (OpenSpec.upto partsTurnsSpec)

/-- 'ferlaw.InsertSays', WHERE WHAT IT READS IS OF BULK AT MOST 1048576: true; the input reads as it did. -/
def insertSaysUptoRow : OpenClaim := { program := "ytbahdhedegpbbaa", sum := "58fb1eba03134cec433a904903a6abefc7943614874f41c086ab377ad4ee026d", func := "ferrers/ferlaw.InsertSays", spec := "insertSays", apart := false, narrowed := true }
def InsertSaysUptoSaid : Prop := insertSaysUptoRow.holds Try.pinned (OpenSpec.upto insertSaysSpec)

/-- 'ferlaw.SignsCorners', WHERE WHAT IT READS IS OF BULK AT MOST 1048576: true; the input reads as it did. -/
def signsCornersUptoRow : OpenClaim := { program := "ytbahdhedegpbbaa", sum := "58fb1eba03134cec433a904903a6abefc7943614874f41c086ab377ad4ee026d", func := "ferrers/ferlaw.SignsCorners", spec := "signsCorners", apart := false, narrowed := true }
def SignsCornersUptoSaid : Prop := signsCornersUptoRow.holds Try.pinned (OpenSpec.upto signsCornersSpec)

end Rows
end Go.Proofs.Ytbahdhedegpbbaa
