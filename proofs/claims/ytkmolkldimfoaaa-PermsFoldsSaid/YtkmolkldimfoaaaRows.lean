/-
  No cell of these rows narrows 'for every input' (looked for: loops, veiled, ifaces, maps, wideKeys, modest, calm, conditions, laid).
  DERIVED. THE GIVEN ROWS OF THIS SEAT. 4 by the template 'for every input the law returns true; each argument reads behind the call as it read before'; 0 by the template 'total and deterministic' (their statements: YtkmolkldimfoaaaTotals.lean).
  GIVEN WITH THE SEED: the statements are not yours to turn. If you find one false, say at which input.
  Laid BY PROGRAM, IN A SANDBOX (cutbox-rows.mjs): the forced cells as the released guide's own fill.sh prints them over the translation a06506e44aef5ac2… (all of the seat's roots in one cut). By AI agents, Wed Nov 11 2026. No macro, syntax, notation, axiom, sorry.
-/
import Derived.Test.YtkmolkldimfoaaaChecked
import GoSem.Claim
import GoSem.ClaimJoined
import GoSem.ClaimMapViews
import Derived.JoinedTies
import Derived.KernelRfl
namespace Go.Proofs.Ytkmolkldimfoaaa
/- THE CELL 'sum', in the pinned program and in every row, IS THE sha256 OF THE DUMP (.gsa) THAT YtkmolkldimfoaaaProg.lean LOADS. Nothing in Lean hashes anything: it is a label: what it is worth is what the hold of that sum in a sandbox is worth. -/
noncomputable def Try.pinned : Pinned := { name := "ytkmolkldimfoaaa", sum := "a06506e44aef5ac29c1ed0cd6829d158878d4dff652017cfd20c2a1822f4382e", checked := Try.checked }
namespace Rows
def none {H : Type} : Left H := { results := [], args := [] }

/-- 'ferlaw.Names': WHATEVER THE INPUT: true; the input reads as it did. -/
def namesSpec : ChangeSpec := { name := "names", fn := fun _ => fun
  | [] => { results := [.lit (.bool true)], args := [] }
  | _ => none }
def namesRow : OpenClaim := { program := "ytkmolkldimfoaaa", sum := "a06506e44aef5ac29c1ed0cd6829d158878d4dff652017cfd20c2a1822f4382e", func := "ferrers/ferlaw.Names", spec := "names", apart := false }
def NamesSaid : Prop := namesRow.holds Try.pinned (OpenSpec.ofChange namesSpec)

/-- ITS FALSE NEIGHBOUR: 'it returns false'. Refute it at one input. -/
def namesWrong : ChangeSpec := { name := "names", fn := fun _ => fun
  | [] => { results := [.lit (.bool false)], args := [] }
  | _ => none }
def NamesWrongFalsely : Prop := namesRow.holds Try.pinned (OpenSpec.ofChange namesWrong)

/-- 'ferlaw.PermsWords': WHATEVER THE INPUT: true; the input reads as it did. -/
def permsWordsSpec : ChangeSpec := { name := "permsWords", fn := fun _ => fun
  | [d1, d2, d3, d4] => { results := [.lit (.bool true)], args := [d1, d2, d3, d4] }
  | _ => none }
def permsWordsRow : OpenClaim := { program := "ytkmolkldimfoaaa", sum := "a06506e44aef5ac29c1ed0cd6829d158878d4dff652017cfd20c2a1822f4382e", func := "ferrers/ferlaw.PermsWords", spec := "permsWords", apart := false }
def PermsWordsSaid : Prop := permsWordsRow.holds Try.pinned (OpenSpec.ofChange permsWordsSpec)

/-- ITS FALSE NEIGHBOUR: 'it returns false'. Refute it at one input. -/
def permsWordsWrong : ChangeSpec := { name := "permsWords", fn := fun _ => fun
  | [d1, d2, d3, d4] => { results := [.lit (.bool false)], args := [d1, d2, d3, d4] }
  | _ => none }
def PermsWordsWrongFalsely : Prop := permsWordsRow.holds Try.pinned (OpenSpec.ofChange permsWordsWrong)

/-- 'ferlaw.PermsCodes': WHATEVER THE INPUT: true; the input reads as it did. -/
def permsCodesSpec : ChangeSpec := { name := "permsCodes", fn := fun _ => fun
  | [d1, d2, d3] => { results := [.lit (.bool true)], args := [d1, d2, d3] }
  | _ => none }
def permsCodesRow : OpenClaim := { program := "ytkmolkldimfoaaa", sum := "a06506e44aef5ac29c1ed0cd6829d158878d4dff652017cfd20c2a1822f4382e", func := "ferrers/ferlaw.PermsCodes", spec := "permsCodes", apart := false }
def PermsCodesSaid : Prop := permsCodesRow.holds Try.pinned (OpenSpec.ofChange permsCodesSpec)

/-- ITS FALSE NEIGHBOUR: 'it returns false'. Refute it at one input. -/
def permsCodesWrong : ChangeSpec := { name := "permsCodes", fn := fun _ => fun
  | [d1, d2, d3] => { results := [.lit (.bool false)], args := [d1, d2, d3] }
  | _ => none }
def PermsCodesWrongFalsely : Prop := permsCodesRow.holds Try.pinned (OpenSpec.ofChange permsCodesWrong)

/-- 'ferlaw.PermsFolds': WHATEVER THE INPUT: true; the input reads as it did. -/
def permsFoldsSpec : ChangeSpec := { name := "permsFolds", fn := fun _ => fun
  | [d1, d2] => { results := [.lit (.bool true)], args := [d1, d2] }
  | _ => none }
def permsFoldsRow : OpenClaim := { program := "ytkmolkldimfoaaa", sum := "a06506e44aef5ac29c1ed0cd6829d158878d4dff652017cfd20c2a1822f4382e", func := "ferrers/ferlaw.PermsFolds", spec := "permsFolds", recurses := true, apart := false }
def PermsFoldsSaid : Prop := permsFoldsRow.holds Try.pinned (OpenSpec.ofChange permsFoldsSpec)

/-- ITS FALSE NEIGHBOUR: 'it returns false'. Refute it at one input. -/
def permsFoldsWrong : ChangeSpec := { name := "permsFolds", fn := fun _ => fun
  | [d1, d2] => { results := [.lit (.bool false)], args := [d1, d2] }
  | _ => none }
def PermsFoldsWrongFalsely : Prop := permsFoldsRow.holds Try.pinned (OpenSpec.ofChange permsFoldsWrong)

/- THE SECOND FORM. 'bulk': how many values and letters a reading holds, each counted each time it is reached (what is shared counts as often as it is met; a slice's spare places count too). A statement '..UptoSaid' is the law's where the arguments, and the package variables that the reading takes, are together of bulk at most 1048576: NARROWER than '..Said'. Prove '..Said' where nothing that the law and all that it calls make is longer than what came in: it says more and counts as full. Else prove '..UptoSaid'. A law counts once. -/
mutual
def uptoBulk {H : Type} : DataW H → Nat
  | .lit (.string bytes) => bytes.length + 1
  | .lit _ => 1
  | .nil => 1
  | .ptr d => uptoBulk d + 1
  | .slice elems spare => uptoBulkAll elems + uptoBulkAll spare + 1
  | .agg parts => uptoBulkAll parts + 1
  | .iface _ d => uptoBulk d + 1
  | .map entries => uptoBulkEntries entries + 1
  | .held _ => 1
def uptoBulkAll {H : Type} : List (DataW H) → Nat
  | [] => 0
  | d :: r => uptoBulk d + uptoBulkAll r
def uptoBulkEntries {H : Type} : List (Lit × DataW H) → Nat
  | [] => 0
  | x :: r => uptoBulkEntry x + uptoBulkEntries r
def uptoBulkEntry {H : Type} : Lit × DataW H → Nat
  | (.string bytes, d) => bytes.length + uptoBulk d + 1
  | (_, d) => uptoBulk d + 1
 end
def uptoSmall : (H : Type) → List (DataW H) → Bool := fun _ ds => decide (uptoBulkAll ds ≤ 1048576)
def OpenSpec.upto (s : _root_.Go.ChangeSpec) : _root_.Go.OpenSpec := { _root_.Go.OpenSpec.ofChange s with cond := some uptoSmall }

/-- 'ferlaw.Names', WHERE WHAT IT READS IS OF BULK AT MOST 1048576: true; the input reads as it did. -/
def namesUptoRow : OpenClaim := { program := "ytkmolkldimfoaaa", sum := "a06506e44aef5ac29c1ed0cd6829d158878d4dff652017cfd20c2a1822f4382e", func := "ferrers/ferlaw.Names", spec := "names", apart := false, narrowed := true }
def NamesUptoSaid : Prop := namesUptoRow.holds Try.pinned (OpenSpec.upto namesSpec)

/-- 'ferlaw.PermsWords', WHERE WHAT IT READS IS OF BULK AT MOST 1048576: true; the input reads as it did. -/
def permsWordsUptoRow : OpenClaim := { program := "ytkmolkldimfoaaa", sum := "a06506e44aef5ac29c1ed0cd6829d158878d4dff652017cfd20c2a1822f4382e", func := "ferrers/ferlaw.PermsWords", spec := "permsWords", apart := false, narrowed := true }
def PermsWordsUptoSaid : Prop := permsWordsUptoRow.holds Try.pinned (OpenSpec.upto permsWordsSpec)

/-- 'ferlaw.PermsCodes', WHERE WHAT IT READS IS OF BULK AT MOST 1048576: true; the input reads as it did. -/
def permsCodesUptoRow : OpenClaim := { program := "ytkmolkldimfoaaa", sum := "a06506e44aef5ac29c1ed0cd6829d158878d4dff652017cfd20c2a1822f4382e", func := "ferrers/ferlaw.PermsCodes", spec := "permsCodes", apart := false, narrowed := true }
def PermsCodesUptoSaid : Prop := permsCodesUptoRow.holds Try.pinned (OpenSpec.upto permsCodesSpec)

/-- 'ferlaw.PermsFolds', WHERE WHAT IT READS IS OF BULK AT MOST 1048576: true; the input reads as it did. -/
def permsFoldsUptoRow : OpenClaim := { program := "ytkmolkldimfoaaa", sum := "a06506e44aef5ac29c1ed0cd6829d158878d4dff652017cfd20c2a1822f4382e", func := "ferrers/ferlaw.PermsFolds", spec := "permsFolds", recurses := true, apart := false, narrowed := true }
def PermsFoldsUptoSaid : Prop := permsFoldsUptoRow.holds Try.pinned (OpenSpec.upto permsFoldsSpec)

end Rows
end Go.Proofs.Ytkmolkldimfoaaa
