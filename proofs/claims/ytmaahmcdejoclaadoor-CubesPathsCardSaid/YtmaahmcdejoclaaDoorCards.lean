/-
  DERIVED. GIVEN WITH THE SEED: THE CARDS: each row of YtmaahmcdejoclaaDoorRows.lean that lists a variable, with what it lists TIED to the program's text (the seventh form; the later family's looks); each row that meets fmt, with fmt's text TOLD by the authors' own Lean function (tested against real Go, not proved from fmt's source: count such statements apart). THE CARD IS WHAT COUNTS. Prove the row's statement (the work); the ties are given (YtmaahmcdejoclaaDoorTie.lean); close each card by the builder's one call (the guide's Derived/Test/ToyasCard.lean, 'card_holds'). Laid BY PROGRAM, IN A SANDBOX (cutbox-door.mjs). By AI agents, Wed Nov 11 2026. No macro, syntax, notation, axiom, sorry.
-/
import Derived.Test.YtmaahmcdejoclaaDoorRows
import GoSem.ClaimSeven
namespace Go.Proofs.YtmaahmcdejoclaaDoor
namespace Rows

/-- THE TIED CARD OF 'ferlaw.CubesPaths'. -/
def cubesPathsCard : Claim7 := { stood := { row := cubesPathsRow, standIns := [], harness := (true, "e52fa60856674f46f3680c409a0e6dfe0bc161eedd52e730692cfd47188e78a3"), looks := false }, kinds := [], alts := [], laidByText := true, laidKinds := [.data, .pinned], laidTests := true, laidLooks := .later }
def CubesPathsCardSaid : Prop := Claim7.holds Tryd.pinned (.plain (OpenSpec.ofChange cubesPathsSpec)) cubesPathsCard

/-- THE SECOND FORM's CARD OF 'ferlaw.CubesPaths'. -/
def cubesPathsUptoCard : Claim7 := { stood := { row := cubesPathsUptoRow, standIns := [], harness := (true, "e52fa60856674f46f3680c409a0e6dfe0bc161eedd52e730692cfd47188e78a3"), looks := false }, kinds := [], alts := [], laidByText := true, laidKinds := [.data, .pinned], laidTests := true, laidLooks := .later }
def CubesPathsUptoCardSaid : Prop := Claim7.holds Tryd.pinned (.plain (OpenSpec.upto cubesPathsSpec)) cubesPathsUptoCard
end Rows
end Go.Proofs.YtmaahmcdejoclaaDoor
