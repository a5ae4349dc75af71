/-
  DERIVED. GIVEN WITH THE SEED: THE CARDS: each row of YtcgljjdfgicjpaaDoorRows.lean that lists a variable, with what it lists TIED to the program's text (the seventh form; the later family's looks); each row that meets fmt, with fmt's text TOLD by the authors' own Lean function (tested against real Go, not proved from fmt's source: count such statements apart). THE CARD IS WHAT COUNTS. Prove the row's statement (the work); the ties are given (YtcgljjdfgicjpaaDoorTie.lean); close each card by the builder's one call (the guide's Derived/Test/ToyasCard.lean, 'card_holds'). Laid BY PROGRAM, IN A SANDBOX (cutbox-door.mjs). By AI agents, Wed Nov 11 2026. No macro, syntax, notation, axiom, sorry.
-/
import Derived.Test.YtcgljjdfgicjpaaDoorRows
import GoSem.ClaimSeven
namespace Go.Proofs.YtcgljjdfgicjpaaDoor
namespace Rows

/-- THE TIED CARD OF 'ferlaw.FillTexts'. -/
def fillTextsCard : Claim7 := { stood := { row := fillTextsRow, standIns := [], harness := (true, "2ccdc277a089487e1c73298a10e0a0bc8fd701c8116a444d887b9d2f15622f94"), looks := false }, kinds := [], alts := [], laidByText := true, laidKinds := [.data, .data, .data], laidTests := true, laidLooks := .later }
def FillTextsCardSaid : Prop := Claim7.holds Tryd.pinned (.plain (OpenSpec.ofChange fillTextsSpec)) fillTextsCard

/-- THE SECOND FORM's CARD OF 'ferlaw.FillTexts'. -/
def fillTextsUptoCard : Claim7 := { stood := { row := fillTextsUptoRow, standIns := [], harness := (true, "2ccdc277a089487e1c73298a10e0a0bc8fd701c8116a444d887b9d2f15622f94"), looks := false }, kinds := [], alts := [], laidByText := true, laidKinds := [.data, .data, .data], laidTests := true, laidLooks := .later }
def FillTextsUptoCardSaid : Prop := Claim7.holds Tryd.pinned (.plain (OpenSpec.upto fillTextsSpec)) fillTextsUptoCard
end Rows
end Go.Proofs.YtcgljjdfgicjpaaDoor
