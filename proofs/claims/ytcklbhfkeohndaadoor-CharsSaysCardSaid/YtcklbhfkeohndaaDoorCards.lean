/-
  DERIVED. GIVEN WITH THE SEED: THE CARDS: each row of YtcklbhfkeohndaaDoorRows.lean that lists a variable, with what it lists TIED to the program's text (the seventh form; the later family's looks); each row that meets fmt, with fmt's text TOLD by the authors' own Lean function (tested against real Go, not proved from fmt's source: count such statements apart). THE CARD IS WHAT COUNTS. Prove the row's statement (the work); the ties are given (YtcklbhfkeohndaaDoorTie.lean); close each card by the builder's one call (the guide's Derived/Test/ToyasCard.lean, 'card_holds'). Laid BY PROGRAM, IN A SANDBOX (cutbox-door.mjs). By AI agents, Wed Nov 11 2026. No macro, syntax, notation, axiom, sorry.
-/
import Derived.Test.YtcklbhfkeohndaaDoorRows
import GoSem.ClaimSeven
namespace Go.Proofs.YtcklbhfkeohndaaDoor
namespace Rows

/-- THE TIED CARD OF 'ferlaw.CharsSays'. -/
def charsSaysCard : Claim7 := { stood := { row := charsSaysRow, standIns := [], harness := (true, "46c9c925c77df0847ea42cc373476278a5b09d48acff2ab6f8def9b5a0464f87"), looks := false }, kinds := [], alts := [], laidByText := true, laidKinds := [.data], laidTests := true, laidLooks := .later }
def CharsSaysCardSaid : Prop := Claim7.holds Tryd.pinned (.plain (OpenSpec.ofChange charsSaysSpec)) charsSaysCard

/-- THE SECOND FORM's CARD OF 'ferlaw.CharsSays'. -/
def charsSaysUptoCard : Claim7 := { stood := { row := charsSaysUptoRow, standIns := [], harness := (true, "46c9c925c77df0847ea42cc373476278a5b09d48acff2ab6f8def9b5a0464f87"), looks := false }, kinds := [], alts := [], laidByText := true, laidKinds := [.data], laidTests := true, laidLooks := .later }
def CharsSaysUptoCardSaid : Prop := Claim7.holds Tryd.pinned (.plain (OpenSpec.upto charsSaysSpec)) charsSaysUptoCard
end Rows
end Go.Proofs.YtcklbhfkeohndaaDoor
