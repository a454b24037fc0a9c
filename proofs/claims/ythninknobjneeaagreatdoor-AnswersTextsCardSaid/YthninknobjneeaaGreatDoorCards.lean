/-
  DERIVED. GIVEN WITH THE SEED: THE CARDS: each row of YthninknobjneeaaGreatDoorRows.lean that lists a variable, with what it lists TIED to the program's text (the seventh form; the later family's looks); each row that meets fmt, with fmt's text TOLD by the authors' own Lean function (tested against real Go, not proved from fmt's source: count such statements apart). THE CARD IS WHAT COUNTS. Prove the row's statement (the work); the ties are given (YthninknobjneeaaGreatDoorTie.lean); close each card by the builder's one call (the guide's Derived/Test/ToyasCard.lean, 'card_holds'). Laid BY PROGRAM, IN A SANDBOX (cutbox-door.mjs). By AI agents, Wed Nov 11 2026. No macro, syntax, notation, axiom, sorry.
-/
import Derived.Test.YthninknobjneeaaGreatDoorRows
import GoSem.ClaimSeven
namespace Go.Proofs.YthninknobjneeaaGreatDoor
namespace Rows

/-- THE TIED CARD OF 'rhizomelaw20.AnswersTexts'. -/
def answersTextsCard : Claim7 := { stood := { row := answersTextsRow, standIns := [], harness := (true, "459489721c6441247db53734c2cc79b59058fb55b1b8a59a70677354b5e662e7"), looks := false }, kinds := [], alts := [], laidByText := true, laidKinds := [.data, .pinned], laidTests := true, laidLooks := .later }
def AnswersTextsCardSaid : Prop := Claim7.holds Tryz.pinned (.plain (OpenSpec.ofChange answersTextsSpec)) answersTextsCard

/-- THE SECOND FORM's CARD OF 'rhizomelaw20.AnswersTexts'. -/
def answersTextsUptoCard : Claim7 := { stood := { row := answersTextsUptoRow, standIns := [], harness := (true, "459489721c6441247db53734c2cc79b59058fb55b1b8a59a70677354b5e662e7"), looks := false }, kinds := [], alts := [], laidByText := true, laidKinds := [.data, .pinned], laidTests := true, laidLooks := .later }
def AnswersTextsUptoCardSaid : Prop := Claim7.holds Tryz.pinned (.plain (OpenSpec.upto answersTextsSpec)) answersTextsUptoCard
end Rows
end Go.Proofs.YthninknobjneeaaGreatDoor
