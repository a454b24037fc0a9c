/-
  DERIVED. GIVEN WITH THE SEED: THE CARDS: each row of YtnclpappnmoimaaGreatDoorRows.lean that lists a variable, with what it lists TIED to the program's text (the seventh form; the later family's looks); each row that meets fmt, with fmt's text TOLD by the authors' own Lean function (tested against real Go, not proved from fmt's source: count such statements apart). THE CARD IS WHAT COUNTS. Prove the row's statement (the work); the ties are given (YtnclpappnmoimaaGreatDoorTie.lean); close each card by the builder's one call (the guide's Derived/Test/ToyasCard.lean, 'card_holds'). Laid BY PROGRAM, IN A SANDBOX (cutbox-door.mjs). By AI agents, Wed Nov 11 2026. No macro, syntax, notation, axiom, sorry.
-/
import Derived.Test.YtnclpappnmoimaaGreatDoorRows
import GoSem.ClaimSeven
namespace Go.Proofs.YtnclpappnmoimaaGreatDoor
namespace Rows

/-- THE TIED CARD OF 'rhizomelaw20.AnswersRows'. -/
def answersRowsCard : Claim7 := { stood := { row := answersRowsRow, standIns := [], harness := (true, "7346a466ba98b16b3ef3dcba2957315ddf82e70050461b217610edeacb971233"), looks := false }, kinds := [], alts := [], laidByText := true, laidKinds := [.data, .pinned], laidTests := true, laidLooks := .later }
def AnswersRowsCardSaid : Prop := Claim7.holds Tryz.pinned (.plain (OpenSpec.ofChange answersRowsSpec)) answersRowsCard

/-- THE SECOND FORM's CARD OF 'rhizomelaw20.AnswersRows'. -/
def answersRowsUptoCard : Claim7 := { stood := { row := answersRowsUptoRow, standIns := [], harness := (true, "7346a466ba98b16b3ef3dcba2957315ddf82e70050461b217610edeacb971233"), looks := false }, kinds := [], alts := [], laidByText := true, laidKinds := [.data, .pinned], laidTests := true, laidLooks := .later }
def AnswersRowsUptoCardSaid : Prop := Claim7.holds Tryz.pinned (.plain (OpenSpec.upto answersRowsSpec)) answersRowsUptoCard
end Rows
end Go.Proofs.YtnclpappnmoimaaGreatDoor
