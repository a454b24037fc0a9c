/-
  DERIVED. GIVEN WITH THE SEED: THE CARDS: each row of YtojkinikdcelbaaGreatDoorRows.lean that lists a variable, with what it lists TIED to the program's text (the seventh form; the later family's looks); each row that meets fmt, with fmt's text TOLD by the authors' own Lean function (tested against real Go, not proved from fmt's source: count such statements apart). THE CARD IS WHAT COUNTS. Prove the row's statement (the work); the ties are given (YtojkinikdcelbaaGreatDoorTie.lean); close each card by the builder's one call (the guide's Derived/Test/ToyasCard.lean, 'card_holds'). Laid BY PROGRAM, IN A SANDBOX (cutbox-door.mjs). By AI agents, Wed Nov 11 2026. No macro, syntax, notation, axiom, sorry.
-/
import Derived.Test.YtojkinikdcelbaaGreatDoorRows
import GoSem.ClaimSeven
namespace Go.Proofs.YtojkinikdcelbaaGreatDoor
namespace Rows

/-- THE TIED CARD OF 'rhizomelaw30.WatchApplies'. -/
def watchAppliesCard : Claim7 := { stood := { row := watchAppliesRow, standIns := [], harness := (true, "0d3a6b0f26ce9e907cb8a89233c303b50d98f87d0022383654bb6378a42a1dc0"), looks := true }, kinds := [], alts := [], laidByText := true, laidKinds := [.pinned, .data, .data, .listed, .data, .data, .pinned, .data, .data, .data], laidTests := true, laidLooks := .later }
def WatchAppliesCardSaid : Prop := Claim7.holds Tryz.pinned (.plain (OpenSpec.ofChange watchAppliesSpec)) watchAppliesCard

/-- THE TIED CARD OF 'rhizomelaw30.WatchNil'. -/
def watchNilCard : Claim7 := { stood := { row := watchNilRow, standIns := [], harness := (true, "0d3a6b0f26ce9e907cb8a89233c303b50d98f87d0022383654bb6378a42a1dc0"), looks := true }, kinds := [], alts := [], laidByText := true, laidKinds := [.pinned, .data, .data, .listed, .data, .data, .pinned, .data, .data, .data], laidTests := true, laidLooks := .later }
def WatchNilCardSaid : Prop := Claim7.holds Tryz.pinned (.plain (OpenSpec.ofChange watchNilSpec)) watchNilCard

/-- THE SECOND FORM's CARD OF 'rhizomelaw30.WatchApplies'. -/
def watchAppliesUptoCard : Claim7 := { stood := { row := watchAppliesUptoRow, standIns := [], harness := (true, "0d3a6b0f26ce9e907cb8a89233c303b50d98f87d0022383654bb6378a42a1dc0"), looks := true }, kinds := [], alts := [], laidByText := true, laidKinds := [.pinned, .data, .data, .listed, .data, .data, .pinned, .data, .data, .data], laidTests := true, laidLooks := .later }
def WatchAppliesUptoCardSaid : Prop := Claim7.holds Tryz.pinned (.plain (OpenSpec.upto watchAppliesSpec)) watchAppliesUptoCard

/-- THE SECOND FORM's CARD OF 'rhizomelaw30.WatchNil'. -/
def watchNilUptoCard : Claim7 := { stood := { row := watchNilUptoRow, standIns := [], harness := (true, "0d3a6b0f26ce9e907cb8a89233c303b50d98f87d0022383654bb6378a42a1dc0"), looks := true }, kinds := [], alts := [], laidByText := true, laidKinds := [.pinned, .data, .data, .listed, .data, .data, .pinned, .data, .data, .data], laidTests := true, laidLooks := .later }
def WatchNilUptoCardSaid : Prop := Claim7.holds Tryz.pinned (.plain (OpenSpec.upto watchNilSpec)) watchNilUptoCard
end Rows
end Go.Proofs.YtojkinikdcelbaaGreatDoor
