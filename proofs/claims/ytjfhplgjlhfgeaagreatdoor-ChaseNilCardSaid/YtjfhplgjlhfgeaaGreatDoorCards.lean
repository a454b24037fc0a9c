/-
  DERIVED. GIVEN WITH THE SEED: THE CARDS: each row of YtjfhplgjlhfgeaaGreatDoorRows.lean that lists a variable, with what it lists TIED to the program's text (the seventh form; the later family's looks); each row that meets fmt, with fmt's text TOLD by the authors' own Lean function (tested against real Go, not proved from fmt's source: count such statements apart). THE CARD IS WHAT COUNTS. Prove the row's statement (the work); the ties are given (YtjfhplgjlhfgeaaGreatDoorTie.lean); close each card by the builder's one call (the guide's Derived/Test/ToyasCard.lean, 'card_holds'). Laid BY PROGRAM, IN A SANDBOX (cutbox-door.mjs). By AI agents, Wed Nov 11 2026. No macro, syntax, notation, axiom, sorry.
-/
import Derived.Test.YtjfhplgjlhfgeaaGreatDoorRows
import GoSem.ClaimSeven
namespace Go.Proofs.YtjfhplgjlhfgeaaGreatDoor
namespace Rows

/-- THE TIED CARD OF 'rhizomelaw19.BgpNil'. -/
def bgpNilCard : Claim7 := { stood := { row := bgpNilRow, standIns := [], harness := (true, "e1516287d68bcb4175b380a3d2877fd51c67138c71d07bd9f48ce9e9c5035cb6"), looks := true }, kinds := [], alts := [], laidByText := true, laidKinds := [.data, .pinned], laidTests := true, laidLooks := .later }
def BgpNilCardSaid : Prop := Claim7.holds Tryz.pinned (.plain (OpenSpec.ofChange bgpNilSpec)) bgpNilCard

/-- THE TIED CARD OF 'rhizomelaw17.ChaseNil'. -/
def chaseNilCard : Claim7 := { stood := { row := chaseNilRow, standIns := [], harness := (true, "e1516287d68bcb4175b380a3d2877fd51c67138c71d07bd9f48ce9e9c5035cb6"), looks := true }, kinds := [], alts := [], laidByText := true, laidKinds := [.data, .pinned], laidTests := true, laidLooks := .later }
def ChaseNilCardSaid : Prop := Claim7.holds Tryz.pinned (.plain (OpenSpec.ofChange chaseNilSpec)) chaseNilCard

/-- THE SECOND FORM's CARD OF 'rhizomelaw19.BgpNil'. -/
def bgpNilUptoCard : Claim7 := { stood := { row := bgpNilUptoRow, standIns := [], harness := (true, "e1516287d68bcb4175b380a3d2877fd51c67138c71d07bd9f48ce9e9c5035cb6"), looks := true }, kinds := [], alts := [], laidByText := true, laidKinds := [.data, .pinned], laidTests := true, laidLooks := .later }
def BgpNilUptoCardSaid : Prop := Claim7.holds Tryz.pinned (.plain (OpenSpec.upto bgpNilSpec)) bgpNilUptoCard

/-- THE SECOND FORM's CARD OF 'rhizomelaw17.ChaseNil'. -/
def chaseNilUptoCard : Claim7 := { stood := { row := chaseNilUptoRow, standIns := [], harness := (true, "e1516287d68bcb4175b380a3d2877fd51c67138c71d07bd9f48ce9e9c5035cb6"), looks := true }, kinds := [], alts := [], laidByText := true, laidKinds := [.data, .pinned], laidTests := true, laidLooks := .later }
def ChaseNilUptoCardSaid : Prop := Claim7.holds Tryz.pinned (.plain (OpenSpec.upto chaseNilSpec)) chaseNilUptoCard
end Rows
end Go.Proofs.YtjfhplgjlhfgeaaGreatDoor
