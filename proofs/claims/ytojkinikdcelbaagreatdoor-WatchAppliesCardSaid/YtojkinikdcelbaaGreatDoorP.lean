/- WatchApplies: the statement, with the ties. -/
import Derived.Test.YtojkinikdcelbaaGreatDoorPA
import Derived.Test.YtojkinikdcelbaaGreatDoorTieE
import Derived.Test.YtojkinikdcelbaaGreatDoorCards
import Derived.SevenTiedAt
import Derived.Stop.Joined
set_option linter.unusedSimpArgs false
set_option linter.unusedVariables false
set_option linter.defProp false
namespace Go.Proofs.YtojkinikdcelbaaGreatDoor
open Go.ChangeShapes Go.WideShapes Go.ChangeAt Go.RowKit
theorem hw : Rows.watchAppliesRow.wfByText (OpenSpec.ofChange Rows.watchAppliesSpec) = true := by kernel_rfl
theorem hm : Tryz.pinned.checked.prog.mainIs = some (true, ("0d3a6b0f26ce9e907cb8a89233c303b50d98f87d0022383654bb6378a42a1dc0").toList) := by kernel_rfl
theorem hnamed : Tryz.prog.funcNamed "rhizome/rhizomelaw30.WatchApplies" = some 3 := by kernel_rfl
theorem hlooks : true = Tryz.pinned.checked.prog.looks [] := by kernel_rfl
theorem stand24 : Tryz.prog.wantsStandIn 24 = false := by kernel_rfl
theorem stand26 : Tryz.prog.wantsStandIn 26 = false := by kernel_rfl
theorem hstand (j : Nat) (t : TypeId) (ht : Tryz.f3.params[j]? = some t) : Tryz.pinned.checked.prog.wantsStandIn t = false := by
  rw [Tryz.params3] at ht
  match j, ht with
  | 0, ht => cases ht; exact stand24
  | 1, ht => cases ht; exact stand26
  | j + 2, ht => simp at ht
theorem g1 : (watchApplies.clos.any fun g => (Tryz.prog.funcs[g]?).any Func.goes) = false := by kernel_rfl
theorem g2 : Tryz.prog.funcs.any Func.goes = false := by kernel_rfl
theorem g3 : Tryz.prog.goes 3 = false := by
  unfold Program.goes
  rw [watchApplies.cl, g1, g2]
  simp
theorem g4 : Rows.watchAppliesRow.goesBy Tryz.pinned.checked.prog = ((Tryz.prog.funcNamed "rhizome/rhizomelaw30.WatchApplies").any Tryz.prog.goes || false) := by
  unfold OpenClaim.goesBy Program.goesAt Program.goesFrom
  kernel_rfl
theorem hgoes : false = Rows.watchAppliesRow.goesBy Tryz.pinned.checked.prog := by
  rw [g4, hnamed, Option.any_some, g3]
  rfl
/-- the statement: the tied card of the law -/
theorem WatchApplies_holds : Rows.WatchAppliesCardSaid :=
  Claim7.holds_tied_plain_at .later [] [.pinned, .data, .data, .listed, .data, .data, .pinned, .data, .data, .data] true (true, "0d3a6b0f26ce9e907cb8a89233c303b50d98f87d0022383654bb6378a42a1dc0") true watchApplies.over (fun _ h => by cases h) hw (fun _ h => by cases h) watchApplies_row_tie rfl ⟨rfl, rfl⟩ hm rfl
    (fun f fn hf hfn => by
      obtain rfl : f = 3 := Option.some.inj (hnamed.symm.trans hf) |>.symm
      obtain rfl : fn = Tryz.f3 := (Option.some.inj (Tryz.func3.symm.trans hfn)).symm
      exact ⟨hlooks, fun j t ht => hstand j t ht⟩)
    hgoes
#print axioms WatchApplies_holds
end Go.Proofs.YtojkinikdcelbaaGreatDoor
