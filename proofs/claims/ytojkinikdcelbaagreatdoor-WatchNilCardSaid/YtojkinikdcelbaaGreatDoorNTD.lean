/- What the package variables hold when the call begins: closed facts. No statement of the program is proved here. -/
import Derived.Test.YtojkinikdcelbaaGreatDoorNTV
set_option linter.unusedSimpArgs false
set_option linter.unusedVariables false
set_option linter.defProp false
namespace Go.Proofs.YtojkinikdcelbaaGreatDoor
open Go
theorem t9an : ∀ os tape, (DataW.laidRun Tryz.prog (varsWorld Tryz.prog 400 670 os tape).memory 8 (laidE.map (·.1))).map (fun x => onceB x.2) = some true := fun _ _ => by kernel_rfl
theorem t9a : ∀ os tape, (DataW.laidRun Tryz.prog (varsWorld Tryz.prog 400 (varsId Tryz.prog) os tape).memory 8 (laidE.map (·.1))).map (fun x => onceB x.2) = some true := fun os tape => by
  rw [vid]
  exact t9an os tape
end Go.Proofs.YtojkinikdcelbaaGreatDoor
