/- What the package variables hold when the call begins: a closed fact. No statement of the program is proved here. -/
import Derived.Test.YtojkinikdcelbaaGreatDoorNTV
set_option linter.unusedSimpArgs false
set_option linter.unusedVariables false
set_option linter.defProp false
namespace Go.Proofs.YtojkinikdcelbaaGreatDoor
open Go
theorem t8n : ∀ os tape, (DataW.laidRun Tryz.prog (varsWorld Tryz.prog 400 670 os tape).memory 8 (laidE.map (·.1))).map (·.1) = some laidE := fun _ _ => by kernel_rfl
theorem t8 : ∀ os tape, (DataW.laidRun Tryz.prog (varsWorld Tryz.prog 400 (varsId Tryz.prog) os tape).memory 8 (laidE.map (·.1))).map (·.1) = some laidE := fun os tape => by
  rw [vid]
  exact t8n os tape
end Go.Proofs.YtojkinikdcelbaaGreatDoor
