/- What the package variables hold when the call begins: a closed fact. No statement of the program is proved here. -/
import Derived.Test.YtojkinikdcelbaaGreatDoorNTV
set_option linter.unusedSimpArgs false
set_option linter.unusedVariables false
set_option linter.defProp false
namespace Go.Proofs.YtojkinikdcelbaaGreatDoor
open Go
theorem t7n : ∀ os tape, varsDone Tryz.prog 400 670 os tape = true := fun _ _ => by kernel_rfl
theorem t7 : ∀ os tape, varsDone Tryz.prog 400 (varsId Tryz.prog) os tape = true := fun os tape => by
  rw [vid]
  exact t7n os tape
end Go.Proofs.YtojkinikdcelbaaGreatDoor
