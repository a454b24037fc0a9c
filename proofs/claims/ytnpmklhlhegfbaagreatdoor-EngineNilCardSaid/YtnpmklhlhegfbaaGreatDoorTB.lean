/- What the package variables hold when the call begins: a closed fact. No statement of the program is proved here. -/
import Derived.Test.YtnpmklhlhegfbaaGreatDoorTA
namespace Go.Proofs.YtnpmklhlhegfbaaGreatDoor
open Go
theorem t7 : ∀ os tape, varsDone Tryz.prog 400 (varsId Tryz.prog) os tape = true := fun _ _ => by kernel_rfl
end Go.Proofs.YtnpmklhlhegfbaaGreatDoor
