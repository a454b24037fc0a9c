/- What the package variables hold when the call begins: a closed fact. No statement of the program is proved here. -/
import Derived.Test.YtnpmklhlhegfbaaGreatDoorTA
namespace Go.Proofs.YtnpmklhlhegfbaaGreatDoor
open Go
theorem t8 : ∀ os tape, (DataW.laidRun Tryz.prog (varsWorld Tryz.prog 400 (varsId Tryz.prog) os tape).memory 8 (laidE.map (·.1))).map (·.1) = some laidE := fun _ _ => by kernel_rfl
end Go.Proofs.YtnpmklhlhegfbaaGreatDoor
