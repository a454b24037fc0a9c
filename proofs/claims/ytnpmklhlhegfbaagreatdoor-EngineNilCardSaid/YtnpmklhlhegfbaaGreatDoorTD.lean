/- What the package variables hold when the call begins: closed facts. No statement of the program is proved here. -/
import Derived.Test.YtnpmklhlhegfbaaGreatDoorTA
namespace Go.Proofs.YtnpmklhlhegfbaaGreatDoor
open Go
theorem t9a : ∀ os tape, (DataW.laidRun Tryz.prog (varsWorld Tryz.prog 400 (varsId Tryz.prog) os tape).memory 8 (laidE.map (·.1))).map (fun x => onceB x.2) = some true := fun _ _ => by kernel_rfl
end Go.Proofs.YtnpmklhlhegfbaaGreatDoor
