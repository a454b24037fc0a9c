/- EngineNil, run by the small machine: it ends in 'true'. No statement of the program is proved here. -/
import Derived.Test.YtnpmklhlhegfbaaGreatDoorZ
import Derived.KernelRfl
namespace Go.Mir
open Go
theorem runO : isV (runF envO 1000000 3 [] (T.blank 14) 100) (.bool true) = true := by kernel_rfl
end Go.Mir
