/- The first draw of incr.Could: five ways. No statement of the program is proved here. -/
import Derived.Test.YtnpmklhlhegfbaaGreatDoorZ
import Derived.KernelRfl
namespace Go.Mir
open Go
theorem preC_fork : ∀ comb go, preC comb go = comb [preC (pickN 0) go, preC (pickN 1) go, preC (pickN 2) go, preC (pickN 3) go, preC (pickN 4) go] := by
  intro comb go
  kernel_rfl
end Go.Mir
