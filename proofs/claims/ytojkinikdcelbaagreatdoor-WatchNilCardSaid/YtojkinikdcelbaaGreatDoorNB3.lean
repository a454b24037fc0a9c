/- One way of incr.Could's first draw, gone to its end by all ways behind it. No statement of the program is proved here. -/
import Derived.Test.YtojkinikdcelbaaGreatDoorNPK
import Derived.KernelRfl
set_option linter.unusedSimpArgs false
set_option linter.unusedVariables false
set_option linter.defProp false
namespace Go.Mir
open Go
theorem way3 : chkR zc (preC (pickN 3) (execF envI 1000000)) = true := by kernel_rfl
end Go.Mir
