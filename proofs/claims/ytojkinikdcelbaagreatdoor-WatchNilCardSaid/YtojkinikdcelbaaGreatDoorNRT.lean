/- The engine's take, run from where known() calls it: it shows what is written out. No statement of the program is proved here. -/
import Derived.Test.YtojkinikdcelbaaGreatDoorNLitR
import Derived.KernelRfl
set_option linter.unusedSimpArgs false
set_option linter.unusedVariables false
set_option linter.defProp false
namespace Go.Mir
open Go
theorem runT : chkR zt (enterG envT.fns 70 at_ ht nt (execF envT 1000000)) = true := by kernel_rfl
end Go.Mir
