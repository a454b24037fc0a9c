/- The chapter's rows of layer 30 (known), run by the small machine: it ends in 'true'. No statement of the program is proved here. -/
import Derived.Test.YtojkinikdcelbaaGreatDoorNLitR
import Derived.KernelRfl
set_option linter.unusedSimpArgs false
set_option linter.unusedVariables false
set_option linter.defProp false
namespace Go.Mir
open Go
theorem runO : isV (runF envO 1000000 6 [] (T.blank 12) 100) (.bool true) = true := by kernel_rfl
end Go.Mir
