/- The chapter's own rows answer true: run by the kernel. No statement of the program is proved here. -/
import Derived.Test.YtnclpappnmoimaaGreatDoorChk
import Derived.KernelRfl
namespace Go.Mir
open Go Go.Proofs
theorem run5 : isV (runF env0 1000000 5 [] (T.blank 14) 100) (.bool true) = true := by kernel_rfl
theorem known6 : KnownCall Tryz.prog 5 [] (.bool true) := known_val env0R run5 (vs := []) rfl rfl
end Go.Mir
