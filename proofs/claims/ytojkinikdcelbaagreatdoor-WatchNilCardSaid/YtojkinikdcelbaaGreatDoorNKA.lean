/- The closed facts of the row of watchNil: that the types are laid out. No statement of the program is proved here. -/
import Derived.Test.YtojkinikdcelbaaGreatDoorRows
import Derived.ProofKit
set_option linter.unusedSimpArgs false
set_option linter.unusedVariables false
set_option linter.defProp false
namespace Go.Proofs.YtojkinikdcelbaaGreatDoor.watchNil
open Go.ChangeShapes Go.WideShapes Go.ChangeAt Go.RowKit
theorem hsz : Tryz.prog.types.size = 764 := by kernel_rfl
theorem k1a : (List.range 764).all (rowFine Tryz.prog) = true := by kernel_rfl
theorem k1b : Tryz.prog.globals.all (fun g => decide (g.type < 764)) = true := by kernel_rfl
theorem k1c : Tryz.prog.funcs.all (fun f => f.params.all fun t => decide (t < 764)) = true := by kernel_rfl
theorem k1 : (laidOutB Tryz.prog) = true := by
  unfold laidOutB
  rw [hsz]
  exact Bool.and_eq_true_iff.2 ⟨Bool.and_eq_true_iff.2 ⟨k1a, k1b⟩, k1c⟩
end Go.Proofs.YtojkinikdcelbaaGreatDoor.watchNil
