/- What the package variables hold when the call begins: closed facts. No statement of the program is proved here. -/
import Derived.Test.YtojkinikdcelbaaGreatDoorNTV
set_option linter.unusedSimpArgs false
set_option linter.unusedVariables false
set_option linter.defProp false
namespace Go.Proofs.YtojkinikdcelbaaGreatDoor
open Go
theorem t9cn : ∀ os tape, (DataW.laidRun Tryz.prog (varsWorld Tryz.prog 400 670 os tape).memory 8 (laidE.map (·.1))).map (fun x => rowsB (varsWorld Tryz.prog 400 670 os tape).memory x.2) = some true := fun _ _ => by kernel_rfl
theorem t9c : ∀ os tape, (DataW.laidRun Tryz.prog (varsWorld Tryz.prog 400 (varsId Tryz.prog) os tape).memory 8 (laidE.map (·.1))).map (fun x => rowsB (varsWorld Tryz.prog 400 (varsId Tryz.prog) os tape).memory x.2) = some true := fun os tape => by
  rw [vid]
  exact t9cn os tape
theorem t9b : ∀ os tape, (DataW.laidRun Tryz.prog (varsWorld Tryz.prog 400 (varsId Tryz.prog) os tape).memory 8 (laidE.map (·.1))).map (fun x => laidRowsB Tryz.prog (varsWorld Tryz.prog 400 (varsId Tryz.prog) os tape).memory x.2) = some true := fun os tape => by
  have h1 := t9c os tape
  generalize DataW.laidRun Tryz.prog (varsWorld Tryz.prog 400 (varsId Tryz.prog) os tape).memory 8 (laidE.map (·.1)) = o at h1 ⊢
  cases o with
  | none => cases h1
  | some x =>
    simp only [Option.map_some, Option.some.injEq] at h1 ⊢
    exact rowsB_ok h1
end Go.Proofs.YtojkinikdcelbaaGreatDoor
