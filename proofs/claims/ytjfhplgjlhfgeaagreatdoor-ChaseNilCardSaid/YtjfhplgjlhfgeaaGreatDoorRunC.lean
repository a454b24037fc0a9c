/- ChaseNil, run by the small machine: it ends in 'true'. The call returns true and turns nothing that was there. -/
import Derived.Test.YtjfhplgjlhfgeaaGreatDoorMay
namespace Go.Mir
open Go Go.Proofs Go.RowKit
theorem run4 : isT (run env 1000000 4 [] (T.blank 14) 0) = true := by kernel_rfl
theorem calls4 (W : World) : Calls Tryz.prog 4 #[] W fun e w' => e = .returned (.bool true) ∧ Below W.heap.size W w' :=
  bool_calls envR (isT_ok run4) (vs := []) rfl W
end Go.Mir
