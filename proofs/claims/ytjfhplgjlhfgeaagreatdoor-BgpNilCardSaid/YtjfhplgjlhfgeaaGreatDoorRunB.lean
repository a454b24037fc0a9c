/- BgpNil, run by the small machine: it ends in 'true'. The call returns true and turns nothing that was there. -/
import Derived.Test.YtjfhplgjlhfgeaaGreatDoorMay
namespace Go.Mir
open Go Go.Proofs Go.RowKit
theorem run3 : isT (run env 1000000 3 [] (T.blank 14) 0) = true := by kernel_rfl
theorem calls3 (W : World) : Calls Tryz.prog 3 #[] W fun e w' => e = .returned (.bool true) ∧ Below W.heap.size W w' :=
  bool_calls envR (isT_ok run3) (vs := []) rfl W
end Go.Mir
