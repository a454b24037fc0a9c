/- The call of EngineNil returns true and turns nothing that was there. -/
import Derived.Test.YtnpmklhlhegfbaaGreatDoorMay
import Derived.Test.YtnpmklhlhegfbaaGreatDoorPK
import Derived.Test.YtnpmklhlhegfbaaGreatDoorB0
import Derived.Test.YtnpmklhlhegfbaaGreatDoorB1
import Derived.Test.YtnpmklhlhegfbaaGreatDoorB2
import Derived.Test.YtnpmklhlhegfbaaGreatDoorB3
import Derived.Test.YtnpmklhlhegfbaaGreatDoorB4
import Derived.Test.YtnpmklhlhegfbaaGreatDoorO
namespace Go.Mir
open Go Go.Proofs Go.RowKit
theorem subZ : preC (combZ zl) (execF envI 1000000) = .ok zl :=
  (preC_fork _ _).trans (combZ_of (fun o ho => by
    simp only [List.mem_cons, List.mem_nil_iff, or_false] at ho
    rcases ho with h | h | h | h | h
    · rw [h]; exact chkR_ok way0
    · rw [h]; exact chkR_ok way1
    · rw [h]; exact chkR_ok way2
    · rw [h]; exact chkR_ok way3
    · rw [h]; exact chkR_ok way4))
theorem envOR : EnvR Tryz.prog envO :=
  ⟨tysR, fnsR, extR, hookR, mixedR, fun f args h n z e => sub_ok envIR (fun _ _ _ _ => execF_ok envIR _) subZ f args h n z e, fun _ _ e => (bad_ne e).elim⟩
theorem calls3 (W : World) : Calls Tryz.prog 3 #[] W fun e w' => e = .returned (.bool true) ∧ Below W.heap.size W w' :=
  bool_callsF envOR runO (vs := []) rfl W
end Go.Mir
