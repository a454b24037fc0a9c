/- term.May at the arguments that the laws hand it. No statement of the program is proved here. -/
import Derived.Test.YtjfhplgjlhfgeaaGreatDoorChk
namespace Go.Mir
open Go Go.Proofs
theorem run127_0 : isF (run env0 1000000 127 [(.agg [(.int .i64 (.ofNat 0)), (.str []), (.str [])])] (T.blank 16) 0) = true := by kernel_rfl
theorem run127_1 : isT (run env0 1000000 127 [(.agg [(.int .i64 (.ofNat 1)), (.str [104, 116, 116, 112, 58, 47, 47, 112]), (.str [])])] (T.blank 16) 0) = true := by kernel_rfl
theorem run127_2 : isT (run env0 1000000 127 [(.agg [(.int .i64 (.ofNat 1)), (.str [104, 116, 116, 112, 58, 47, 47, 97]), (.str [])])] (T.blank 16) 0) = true := by kernel_rfl
theorem run127_3 : isT (run env0 1000000 127 [(.agg [(.int .i64 (.ofNat 1)), (.str [104, 116, 116, 112, 58, 47, 47, 99]), (.str [])])] (T.blank 16) 0) = true := by kernel_rfl
theorem run127_4 : isT (run env0 1000000 127 [(.agg [(.int .i64 (.ofNat 1)), (.str [104, 116, 116, 112, 58, 47, 47, 98]), (.str [])])] (T.blank 16) 0) = true := by kernel_rfl
theorem run127_5 : isT (run env0 1000000 127 [(.agg [(.int .i64 (.ofNat 1)), (.str [104, 116, 116, 112, 58, 47, 47, 113]), (.str [])])] (T.blank 16) 0) = true := by kernel_rfl
theorem run127_6 : isT (run env0 1000000 127 [(.agg [(.int .i64 (.ofNat 1)), (.str [104, 116, 116, 112, 58, 47, 47, 119, 119, 119, 46, 119, 51, 46, 111, 114, 103, 47, 50, 48, 48, 50, 47, 48, 55, 47, 111, 119, 108, 35, 115, 97, 109, 101, 65, 115]), (.str [])])] (T.blank 16) 0) = true := by kernel_rfl
theorem hookR : HookR Tryz.prog (hookOf hookTab) := hook_ok (fun f l hl e he => by
  have hf : f = 127 := by
    have := T.all_ok (p := fun i _ => Nat.beq i 127) (t := hookTab) (ix := fun i => i) (by kernel_rfl) f l hl
    exact beq_of this
  subst hf

  have hl2 : hookTab.get 127 = some [([(.agg [(.int .i64 (.ofNat 0)), (.str []), (.str [])])], (.bool false)), ([(.agg [(.int .i64 (.ofNat 1)), (.str [104, 116, 116, 112, 58, 47, 47, 112]), (.str [])])], (.bool true)), ([(.agg [(.int .i64 (.ofNat 1)), (.str [104, 116, 116, 112, 58, 47, 47, 97]), (.str [])])], (.bool true)), ([(.agg [(.int .i64 (.ofNat 1)), (.str [104, 116, 116, 112, 58, 47, 47, 99]), (.str [])])], (.bool true)), ([(.agg [(.int .i64 (.ofNat 1)), (.str [104, 116, 116, 112, 58, 47, 47, 98]), (.str [])])], (.bool true)), ([(.agg [(.int .i64 (.ofNat 1)), (.str [104, 116, 116, 112, 58, 47, 47, 113]), (.str [])])], (.bool true)), ([(.agg [(.int .i64 (.ofNat 1)), (.str [104, 116, 116, 112, 58, 47, 47, 119, 119, 119, 46, 119, 51, 46, 111, 114, 103, 47, 50, 48, 48, 50, 47, 48, 55, 47, 111, 119, 108, 35, 115, 97, 109, 101, 65, 115]), (.str [])])], (.bool true))] := by kernel_rfl
  rw [hl2] at hl
  cases hl
  simp only [List.mem_cons, List.mem_nil_iff, or_false] at he
  rcases he with rfl | rfl | rfl | rfl | rfl | rfl | rfl
  · exact known_bool env0R (isF_ok run127_0) rfl
  · exact known_bool env0R (isT_ok run127_1) rfl
  · exact known_bool env0R (isT_ok run127_2) rfl
  · exact known_bool env0R (isT_ok run127_3) rfl
  · exact known_bool env0R (isT_ok run127_4) rfl
  · exact known_bool env0R (isT_ok run127_5) rfl
  · exact known_bool env0R (isT_ok run127_6) rfl)
theorem envR : EnvR Tryz.prog env := ⟨tysR, fnsR, extR, hookR, by kernel_rfl⟩
end Go.Mir
