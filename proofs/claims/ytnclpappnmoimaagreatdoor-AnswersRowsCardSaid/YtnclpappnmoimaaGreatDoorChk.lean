/- What the small machine knows of the program is so. No statement of the program is proved here. -/
import Derived.Test.YtnclpappnmoimaaGreatDoorEnv
import Derived.Test.YtnclpappnmoimaaGreatDoorMirAY
import Derived.KernelRfl
namespace Go.Mir
open Go Go.Proofs
theorem tysR : TysR Tryz.prog tys := tys_ok (by kernel_rfl)
theorem fnsR : FnsR Tryz.prog fns := fns_ok (n := 330) (by kernel_rfl) (by kernel_rfl)
theorem extR : ExtR Tryz.prog exts := ext_ok [(269, .indexByte, Tryz.f269), (291, .count, Tryz.f291), (122, .cmp, Tryz.f122)] (by kernel_rfl) (fun p hp => by
  simp only [List.mem_cons, List.mem_nil_iff, or_false] at hp
  rcases hp with rfl | rfl | rfl
  · exact ⟨by kernel_rfl, by kernel_rfl, by kernel_rfl, by kernel_rfl, by kernel_rfl⟩
  · exact ⟨by kernel_rfl, by kernel_rfl, by kernel_rfl, by kernel_rfl, by kernel_rfl⟩
  · exact ⟨by kernel_rfl, by kernel_rfl, by kernel_rfl, by kernel_rfl, by kernel_rfl⟩)
theorem mixedR : Tryz.prog.follows .mixedOrders = true := by kernel_rfl
theorem env0R : EnvR Tryz.prog env0 := ⟨tysR, fnsR, extR, hook_none, mixedR, fun _ _ _ _ _ e => (bad_ne e).elim, fun _ _ e => (bad_ne e).elim⟩
end Go.Mir
