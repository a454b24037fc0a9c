/- What the small machine knows of the program is so. No statement of the program is proved here. -/
import Derived.Test.YtnpmklhlhegfbaaGreatDoorEnv
import Derived.KernelRfl
namespace Go.Mir
open Go Go.Proofs
theorem tysR : TysR Tryz.prog tys := tys_ok (by kernel_rfl)
theorem fnsR : FnsR Tryz.prog fns := fns_ok (n := 630) (by kernel_rfl) (by kernel_rfl)
theorem extR : ExtR Tryz.prog exts := ext_ok [(521, .indexByte, Tryz.f521), (572, .count, Tryz.f572), (231, .cmp, Tryz.f231), (132, .clone, Tryz.f132)] (by kernel_rfl) (fun p hp => by
  simp only [List.mem_cons, List.mem_nil_iff, or_false] at hp
  rcases hp with rfl | rfl | rfl | rfl
  · exact ⟨by kernel_rfl, by kernel_rfl, by kernel_rfl, by kernel_rfl, by kernel_rfl⟩
  · exact ⟨by kernel_rfl, by kernel_rfl, by kernel_rfl, by kernel_rfl, by kernel_rfl⟩
  · exact ⟨by kernel_rfl, by kernel_rfl, by kernel_rfl, by kernel_rfl, by kernel_rfl⟩
  · exact ⟨by kernel_rfl, by kernel_rfl, by kernel_rfl, by kernel_rfl, by kernel_rfl⟩)
theorem mixedR : Tryz.prog.follows .mixedOrders = true := by kernel_rfl
theorem env0R : EnvR Tryz.prog env0 := ⟨tysR, fnsR, extR, hook_none, mixedR, fun _ _ _ _ _ e => (bad_ne e).elim, fun _ _ e => (bad_ne e).elim⟩
end Go.Mir
