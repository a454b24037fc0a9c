/- What the small machine knows of the program is so. No statement of the program is proved here. -/
import Derived.Test.YtjfhplgjlhfgeaaGreatDoorMirAW
import Derived.Test.YtjfhplgjlhfgeaaGreatDoorEnv
import Derived.KernelRfl
namespace Go.Mir
open Go Go.Proofs
theorem tysR : TysR Tryz.prog tys := tys_ok (by kernel_rfl)
theorem fnsR : FnsR Tryz.prog fns := fns_ok (n := 382) (by kernel_rfl) (by kernel_rfl)
theorem extR : ExtR Tryz.prog exts := ext_ok [(331, .indexByte, Tryz.f331), (339, .count, Tryz.f339), (311, .cmp, Tryz.f311), (121, .clone, Tryz.f121)] (by kernel_rfl) (fun p hp => by
  simp only [List.mem_cons, List.mem_nil_iff, or_false] at hp
  rcases hp with rfl | rfl | rfl | rfl
  · exact ⟨by kernel_rfl, by kernel_rfl, by kernel_rfl, by kernel_rfl, by kernel_rfl⟩
  · exact ⟨by kernel_rfl, by kernel_rfl, by kernel_rfl, by kernel_rfl, by kernel_rfl⟩
  · exact ⟨by kernel_rfl, by kernel_rfl, by kernel_rfl, by kernel_rfl, by kernel_rfl⟩
  · exact ⟨by kernel_rfl, by kernel_rfl, by kernel_rfl, by kernel_rfl, by kernel_rfl⟩)
theorem env0R : EnvR Tryz.prog env0 := ⟨tysR, fnsR, extR, hook_none, by kernel_rfl⟩
end Go.Mir
