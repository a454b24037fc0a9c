/- The chapter's own rows answer true: run by the kernel. No statement of the program is proved here. -/
import Derived.Test.YthninknobjneeaaGreatDoorEnv
import Derived.Test.YthninknobjneeaaGreatDoorMirAY
import Derived.KernelRfl
namespace Go.Mir
open Go Go.Proofs
theorem tysR : TysR Tryz.prog tys := tys_ok (by kernel_rfl)
theorem fnsR : FnsR Tryz.prog fns := fns_ok (n := 346) (by kernel_rfl) (by kernel_rfl)
theorem extR : ExtR Tryz.prog exts := ext_ok [(249, .indexByte, Tryz.f249), (274, .count, Tryz.f274), (246, .cmp, Tryz.f246)] (by kernel_rfl) (fun p hp => by
  simp only [List.mem_cons, List.mem_nil_iff, or_false] at hp
  rcases hp with rfl | rfl | rfl
  · exact ⟨by kernel_rfl, by kernel_rfl, by kernel_rfl, by kernel_rfl, by kernel_rfl⟩
  · exact ⟨by kernel_rfl, by kernel_rfl, by kernel_rfl, by kernel_rfl, by kernel_rfl⟩
  · exact ⟨by kernel_rfl, by kernel_rfl, by kernel_rfl, by kernel_rfl, by kernel_rfl⟩)
theorem mixedR : Tryz.prog.follows .mixedOrders = true := by kernel_rfl
/-- the environment without calls that are known -/
noncomputable def envN : Env := { env0 with hook := fun _ _ _ => none }
theorem envNR : EnvR Tryz.prog envN := ⟨tysR, fnsR, extR, hook_none, mixedR, fun _ _ _ _ _ e => (bad_ne e).elim, fun _ _ e => (bad_ne e).elim⟩
end Go.Mir
namespace Go.Mir
open Go Go.Proofs
theorem run6 : isV (runF envN 1000000 6 [] (T.blank 14) 100) (.bool true) = true := by kernel_rfl
theorem known6 : KnownCall Tryz.prog 6 [] (.bool true) := known_val envNR run6 (vs := []) rfl rfl
end Go.Mir
