/- The walks of bits and of known: the chapter's rows hold. No condition. -/
import Derived.Test.YtbdjdkfjbbhoeaaW2
namespace Go.Proofs.Ytbdjdkfjbbhoeaa
open Go.RowKit

theorem f64bits (x : Nat) (w : World) : (callFunc 13 #[.float .f64 x]).run Try.prog w = .ok (.value (.int .u64 x)) w := by kernel_rfl

set_option maxHeartbeats 1000000 in
theorem bits_any (x : Nat) (w : World) (hx : (FloatKind.f64.format.order x x == some .eq) = true) :
    Calls Try.prog 7 #[.float .f64 x, .float .f64 x] w fun e w' => e = .returned (.bool true) ∧ w = w' := by
  have hb := f64bits x
  go_enter Try.func7, Try.ntmps7
  go_wp2
  go_ret
  exact ⟨rfl, rfl⟩

theorem boolsAt_new (w : World) (bs : List Bool) (o : Obj) (h : ∀ j, j < bs.length → (w.alloc o).cell? ⟨w.heap.size, j, none⟩ = some (.bool (bs.getD j false))) :
    BoolsAt (w.alloc o) (some ⟨w.heap.size, 0, none⟩) bs := fun j hj => ⟨w.heap.size, 0, rfl, by rw [Nat.zero_add]; exact h j hj⟩

theorem k1 : szB 4621819117588971520 [0, -1, -1] [4616189618054758400, 0, 0] [true] = 4612811918334230528 := by decide +kernel
theorem k2 : szB 0 [0, -1, -1] [0, 0, 0] [true] = 0 := by decide +kernel
theorem k3 : szB 4613937818241073152 [0, -1, -1] [0, 0, 0] [true] = 9218868437227405312 := by decide +kernel

theorem size_call1 (x0 d0 : Nat) (w : World) (r : Nat) (hr : szB x0 [0, -1, -1] [d0, 0, 0] [true] = r) :
    Calls Try.prog 8 #[.agg #[.float .f64 x0, .int .i64 0, .int .i64 (-1), .int .i64 (-1), .float .f64 d0, .float .f64 0, .float .f64 0], .slice (some ⟨w.heap.size, 0, none⟩) 1 1] (w.alloc (.cells #[.bool true] 4))
      fun e w' => e = .returned (.float .f64 r) ∧ Below w.heap.size w w' := by
  refine (Size_calls 0 (-1) (-1) x0 d0 0 0 1 _ [true] _ (by decide) (boolsAt_new w [true] _ fun j hj => ?_) (fun b e _ => ?_)).mono ?_
  · obtain rfl : j = 0 := by simpa using hj
    rw [World.cell?_alloc_new]; rfl
  · cases e; simp
  · rintro e w' ⟨rfl, hb⟩
    exact ⟨by rw [hr], ((Below.refl _ _).alloc (Nat.le_refl _) _).trans (hb.mono (by simp))⟩

set_option maxHeartbeats 1000000 in
theorem known_calls (w : World) :
    Calls Try.prog 6 #[] w fun e w' => e = .returned (.bool true) ∧ Below w.heap.size w w' := by
  go_enter Try.func6, Try.ntmps6
  go_wp2_with fail
  refine (size_call1 _ _ _ _ k1).mono ?_
  rintro e w1 ⟨rfl, hb1⟩
  go_wp2_with fail
  refine (size_call1 _ _ _ _ k2).mono ?_
  rintro e w2 ⟨rfl, hb2⟩
  go_wp2_with fail
  refine (size_call1 _ _ _ _ k3).mono ?_
  rintro e w3 ⟨rfl, hb3⟩
  have hb : Below w.heap.size w w3 := hb1.trans ((hb2.mono hb1.size).trans (hb3.mono (Nat.le_trans hb1.size hb2.size)))
  have HB := Lib.hid hb
  clear hb hb1 hb2 hb3
  have e1 : (FloatKind.f64.format.order 4612811918334230528 4612811918334230528 == some .eq) = true := by decide +kernel
  have e2 : (FloatKind.f64.format.order 0 0 == some .eq) = true := by decide +kernel
  have e3 : (FloatKind.f64.format.order 9218868437227405312 9214871658872686752 == some .gt) = true := by decide +kernel
  go_wp2
  go_ret
  exact ⟨rfl, HB.out⟩
end Go.Proofs.Ytbdjdkfjbbhoeaa
