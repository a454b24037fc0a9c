/- The walk of numbers: the numbers of what is known, in a slice of the call's own. Condition: at most 100 elements. -/
import Derived.Test.YtbdjdkfjbbhoeaaW3
namespace Go.Proofs.Ytbdjdkfjbbhoeaa
open Go.RowKit

theorem info3 : (Try.prog.info? 3).map (fun i => (i.zero, i.size, i.bytes)) = some (some (.int .i64 0), 1, 8) := by kernel_rfl

/-- the numbers of what is known -/
def numL (ks : List Bool) (k : Nat) : List Int := ((List.range k).filter fun i => ks.getD i false).map Int.ofNat

theorem numL_yes {ks : List Bool} {k : Nat} (h : ks.getD k false = true) : numL ks (k + 1) = numL ks k ++ [(k : Int)] := by
  unfold numL; rw [List.range_succ, List.filter_append, List.map_append, List.filter_cons, if_pos h]; rfl
theorem numL_no {ks : List Bool} {k : Nat} (h : ks.getD k false = false) : numL ks (k + 1) = numL ks k := by
  unfold numL; rw [List.range_succ, List.filter_append, List.map_append, List.filter_cons, if_neg (by rw [h]; simp)]; simp
theorem numL_le (ks : List Bool) (k : Nat) : (numL ks k).length ≤ k := by
  unfold numL; rw [List.length_map]; exact Nat.le_trans (List.length_filter_le _ _) (by simp)

theorem BoolsAt.below {w w' : World} {a : Option Addr} {ks : List Bool} {B : Nat} (h : BoolsAt w a ks) (hb : Below B w w') (ha : ∀ b, a = some b → 0 < ks.length → b.block < B) : BoolsAt w' a ks := by
  intro j hj
  obtain ⟨b, off, e, hc⟩ := h j hj
  exact ⟨b, off, e, (hb.cell (p := ⟨b, off + j, none⟩) (show b < B from ha ⟨b, off, none⟩ e (by omega))).trans hc⟩

set_option maxHeartbeats 1600000 in
theorem numbers_calls (cap : Nat) (a : Option Addr) (ks : List Bool) (w : World) (hm : ks.length ≤ 100)
    (hc : BoolsAt w a ks) (hca : ∀ b, a = some b → 0 < ks.length → b.block < w.heap.size) :
    Calls Try.prog 10 #[.slice a ks.length cap] w
      fun e w' => ∃ v, e = .returned v ∧ w'.ownsRow w.heap.size 3 1 v (numL ks ks.length).length ((numL ks ks.length).map (Value.int .i64)) ∧ Below w.heap.size w w' := by
  have HC := Lib.hid hc
  have HA := Lib.hid hca
  clear hc hca
  obtain ⟨i0, hi, hz0, hz1, hz2⟩ := info_parts info3
  go_enter Try.func10, Try.ntmps10
  go_wp2
  go_loopw [3, 4] (fun v i wr => ∃ k : Nat, k ≤ ks.length ∧ i = .int .i64 k ∧ wr.ownsRow w.heap.size 3 1 v (numL ks k).length ((numL ks k).map (Value.int .i64)) ∧ Below w.heap.size w wr)
    (fun _ i _ => ks.length - (intOf i).toNat)
  case atStart => exact ⟨0, Nat.zero_le _, rfl, World.ownsRow_nil _ _ _ _, Below.refl _ _⟩
  case round =>
    obtain ⟨k, hk, rfl, hown, hnx⟩ := hrel
    have hle := numL_le ks k
    have hsz := hnx.size
    have HX := Lib.hid hnx
    clear hnx
    by_cases hlt : k < ks.length
    · obtain ⟨b, off, rfl, hcell⟩ := (HC.out.below HX.out HA.out) k hlt
      cases hkk : ks.getD k false
      · rw [hkk] at hcell
        have HK := Lib.hid hkk
        have HO := Lib.hid hown
        clear hkk hown
        go_wp2
        go_roundw
        case rel => exact ⟨k + 1, by omega, by go_num, by rw [numL_no HK.out]; exact HO.out, HX.out⟩
        case measure => simp [intOf]; omega
      · rw [hkk] at hcell
        have HK := Lib.hid hkk
        clear hkk
        go_wp2_with (at_builtin; refine wpList_append_own _ rfl _ _ 32 rfl w.heap.size 3 i0 (.int .i64 0) 1 8 Try.underlying32 hi hz0 hz1 hz2 rfl (by decide) _ _ _ rfl (hown.alloc _) ⟨wr.heap.size, 0, none⟩ 1 1 [.int .i64 k] rfl rfl ?c1 ?c2 ?c3 ?c4 ?c5 ?_)
        case c1 =>
          intro j u hj
          match j, hj with
          | 0, hj => simp at hj; subst hj; simp [Addr.add]
        case c2 => intro u hu; simp at hu; subst hu; rfl
        case c3 => unfold maxLen; omega
        case c4 => omega
        case c5 => simp; omega
        intro v' w1 hown' hgrow _
        have hb1 : Below w.heap.size w w1 := (HX.out.alloc hsz _).grown hgrow (by simp; omega) (fun j hj => (hown.lt j hj).1)
        have hown2 : w1.ownsRow w.heap.size 3 1 v' (numL ks (k + 1)).length ((numL ks (k + 1)).map (Value.int .i64)) := by
          rw [numL_yes HK.out]; simpa using hown'
        have HO := Lib.hid hown2
        have HB := Lib.hid hb1
        clear hown' hgrow hown hown2 hb1
        go_wp2
        go_roundw
        case rel => exact ⟨k + 1, by omega, by go_num, HO.out, HB.out⟩
        case measure => simp [intOf]; omega
    · have hk4 : k = ks.length := by omega
      subst hk4
      have HO := Lib.hid hown
      clear hown
      go_wp2
      go_ret
      exact ⟨_, rfl, HO.out, HX.out⟩
end Go.Proofs.Ytbdjdkfjbbhoeaa
