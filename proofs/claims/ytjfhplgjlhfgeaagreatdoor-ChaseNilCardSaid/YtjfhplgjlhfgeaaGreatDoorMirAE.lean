/- The small machine against the model: values that are the same. No statement of the program stands here. -/
import Derived.Test.YtjfhplgjlhfgeaaGreatDoorMirAD
namespace Go.Mir
open Go Go.RowKit

theorem beq_of {a b : Nat} (h : Nat.beq a b = true) : a = b := Nat.eq_of_beq_eq_true h

theorem boolrec_eq {a b : Bool} (h : (Bool.rec (not b) b a : Bool) = true) : a = b := by
  cases a <;> cases b <;> first | rfl | cases h

theorem sameBase_eq {x y : Value} (h : sameBase x y = true) : x = y := by
  unfold sameBase at h
  split at h
  · rw [beq_of h]
  · rfl
  · rfl
  · rfl
  · have := Bool.and_eq_true_iff.1 h
    rw [beq_of this.1, beq_of this.2]
  · cases h

theorem sameB_eq {x y : V} (h : sameB x y = true) : x = y := by
  cases x <;> simp only [sameB] at h <;> cases y <;> simp only [Bool.false_eq_true] at h
  case int.int j a k b =>
    have := Bool.and_eq_true_iff.1 h
    rw [kno_inj this.1]
    rw [ieq_eq] at this
    rw [beq_iff_eq.1 this.2]
  case bool.bool a b => rw [boolrec_eq h]
  case str.str a b => rw [eqL_eq] at h; rw [beq_iff_eq.1 h]
  case ptr.ptr a b c d => have := Bool.and_eq_true_iff.1 h; rw [beq_of this.1, beq_of this.2]
  case slice.slice a b c e f g a' b' c' e' f' g' =>
    simp only [Bool.and_eq_true] at h
    obtain ⟨h1, h2, h3, h4, h5, h6⟩ := h
    rw [beq_of h1, beq_of h2, beq_of h3, boolrec_eq h4, beq_of h5, beq_of h6]
  case tail.tail a b c e f a' b' c' e' f' =>
    simp only [Bool.and_eq_true] at h
    obtain ⟨h1, h2, h3, h4, h5⟩ := h
    rw [beq_of h1, beq_of h2, beq_of h3, beq_of h4, beq_of h5]
  case map.map a b => rw [beq_of h]
  case yield.yield a b => rw [beq_of h]
  case base.base a b => rw [sameBase_eq h]

theorem sameL_eq : ∀ {a b : List V}, sameL a b = true → a = b
  | [], [], _ => rfl
  | [], _ :: _, h => by cases h
  | _ :: _, [], h => by cases h
  | x :: a, y :: b, h => by
    replace h : (Bool.rec false (sameL a b) (sameB x y) : Bool) = true := h
    cases hs : sameB x y with
    | false => rw [hs] at h; cases h
    | true => rw [hs] at h; rw [sameB_eq hs, sameL_eq h]

theorem sameV_eq {x y : V} (h : sameV x y = true) : x = y := by
  unfold sameV at h
  split at h
  · split at h
    · rw [sameL_eq h]
    · cases h
  · split at h
    · rw [sameL_eq h]
    · cases h
  · split at h
    · have h := Bool.and_eq_true_iff.1 h
      have h2 := Bool.and_eq_true_iff.1 h.2
      rw [beq_of h.1, sameL_eq h2.1, sameL_eq h2.2]
    · cases h
  · split at h
    · have h := Bool.and_eq_true_iff.1 h
      rw [beq_of h.1, sameB_eq h.2]
    · cases h
  · exact sameB_eq h

end Go.Mir
