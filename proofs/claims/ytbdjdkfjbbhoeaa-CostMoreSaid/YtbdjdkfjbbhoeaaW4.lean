/- The walk of CostLess: it returns true for every three floats. No condition. -/
import Derived.Test.YtbdjdkfjbbhoeaaW3
namespace Go
open Ieee
theorem sub_notNaN (x d q : Nat) (h : double.sub x d = some q) : (double.read q).isNaN = false := by
  unfold Format.sub at h
  cases hq : Datum.sum (double.read x) (double.read d).opposite with
  | none => rw [hq] at h; cases h
  | some r =>
    rw [hq] at h; cases h
    refine write_notNaN r ?_
    generalize double.read x = a at hq
    generalize (double.read d).opposite = b at hq
    cases a <;> cases b <;> simp [Datum.sum] at hq
    · subst hq; rfl
    · subst hq; rfl
    · subst hq; rfl
    · obtain ⟨_, rfl⟩ := hq; rfl

theorem sub_nan (x d : Nat) (h : (double.read x).isNaN = true) : double.sub x d = none := by
  unfold Format.sub
  cases hx : double.read x <;> rw [hx] at h <;> simp [Datum.isNaN] at h
  rfl

theorem order_num (x : Nat) (h : (double.read x).isNaN = false) : double.order x x = some .eq := by
  unfold Format.order
  rw [order_self, if_neg (by simp [h])]

namespace Proofs.Ytbdjdkfjbbhoeaa
theorem lessB_irrefl (a : Nat) : lessB a a = false := by
  unfold lessB
  rw [dbl]
  unfold Format.order
  rw [order_self]
  split <;> rfl
theorem lessB_asymm {a b : Nat} (h : lessB a b = true) : lessB b a = false := by
  unfold lessB at *
  rw [dbl] at *
  unfold Format.order at *
  have h1 := eq_of_beq h
  exact beq_eq_false_iff_ne.2 (order_asymm h1)
theorem lessB_trans {a b c : Nat} (h : lessB a b = true) (h' : lessB b c = true) : lessB a c = true := by
  unfold lessB at *
  rw [dbl] at *
  unfold Format.order at *
  have h1 := eq_of_beq h
  have h2 := eq_of_beq h'
  rw [order_trans_lt h1 h2]; rfl
theorem pl_nan {x : Nat} (h : (FloatKind.f64.format.read x).isNaN = true) : pl x = 0 := by
  unfold pl; rw [dbl, order_nan x h]; rfl
end Proofs.Ytbdjdkfjbbhoeaa
end Go
namespace Go.Proofs.Ytbdjdkfjbbhoeaa
open Go.RowKit

theorem run_sub_none (t : TypeId) (x d : Nat) (h : FloatKind.f64.format.sub x d = none) (w : World) :
    (binOp .sub t (.float .f64 x) (.float .f64 d)).run Try.prog w = .ok (.float .f64 (Question.cut (.nanBits .f64 x d) (w.tape w.drawn (.nanBits .f64 x d)))) w.drew := by
  simp [binOp, Op.floatArith, h, choose, Sem.run, Question.forced]

theorem nan_neq (x d t : Nat) : (FloatKind.f64.format.order (Question.cut (.nanBits .f64 x d) t) (Question.cut (.nanBits .f64 x d) t) != some .eq) = true := by
  rw [dbl, order_nan _ (nan_cut x d t)]; rfl
theorem nan_less (x d t b : Nat) : (lessB (Question.cut (.nanBits .f64 x d) t) b == (FloatKind.f64.format.order 0 (pl b) == some .lt)) = true := by
  unfold lessB
  rw [pl_nan (nan_cut x d t)]; simp

set_option maxHeartbeats 1000000 in
theorem CostLess_f (a b c : Nat) (w : World) (hab : lessB a b = false) :
    Calls Try.prog 4 #[.float .f64 a, .float .f64 b, .float .f64 c] w fun e w' => e = .returned (.bool true) ∧ Below w.heap.size w w' := by
  have e1 : (FloatKind.f64.format.order (pl a) (pl b) == some .lt) = false := hab
  have hirr := lessB_irrefl a
  cases hn : (FloatKind.f64.format.read a).isNaN
  · cases hq : FloatKind.f64.format.sub a a with
    | none =>
      have HQ := run_sub_none 22 a a hq
      have hn1 := nan_neq a a
      have hn2 := fun t => nan_less a a t b
      have ha : (FloatKind.f64.format.order a a != some .eq) = false := by rw [dbl, order_num a hn]; rfl
      clear hq hn
      go_enter Try.func4, Try.ntmps4
      go_wp2_with (first | (go_at_call 11; refine (Plain_any _ _).mono ?_; rintro e w' ⟨rfl, rfl⟩) | (go_at_call 12; refine (less_any _ _ _).mono ?_; rintro e w' ⟨rfl, rfl⟩) | (go_at_call 6; refine (known_calls _).mono ?_; rintro e w1 ⟨rfl, HB⟩))
      go_ret
      exact ⟨rfl, ((Below.refl _ _).drew).trans HB⟩
    | some q =>
      have HQ := fun ww : World => run_float_arith (P := Try.prog) ww .sub 22 .f64 a a q hq
      have ha : (FloatKind.f64.format.order a a != some .eq) = false := by rw [dbl, order_num a hn]; rfl
      have hq2 : (FloatKind.f64.format.order q q != some .eq) = false := by rw [dbl, order_num q (sub_notNaN _ _ _ hq)]; rfl
      clear hq hn
      go_enter Try.func4, Try.ntmps4
      go_wp2_with (first | (go_at_call 11; refine (Plain_any _ _).mono ?_; rintro e w' ⟨rfl, rfl⟩) | (go_at_call 12; refine (less_any _ _ _).mono ?_; rintro e w' ⟨rfl, rfl⟩) | (go_at_call 6; refine (known_calls _).mono ?_; rintro e w1 ⟨rfl, HB⟩))
      go_ret
      exact ⟨rfl, HB⟩
  · have hq : FloatKind.f64.format.sub a a = none := sub_nan a a hn
    have HQ := run_sub_none 22 a a hq
    have hn2 := fun t => nan_less a a t b
    have ha : (FloatKind.f64.format.order a a != some .eq) = true := by rw [dbl, order_nan a hn]; rfl
    clear hq hn
    go_enter Try.func4, Try.ntmps4
    go_wp2_with (first | (go_at_call 11; refine (Plain_any _ _).mono ?_; rintro e w' ⟨rfl, rfl⟩) | (go_at_call 12; refine (less_any _ _ _).mono ?_; rintro e w' ⟨rfl, rfl⟩) | (go_at_call 6; refine (known_calls _).mono ?_; rintro e w1 ⟨rfl, HB⟩))
    go_ret
    exact ⟨rfl, ((Below.refl _ _).drew).trans HB⟩
set_option maxHeartbeats 1000000 in
theorem CostLess_tf (a b c : Nat) (w : World) (hab : lessB a b = true) (hba : lessB b a = false) (hbc : lessB b c = false) :
    Calls Try.prog 4 #[.float .f64 a, .float .f64 b, .float .f64 c] w fun e w' => e = .returned (.bool true) ∧ Below w.heap.size w w' := by
  have e1 : (FloatKind.f64.format.order (pl a) (pl b) == some .lt) = true := hab
  have hirr := lessB_irrefl a
  cases hn : (FloatKind.f64.format.read a).isNaN
  · cases hq : FloatKind.f64.format.sub a a with
    | none =>
      have HQ := run_sub_none 22 a a hq
      have hn1 := nan_neq a a
      have hn2 := fun t => nan_less a a t b
      have ha : (FloatKind.f64.format.order a a != some .eq) = false := by rw [dbl, order_num a hn]; rfl
      clear hq hn
      go_enter Try.func4, Try.ntmps4
      go_wp2_with (first | (go_at_call 11; refine (Plain_any _ _).mono ?_; rintro e w' ⟨rfl, rfl⟩) | (go_at_call 12; refine (less_any _ _ _).mono ?_; rintro e w' ⟨rfl, rfl⟩) | (go_at_call 6; refine (known_calls _).mono ?_; rintro e w1 ⟨rfl, HB⟩))
      go_ret
      exact ⟨rfl, ((Below.refl _ _).drew).trans HB⟩
    | some q =>
      have HQ := fun ww : World => run_float_arith (P := Try.prog) ww .sub 22 .f64 a a q hq
      have ha : (FloatKind.f64.format.order a a != some .eq) = false := by rw [dbl, order_num a hn]; rfl
      have hq2 : (FloatKind.f64.format.order q q != some .eq) = false := by rw [dbl, order_num q (sub_notNaN _ _ _ hq)]; rfl
      clear hq hn
      go_enter Try.func4, Try.ntmps4
      go_wp2_with (first | (go_at_call 11; refine (Plain_any _ _).mono ?_; rintro e w' ⟨rfl, rfl⟩) | (go_at_call 12; refine (less_any _ _ _).mono ?_; rintro e w' ⟨rfl, rfl⟩) | (go_at_call 6; refine (known_calls _).mono ?_; rintro e w1 ⟨rfl, HB⟩))
      go_ret
      exact ⟨rfl, HB⟩
  · have hq : FloatKind.f64.format.sub a a = none := sub_nan a a hn
    have HQ := run_sub_none 22 a a hq
    have hn2 := fun t => nan_less a a t b
    have ha : (FloatKind.f64.format.order a a != some .eq) = true := by rw [dbl, order_nan a hn]; rfl
    clear hq hn
    go_enter Try.func4, Try.ntmps4
    go_wp2_with (first | (go_at_call 11; refine (Plain_any _ _).mono ?_; rintro e w' ⟨rfl, rfl⟩) | (go_at_call 12; refine (less_any _ _ _).mono ?_; rintro e w' ⟨rfl, rfl⟩) | (go_at_call 6; refine (known_calls _).mono ?_; rintro e w1 ⟨rfl, HB⟩))
    go_ret
    exact ⟨rfl, ((Below.refl _ _).drew).trans HB⟩
set_option maxHeartbeats 1000000 in
theorem CostLess_tt (a b c : Nat) (w : World) (hab : lessB a b = true) (hba : lessB b a = false) (hbc : lessB b c = true) (hac : lessB a c = true) :
    Calls Try.prog 4 #[.float .f64 a, .float .f64 b, .float .f64 c] w fun e w' => e = .returned (.bool true) ∧ Below w.heap.size w w' := by
  have e1 : (FloatKind.f64.format.order (pl a) (pl b) == some .lt) = true := hab
  have hirr := lessB_irrefl a
  cases hn : (FloatKind.f64.format.read a).isNaN
  · cases hq : FloatKind.f64.format.sub a a with
    | none =>
      have HQ := run_sub_none 22 a a hq
      have hn1 := nan_neq a a
      have hn2 := fun t => nan_less a a t b
      have ha : (FloatKind.f64.format.order a a != some .eq) = false := by rw [dbl, order_num a hn]; rfl
      clear hq hn
      go_enter Try.func4, Try.ntmps4
      go_wp2_with (first | (go_at_call 11; refine (Plain_any _ _).mono ?_; rintro e w' ⟨rfl, rfl⟩) | (go_at_call 12; refine (less_any _ _ _).mono ?_; rintro e w' ⟨rfl, rfl⟩) | (go_at_call 6; refine (known_calls _).mono ?_; rintro e w1 ⟨rfl, HB⟩))
      go_ret
      exact ⟨rfl, ((Below.refl _ _).drew).trans HB⟩
    | some q =>
      have HQ := fun ww : World => run_float_arith (P := Try.prog) ww .sub 22 .f64 a a q hq
      have ha : (FloatKind.f64.format.order a a != some .eq) = false := by rw [dbl, order_num a hn]; rfl
      have hq2 : (FloatKind.f64.format.order q q != some .eq) = false := by rw [dbl, order_num q (sub_notNaN _ _ _ hq)]; rfl
      clear hq hn
      go_enter Try.func4, Try.ntmps4
      go_wp2_with (first | (go_at_call 11; refine (Plain_any _ _).mono ?_; rintro e w' ⟨rfl, rfl⟩) | (go_at_call 12; refine (less_any _ _ _).mono ?_; rintro e w' ⟨rfl, rfl⟩) | (go_at_call 6; refine (known_calls _).mono ?_; rintro e w1 ⟨rfl, HB⟩))
      go_ret
      exact ⟨rfl, HB⟩
  · have hq : FloatKind.f64.format.sub a a = none := sub_nan a a hn
    have HQ := run_sub_none 22 a a hq
    have hn2 := fun t => nan_less a a t b
    have ha : (FloatKind.f64.format.order a a != some .eq) = true := by rw [dbl, order_nan a hn]; rfl
    clear hq hn
    go_enter Try.func4, Try.ntmps4
    go_wp2_with (first | (go_at_call 11; refine (Plain_any _ _).mono ?_; rintro e w' ⟨rfl, rfl⟩) | (go_at_call 12; refine (less_any _ _ _).mono ?_; rintro e w' ⟨rfl, rfl⟩) | (go_at_call 6; refine (known_calls _).mono ?_; rintro e w1 ⟨rfl, HB⟩))
    go_ret
    exact ⟨rfl, ((Below.refl _ _).drew).trans HB⟩
theorem CostLess_calls (a b c : Nat) (w : World) :
    Calls Try.prog 4 #[.float .f64 a, .float .f64 b, .float .f64 c] w fun e w' => e = .returned (.bool true) ∧ Below w.heap.size w w' := by
  cases hab : lessB a b
  · exact CostLess_f a b c w hab
  · cases hbc : lessB b c
    · exact CostLess_tf a b c w hab (lessB_asymm hab) hbc
    · exact CostLess_tt a b c w hab (lessB_asymm hab) hbc (lessB_trans hab hbc)
end Go.Proofs.Ytbdjdkfjbbhoeaa
