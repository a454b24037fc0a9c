/- Which words are no number: quotients that have an answer are numbers, a drawn no-number is none. No condition. -/
import GoSem.Core.Float
import Derived.Test.YtbdjdkfjbbhoeaaFloatOrd
import GoSem.Core.Sem
namespace Go
open Ieee

theorem dbl : FloatKind.f64.format = double := rfl
theorem dbl_sw : double.signWeight = 9223372036854775808 := by decide +kernel
theorem dbl_ir : double.infRung = 9218868437227405312 := by decide +kernel
theorem dbl_bn : double.binade = 4503599627370496 := by decide +kernel

theorem read_isNaN (x : Nat) : (double.read x).isNaN = decide (9218868437227405312 < x % 9223372036854775808) := by
  unfold Format.read
  simp only [dbl_sw, dbl_ir, dbl_bn]
  generalize x % 9223372036854775808 = r
  split
  · rename_i h; simp [Datum.isNaN]; omega
  · split
    · rename_i h; simp [Datum.isNaN]; omega
    · split
      · rename_i h; simp [Datum.isNaN]; omega
      · rename_i h; simp [Datum.isNaN]; omega

theorem word_notNaN (neg : Bool) (r : Nat) (h : r ≤ 9218868437227405312) : (double.read (double.word neg r)).isNaN = false := by
  rw [read_isNaN]
  unfold Format.word
  rw [dbl_sw]
  cases neg <;> simp <;> omega

theorem nearest_notNaN (neg : Bool) (m : Nat) (p : Int) : (double.read (double.nearest neg m p)).isNaN = false := by
  unfold Format.nearest
  split
  · exact word_notNaN _ _ (by omega)
  · exact word_notNaN _ _ (by rw [dbl_ir]; omega)

theorem write_notNaN (d : Datum) (h : d.isNaN = false) : (double.read (double.write d)).isNaN = false := by
  cases d with
  | number s m p => exact nearest_notNaN s m p
  | infinity s => exact word_notNaN _ _ (by rw [dbl_ir]; omega)
  | nan s f => simp [Datum.isNaN] at h

theorem quotient_notNaN (k : Nat) (a b q : Datum) (h : Datum.quotient k a b = some q) : q.isNaN = false := by
  cases a <;> cases b <;> simp [Datum.quotient] at h
  · split at h
    · split at h
      · cases h
      · cases h; rfl
    · cases h; rfl
  · subst h; rfl
  · subst h; rfl

theorem div_notNaN (x d q : Nat) (h : double.div x d = some q) : (double.read q).isNaN = false := by
  unfold Format.div at h
  cases hq : Datum.quotient (double.fractionBits + 2) (double.read x) (double.read d) with
  | none => rw [hq] at h; cases h
  | some r => rw [hq] at h; cases h; exact write_notNaN r (quotient_notNaN _ _ _ _ hq)

theorem div_nan (x d : Nat) (h : (double.read x).isNaN = true) : double.div x d = none := by
  unfold Format.div
  cases hx : double.read x <;> rw [hx] at h <;> simp [Datum.isNaN] at h
  rfl

theorem order_nan (x : Nat) (h : (double.read x).isNaN = true) : double.order x x = none := by
  unfold Format.order
  cases hx : double.read x <;> rw [hx] at h <;> simp [Datum.isNaN] at h
  rfl

theorem nan_cut (x d t : Nat) : (double.read (Question.cut (.nanBits .f64 x d) t)).isNaN = true := by
  rw [read_isNaN]
  have h2 : t / 2 % (2 ^ 52 - 1) < 2 ^ 52 - 1 := Nat.mod_lt _ (by decide)
  have h3 : t % 2 = 0 ∨ t % 2 = 1 := by omega
  have e : Question.cut (.nanBits .f64 x d) t = (t % 2) * 2 ^ 63 + 0x7ff0000000000000 + 1 + (t / 2) % (2 ^ 52 - 1) := rfl
  rw [e]
  generalize t / 2 % (2 ^ 52 - 1) = u at *
  refine decide_eq_true ?_
  rcases h3 with h | h <;> rw [h] <;> omega
end Go
