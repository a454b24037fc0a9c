/- The order of binary floats: it is transitive and asymmetric where it is 'less'. No condition. -/
import Ieee.Arith
namespace Ieee

theorem signed_add (s : Bool) (m x e : Nat) : signed s m (x + e) = signed s m x * 2 ^ e := by
  unfold signed
  have h : m <<< (x + e) = (m <<< x) * 2 ^ e := by
    simp [Nat.shiftLeft_eq, Nat.pow_add, Nat.mul_assoc]
  rw [h]
  split
  · push_cast; rw [Int.neg_mul]
  · push_cast; rfl

/-- the number at a base below its place -/
def at_ (s : Bool) (m : Nat) (i b : Int) : Int := signed s m (i - b).toNat

theorem at_scale (s : Bool) (m : Nat) (i b c : Int) (h1 : c ≤ b) (h2 : b ≤ i) : at_ s m i c = at_ s m i b * 2 ^ (b - c).toNat := by
  unfold at_
  rw [show (i - c).toNat = (i - b).toNat + (b - c).toNat from by omega, signed_add]

theorem pow_pos_int (e : Nat) : (0 : Int) < 2 ^ e := Int.pow_pos (by decide)

theorem order_number (s t : Bool) (m n : Nat) (i j c : Int) (h1 : c ≤ i) (h2 : c ≤ j) :
    Datum.order (.number s m i) (.number t n j) = some (compare (at_ s m i c) (at_ t n j c)) := by
  have hb1 : min i j ≤ i := Int.min_le_left ..
  have hb2 : min i j ≤ j := Int.min_le_right ..
  have hc : c ≤ min i j := Int.le_min.2 ⟨h1, h2⟩
  show some (compare (at_ s m i (min i j)) (at_ t n j (min i j))) = _
  rw [at_scale s m i (min i j) c hc hb1, at_scale t n j (min i j) c hc hb2]
  have hp := pow_pos_int (min i j - c).toNat
  generalize (2 : Int) ^ (min i j - c).toNat = p at *
  generalize at_ s m i (min i j) = x
  generalize at_ t n j (min i j) = y
  congr 1
  rcases Int.lt_trichotomy x y with h | h | h
  · rw [Int.compare_eq_lt.2 h, Int.compare_eq_lt.2 (Int.mul_lt_mul_of_pos_right h hp)]
  · subst h; rw [Int.compare_eq_eq.2 rfl, Int.compare_eq_eq.2 rfl]
  · rw [Int.compare_eq_gt.2 h, Int.compare_eq_gt.2 (Int.mul_lt_mul_of_pos_right h hp)]

theorem order_self (d : Datum) : d.order d = if d.isNaN then none else some .eq := by
  cases d with
  | number s m i => rw [order_number s s m m i i i (Int.le_refl _) (Int.le_refl _), Int.compare_eq_eq.2 rfl]; rfl
  | infinity s => cases s <;> rfl
  | nan s f => rfl

theorem order_nan_left (d e : Datum) (h : d.isNaN = true) : d.order e = none := by
  cases d <;> simp_all [Datum.isNaN, Datum.order]
theorem order_nan_right (d e : Datum) (h : e.isNaN = true) : d.order e = none := by
  cases e <;> simp_all [Datum.isNaN]; cases d <;> simp [Datum.order]

/-- a rank of a datum that is a number: below -1: minus infinity; the base is common -/
theorem order_trans_lt {a b c : Datum} (h1 : a.order b = some .lt) (h2 : b.order c = some .lt) : a.order c = some .lt := by
  cases a with
  | nan s f => simp [Datum.order] at h1
  | infinity s =>
    cases b with
    | nan _ _ => simp [Datum.order] at h1
    | infinity t =>
      cases c with
      | nan _ _ => simp [Datum.order] at h2
      | infinity u => revert h1 h2; cases s <;> cases t <;> cases u <;> decide
      | number u k l => revert h1 h2; cases s <;> cases t <;> simp [Datum.order] <;> decide
    | number t n j =>
      cases c with
      | nan _ _ => simp [Datum.order] at h2
      | infinity u => revert h1 h2; cases s <;> cases u <;> simp [Datum.order] <;> decide
      | number u k l => revert h1; cases s <;> simp [Datum.order]
  | number s m i =>
    cases b with
    | nan _ _ => simp [Datum.order] at h1
    | infinity t =>
      cases c with
      | nan _ _ => simp [Datum.order] at h2
      | infinity u => revert h1 h2; cases t <;> cases u <;> simp [Datum.order] <;> decide
      | number u k l => revert h1 h2; cases t <;> simp [Datum.order]
    | number t n j =>
      cases c with
      | nan _ _ => simp [Datum.order] at h2
      | infinity u => revert h2; cases u <;> simp [Datum.order]
      | number u k l =>
        have hb : ∃ g : Int, g ≤ i ∧ g ≤ j ∧ g ≤ l := ⟨min i (min j l), by omega, by omega, by omega⟩
        obtain ⟨g, g1, g2, g3⟩ := hb
        rw [order_number s t m n i j g g1 g2, Option.some.injEq, Int.compare_eq_lt] at h1
        rw [order_number t u n k j l g g2 g3, Option.some.injEq, Int.compare_eq_lt] at h2
        rw [order_number s u m k i l g g1 g3, Option.some.injEq, Int.compare_eq_lt]
        omega

theorem order_asymm {a b : Datum} (h1 : a.order b = some .lt) : b.order a ≠ some .lt := by
  intro h2
  have h := order_trans_lt h1 h2
  rw [order_self] at h
  split at h <;> simp at h
end Ieee
