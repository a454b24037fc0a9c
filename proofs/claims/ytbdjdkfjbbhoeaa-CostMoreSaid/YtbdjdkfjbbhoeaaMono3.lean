/- With more that is known no size is greater. Conditions: a count from 0 on, distinct numbers from 1 on, at most 2^50. -/
import Derived.Test.YtbdjdkfjbbhoeaaMono2
import Derived.Test.YtbdjdkfjbbhoeaaW7
namespace Ieee

def mOf (r : Nat) : Nat := if r < cB then r else cB + r % cB
def iOf (r : Nat) : Int := if r < cB then -1074 else -1074 + (r / cB - 1 : Nat)

theorem cB_pos : 0 < cB := by decide +kernel
theorem cB_lt : cB < cI := by decide +kernel
theorem dbl_cB : double.binade = cB := by decide +kernel
theorem dbl_cI : double.infRung = cI := by decide +kernel
theorem cI_sw : cI < 9223372036854775808 := by decide +kernel

theorem read_rung (w : Nat) (h : w % 9223372036854775808 < cI) : double.read w = .number (w / 9223372036854775808 % 2 == 1) (mOf (w % 9223372036854775808)) (iOf (w % 9223372036854775808)) := by
  unfold Format.read mOf iOf
  simp only [Go.dbl_sw, dbl_cI, dbl_cB, dbl_lp]
  generalize w % 9223372036854775808 = r at *
  by_cases h1 : r < cB
  · simp [h1]
  · simp [h1, h]

theorem word_mod (s : Bool) (r : Nat) (h : r < cI) : double.word s r % 9223372036854775808 = r := by
  have := cI_sw
  unfold Format.word
  rw [Go.dbl_sw]
  cases s <;> simp <;> omega
theorem word_sign (s : Bool) (r : Nat) (h : r < cI) : (double.word s r / 9223372036854775808 % 2 == 1) = s := by
  have := cI_sw
  unfold Format.word
  rw [Go.dbl_sw]
  cases s
  · have : r / 9223372036854775808 = 0 := Nat.div_eq_of_lt (by omega)
    simp [this]
  · have : (9223372036854775808 + r) / 9223372036854775808 = 1 := by omega
    simp [this]

theorem mOf_lt (r : Nat) : mOf r < 2 * cB := by
  unfold mOf
  have := Nat.mod_lt r cB_pos
  split <;> omega
theorem mOf_log2 (r : Nat) : (mOf r).log2 ≤ 52 := by
  by_cases h : mOf r = 0
  · rw [h]; simp
  · have := mOf_lt r
    rw [cB_eq2] at this
    exact Nat.le_of_lt_succ ((Nat.log2_lt h).2 this)
theorem iOf_ge (r : Nat) : -1074 ≤ iOf r := by unfold iOf; split <;> omega

theorem rnd_exact (r : Nat) (h : r < cI) : rnd (mOf r) (iOf r) = r := by
  unfold rnd
  by_cases h1 : r < cB
  · have e1 : mOf r = r := by unfold mOf; rw [if_pos h1]
    have e2 : iOf r = -1074 := by unfold iOf; rw [if_pos h1]
    rw [e1, e2]
    by_cases h0 : r = 0
    · rw [if_pos h0, h0]
    · rw [if_neg h0]
      have hl : r.log2 ≤ 51 := by
        rw [cB_eq] at h1
        exact Nat.le_of_lt_succ ((Nat.log2_lt h0).2 h1)
      have el : lastOf r (-1074) = -1074 := by unfold lastOf; omega
      rw [el]
      have ek : keptOf r (-1074) (-1074) = r := by unfold keptOf; simp [cutE_zero]
      rw [ek]
      simp
      omega
  · have e1 : mOf r = cB + r % cB := by unfold mOf; rw [if_neg h1]
    have e2 : iOf r = -1074 + (r / cB - 1 : Nat) := by unfold iOf; rw [if_neg h1]
    have hm := Nat.mod_lt r cB_pos
    have hp := cB_pos
    have hl : (mOf r).log2 = 52 := by
      refine log2_of ?_ ?_
      · rw [← cB_eq, e1]; omega
      · rw [show 52 + 1 = 53 from rfl, ← cB_eq2]; exact mOf_lt r
    have hne : mOf r ≠ 0 := by rw [e1]; omega
    rw [if_neg hne]
    have el : lastOf (mOf r) (iOf r) = iOf r := by unfold lastOf; rw [hl, e2]; omega
    rw [el]
    have ek : keptOf (mOf r) (iOf r) (iOf r) = mOf r := by unfold keptOf; simp [cutE_zero]
    rw [ek, e1, e2, show (-1074 + ((r / cB - 1 : Nat) : Int) + 1074).toNat = r / cB - 1 from by omega]
    have hd := Nat.div_add_mod r cB
    have hq : 1 ≤ r / cB := (Nat.le_div_iff_mul_le hp).2 (by omega)
    have e3 : (r / cB - 1) * cB + cB = cB * (r / cB) := by
      rw [← Nat.succ_mul, show (r / cB - 1).succ = r / cB from by omega, Nat.mul_comm]
    generalize cB * (r / cB) = x at *
    generalize (r / cB - 1) * cB = y at *
    omega

theorem vle_rung {r1 r2 : Nat} (h : r1 ≤ r2) : vle (mOf r1) (iOf r1) (mOf r2) (iOf r2) := by
  intro c h1 h2
  by_cases b2 : r2 < cB
  · have b1 : r1 < cB := by omega
    unfold mOf iOf
    rw [if_pos b1, if_pos b2, if_pos b1, if_pos b2]
    exact Nat.mul_le_mul_right _ h
  · have m2 : cB ≤ mOf r2 := by unfold mOf; rw [if_neg b2]; omega
    by_cases b1 : r1 < cB
    · have e1 : iOf r1 = -1074 := by unfold iOf; rw [if_pos b1]
      have e3 : mOf r1 = r1 := by unfold mOf; rw [if_pos b1]
      have g2 := iOf_ge r2
      refine Nat.mul_le_mul (by omega) (Nat.pow_le_pow_right (by decide) (by omega))
    · have hd : r1 / cB ≤ r2 / cB := Nat.div_le_div_right h
      have e1 : iOf r1 = -1074 + (r1 / cB - 1 : Nat) := by unfold iOf; rw [if_neg b1]
      have e2 : iOf r2 = -1074 + (r2 / cB - 1 : Nat) := by unfold iOf; rw [if_neg b2]
      have hq1 : 1 ≤ r1 / cB := (Nat.le_div_iff_mul_le cB_pos).2 (by omega)
      rcases Nat.lt_or_ge (r1 / cB) (r2 / cB) with hlt | hge
      · have m1 := mOf_lt r1
        have h3 : (iOf r1 - c).toNat + 1 ≤ (iOf r2 - c).toNat := by omega
        calc mOf r1 * 2 ^ (iOf r1 - c).toNat ≤ (2 * cB) * 2 ^ (iOf r1 - c).toNat := Nat.mul_le_mul_right _ (Nat.le_of_lt m1)
          _ = cB * 2 ^ ((iOf r1 - c).toNat + 1) := by rw [Nat.pow_succ]; ac_rfl
          _ ≤ mOf r2 * 2 ^ (iOf r2 - c).toNat := Nat.mul_le_mul m2 (Nat.pow_le_pow_right (by decide) h3)
      · have he : r1 / cB = r2 / cB := by omega
        have hi : iOf r1 = iOf r2 := by rw [e1, e2, he]
        have d1 := Nat.div_add_mod r1 cB
        have d2 := Nat.div_add_mod r2 cB
        rw [hi]
        refine Nat.mul_le_mul_right _ ?_
        unfold mOf
        rw [if_neg b1, if_neg b2]
        rw [he] at d1
        omega

/-- a number that is not below 0 -/
structure NN (w r : Nat) : Prop where
  mod : w % 9223372036854775808 = r
  fin : r < cI
  sign : (w / 9223372036854775808 % 2 == 1) = true → r = 0

theorem NN.read {w r : Nat} (h : NN w r) : double.read w = .number (w / 9223372036854775808 % 2 == 1) (mOf r) (iOf r) := by
  rw [← h.mod]; exact read_rung w (by rw [h.mod]; exact h.fin)

theorem mOf_zero : mOf 0 = 0 := by unfold mOf; rw [if_pos cB_pos]

/-- a divisor that is 1 at least -/
structure DD (d n : Nat) (j : Int) : Prop where
  read : double.read d = .number false n j
  ne : n ≠ 0
  log : n.log2 ≤ 52
  place : -1074 ≤ j
  one : vle 1 0 n j

theorem div_NN {w r d n : Nat} {j : Int} (h : NN w r) (hd : DD d n j) : ∃ q, double.div w d = some q ∧ NN q (qr (mOf r) (iOf r) n j) := by
  have hle : qr (mOf r) (iOf r) n j ≤ r := by
    have := qr_self (m := mOf r) (i := iOf r) (mOf_log2 r) hd.log hd.place hd.ne hd.one
    rwa [rnd_exact r h.fin] at this
  have hfin : qr (mOf r) (iOf r) n j < cI := Nat.lt_of_le_of_lt hle h.fin
  unfold Format.div
  rw [h.read, hd.read]
  unfold Datum.quotient
  simp only [if_neg hd.ne, Option.map_some]
  refine ⟨_, rfl, ?_⟩
  unfold Format.write
  dsimp only
  rw [nearest_eq]
  have e : rnd (2 * (mOf r <<< (double.fractionBits + 2 + n.log2 - (mOf r).log2) / n) + (mOf r <<< (double.fractionBits + 2 + n.log2 - (mOf r).log2) % n != 0).toNat) (iOf r - j - ((double.fractionBits + 2 + n.log2 - (mOf r).log2 : Nat) : Int) - 1) = qr (mOf r) (iOf r) n j := by
    unfold qr quo
    rw [Nat.shiftLeft_eq]
    rfl
  rw [e]
  refine ⟨word_mod _ _ hfin, hfin, fun hs => ?_⟩
  rw [word_sign _ _ hfin] at hs
  have : r = 0 := h.sign (by simpa using hs)
  omega

theorem order_NN {w r w' r' : Nat} (h : NN w r) (h' : NN w' r') (hle : r' ≤ r) : (double.order w w' == some Ordering.lt) = false := by
  unfold Format.order
  rw [h.read, h'.read, order_number _ _ _ _ _ _ (-1074) (iOf_ge r) (iOf_ge r')]
  have hs : ∀ (s : Bool) (m : Nat) (i : Int), (s = true → m = 0) → at_ s m i (-1074) = ((m * 2 ^ (i - -1074).toNat : Nat) : Int) := by
    intro s m i hz
    unfold at_ signed
    cases s
    · simp [Nat.shiftLeft_eq]
    · rw [hz rfl]; simp
  rw [hs _ _ _ (fun hh => by rw [h.sign hh, mOf_zero]), hs _ _ _ (fun hh => by rw [h'.sign hh, mOf_zero])]
  have hv := vle_rung hle (-1074) (iOf_ge _) (iOf_ge _)
  refine beq_eq_false_iff_ne.2 fun hc => ?_
  rw [Option.some.injEq, Int.compare_eq_lt] at hc
  omega

theorem vle_of {m1 m2 : Nat} {i1 i2 c0 : Int} (h1 : c0 ≤ i1) (h2 : c0 ≤ i2) (h : m1 * 2 ^ (i1 - c0).toNat ≤ m2 * 2 ^ (i2 - c0).toNat) : vle m1 i1 m2 i2 := by
  intro c g1 g2
  rcases Int.le_total c c0 with hc | hc
  · have := Nat.mul_le_mul_right (2 ^ (c0 - c).toNat) h
    rw [Nat.mul_assoc, Nat.mul_assoc, ← Nat.pow_add, ← Nat.pow_add, show (i1 - c0).toNat + (c0 - c).toNat = (i1 - c).toNat from by omega, show (i2 - c0).toNat + (c0 - c).toNat = (i2 - c).toNat from by omega] at this
    exact this
  · refine Nat.le_of_mul_le_mul_right (c := 2 ^ (c - c0).toNat) ?_ (Nat.two_pow_pos _)
    rw [Nat.mul_assoc, Nat.mul_assoc, ← Nat.pow_add, ← Nat.pow_add, show (i1 - c).toNat + (c - c0).toNat = (i1 - c0).toNat from by omega, show (i2 - c).toNat + (c - c0).toNat = (i2 - c0).toNat from by omega]
    exact h

theorem read_cases (w : Nat) : (w % 9223372036854775808 < cI ∧ double.read w = .number (w / 9223372036854775808 % 2 == 1) (mOf (w % 9223372036854775808)) (iOf (w % 9223372036854775808))) ∨
    (∃ s, double.read w = .infinity s) ∨ (double.read w).isNaN = true := by
  by_cases h : w % 9223372036854775808 < cI
  · exact .inl ⟨h, read_rung w h⟩
  · right
    have := cB_lt
    unfold Format.read
    simp only [Go.dbl_sw, dbl_cI, dbl_cB, dbl_lp]
    generalize w % 9223372036854775808 = r at *
    rw [if_neg (by omega), if_neg h]
    split
    · exact .inl ⟨_, rfl⟩
    · exact .inr rfl

theorem mOf_eq_zero {r : Nat} (h : mOf r = 0) : r = 0 := by
  unfold mOf at h
  have := cB_pos
  split at h <;> omega

theorem big_read : double.read 4832362400168542208 = .number false cB (-2) := by decide +kernel
theorem one_read : double.read 4607182418800017408 = .number false cB (-52) := by decide +kernel
theorem zero_read : double.read 0 = .number false 0 (-1074) := by decide +kernel

theorem finite_of {w : Nat} (h1 : (double.order w 4832362400168542208 == some Ordering.lt || double.order w 4832362400168542208 == some Ordering.eq) = true)
    (h2 : double.read w ≠ .infinity true) :
    w % 9223372036854775808 < cI ∧ double.read w = .number (w / 9223372036854775808 % 2 == 1) (mOf (w % 9223372036854775808)) (iOf (w % 9223372036854775808)) := by
  rcases read_cases w with h | ⟨s, h⟩ | h
  · exact h
  · exfalso
    cases s
    · unfold Format.order at h1
      rw [h, big_read] at h1
      revert h1; decide
    · exact h2 h
  · exfalso
    unfold Format.order at h1
    rw [order_nan_left _ _ h] at h1
    revert h1; decide

/-- from the tests of the law -/
theorem NN_of {w : Nat} (h0 : (double.order w 0 == some Ordering.gt || double.order w 0 == some Ordering.eq) = true) (h1 : (double.order w 4832362400168542208 == some Ordering.lt || double.order w 4832362400168542208 == some Ordering.eq) = true) :
    NN w (w % 9223372036854775808) := by
  have hi : double.read w ≠ .infinity true := by
    intro h
    unfold Format.order at h0
    rw [h, zero_read] at h0
    revert h0; decide
  obtain ⟨hr, hw⟩ := finite_of h1 hi
  refine ⟨rfl, hr, fun hs => ?_⟩
  unfold Format.order at h0
  rw [hw, zero_read, order_number _ _ _ _ _ _ (-1074) (iOf_ge _) (by decide)] at h0
  rw [hs] at h0
  have e : at_ false 0 (-1074) (-1074) = 0 := by decide
  rw [e] at h0
  unfold at_ signed at h0
  rw [if_pos rfl, Nat.shiftLeft_eq] at h0
  refine mOf_eq_zero ?_
  generalize mOf (w % 9223372036854775808) = m at *
  have hp : 0 < 2 ^ (iOf (w % 9223372036854775808) - -1074).toNat := Nat.two_pow_pos _
  generalize 2 ^ (iOf (w % 9223372036854775808) - -1074).toNat = p at *
  have hle : m * p = 0 := by
    rcases Nat.eq_zero_or_pos (m * p) with h | h
    · exact h
    · exfalso
      have : compare (-((m * p : Nat) : Int)) 0 = .lt := Int.compare_eq_lt.2 (by omega)
      rw [this] at h0
      revert h0; decide
  rcases Nat.mul_eq_zero.1 hle with h | h <;> omega

theorem DD_of {w : Nat} (h0 : (double.order w 4607182418800017408 == some Ordering.gt || double.order w 4607182418800017408 == some Ordering.eq) = true) (h1 : (double.order w 4832362400168542208 == some Ordering.lt || double.order w 4832362400168542208 == some Ordering.eq) = true) :
    ∃ n j, DD w n j := by
  have hi : double.read w ≠ .infinity true := by
    intro h
    unfold Format.order at h0
    rw [h, one_read] at h0
    revert h0; decide
  obtain ⟨hr, hw⟩ := finite_of h1 hi
  unfold Format.order at h0
  generalize hr' : w % 9223372036854775808 = r at *
  obtain ⟨c, hc⟩ : ∃ c : Int, c = min (iOf r) (-52) := ⟨_, rfl⟩
  have hc1 : c ≤ iOf r := by omega
  have hc2 : c ≤ -52 := by omega
  rw [hw, one_read, order_number _ _ _ _ _ _ c hc1 hc2] at h0
  obtain ⟨e1, he1⟩ : ∃ e, (-52 - c).toNat = e := ⟨_, rfl⟩
  obtain ⟨e2, he2⟩ : ∃ e, (iOf r - c).toNat = e := ⟨_, rfl⟩
  have hpos : 0 < cB * 2 ^ e1 := Nat.mul_pos cB_pos (Nat.two_pow_pos _)
  unfold at_ signed at h0
  rw [he1, he2, if_neg (show ¬ (false = true) by decide), Nat.shiftLeft_eq, Nat.shiftLeft_eq] at h0
  cases hs : (w / 9223372036854775808 % 2 == 1)
  · rw [hs] at h0 hw
    rw [if_neg (by decide)] at h0
    have hge : cB * 2 ^ e1 ≤ mOf r * 2 ^ e2 := by
      generalize cB * 2 ^ e1 = x at *
      generalize mOf r * 2 ^ e2 = y at *
      rcases Nat.lt_or_ge y x with h | h
      · exfalso
        rw [Int.compare_eq_lt.2 (by omega)] at h0
        revert h0; decide
      · exact h
    have hv : vle cB (-52) (mOf r) (iOf r) := vle_of (c0 := c) hc2 hc1 (by rw [he1, he2]; exact hge)
    refine ⟨_, _, hw, ?_, mOf_log2 _, iOf_ge _, ?_⟩
    · intro h0
      rw [h0, Nat.zero_mul] at hge
      omega
    · refine vle_of (c0 := c) (by omega) hc1 ?_
      rw [he2]
      refine Nat.le_trans ?_ hge
      rw [cB_eq, ← Nat.pow_add, Nat.one_mul]
      exact Nat.pow_le_pow_right (by decide) (by omega)
  · exfalso
    rw [hs] at h0
    rw [if_pos rfl] at h0
    generalize cB * 2 ^ e1 = x at *
    generalize mOf r * 2 ^ e2 = y at *
    rw [Int.compare_eq_lt.2 (by omega)] at h0
    revert h0; decide
end Ieee

namespace Go.Proofs.Ytbdjdkfjbbhoeaa
open Ieee
/-- with more that is known -/
theorem knB_mono {a b : List Bool} (h : ∀ i, a.getD i false = true → b.getD i false = true) {v : Int} (hk : knB a v = true) : knB b v = true := h _ hk

theorem tst_mono {vs : List Int} {a b : List Bool} (h : ∀ i, a.getD i false = true → b.getD i false = true) {k : Nat} (hk : tst vs a k = true) : tst vs b k = true := by
  unfold tst at *
  rw [Bool.and_eq_true, Bool.or_eq_true] at *
  exact ⟨hk.1, hk.2.imp (knB_mono h) id⟩

theorem stp_more {vs : List Int} {ds : List Nat} {a b : List Bool} (h : ∀ i, a.getD i false = true → b.getD i false = true) {x0 : Nat} (hx : NN x0 (x0 % 9223372036854775808))
    (hd : ∀ k, k < 3 → ∃ n j, DD (ds.getD k 0) n j) : ∀ k, k ≤ 3 → ∃ wx rx wy ry, stp vs ds a k (iniO x0) = some wx ∧ stp vs ds b k (iniO x0) = some wy ∧ NN wx rx ∧ NN wy ry ∧ ry ≤ rx
  | 0, _ => by
    have hn : (FloatKind.f64.format.read x0).isNaN = false := by rw [dbl, hx.read]; rfl
    have e : iniO x0 = some x0 := by unfold iniO; rw [hn]; rfl
    exact ⟨x0, _, x0, _, e, e, hx, hx, Nat.le_refl _⟩
  | k + 1, hk => by
    obtain ⟨wx, rx, wy, ry, ex, ey, nx, ny, hle⟩ := stp_more h hx hd k (by omega)
    obtain ⟨n, j, hdd⟩ := hd k (by omega)
    obtain ⟨qx, hqx, hnx⟩ := div_NN nx hdd
    obtain ⟨qy, hqy, hny⟩ := div_NN ny hdd
    have hself : qr (mOf ry) (iOf ry) n j ≤ ry := by
      have := qr_self (m := mOf ry) (i := iOf ry) (mOf_log2 ry) hdd.log hdd.place hdd.ne hdd.one
      rwa [rnd_exact ry ny.fin] at this
    have hmono : qr (mOf ry) (iOf ry) n j ≤ qr (mOf rx) (iOf rx) n j :=
      qr_mono (Nat.le_trans (mOf_log2 _) (by decide)) (Nat.le_trans (mOf_log2 _) (by decide)) hdd.ne (vle_rung hle)
    cases ta : tst vs a k
    · cases tb : tst vs b k
      · exact ⟨wx, rx, wy, ry, by rw [stp_no ta, ex], by rw [stp_no tb, ey], nx, ny, hle⟩
      · exact ⟨wx, rx, qy, _, by rw [stp_no ta, ex], by rw [stp_yes rfl tb, ey]; exact hqy, nx, hny, Nat.le_trans hself hle⟩
    · have tb := tst_mono h ta
      exact ⟨qx, _, qy, _, by rw [stp_yes rfl ta, ex]; exact hqx, by rw [stp_yes rfl tb, ey]; exact hqy, hnx, hny, hmono⟩

theorem pl_num {x : Nat} (h : (FloatKind.f64.format.read x).isNaN = false) : pl x = x := by
  unfold pl; rw [dbl] at *; rw [order_num x h]; rfl

theorem cost_more {vs : List Int} {ds : List Nat} {a b : List Bool} (h : ∀ i, a.getD i false = true → b.getD i false = true) {x0 : Nat} (hx : NN x0 (x0 % 9223372036854775808))
    (hd : ∀ k, k < 3 → ∃ n j, DD (ds.getD k 0) n j) : lessB (szB x0 vs ds a) (szB x0 vs ds b) = false := by
  obtain ⟨wx, rx, wy, ry, ex, ey, nx, ny, hle⟩ := stp_more (vs := vs) h hx hd 3 (Nat.le_refl _)
  unfold szB fin lessB
  rw [ex, ey, Option.getD_some, Option.getD_some, pl_num (by rw [dbl, nx.read]; rfl), pl_num (by rw [dbl, ny.read]; rfl), dbl]
  exact order_NN nx ny hle
end Go.Proofs.Ytbdjdkfjbbhoeaa
