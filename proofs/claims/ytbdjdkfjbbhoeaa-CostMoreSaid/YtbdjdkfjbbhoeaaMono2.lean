/- The rung of a quotient is monotone, and not above the dividend's where the divisor is 1 at least. Conditions in each theorem. -/
import Derived.Test.YtbdjdkfjbbhoeaaMono
namespace Ieee

theorem log2_of {n k : Nat} (h1 : 2 ^ k ≤ n) (h2 : n < 2 ^ (k + 1)) : n.log2 = k := by
  have hn : n ≠ 0 := by have := Nat.two_pow_pos k; omega
  refine Nat.le_antisymm ?_ ((Nat.le_log2 hn).2 h1)
  exact Nat.le_of_lt_succ ((Nat.log2_lt hn).2 h2)

theorem st_log2 (n t : Nat) (h : n / 2 ^ (t + 1) ≠ 0) : n.log2 = (st n t).log2 + t := by
  have hq1 : 2 ^ (n / 2 ^ (t + 1)).log2 ≤ n / 2 ^ (t + 1) := (Nat.le_log2 h).1 (Nat.le_refl _)
  have hq2 : n / 2 ^ (t + 1) < 2 ^ ((n / 2 ^ (t + 1)).log2 + 1) := Nat.lt_log2_self
  have hs : (n % 2 ^ (t + 1) != 0).toNat ≤ 1 := toNat_le_one _
  have e1 : (st n t).log2 = (n / 2 ^ (t + 1)).log2 + 1 := by
    unfold st
    generalize n / 2 ^ (t + 1) = q at *
    generalize (n % 2 ^ (t + 1) != 0).toNat = s at *
    refine log2_of ?_ ?_
    · rw [Nat.pow_succ]; omega
    · rw [Nat.pow_succ]; omega
  rw [e1]
  have hd := Nat.div_add_mod n (2 ^ (t + 1))
  have hm := Nat.mod_lt n (Nat.two_pow_pos (t + 1))
  generalize n / 2 ^ (t + 1) = q at *
  refine log2_of ?_ ?_
  · rw [show q.log2 + 1 + t = (t + 1) + q.log2 from by omega, Nat.pow_add]
    have := Nat.mul_le_mul_left (2 ^ (t + 1)) hq1
    omega
  · rw [show q.log2 + 1 + t + 1 = (t + 1) + (q.log2 + 1) from by omega, Nat.pow_add]
    have := Nat.mul_le_mul_left (2 ^ (t + 1)) (show q + 1 ≤ 2 ^ (q.log2 + 1) from hq2)
    rw [Nat.mul_add, Nat.mul_one] at this
    omega

theorem rnd_st (n t : Nat) (p : Int) (h : 54 ≤ (st n t).log2) : rnd (st n t) p = rnd n (p - t) := by
  have hq : n / 2 ^ (t + 1) ≠ 0 := by
    intro h0
    have : st n t ≤ 1 := by unfold st; rw [h0]; have := toNat_le_one (n % 2 ^ (t + 1) != 0); omega
    have h2 : (st n t).log2 ≤ 0 := by
      have h3 := log2_mono this
      have h4 : Nat.log2 1 = 0 := by decide +kernel
      omega
    omega
  have hs0 : st n t ≠ 0 := by intro h0; rw [h0] at h; simp at h
  have hn0 : n ≠ 0 := by intro h0; rw [h0] at hq; simp at hq
  have hl := st_log2 n t hq
  unfold rnd
  rw [if_neg hs0, if_neg hn0]
  have el : lastOf n (p - t) = lastOf (st n t) p := by unfold lastOf; rw [hl]; congr 1; omega
  rw [el]
  have hge : p + 2 ≤ lastOf (st n t) p := by unfold lastOf; omega
  have ek : keptOf n (p - t) (lastOf (st n t) p) = keptOf (st n t) p (lastOf (st n t) p) := by
    generalize lastOf (st n t) p = la at *
    unfold keptOf
    obtain ⟨k, hk⟩ : ∃ k : Nat, (la - p).toNat = k + 2 := ⟨(la - p).toNat - 2, by omega⟩
    rw [show (p - t - la).toNat = 0 from by omega, show (p - la).toNat = 0 from by omega, show (la - (p - t)).toNat = k + 2 + t from by omega, hk, Nat.pow_zero, Nat.mul_one, Nat.mul_one, cutE_st]
  rw [ek]

/-- a quotient to so many digits, and whether anything is left over -/
def quo (D n : Nat) : Nat := 2 * (D / n) + (D % n != 0).toNat

theorem quo_mono {a b n : Nat} (_hn : 0 < n) (h : a ≤ b) : quo a n ≤ quo b n := by
  unfold quo
  have hd : a / n ≤ b / n := Nat.div_le_div_right h
  have h1 := toNat_le_one (a % n != 0)
  rcases Nat.lt_or_ge (a / n) (b / n) with hlt | hge
  · omega
  · have he : a / n = b / n := by omega
    have ha := Nat.div_add_mod a n
    have hb := Nat.div_add_mod b n
    have hr : a % n ≤ b % n := by rw [he] at ha; omega
    have : (a % n != 0).toNat ≤ (b % n != 0).toNat := by
      by_cases h0 : a % n = 0
      · rw [h0]; exact Nat.zero_le _
      · have h2 : b % n ≠ 0 := by omega
        have e1 : (a % n != 0) = true := by simpa using h0
        have e2 : (b % n != 0) = true := by simpa using h2
        rw [e1, e2]; exact Nat.le_refl _
    omega

theorem quo_le {D n T : Nat} (hn : 0 < n) (h : D ≤ T * n) : quo D n ≤ 2 * T := by
  have := quo_mono hn h
  unfold quo at this ⊢
  rw [Nat.mul_div_cancel _ hn, Nat.mul_mod_left] at this
  simpa using this

theorem st_quo (D n t : Nat) (hn : 0 < n) : st (quo (D * 2 ^ t) n) t = quo D n := by
  have hT : 0 < 2 ^ t := Nat.two_pow_pos _
  have e1 : 2 ^ (t + 1) = 2 * 2 ^ t := by rw [Nat.pow_succ]; omega
  unfold st
  rw [e1]
  generalize 2 ^ t = T at *
  have hb := toNat_le_one (D * T % n != 0)
  have hb0 : (D * T % n != 0).toNat = 0 ↔ D * T % n = 0 := by cases h : (D * T % n != 0) <;> simp_all
  have q1 : quo (D * T) n / (2 * T) = D / n := by
    unfold quo
    rw [← Nat.div_div_eq_div_mul, show (2 * (D * T / n) + (D * T % n != 0).toNat) / 2 = D * T / n from by omega, Nat.div_div_eq_div_mul, Nat.mul_div_mul_right _ _ hT]
  have hdm := Nat.div_add_mod (quo (D * T) n) (2 * T)
  have hD := Nat.div_add_mod D n
  have hDT := Nat.div_add_mod (D * T) n
  have r1 : quo (D * T) n % (2 * T) = 0 ↔ D % n = 0 := by
    constructor
    · intro h0
      rw [h0, q1, Nat.add_zero] at hdm
      have hq : quo (D * T) n = 2 * (D * T / n) + (D * T % n != 0).toNat := rfl
      rw [← hdm] at hq
      have hz : (D * T % n != 0).toNat = 0 := by
        have : 2 * T * (D / n) = 2 * (T * (D / n)) := Nat.mul_assoc ..
        omega
      have hz2 := hb0.1 hz
      have hf : D * T / n = T * (D / n) := by
        have : 2 * T * (D / n) = 2 * (T * (D / n)) := Nat.mul_assoc ..
        omega
      rw [hz2, hf, Nat.add_zero] at hDT
      have h3 : n * (D / n) * T = D * T := by rw [← hDT]; ac_rfl
      have h4 : n * (D / n) = D := Nat.eq_of_mul_eq_mul_right hT h3
      omega
    · intro h0
      rw [h0, Nat.add_zero] at hD
      have h5 : D * T = n * (D / n * T) := by rw [← Nat.mul_assoc, hD]
      unfold quo
      rw [h5, Nat.mul_mod_right, Nat.mul_div_cancel_left _ hn, show 2 * (D / n * T) = (2 * T) * (D / n) from by ac_rfl]
      simp
  unfold quo at *
  rw [q1]
  congr 2
  rw [Bool.eq_iff_iff, bne_iff_ne, bne_iff_ne, ne_eq, ne_eq, r1]

theorem quo_log2 {D n : Nat} (hn : n ≠ 0) (h : 2 ^ (54 + n.log2) ≤ D) : 54 ≤ (quo D n).log2 := by
  have h1 : n < 2 ^ (n.log2 + 1) := Nat.lt_log2_self
  have h2 : 2 ^ 53 * n ≤ D := by
    have := Nat.mul_le_mul_left (2 ^ 53) (Nat.le_of_lt h1)
    rw [← Nat.pow_add, show 53 + (n.log2 + 1) = 54 + n.log2 from by omega] at this
    omega
  have h3 : 2 ^ 53 ≤ D / n := (Nat.le_div_iff_mul_le (by omega)).2 h2
  have h4 : 2 ^ 54 ≤ quo D n := by unfold quo; have : 2 ^ 54 = 2 * 2 ^ 53 := rfl; omega
  exact (Nat.le_log2 (by intro h0; rw [h0] at h4; exact absurd h4 (by decide))).2 h4

/-- the rung of a quotient -/
def qr (m : Nat) (i : Int) (n : Nat) (j : Int) : Nat := rnd (quo (m * 2 ^ (54 + n.log2 - m.log2)) n) (i - j - (54 + n.log2 - m.log2 : Nat) - 1)

theorem qr_fine (m : Nat) (i : Int) (n : Nat) (j : Int) (t : Nat) (hm : m ≠ 0) (hm53 : m.log2 ≤ 54) (hn : n ≠ 0) :
    qr m i n j = rnd (quo (m * 2 ^ (54 + n.log2 - m.log2 + t)) n) (i - j - (54 + n.log2 - m.log2 : Nat) - 1 - t) := by
  unfold qr
  rw [Nat.pow_add, ← Nat.mul_assoc]
  have hq := st_quo (m * 2 ^ (54 + n.log2 - m.log2)) n t (by omega)
  have hl : 54 ≤ (st (quo (m * 2 ^ (54 + n.log2 - m.log2) * 2 ^ t) n) t).log2 := by
    rw [hq]
    refine quo_log2 hn ?_
    have h1 : 2 ^ m.log2 ≤ m := (Nat.le_log2 hm).1 (Nat.le_refl _)
    have h2 := Nat.mul_le_mul_right (2 ^ (54 + n.log2 - m.log2)) h1
    rw [← Nat.pow_add, show m.log2 + (54 + n.log2 - m.log2) = 54 + n.log2 from by omega] at h2
    exact h2
  rw [← rnd_st _ _ _ hl, hq]

def vle (m1 : Nat) (i1 : Int) (m2 : Nat) (i2 : Int) : Prop := ∀ c : Int, c ≤ i1 → c ≤ i2 → m1 * 2 ^ (i1 - c).toNat ≤ m2 * 2 ^ (i2 - c).toNat

theorem qr_mono {m1 m2 : Nat} {i1 i2 : Int} {n : Nat} {j : Int} (h1 : m1.log2 ≤ 54) (h2 : m2.log2 ≤ 54) (hn : n ≠ 0) (h : vle m1 i1 m2 i2) : qr m1 i1 n j ≤ qr m2 i2 n j := by
  by_cases z1 : m1 = 0
  · subst z1
    unfold qr quo
    simp [rnd]
  · have z2 : m2 ≠ 0 := by
      intro h0
      have := h (min i1 i2) (by omega) (by omega)
      rw [h0, Nat.zero_mul] at this
      have : 0 < m1 * 2 ^ (i1 - min i1 i2).toNat := Nat.mul_pos (by omega) (Nat.two_pow_pos _)
      omega
    obtain ⟨a1, ha1⟩ : ∃ a, 54 + n.log2 - m1.log2 = a := ⟨_, rfl⟩
    obtain ⟨a2, ha2⟩ : ∃ a, 54 + n.log2 - m2.log2 = a := ⟨_, rfl⟩
    obtain ⟨c, hc⟩ : ∃ c : Int, c = min (i1 - a1) (i2 - a2) := ⟨_, rfl⟩
    have f1 := qr_fine m1 i1 n j (i1 - a1 - c).toNat z1 h1 hn
    have f2 := qr_fine m2 i2 n j (i2 - a2 - c).toNat z2 h2 hn
    rw [ha1] at f1
    rw [ha2] at f2
    rw [f1, f2]
    have e1 : i1 - j - (a1 : Nat) - 1 - ((i1 - a1 - c).toNat : Nat) = c - j - 1 := by omega
    have e2 : i2 - j - (a2 : Nat) - 1 - ((i2 - a2 - c).toNat : Nat) = c - j - 1 := by omega
    rw [e1, e2]
    refine rnd_mono _ (quo_mono (by omega) ?_)
    have := h c (by omega) (by omega)
    rw [show a1 + (i1 - a1 - c).toNat = (i1 - c).toNat from by omega, show a2 + (i2 - a2 - c).toNat = (i2 - c).toNat from by omega]
    exact this

theorem qr_self {m : Nat} {i : Int} {n : Nat} {j : Int} (h1 : m.log2 ≤ 52) (h2 : n.log2 ≤ 52) (hj : -1074 ≤ j) (hn : n ≠ 0) (h : vle 1 0 n j) : qr m i n j ≤ rnd m i := by
  unfold qr
  obtain ⟨a, ha⟩ : ∃ a, 54 + n.log2 - m.log2 = a := ⟨_, rfl⟩
  rw [ha]
  have hnl : n < 2 ^ (n.log2 + 1) := Nat.lt_log2_self
  have hj2 : -(n.log2 : Int) ≤ j := by
    rcases Int.le_total (-(n.log2 : Int)) j with h3 | h3
    · exact h3
    · have h4 := h j (by omega) (Int.le_refl _)
      rw [Nat.one_mul, Int.sub_self, show (0 - j).toNat = (-j).toNat from by omega] at h4
      simp only [Int.toNat_zero, Nat.pow_zero, Nat.mul_one] at h4
      have h5 : 2 ^ (-j).toNat < 2 ^ (n.log2 + 1) := Nat.lt_of_le_of_lt h4 hnl
      have h6 := (Nat.pow_lt_pow_iff_right (by decide)).1 h5
      omega
  obtain ⟨e, he⟩ : ∃ e : Nat, (e : Int) = a + j := ⟨(a + j).toNat, by omega⟩
  have hD : m * 2 ^ a ≤ (m * 2 ^ e) * n := by
    rw [Nat.mul_assoc]
    refine Nat.mul_le_mul_left m ?_
    have h4 := h (-(a : Int)) (by omega) (by omega)
    rw [Nat.one_mul, show (0 - -(a : Int)).toNat = a from by omega, show (j - -(a : Int)).toNat = e from by omega, Nat.mul_comm] at h4
    exact h4
  have hq := quo_le (by omega) hD
  have e3 : 2 * (m * 2 ^ e) = m * 2 ^ (e + 1) := by rw [Nat.pow_succ]; ac_rfl
  rw [e3] at hq
  refine Nat.le_trans (rnd_mono _ hq) ?_
  rw [show i - j - (a : Nat) - 1 = i - ((e + 1 : Nat) : Int) from by omega, rnd_scale]
  exact Nat.le_refl _
end Ieee
