/- Rounding to nearest is monotone, and keeps what a sticky bit tells. No condition. -/
import Derived.Test.YtbdjdkfjbbhoeaaFloatNan
namespace Ieee

/-- half up to even, over a full gap -/
def cutE (n drop : Nat) : Nat := n / 2 ^ drop + (decide (2 ^ drop < 2 * (n % 2 ^ drop)) || (2 ^ drop == 2 * (n % 2 ^ drop) && n / 2 ^ drop % 2 == 1)).toNat

theorem cut_eq (neg : Bool) (n drop : Nat) : Toward.even.cut neg n drop = cutE n drop := by
  unfold Toward.cut cutE
  simp only [Nat.one_shiftLeft]
  rcases Nat.le_total drop (n.log2 + 2) with h | h
  · rw [Nat.min_eq_left h]
  · rw [Nat.min_eq_right h]
    have h1 : n < 2 ^ (n.log2 + 1) := Nat.lt_log2_self
    have h2 : 2 ^ (n.log2 + 2) = 2 * 2 ^ (n.log2 + 1) := by rw [Nat.pow_succ]; omega
    have h3 : 2 ^ (n.log2 + 2) ≤ 2 ^ drop := Nat.pow_le_pow_right (by decide) h
    generalize 2 ^ (n.log2 + 1) = A at *
    generalize 2 ^ (n.log2 + 2) = C at *
    generalize 2 ^ drop = D at *
    have e1 : n / C = 0 := Nat.div_eq_of_lt (by omega)
    have e2 : n % C = n := Nat.mod_eq_of_lt (by omega)
    have e3 : n / D = 0 := Nat.div_eq_of_lt (by omega)
    have e4 : n % D = n := Nat.mod_eq_of_lt (by omega)
    rw [e1, e2, e3, e4]
    have d1 : decide (C < 2 * n) = false := by simp; omega
    have d2 : decide (D < 2 * n) = false := by simp; omega
    simp [d1, d2]

theorem toNat_le_one (b : Bool) : b.toNat ≤ 1 := by cases b <;> decide

/-- the rounding is what the doubled rest says -/
theorem cutE_spec (n drop : Nat) : (cutE n drop = n / 2 ^ drop ∧ 2 * (n % 2 ^ drop) ≤ 2 ^ drop ∧ (2 * (n % 2 ^ drop) = 2 ^ drop → n / 2 ^ drop % 2 = 0)) ∨
    (cutE n drop = n / 2 ^ drop + 1 ∧ 2 ^ drop ≤ 2 * (n % 2 ^ drop) ∧ (2 * (n % 2 ^ drop) = 2 ^ drop → n / 2 ^ drop % 2 = 1)) := by
  unfold cutE
  generalize n % 2 ^ drop = r
  generalize n / 2 ^ drop = l
  generalize 2 ^ drop = g
  rcases Nat.lt_trichotomy g (2 * r) with h | h | h
  · right
    rw [decide_eq_true h]
    exact ⟨rfl, by omega, by omega⟩
  · subst h
    have : decide (2 * r < 2 * r) = false := by simp
    rw [this]
    rcases Nat.mod_two_eq_zero_or_one l with h2 | h2
    · left; rw [h2]; simp
    · right; rw [h2]; simp
  · left
    have h1 : decide (g < 2 * r) = false := by simp; omega
    have h2 : (g == 2 * r) = false := by simp; omega
    rw [h1, h2]
    exact ⟨rfl, by omega, by omega⟩

theorem cutE_mono {a b drop : Nat} (h : a ≤ b) : cutE a drop ≤ cutE b drop := by
  have hg : 0 < 2 ^ drop := Nat.two_pow_pos _
  have ha := Nat.div_add_mod a (2 ^ drop)
  have hb := Nat.div_add_mod b (2 ^ drop)
  have hra := Nat.mod_lt a hg
  have hrb := Nat.mod_lt b hg
  have hd : a / 2 ^ drop ≤ b / 2 ^ drop := Nat.div_le_div_right h
  rcases Nat.lt_or_ge (a / 2 ^ drop) (b / 2 ^ drop) with hlt | hge
  · rcases cutE_spec a drop with ⟨h1, _⟩ | ⟨h1, _⟩ <;> rcases cutE_spec b drop with ⟨h2, _⟩ | ⟨h2, _⟩ <;> omega
  · have he : a / 2 ^ drop = b / 2 ^ drop := by omega
    have hr : a % 2 ^ drop ≤ b % 2 ^ drop := by rw [he] at ha; omega
    rcases cutE_spec a drop with ⟨h1, h1a, h1b⟩ | ⟨h1, h1a, h1b⟩ <;> rcases cutE_spec b drop with ⟨h2, h2a, h2b⟩ | ⟨h2, h2a, h2b⟩ <;> omega

theorem cutE_le {n drop k : Nat} (h : n ≤ k * 2 ^ drop) : cutE n drop ≤ k := by
  have hm := cutE_mono (drop := drop) h
  have : cutE (k * 2 ^ drop) drop = k := by
    unfold cutE
    rw [Nat.mul_mod_left, Nat.mul_div_cancel _ (Nat.two_pow_pos _)]
    simp
  omega
theorem le_cutE {n drop k : Nat} (h : k * 2 ^ drop ≤ n) : k ≤ cutE n drop := by
  have hm := cutE_mono (drop := drop) h
  have : cutE (k * 2 ^ drop) drop = k := by
    unfold cutE
    rw [Nat.mul_mod_left, Nat.mul_div_cancel _ (Nat.two_pow_pos _)]
    simp
  omega

/-- what is told of a rest, told in one bit -/
def st (n t : Nat) : Nat := 2 * (n / 2 ^ (t + 1)) + (n % 2 ^ (t + 1) != 0).toNat

theorem cutE_st (n t k : Nat) : cutE (st n t) (k + 2) = cutE n (k + 2 + t) := by
  have hG : 0 < 2 ^ (t + 1) := Nat.two_pow_pos _
  have hH : 0 < 2 ^ k := Nat.two_pow_pos _
  have e1 : 2 ^ (k + 2) = 4 * 2 ^ k := by rw [Nat.pow_add]; omega
  have e2 : 2 ^ (k + 2 + t) = 2 * (2 ^ (t + 1) * 2 ^ k) := by
    rw [show k + 2 + t = 1 + ((t + 1) + k) from by omega, Nat.pow_add, Nat.pow_add 2 (t + 1) k]
  unfold cutE st
  rw [e1, e2]
  generalize 2 ^ (t + 1) = G at *
  generalize 2 ^ k = H at *
  -- n = G * f + g; f = 2 * H * l + f'
  have hn := Nat.div_add_mod n G
  have hg := Nat.mod_lt n hG
  generalize n / G = f at *
  generalize n % G = g at *
  subst hn
  have hf := Nat.div_add_mod f (2 * H)
  have hf' := Nat.mod_lt f (show 0 < 2 * H by omega)
  generalize f / (2 * H) = l at *
  generalize f % (2 * H) = f' at *
  subst hf
  have hs : (g != 0).toNat ≤ 1 := toNat_le_one _
  have hs0 : (g != 0).toNat = 0 ↔ g = 0 := by cases h : (g != 0) <;> simp_all
  generalize (g != 0).toNat = s at *
  have a1 : 2 * (2 * H * l + f') + s = 4 * H * l + (2 * f' + s) := by
    rw [Nat.mul_add, ← Nat.mul_assoc, ← Nat.mul_assoc, show 2 * 2 * H = 4 * H from by omega]; omega
  have a2 : G * (2 * H * l + f') + g = 2 * (G * H) * l + (G * f' + g) := by
    rw [Nat.mul_add, ← Nat.mul_assoc, show G * (2 * H) = 2 * (G * H) from by rw [← Nat.mul_assoc, Nat.mul_comm G 2, Nat.mul_assoc]]; omega
  have b1 : 2 * f' + s < 4 * H := by omega
  have b2 : G * f' + g < 2 * (G * H) := by
    have : G * (f' + 1) ≤ G * (2 * H) := Nat.mul_le_mul_left G (by omega)
    rw [Nat.mul_add, Nat.mul_one] at this
    rw [show G * (2 * H) = 2 * (G * H) from by rw [← Nat.mul_assoc, Nat.mul_comm G 2, Nat.mul_assoc]] at this
    omega
  have c1 : (2 * (2 * H * l + f') + s) / (4 * H) = l := by
    rw [a1, Nat.mul_add_div (by omega), Nat.div_eq_of_lt b1]; omega
  have c2 : (G * (2 * H * l + f') + g) / (2 * (G * H)) = l := by
    have : 0 < G * H := Nat.mul_pos hG hH
    rw [a2, Nat.mul_add_div (by omega), Nat.div_eq_of_lt b2]; omega
  have d1 : (2 * (2 * H * l + f') + s) % (4 * H) = 2 * f' + s := by
    rw [a1, Nat.mul_add_mod, Nat.mod_eq_of_lt b1]
  have d2 : (G * (2 * H * l + f') + g) % (2 * (G * H)) = G * f' + g := by
    rw [a2, Nat.mul_add_mod, Nat.mod_eq_of_lt b2]
  rw [c1, c2, d1, d2]
  -- compare the rests
  have key : (4 * H < 2 * (2 * f' + s) ↔ 2 * (G * H) < 2 * (G * f' + g)) ∧ (4 * H = 2 * (2 * f' + s) ↔ 2 * (G * H) = 2 * (G * f' + g)) := by
    rcases Nat.lt_trichotomy f' H with h | h | h
    · have h1 : G * (f' + 1) ≤ G * H := Nat.mul_le_mul_left G h
      rw [Nat.mul_add, Nat.mul_one] at h1
      omega
    · subst h
      by_cases hg0 : g = 0
      · have := hs0.2 hg0; omega
      · have : s ≠ 0 := fun h => hg0 (hs0.1 h)
        omega
    · have h1 : G * (H + 1) ≤ G * f' := Nat.mul_le_mul_left G h
      rw [Nat.mul_add, Nat.mul_one] at h1
      omega
  have k1 : decide (4 * H < 2 * (2 * f' + s)) = decide (2 * (G * H) < 2 * (G * f' + g)) := decide_eq_decide.2 key.1
  have k2 : (4 * H == 2 * (2 * f' + s)) = (2 * (G * H) == 2 * (G * f' + g)) := by
    rw [Bool.eq_iff_iff, beq_iff_eq, beq_iff_eq]; exact key.2
  rw [k1, k2]

theorem cutE_scale (n t drop : Nat) : cutE (n * 2 ^ t) (drop + t) = cutE n drop := by
  unfold cutE
  have hT : 0 < 2 ^ t := Nat.two_pow_pos _
  have e : 2 ^ (drop + t) = 2 ^ drop * 2 ^ t := Nat.pow_add ..
  rw [e]
  generalize 2 ^ t = T at *
  generalize 2 ^ drop = D at *
  rw [Nat.mul_mod_mul_right, Nat.mul_div_mul_right _ _ hT, ← Nat.mul_assoc]
  generalize 2 * (n % D) = r
  have k1 : decide (D * T < r * T) = decide (D < r) := decide_eq_decide.2 (Nat.mul_lt_mul_right hT)
  have k2 : (D * T == r * T) = (D == r) := by
    rw [Bool.eq_iff_iff, beq_iff_eq, beq_iff_eq]
    exact ⟨fun h => Nat.eq_of_mul_eq_mul_right hT h, fun h => by rw [h]⟩
  rw [k1, k2]
theorem cutE_exact (k d : Nat) : cutE (k * 2 ^ d) d = k := by
  unfold cutE
  rw [Nat.mul_mod_left, Nat.mul_div_cancel _ (Nat.two_pow_pos _)]
  simp
theorem cutE_zero (n : Nat) : cutE n 0 = n := by
  have := cutE_exact n 0
  rwa [Nat.pow_zero, Nat.mul_one] at this

/-- the rung of the number nearest to n * 2 ^ p -/
def lastOf (n : Nat) (p : Int) : Int := max (p + n.log2 - 52) (-1074)
def keptOf (n : Nat) (p last : Int) : Nat := cutE (n * 2 ^ (p - last).toNat) (last - p).toNat
def cB : Nat := 4503599627370496
def cI : Nat := 9218868437227405312
theorem cB_eq : cB = 2 ^ 52 := by decide +kernel
theorem cB_eq2 : 2 * cB = 2 ^ 53 := by decide +kernel
def rnd (n : Nat) (p : Int) : Nat := if n = 0 then 0 else min ((lastOf n p + 1074).toNat * cB + keptOf n p (lastOf n p)) cI
theorem min_mono {a b : Nat} (c : Nat) (h : a ≤ b) : min a c ≤ min b c := by omega

theorem dbl_lp : double.leastPlace = -1074 := by decide +kernel
theorem nearest_eq (neg : Bool) (n : Nat) (p : Int) : double.nearest neg n p = double.word neg (rnd n p) := by
  unfold Format.nearest rnd
  by_cases h : n = 0
  · rw [if_pos h, if_pos h]
  · rw [if_neg h, if_neg h]
    simp only [cut_eq, dbl_lp, Go.dbl_bn, Go.dbl_ir, Nat.shiftLeft_eq]
    rfl

theorem log2_mono {a b : Nat} (h : a ≤ b) : a.log2 ≤ b.log2 := by
  by_cases ha : a = 0
  · subst ha; simp
  · by_cases hb : b = 0
    · omega
    · exact (Nat.le_log2 hb).2 (Nat.le_trans ((Nat.le_log2 ha).1 (Nat.le_refl _)) h)

theorem rnd_mono {a b : Nat} (p : Int) (h : a ≤ b) : rnd a p ≤ rnd b p := by
  unfold rnd
  by_cases ha : a = 0
  · rw [if_pos ha]; exact Nat.zero_le _
  · rw [if_neg ha, if_neg (by omega)]
    have hl := log2_mono h
    have hla : a < 2 ^ (a.log2 + 1) := Nat.lt_log2_self
    have hlb : 2 ^ b.log2 ≤ b := (Nat.le_log2 (by omega)).1 (Nat.le_refl _)
    refine min_mono _ ?_
    have hle : lastOf a p ≤ lastOf b p := by unfold lastOf; omega
    rcases Int.lt_or_eq_of_le hle with hlt | heq
    · have k1 : keptOf a p (lastOf a p) ≤ 2 * cB := by
        rw [cB_eq2]
        unfold keptOf
        refine cutE_le ?_
        have h1 : a * 2 ^ (p - lastOf a p).toNat ≤ 2 ^ (a.log2 + 1) * 2 ^ (p - lastOf a p).toNat := Nat.mul_le_mul_right _ (Nat.le_of_lt hla)
        rw [← Nat.pow_add] at h1
        rw [← Nat.pow_add]
        refine Nat.le_trans h1 (Nat.pow_le_pow_right (by decide) ?_)
        unfold lastOf
        omega
      have k2 : cB ≤ keptOf b p (lastOf b p) := by
        rw [cB_eq]
        unfold keptOf
        refine le_cutE ?_
        have h1 : 2 ^ b.log2 * 2 ^ (p - lastOf b p).toNat ≤ b * 2 ^ (p - lastOf b p).toNat := Nat.mul_le_mul_right _ hlb
        rw [← Nat.pow_add] at h1
        rw [← Nat.pow_add]
        refine Nat.le_trans (Nat.pow_le_pow_right (by decide) ?_) h1
        unfold lastOf at *
        omega
      have l1 : -1074 ≤ lastOf a p := by unfold lastOf; omega
      generalize lastOf a p = la at *
      generalize lastOf b p = lb at *
      generalize keptOf a p la = ka at *
      generalize keptOf b p lb = kb at *
      have h3 : (la + 1074).toNat + 1 ≤ (lb + 1074).toNat := by omega
      have h4 : ((la + 1074).toNat + 1) * cB ≤ (lb + 1074).toNat * cB := Nat.mul_le_mul_right _ h3
      rw [Nat.add_mul, Nat.one_mul] at h4
      generalize (la + 1074).toNat * cB = x at *
      generalize (lb + 1074).toNat * cB = y at *
      generalize cB = c at *
      omega
    · rw [← heq]
      have : keptOf a p (lastOf a p) ≤ keptOf b p (lastOf a p) := by
        unfold keptOf
        exact cutE_mono (Nat.mul_le_mul_right _ h)
      omega

theorem log2_mul_pow (n t : Nat) (h : n ≠ 0) : (n * 2 ^ t).log2 = n.log2 + t := by
  have hne : n * 2 ^ t ≠ 0 := Nat.mul_ne_zero h (Nat.ne_of_gt (Nat.two_pow_pos _))
  refine Nat.le_antisymm ?_ ?_
  · refine Nat.le_of_lt_succ ((Nat.log2_lt hne).2 ?_)
    have : n < 2 ^ (n.log2 + 1) := Nat.lt_log2_self
    rw [show (n.log2 + t).succ = (n.log2 + 1) + t from by omega, Nat.pow_add]
    exact Nat.mul_lt_mul_of_pos_right this (Nat.two_pow_pos _)
  · rw [Nat.le_log2 hne, Nat.pow_add]
    exact Nat.mul_le_mul_right _ ((Nat.le_log2 h).1 (Nat.le_refl _))

theorem rnd_scale (n t : Nat) (p : Int) : rnd (n * 2 ^ t) (p - t) = rnd n p := by
  unfold rnd
  by_cases h : n = 0
  · subst h; simp
  · have hne : n * 2 ^ t ≠ 0 := Nat.mul_ne_zero h (Nat.ne_of_gt (Nat.two_pow_pos _))
    rw [if_neg h, if_neg hne]
    have el : lastOf (n * 2 ^ t) (p - t) = lastOf n p := by
      unfold lastOf; rw [log2_mul_pow n t h]; congr 1; omega
    rw [el]
    have ek : keptOf (n * 2 ^ t) (p - t) (lastOf n p) = keptOf n p (lastOf n p) := by
      generalize lastOf n p = la
      unfold keptOf
      rcases Int.le_total la (p - t) with h1 | h1
      · rw [show (la - (p - t)).toNat = 0 from by omega, show (la - p).toNat = 0 from by omega, cutE_zero, cutE_zero, Nat.mul_assoc, ← Nat.pow_add, show t + (p - t - la).toNat = (p - la).toNat from by omega]
      · rcases Int.le_total p la with h2 | h2
        · rw [show (p - t - la).toNat = 0 from by omega, show (p - la).toNat = 0 from by omega, show (la - (p - t)).toNat = (la - p).toNat + t from by omega, Nat.pow_zero, Nat.mul_one, Nat.mul_one, cutE_scale]
        · rw [show (p - t - la).toNat = 0 from by omega, Nat.pow_zero, Nat.mul_one, show (la - p).toNat = 0 from by omega, cutE_zero]
          obtain ⟨d, hd⟩ : ∃ d, (la - (p - t)).toNat = d := ⟨_, rfl⟩
          have e3 : t = (p - la).toNat + d := by omega
          rw [hd]
          conv => lhs; rw [e3]
          rw [Nat.pow_add, ← Nat.mul_assoc, cutE_exact]
    rw [ek]
end Ieee
