/- The plain law of slices' stable sort, the rest: sorting by insertion, one element put into a sorted row, the searches. No program in sight. -/
set_option linter.unusedSimpArgs false
set_option linter.unusedVariables false
namespace Go.Srt
variable {α : Type}

/-- the same elements on [a, b), nothing else turned -/
def PermD (a b : Nat) (d d' : Nat → α) : Prop :=
  ∃ σ τ : Nat → Nat, (∀ i, τ (σ i) = i) ∧ (∀ i, σ (τ i) = i) ∧ (∀ i, (i < a ∨ b ≤ i) → σ i = i) ∧ ∀ i, d' i = d (σ i)

theorem PermD.refl (a b : Nat) (d : Nat → α) : PermD a b d d := ⟨id, id, fun _ => rfl, fun _ => rfl, fun _ _ => rfl, fun _ => rfl⟩

theorem PermD.trans {a b : Nat} {d d' d'' : Nat → α} (h : PermD a b d d') (k : PermD a b d' d'') : PermD a b d d'' := by
  obtain ⟨σ, τ, h1, h2, h3, h4⟩ := h
  obtain ⟨σ', τ', k1, k2, k3, k4⟩ := k
  exact ⟨fun i => σ (σ' i), fun i => τ' (τ i), fun i => by show τ' (τ (σ (σ' i))) = i; rw [h1, k1], fun i => by show σ (σ' (τ' (τ i))) = i; rw [k2, h2], fun i hi => by show σ (σ' i) = i; rw [k3 i hi, h3 i hi], fun i => by show d'' i = d (σ (σ' i)); rw [k4, h4]⟩

theorem PermD.mono {a b a' b' : Nat} {d d' : Nat → α} (h : PermD a b d d') (ha : a' ≤ a) (hb : b ≤ b') : PermD a' b' d d' := by
  obtain ⟨σ, τ, h1, h2, h3, h4⟩ := h
  exact ⟨σ, τ, h1, h2, fun i hi => h3 i (by omega), h4⟩

theorem PermD.out {a b : Nat} {d d' : Nat → α} (h : PermD a b d d') {i : Nat} (hi : i < a ∨ b ≤ i) : d' i = d i := by
  obtain ⟨σ, τ, h1, h2, h3, h4⟩ := h
  rw [h4, h3 i hi]

/-- what holds of all of [a, b) holds behind -/
theorem PermD.all {a b : Nat} {d d' : Nat → α} (h : PermD a b d d') {p : α → Prop} (hp : ∀ i, a ≤ i → i < b → p (d i)) : ∀ i, a ≤ i → i < b → p (d' i) := by
  obtain ⟨σ, τ, h1, h2, h3, h4⟩ := h
  intro i ha hb
  rw [h4]
  refine hp _ ?_ ?_
  · rcases Nat.lt_or_ge (σ i) a with hlt | hge
    · have := h3 (σ i) (.inl hlt)
      have h5 : σ i = i := by
        have := congrArg τ this
        rw [h1, h1] at this
        exact this
      omega
    · exact hge
  · rcases Nat.lt_or_ge (σ i) b with hlt | hge
    · exact hlt
    · have := h3 (σ i) (.inr hge)
      have h5 : σ i = i := by
        have := congrArg τ this
        rw [h1, h1] at this
        exact this
      omega

/-- two places changed -/
def swp (d : Nat → α) (i j : Nat) : Nat → α := fun k => if k = i then d j else if k = j then d i else d k

theorem swp_perm {a b i j : Nat} (d : Nat → α) (h1 : a ≤ i) (h2 : i < b) (h3 : a ≤ j) (h4 : j < b) : PermD a b d (swp d i j) := by
  let σ : Nat → Nat := fun k => if k = i then j else if k = j then i else k
  have hs : ∀ k, σ (σ k) = k := by
    intro k
    simp only [σ]
    by_cases e1 : k = i
    · subst e1
      by_cases e2 : j = k
      · simp [e2]
      · simp [e2]
    · by_cases e2 : k = j
      · subst e2; simp [e1]
      · simp [e1, e2]
  refine ⟨σ, σ, hs, hs, fun k hk => ?_, fun k => ?_⟩
  · simp only [σ]
    rw [if_neg (by omega), if_neg (by omega)]
  · simp only [σ, swp]
    by_cases e1 : k = i
    · rw [if_pos e1, if_pos e1]
    · by_cases e2 : k = j
      · rw [if_neg e1, if_pos e2, if_neg e1, if_pos e2]
      · rw [if_neg e1, if_neg e2, if_neg e1, if_neg e2]

/-- [a, m) and [m, b) change their places -/
def rotD (a m b : Nat) (d : Nat → α) : Nat → α := fun i => if i < a ∨ b ≤ i then d i else if i < a + (b - m) then d (i + (m - a)) else d (i - (b - m))

theorem rotD_perm {a m b : Nat} (d : Nat → α) (h1 : a ≤ m) (h2 : m ≤ b) : PermD a b d (rotD a m b d) := by
  refine ⟨fun i => if i < a ∨ b ≤ i then i else if i < a + (b - m) then i + (m - a) else i - (b - m), fun i => if i < a ∨ b ≤ i then i else if i < m then i + (b - m) else i - (m - a), fun i => ?_, fun i => ?_, fun i hi => if_pos hi, fun i => ?_⟩
  · by_cases c1 : i < a ∨ b ≤ i
    · simp only [if_pos c1]
    · simp only [if_neg c1]
      by_cases c2 : i < a + (b - m)
      · simp only [if_pos c2]
        rw [if_neg (by omega), if_neg (by omega)]; omega
      · simp only [if_neg c2]
        rw [if_neg (by omega), if_pos (by omega)]; omega
  · by_cases c1 : i < a ∨ b ≤ i
    · simp only [if_pos c1]
    · simp only [if_neg c1]
      by_cases c2 : i < m
      · simp only [if_pos c2]
        rw [if_neg (by omega), if_neg (by omega)]; omega
      · simp only [if_neg c2]
        rw [if_neg (by omega), if_pos (by omega)]; omega
  · simp only [rotD]
    by_cases c1 : i < a ∨ b ≤ i
    · simp only [if_pos c1]
    · simp only [if_neg c1]
      by_cases c2 : i < a + (b - m)
      · simp only [if_pos c2]
      · simp only [if_neg c2]

theorem rotD_left {a b : Nat} (d : Nat → α) : rotD a a b d = d := by
  funext i
  simp only [rotD]
  split
  · rfl
  · split
    · congr 1; omega
    · congr 1; omega

theorem rotD_right {a m : Nat} (d : Nat → α) : rotD a m m d = d := by
  funext i
  simp only [rotD]
  split
  · rfl
  · split
    · congr 1; omega
    · congr 1; omega

/-- n places from a on and n from b on change -/
def swrD (a b n : Nat) (d : Nat → α) : Nat → α := fun i => if a ≤ i ∧ i < a + n then d (i - a + b) else if b ≤ i ∧ i < b + n then d (i - b + a) else d i

theorem swrD_zero {a b : Nat} (d : Nat → α) : swrD a b 0 d = d := by
  funext i
  simp only [swrD]
  rw [if_neg (by omega), if_neg (by omega)]

theorem swrD_succ {a b n : Nat} (d : Nat → α) (h : a + n < b) : swrD a b (n + 1) d = swp (swrD a b n d) (a + n) (b + n) := by
  funext i
  simp only [swrD, swp]
  by_cases e1 : i = a + n
  · subst e1
    rw [if_pos (by omega), if_pos rfl, if_neg (by omega), if_neg (by omega)]
    congr 1; omega
  · rw [if_neg e1]
    by_cases e2 : i = b + n
    · subst e2
      rw [if_neg (by omega), if_pos (by omega), if_pos rfl, if_neg (by omega), if_neg (by omega)]
      congr 1; omega
    · rw [if_neg e2]
      by_cases c1 : a ≤ i ∧ i < a + n
      · rw [if_pos (by omega), if_pos c1]
      · rw [if_neg (by omega), if_neg c1]
        by_cases c2 : b ≤ i ∧ i < b + n
        · rw [if_pos (by omega), if_pos c2]
        · rw [if_neg (by omega), if_neg c2]

theorem swrD_perm {a b n lo hi : Nat} (d : Nat → α) (h : a + n ≤ b) (h1 : lo ≤ a) (h2 : b + n ≤ hi) : PermD lo hi d (swrD a b n d) := by
  induction n with
  | zero => rw [swrD_zero]; exact PermD.refl _ _ _
  | succ n ih =>
    rw [swrD_succ d (by omega)]
    exact (ih (by omega) (by omega)).trans (swp_perm _ (by omega) (by omega) (by omega) (by omega))

/-- the steps of the rotation's loop -/
theorem rot_gt {m i j : Nat} (d : Nat → α) (hi : i ≤ m) (h : j < i) : rotD (m - (i - j)) m (m + j) (swrD (m - i) m j d) = rotD (m - i) m (m + j) d := by
  funext x
  simp only [rotD, swrD]
  by_cases c1 : x < m - i ∨ m + j ≤ x
  · rw [if_pos c1, if_pos (by omega), if_neg (by omega), if_neg (by omega)]
  · rw [if_neg c1]
    by_cases c2 : x < m - i + (m + j - m)
    · rw [if_pos c2, if_pos (by omega), if_pos (by omega)]
      congr 1; omega
    · rw [if_neg c2, if_neg (by omega)]
      by_cases c3 : x < m - (i - j) + (m + j - m)
      · rw [if_pos c3, if_neg (by omega), if_pos (by omega)]
        congr 1; omega
      · rw [if_neg c3, if_neg (by omega), if_neg (by omega)]

theorem rot_lt {m i j : Nat} (d : Nat → α) (hi : i ≤ m) (h : i < j) : rotD (m - i) m (m + (j - i)) (swrD (m - i) (m + j - i) i d) = rotD (m - i) m (m + j) d := by
  funext x
  simp only [rotD, swrD]
  repeat' split
  all_goals first | rfl | (exfalso; omega) | (congr 1; omega)

theorem rot_eq {m i : Nat} (d : Nat → α) (hi : i ≤ m) : swrD (m - i) m i d = rotD (m - i) m (m + i) d := by
  funext x
  simp only [rotD, swrD]
  by_cases c1 : x < m - i ∨ m + i ≤ x
  · rw [if_pos c1, if_neg (by omega), if_neg (by omega)]
  · rw [if_neg c1]
    by_cases c2 : x < m - i + (m + i - m)
    · rw [if_pos c2, if_pos (by omega)]
      congr 1; omega
    · rw [if_neg c2, if_neg (by omega), if_pos (by omega)]
      congr 1; omega

/-- an order: 'le' is total and transitive; 'lt' is what is not the other way round -/
structure Ord (lt : α → α → Bool) : Prop where
  asym : ∀ x y, lt x y = true → lt y x = false
  ntrans : ∀ x y z, lt y x = false → lt z y = false → lt z x = false

def Sorted (lt : α → α → Bool) (a b : Nat) (d : Nat → α) : Prop := ∀ i j, a ≤ i → i < j → j < b → lt (d j) (d i) = false

variable {lt : α → α → Bool}

theorem Sorted.le (O : Ord lt) {a b : Nat} {d : Nat → α} (h : Sorted lt a b d) {i j : Nat} (h1 : a ≤ i) (h2 : i ≤ j) (h3 : j < b) : lt (d j) (d i) = false := by
  rcases Nat.lt_or_ge i j with h4 | h4
  · exact h i j h1 h4 h3
  · have : i = j := by omega
    subst this
    cases hh : lt (d i) (d i) with
    | false => rfl
    | true => have := O.asym _ _ hh; rw [hh] at this; cases this

/-- two sorted rows of which none of the second is less than one of the first -/
theorem Sorted.join {a m b : Nat} {d : Nat → α} (h1 : Sorted lt a m d) (h2 : Sorted lt m b d) (h : ∀ i j, a ≤ i → i < m → m ≤ j → j < b → lt (d j) (d i) = false) : Sorted lt a b d := by
  intro i j hi hij hj
  by_cases c1 : j < m
  · exact h1 i j hi hij c1
  · by_cases c2 : i < m
    · exact h i j hi c2 (by omega) hj
    · exact h2 i j (by omega) hij hj

theorem Sorted.congr {a b : Nat} {d d' : Nat → α} (h : Sorted lt a b d) (he : ∀ i, a ≤ i → i < b → d' i = d i) : Sorted lt a b d' := by
  intro i j h1 h2 h3
  rw [he i h1 (by omega), he j (by omega) h3]
  exact h i j h1 h2 h3

/-- what the merge's search finds: from s0 on to s the mirror is not less, from s on it is -/
structure Found (lt : α → α → Bool) (d : Nat → α) (p s0 s r0 : Nat) : Prop where
  lo : s0 ≤ s
  hi : s ≤ r0
  yes : ∀ c, s0 ≤ c → c < s → lt (d (p - c)) (d c) = false
  no : ∀ c, s ≤ c → c < r0 → lt (d (p - c)) (d c) = true

/-- where the search begins and ends -/
def s0 (a m b : Nat) : Nat := if (a + b) / 2 < m then (a + b) / 2 + m - b else a
def r0 (a m b : Nat) : Nat := if (a + b) / 2 < m then (a + b) / 2 else m

/-- the parts behind the rotation -/
theorem merge_cut (O : Ord lt) {a m b s : Nat} {d : Nat → α} (h1 : a ≤ m) (h2 : m ≤ b) (ha : Sorted lt a m d) (hb : Sorted lt m b d)
    (hf : Found lt d ((a + b) / 2 + m - 1) (s0 a m b) s (r0 a m b)) :
    let mid := (a + b) / 2
    let e := mid + m - s
    a ≤ s ∧ s ≤ m ∧ m ≤ e ∧ e ≤ b ∧ s ≤ mid ∧ mid ≤ e ∧
    Sorted lt a s (rotD s m e d) ∧ Sorted lt s mid (rotD s m e d) ∧ Sorted lt mid e (rotD s m e d) ∧ Sorted lt e b (rotD s m e d) ∧
    ∀ i j, a ≤ i → i < mid → mid ≤ j → j < b → lt (rotD s m e d j) (rotD s m e d i) = false := by
  intro mid e
  obtain ⟨f1, f2, f3, f4⟩ := hf
  have hmid : mid = (a + b) / 2 := rfl
  have he : e = mid + m - s := rfl
  have hs : a ≤ s ∧ s ≤ m ∧ m ≤ e ∧ e ≤ b ∧ s ≤ mid ∧ mid ≤ e := by
    unfold s0 at f1; unfold r0 at f2
    split at f1 <;> rename_i c <;> simp only [c, if_true, if_false] at f2 <;> omega
  obtain ⟨g1, g2, g3, g4, g5, g6⟩ := hs
  have x1 : ∀ i, i < s → rotD s m e d i = d i := fun i hi => by simp only [rotD]; rw [if_pos (.inl hi)]
  have x2 : ∀ i, s ≤ i → i < mid → rotD s m e d i = d (i + (m - s)) := fun i hi hj => by simp only [rotD]; rw [if_neg (by omega), if_pos (by omega)]
  have x3 : ∀ i, mid ≤ i → i < e → rotD s m e d i = d (i - (e - m)) := fun i hi hj => by simp only [rotD]; rw [if_neg (by omega), if_neg (by omega)]
  have x4 : ∀ i, e ≤ i → rotD s m e d i = d i := fun i hi => by simp only [rotD]; rw [if_pos (.inr hi)]
  refine ⟨g1, g2, g3, g4, g5, g6, ?_, ?_, ?_, ?_, ?_⟩
  · intro i j hi hij hj
    rw [x1 i (by omega), x1 j hj]
    exact ha i j hi hij (by omega)
  · intro i j hi hij hj
    rw [x2 i hi (by omega), x2 j (by omega) hj]
    exact hb _ _ (by omega) (by omega) (by omega)
  · intro i j hi hij hj
    rw [x3 i hi (by omega), x3 j (by omega) hj]
    exact ha _ _ (by omega) (by omega) (by omega)
  · intro i j hi hij hj
    rw [x4 i hi, x4 j (by omega)]
    exact hb i j (by omega) hij hj
  · intro i j hi hi2 hj hj2
    by_cases c1 : i < s
    · rw [x1 i c1]
      by_cases c2 : j < e
      · rw [x3 j hj c2]
        exact ha _ _ hi (by omega) (by omega)
      · rw [x4 j (by omega)]
        -- the last of the first row's head against the first of the second row's tail
        have hlt : s0 a m b < s := by
          rcases Nat.lt_or_ge (s0 a m b) s with h | h
          · exact h
          · exfalso
            unfold s0 at f1 h
            split at h <;> rename_i c <;> simp only [c, if_true, if_false] at f1 <;> omega
        have hq := f3 (s - 1) (by omega) (by omega)
        have hp : (a + b) / 2 + m - 1 - (s - 1) = e := by omega
        rw [hp] at hq
        have q1 := ha.le O (i := i) (j := s - 1) hi (by omega) (by omega)
        have q2 := hb.le O (i := e) (j := j) (by omega) (by omega) hj2
        exact O.ntrans _ _ _ (O.ntrans _ _ _ q1 hq) q2
    · rw [x2 i (by omega) hi2]
      by_cases c2 : j < e
      · rw [x3 j hj c2]
        have hlt : s < r0 a m b := by
          rcases Nat.lt_or_ge s (r0 a m b) with h | h
          · exact h
          · exfalso
            unfold r0 at f2 h
            split at h <;> rename_i c <;> simp only [c, if_true, if_false] at f2 <;> omega
        have hq := O.asym _ _ (f4 s (by omega) hlt)
        have hp : (a + b) / 2 + m - 1 - s = e - 1 := by omega
        rw [hp] at hq
        have q1 := hb.le O (i := i + (m - s)) (j := e - 1) (by omega) (by omega) (by omega)
        have q2 := ha.le O (i := s) (j := j - (e - m)) (by omega) (by omega) (by omega)
        exact O.ntrans _ _ _ (O.ntrans _ _ _ q1 hq) q2
      · rw [x4 j (by omega)]
        exact hb _ _ (by omega) (by omega) hj2

/-- THE MERGE: behind the rotation and the two lesser merges the whole is sorted -/
theorem merge_ok {a mid b : Nat} {d d1 d2 : Nat → α} (h1 : a ≤ mid) (h2 : mid ≤ b) (hc : ∀ i j, a ≤ i → i < mid → mid ≤ j → j < b → lt (d j) (d i) = false)
    (p1 : PermD a mid d d1) (s1 : Sorted lt a mid d1) (p2 : PermD mid b d1 d2) (s2 : Sorted lt mid b d2) : Sorted lt a b d2 := by
  refine Sorted.join (s1.congr fun i hi hi2 => p2.out (.inl hi2)) s2 fun i j hi hi2 hj hj2 => ?_
  rw [p2.out (.inl hi2)]
  have q1 : ∀ j, mid ≤ j → j < b → lt (d1 j) (d1 i) = false := fun j hj hj2 => by
    rw [p1.out (.inr hj)]
    exact p1.all (p := fun x => lt (d j) x = false) (fun k hk hk2 => hc k j hk hk2 hj hj2) i hi hi2
  exact p2.all (p := fun x => lt x (d1 i) = false) (fun k hk hk2 => q1 k hk hk2) j hj hj2

end Go.Srt
namespace Go.Srt
variable {α : Type} {lt : α → α → Bool}

/-- [a, i] is sorted but for place j -/
def InsI (lt : α → α → Bool) (a i j : Nat) (d : Nat → α) : Prop := ∀ p q, a ≤ p → p < q → q ≤ i → q ≠ j → lt (d q) (d p) = false

theorem ins_start {a i : Nat} {d : Nat → α} (h : Sorted lt a i d) : InsI lt a i i d := fun p q h1 h2 h3 h4 => h p q h1 h2 (by omega)

theorem ins_step (O : Ord lt) {a i j : Nat} {d : Nat → α} (h : InsI lt a i j d) (h1 : a < j) (h2 : j ≤ i) (h3 : lt (d j) (d (j - 1)) = true) : InsI lt a i (j - 1) (swp d j (j - 1)) := by
  intro p q hp hpq hq hne
  simp only [swp]
  by_cases e1 : q = j
  · rw [if_pos e1]
    by_cases e2 : p = j - 1
    · rw [if_neg (by omega), if_pos e2]; exact O.asym _ _ h3
    · rw [if_neg (by omega), if_neg e2]; exact h p (j - 1) hp (by omega) (by omega) (by omega)
  · rw [if_neg e1, if_neg hne]
    by_cases e2 : p = j
    · rw [if_pos e2]; exact h (j - 1) q (by omega) (by omega) hq e1
    · rw [if_neg e2]
      by_cases e3 : p = j - 1
      · rw [if_pos e3]; exact h j q (by omega) (by omega) hq e1
      · rw [if_neg e3]; exact h p q hp hpq hq e1

theorem ins_done (O : Ord lt) {a i j : Nat} {d : Nat → α} (h : InsI lt a i j d) (h1 : a ≤ j) (h2 : j ≤ i) (h3 : j = a ∨ lt (d j) (d (j - 1)) = false) : Sorted lt a (i + 1) d := by
  intro p q hp hpq hq
  by_cases e : q = j
  · subst e
    rcases h3 with h3 | h3
    · omega
    · by_cases e2 : p = q - 1
      · subst e2; exact h3
      · exact O.ntrans _ _ _ (h p (q - 1) hp (by omega) (by omega) (by omega)) h3
  · exact h p q hp hpq (by omega) e

theorem sorted_one {a b : Nat} {d : Nat → α} (h : b ≤ a + 1) : Sorted lt a b d := fun i j h1 h2 h3 => by omega

/-- a piece of the second row put ahead of a piece of the first -/
theorem rot_sorted {a s m e b : Nat} {d : Nat → α} (h1 : a ≤ s) (h2 : s ≤ m) (h3 : m ≤ e) (h4 : e ≤ b) (ha : Sorted lt a m d) (hb : Sorted lt m b d)
    (c1 : ∀ i j, a ≤ i → i < s → m ≤ j → j < e → lt (d j) (d i) = false)
    (c2 : ∀ i j, s ≤ i → i < m → m ≤ j → j < e → lt (d i) (d j) = false)
    (c3 : ∀ i j, a ≤ i → i < m → e ≤ j → j < b → lt (d j) (d i) = false) : Sorted lt a b (rotD s m e d) := by
  have x1 : ∀ i, i < s → rotD s m e d i = d i := fun i hi => by simp only [rotD]; rw [if_pos (.inl hi)]
  have x2 : ∀ i, s ≤ i → i < s + (e - m) → rotD s m e d i = d (i + (m - s)) := fun i hi hj => by simp only [rotD]; rw [if_neg (by omega), if_pos (by omega)]
  have x3 : ∀ i, s + (e - m) ≤ i → i < e → rotD s m e d i = d (i - (e - m)) := fun i hi hj => by simp only [rotD]; rw [if_neg (by omega), if_neg (by omega)]
  have x4 : ∀ i, e ≤ i → rotD s m e d i = d i := fun i hi => by simp only [rotD]; rw [if_pos (.inr hi)]
  intro i j hi hij hj
  by_cases i1 : i < s
  · rw [x1 i i1]
    by_cases j1 : j < s
    · rw [x1 j j1]; exact ha i j hi hij (by omega)
    · by_cases j2 : j < s + (e - m)
      · rw [x2 j (by omega) j2]; exact c1 _ _ hi i1 (by omega) (by omega)
      · by_cases j3 : j < e
        · rw [x3 j (by omega) j3]; exact ha _ _ hi (by omega) (by omega)
        · rw [x4 j (by omega)]; exact c3 _ _ hi (by omega) (by omega) hj
  · by_cases i2 : i < s + (e - m)
    · rw [x2 i (by omega) i2]
      by_cases j2 : j < s + (e - m)
      · rw [x2 j (by omega) j2]; exact hb _ _ (by omega) (by omega) (by omega)
      · by_cases j3 : j < e
        · rw [x3 j (by omega) j3]; exact c2 _ _ (by omega) (by omega) (by omega) (by omega)
        · rw [x4 j (by omega)]; exact hb _ _ (by omega) (by omega) hj
    · by_cases i3 : i < e
      · rw [x3 i (by omega) i3]
        by_cases j3 : j < e
        · rw [x3 j (by omega) j3]; exact ha _ _ (by omega) (by omega) (by omega)
        · rw [x4 j (by omega)]; exact c3 _ _ (by omega) (by omega) (by omega) hj
      · rw [x4 i (by omega), x4 j (by omega)]; exact hb _ _ (by omega) hij hj

/-- one element walks up -/
theorem walk_up {a k : Nat} (d : Nat → α) (h : a ≤ k) : swp (rotD a (a + 1) (k + 1) d) k (k + 1) = rotD a (a + 1) (k + 2) d := by
  funext i
  simp only [swp, rotD]
  repeat' split
  all_goals first | rfl | (exfalso; omega) | (congr 1; omega)
theorem walk_up0 {a : Nat} (d : Nat → α) : rotD a (a + 1) (a + 1) d = d := rotD_right d

/-- one element walks down -/
theorem walk_down {m k : Nat} (d : Nat → α) (h : k < m) : swp (rotD (k + 1) m (m + 1) d) (k + 1) k = rotD k m (m + 1) d := by
  funext i
  simp only [swp, rotD]
  repeat' split
  all_goals first | rfl | (exfalso; omega) | (congr 1; omega)
theorem walk_down0 {m : Nat} (d : Nat → α) : rotD m m (m + 1) d = d := rotD_left d

end Go.Srt
