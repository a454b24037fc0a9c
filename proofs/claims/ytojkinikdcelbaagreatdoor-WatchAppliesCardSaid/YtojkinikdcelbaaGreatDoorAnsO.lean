/- Walks: slices.symMergeCmpFunc over rows. -/
import Derived.Test.YtojkinikdcelbaaGreatDoorAnsH
set_option linter.unusedSimpArgs false
set_option linter.unusedVariables false
set_option linter.defProp false
namespace Go.Mir
open Go Go.Proofs Go.Srt
set_option maxRecDepth 4000
set_option maxHeartbeats 1000000

theorem RowsIn.get {h : T O} {n : Nat} {v : V} {ls : List (List Tm)} (R : RowsIn h n v ls) {i : Nat} (hi : i < ls.length) : ∃ id off ex k lo r, v = .slice id off ls.length ex k lo ∧ ls.length ≤ lo ∧ id < n ∧
    (∀ (h' : T O), h'.get id = h.get id → ∀ (kk : V → Out), cellAt h' id (off + i) kk = kk r) ∧ RowIn h n r (ls.getD i []) := by
  obtain ⟨h1, g, S, hr⟩ := R
  generalize hL : ls.length = L at S
  cases S with
  | nil => omega
  | tail => omega
  | slice id off len ex k lo hlo C =>
    exact ⟨id, off, ex, k, lo, g i, rfl, hlo, h1 id rfl, fun h' hh kk => (C.keep hh).at (by omega) rfl, hr i (by omega)⟩

/-- one more row -/
noncomputable def putR (once : Bool) (x : List Tm) (l : List (List Tm)) : List (List Tm) := if once then insOnce cmpR x l else ins cmpR x l

theorem putR_eq (once : Bool) (x : List Tm) (l : List (List Tm)) : putR once x l = l ∨ putR once x l = l.take (pos cmpR x l) ++ x :: l.drop (pos cmpR x l) := by
  unfold putR
  cases once with
  | true =>
    rw [if_pos rfl, insOnce_pos]
    split
    · exact .inl rfl
    · exact .inr rfl
  | false => rw [if_neg (by simp), ins_pos]; exact .inr rfl

theorem putR_len (once : Bool) (x : List Tm) (l : List (List Tm)) : (putR once x l).length ≤ l.length + 1 := by
  have := pos_le cmpR x l
  rcases putR_eq once x l with e | e <;> rw [e]
  · omega
  · simp; omega
theorem putR_mem (once : Bool) (x : List Tm) (l : List (List Tm)) {y : List Tm} (hy : y ∈ putR once x l) : y = x ∨ y ∈ l := by
  rcases putR_eq once x l with e | e <;> rw [e] at hy
  · exact .inr hy
  · rcases List.mem_append.1 hy with h | h
    · exact .inr (List.mem_of_mem_take h)
    · rcases List.mem_cons.1 h with h | h
      · exact .inl h
      · exact .inr (List.mem_of_mem_drop h)
theorem small_iff {ls : List (List Tm)} : Small ls ↔ ∀ y ∈ ls, y.length ≤ 1000000 := by
  constructor
  · intro h y hy
    obtain ⟨i, hi, rfl⟩ := List.getElem_of_mem hy
    have := h i hi
    rwa [List.getD_eq_getElem?_getD, List.getElem?_eq_getElem hi] at this
  · intro h i hi
    rw [List.getD_eq_getElem?_getD, List.getElem?_eq_getElem hi]
    exact h _ (List.getElem_mem hi)

/-- rows, by the reference's Sort -/
theorem sort20_ok {h : T O} {n : Nat} {va : V} {la : List (List Tm)} (ha : RowsIn h n va la) (hn : la.length ≤ 900) (hs : Small la) :
    Fn env1 26 [va] h n (fun v h' n' => OutAt h' n n' v (la.foldl (fun acc x => putR false x acc) []) ∧ Gro h n h' n') := by
  refine Fn.mk fn26 rfl fz26 (by simp) fun Q cs K => ?_
  have l_len : ∀ {h' : T O} {e : Nat} {k : V → Out}, lenIn h' (.slice e) va k = k (.int .i64 (la.length : Int)) := by
    intro h' e k; have := ha.rows
    obtain ⟨g, S, _⟩ := this
    generalize la.length = L at S ⊢
    cases S with
    | nil => exact lenIn_nil
    | tail => exact lenIn_tail
    | slice => exact lenIn_slice
  simp (maxSteps := 2000000) (disch := first | omega | assumption) only [↓mCode, ↓mOps, mAll, seval, vPtr, ite_ne, wrap_i64, boundN_int, e1_tys, e1_fns, fn26, Tryz.f26, l_len]
  refine W_loop (fun m regs h' n' => ∃ (i : Nat) (acc : V), m = la.length - i ∧ i ≤ la.length ∧ regs.get 0 = some va ∧ regs.get 3 = some acc ∧ regs.get 4 = some (.int .i64 (i : Int)) ∧
    OutAt h' n n' acc ((la.take i).foldl (fun acc x => putR false x acc) []) ∧ ((la.take i).foldl (fun acc x => putR false x acc) []).length ≤ i ∧ Small ((la.take i).foldl (fun acc x => putR false x acc) []) ∧ Gro h n h' n')
    _ ⟨0, _, rfl, by omega, ?_, ?_, ?_, .inl ⟨rfl, rfl⟩, Nat.le_refl _, fun i hi => absurd hi (by simp), Gro.refl h n⟩ ?_
  · simp (maxSteps := 2000000) (disch := first | omega | assumption) only [↓mCode, ↓mOps, mAll, seval, vPtr, ite_ne, wrap_i64, boundN_int, e1_tys]
  · simp (maxSteps := 2000000) (disch := first | omega | assumption) only [↓mCode, ↓mOps, mAll, seval, vPtr, ite_ne, wrap_i64, boundN_int, e1_tys]
  · simp (maxSteps := 2000000) (disch := first | omega | assumption) only [↓mCode, ↓mOps, mAll, seval, vPtr, ite_ne, wrap_i64, boundN_int, e1_tys]
  rintro m regs h' n' ⟨i, acc, rfl, hi, r0, r3, r4, O1, O2, O3, G⟩ IH
  by_cases c1 : i < la.length
  · have c1' : (i : Int) < (la.length : Int) := by omega
    obtain ⟨ida, ofa, exa, ka, loa, ra, hvl, hloa, hida, hca, hra⟩ := ha.get c1
    have hca := hca h' (G.2 ida hida)
    simp (maxSteps := 2000000) (disch := first | omega | assumption) only [↓mCode, ↓mOps, mAll, seval, vPtr, ite_ne, wrap_i64, boundN_int, e1_tys, e1_fns, fn26, Tryz.f26, r0, r3, r4, l_len, c1', hvl, hca, Nat.mul_one]
    refine (put_ok O1 (hra.ext G) hra.2 (by omega) (hs i c1) O3 G.1).call rfl e1_subs ?_
    rintro v h2 n2 ⟨O4, G2⟩
    have hstep : (la.take (i + 1)).foldl (fun acc x => putR false x acc) [] = putR false (la.getD i []) ((la.take i).foldl (fun acc x => putR false x acc) []) := by
      rw [List.take_add_one, List.foldl_append, List.getElem?_eq_getElem c1, List.getD_eq_getElem?_getD, List.getElem?_eq_getElem c1]; rfl
    simp (maxSteps := 2000000) (disch := first | omega | assumption) only [↓mCode, ↓mOps, mAll, seval, vPtr, ite_ne, wrap_i64, boundN_int, e1_tys, e1_fns, fn26, Tryz.f26, r0, r3, r4]
    refine IH (la.length - (i + 1)) _ _ _ (by omega) ⟨i + 1, v, rfl, by omega, ?_, ?_, ?_, ?_, ?_, ?_, ⟨G2.1, fun j hj => (G2.2 j hj).trans (G.2 j hj)⟩⟩
    iterate 3
      · simp only [mBase, Nat.reduceEqDiff, Nat.reduceSub, reduceIte, r0, hvl, r3, r4] <;> rfl
    · rw [hstep]; exact O4
    · rw [hstep]; have := putR_len false (la.getD i []) ((la.take i).foldl (fun acc x => putR false x acc) []); omega
    · rw [hstep, small_iff]
      intro y hy
      rcases putR_mem _ _ _ hy with rfl | hy
      · exact hs i c1
      · exact small_iff.1 O3 y hy
  · have c1' : ¬ (i : Int) < (la.length : Int) := by omega
    simp (maxSteps := 2000000) (disch := first | omega | assumption) only [↓mCode, ↓mOps, mAll, seval, vPtr, ite_ne, wrap_i64, boundN_int, e1_tys, e1_fns, fn26, Tryz.f26, r0, r3, r4, l_len, c1']
    refine K _ _ _ ⟨?_, G⟩
    rw [List.take_of_length_le (by omega)] at O1
    exact O1

end Go.Mir
namespace Go.Mir
open Go Go.Proofs Go.Srt
set_option maxRecDepth 4000
set_option maxHeartbeats 2000000

/-- a term's texts, each by its own address -/
theorem Row.cells {h : T O} {v : V} {l : List Tm} (R : Row h v l) {i : Nat} (hi : i < l.length) : ∃ id off ex k lo, v = .slice id off l.length ex k lo ∧ l.length ≤ lo ∧
    (∀ (kk : V → Out), cellAt h id (off + i * 3 + 1) kk = kk (.str (l.getD i (0, [], [])).2.1)) ∧ ∀ (kk : V → Out), cellAt h id (off + i * 3 + 2) kk = kk (.str (l.getD i (0, [], [])).2.2) := by
  unfold Row at R
  generalize hL : l.length = L at R
  cases R with
  | nil => omega
  | tail => omega
  | slice id off len ex k lo hlo C =>
    refine ⟨id, off, ex, k, lo, rfl, by omega, fun kk => ?_, fun kk => ?_⟩
    · rw [C.at (j := i * 3 + 1) (by omega) (by omega), rowG_1]
    · rw [C.at (j := i * 3 + 2) (by omega) (by omega), rowG_2]

theorem minE {L : Nat} : (if (30001 : Int) < (L : Int) then (30001 : Int) else (L : Int)) = ((min L 30001 : Nat) : Int) := by
  split <;> omega

/-- few rows, and all of them short -/
def Few (la : List (List Tm)) : Prop := la.length ≤ 100 ∧ ∀ i, i < la.length → (la.getD i []).length ≤ 100

end Go.Mir
namespace Go.Srt
variable {α : Type}

/-- the same elements on [a, b), nothing else turned -/
def PermD (a b : Nat) (d d' : Nat → α) : Prop :=
  ∃ σ τ : Nat → Nat, (∀ i, τ (σ i) = i) ∧ (∀ i, σ (τ i) = i) ∧ (∀ i, (i < a ∨ b ≤ i) → σ i = i) ∧ ∀ i, d' i = d (σ i)

theorem PermD.refl (a b : Nat) (d : Nat → α) : PermD a b d d := ⟨id, id, fun _ => rfl, fun _ => rfl, fun _ _ => rfl, fun _ => rfl⟩

theorem PermD.trans {a b : Nat} {d d' d'' : Nat → α} (h : PermD a b d d') (k : PermD a b d' d'') : PermD a b d d'' := by
  obtain ⟨σ, τ, h1, h2, h3, h4⟩ := h
  obtain ⟨σ', τ', k1, k2, k3, k4⟩ := k
  exact ⟨fun i => σ (σ' i), fun i => τ' (τ i), fun i => by show τ' (τ (σ (σ' i))) = i; rw [h1, k1], fun i => by show σ (σ' (τ' (τ i))) = i; rw [k2, h2], fun i hi => by show σ (σ' i) = i; rw [k3 i hi, h3 i hi], fun i => by show d'' i = d (σ (σ' i)); rw [k4, h4]⟩

theorem PermD.mono {a b a' b' : Nat} {d d' : Nat → α} (h : PermD a b d d') (ha : a' ≤ a) (hb : b ≤ b') : PermD a' b' d d' := by
  obtain ⟨σ, τ, h1, h2, h3, h4⟩ := h
  exact ⟨σ, τ, h1, h2, fun i hi => h3 i (by omega), h4⟩

theorem PermD.out {a b : Nat} {d d' : Nat → α} (h : PermD a b d d') {i : Nat} (hi : i < a ∨ b ≤ i) : d' i = d i := by
  obtain ⟨σ, τ, h1, h2, h3, h4⟩ := h
  rw [h4, h3 i hi]

/-- what holds of all of [a, b) holds behind -/
theorem PermD.all {a b : Nat} {d d' : Nat → α} (h : PermD a b d d') {p : α → Prop} (hp : ∀ i, a ≤ i → i < b → p (d i)) : ∀ i, a ≤ i → i < b → p (d' i) := by
  obtain ⟨σ, τ, h1, h2, h3, h4⟩ := h
  intro i ha hb
  rw [h4]
  refine hp _ ?_ ?_
  · rcases Nat.lt_or_ge (σ i) a with hlt | hge
    · have := h3 (σ i) (.inl hlt)
      have h5 : σ i = i := by
        have := congrArg τ this
        rw [h1, h1] at this
        exact this
      omega
    · exact hge
  · rcases Nat.lt_or_ge (σ i) b with hlt | hge
    · exact hlt
    · have := h3 (σ i) (.inr hge)
      have h5 : σ i = i := by
        have := congrArg τ this
        rw [h1, h1] at this
        exact this
      omega

/-- two places changed -/
def swp (d : Nat → α) (i j : Nat) : Nat → α := fun k => if k = i then d j else if k = j then d i else d k

theorem swp_perm {a b i j : Nat} (d : Nat → α) (h1 : a ≤ i) (h2 : i < b) (h3 : a ≤ j) (h4 : j < b) : PermD a b d (swp d i j) := by
  let σ : Nat → Nat := fun k => if k = i then j else if k = j then i else k
  have hs : ∀ k, σ (σ k) = k := by
    intro k
    simp only [σ]
    by_cases e1 : k = i
    · subst e1
      by_cases e2 : j = k
      · simp [e2]
      · simp [e2]
    · by_cases e2 : k = j
      · subst e2; simp [e1]
      · simp [e1, e2]
  refine ⟨σ, σ, hs, hs, fun k hk => ?_, fun k => ?_⟩
  · simp only [σ]
    rw [if_neg (by omega), if_neg (by omega)]
  · simp only [σ, swp]
    by_cases e1 : k = i
    · rw [if_pos e1, if_pos e1]
    · by_cases e2 : k = j
      · rw [if_neg e1, if_pos e2, if_neg e1, if_pos e2]
      · rw [if_neg e1, if_neg e2, if_neg e1, if_neg e2]

/-- [a, m) and [m, b) change their places -/
def rotD (a m b : Nat) (d : Nat → α) : Nat → α := fun i => if i < a ∨ b ≤ i then d i else if i < a + (b - m) then d (i + (m - a)) else d (i - (b - m))

theorem rotD_perm {a m b : Nat} (d : Nat → α) (h1 : a ≤ m) (h2 : m ≤ b) : PermD a b d (rotD a m b d) := by
  refine ⟨fun i => if i < a ∨ b ≤ i then i else if i < a + (b - m) then i + (m - a) else i - (b - m), fun i => if i < a ∨ b ≤ i then i else if i < m then i + (b - m) else i - (m - a), fun i => ?_, fun i => ?_, fun i hi => if_pos hi, fun i => ?_⟩
  · by_cases c1 : i < a ∨ b ≤ i
    · simp only [if_pos c1]
    · simp only [if_neg c1]
      by_cases c2 : i < a + (b - m)
      · simp only [if_pos c2]
        rw [if_neg (by omega), if_neg (by omega)]; omega
      · simp only [if_neg c2]
        rw [if_neg (by omega), if_pos (by omega)]; omega
  · by_cases c1 : i < a ∨ b ≤ i
    · simp only [if_pos c1]
    · simp only [if_neg c1]
      by_cases c2 : i < m
      · simp only [if_pos c2]
        rw [if_neg (by omega), if_neg (by omega)]; omega
      · simp only [if_neg c2]
        rw [if_neg (by omega), if_pos (by omega)]; omega
  · simp only [rotD]
    by_cases c1 : i < a ∨ b ≤ i
    · simp only [if_pos c1]
    · simp only [if_neg c1]
      by_cases c2 : i < a + (b - m)
      · simp only [if_pos c2]
      · simp only [if_neg c2]

theorem rotD_left {a b : Nat} (d : Nat → α) : rotD a a b d = d := by
  funext i
  simp only [rotD]
  split
  · rfl
  · split
    · congr 1; omega
    · congr 1; omega

theorem rotD_right {a m : Nat} (d : Nat → α) : rotD a m m d = d := by
  funext i
  simp only [rotD]
  split
  · rfl
  · split
    · congr 1; omega
    · congr 1; omega

/-- n places from a on and n from b on change -/
def swrD (a b n : Nat) (d : Nat → α) : Nat → α := fun i => if a ≤ i ∧ i < a + n then d (i - a + b) else if b ≤ i ∧ i < b + n then d (i - b + a) else d i

theorem swrD_zero {a b : Nat} (d : Nat → α) : swrD a b 0 d = d := by
  funext i
  simp only [swrD]
  rw [if_neg (by omega), if_neg (by omega)]

theorem swrD_succ {a b n : Nat} (d : Nat → α) (h : a + n < b) : swrD a b (n + 1) d = swp (swrD a b n d) (a + n) (b + n) := by
  funext i
  simp only [swrD, swp]
  by_cases e1 : i = a + n
  · subst e1
    rw [if_pos (by omega), if_pos rfl, if_neg (by omega), if_neg (by omega)]
    congr 1; omega
  · rw [if_neg e1]
    by_cases e2 : i = b + n
    · subst e2
      rw [if_neg (by omega), if_pos (by omega), if_pos rfl, if_neg (by omega), if_neg (by omega)]
      congr 1; omega
    · rw [if_neg e2]
      by_cases c1 : a ≤ i ∧ i < a + n
      · rw [if_pos (by omega), if_pos c1]
      · rw [if_neg (by omega), if_neg c1]
        by_cases c2 : b ≤ i ∧ i < b + n
        · rw [if_pos (by omega), if_pos c2]
        · rw [if_neg (by omega), if_neg c2]

theorem swrD_perm {a b n lo hi : Nat} (d : Nat → α) (h : a + n ≤ b) (h1 : lo ≤ a) (h2 : b + n ≤ hi) : PermD lo hi d (swrD a b n d) := by
  induction n with
  | zero => rw [swrD_zero]; exact PermD.refl _ _ _
  | succ n ih =>
    rw [swrD_succ d (by omega)]
    exact (ih (by omega) (by omega)).trans (swp_perm _ (by omega) (by omega) (by omega) (by omega))

/-- the steps of the rotation's loop -/
theorem rot_gt {m i j : Nat} (d : Nat → α) (hi : i ≤ m) (h : j < i) : rotD (m - (i - j)) m (m + j) (swrD (m - i) m j d) = rotD (m - i) m (m + j) d := by
  funext x
  simp only [rotD, swrD]
  by_cases c1 : x < m - i ∨ m + j ≤ x
  · rw [if_pos c1, if_pos (by omega), if_neg (by omega), if_neg (by omega)]
  · rw [if_neg c1]
    by_cases c2 : x < m - i + (m + j - m)
    · rw [if_pos c2, if_pos (by omega), if_pos (by omega)]
      congr 1; omega
    · rw [if_neg c2, if_neg (by omega)]
      by_cases c3 : x < m - (i - j) + (m + j - m)
      · rw [if_pos c3, if_neg (by omega), if_pos (by omega)]
        congr 1; omega
      · rw [if_neg c3, if_neg (by omega), if_neg (by omega)]

theorem rot_lt {m i j : Nat} (d : Nat → α) (hi : i ≤ m) (h : i < j) : rotD (m - i) m (m + (j - i)) (swrD (m - i) (m + j - i) i d) = rotD (m - i) m (m + j) d := by
  funext x
  simp only [rotD, swrD]
  repeat' split
  all_goals first | rfl | (exfalso; omega) | (congr 1; omega)

theorem rot_eq {m i : Nat} (d : Nat → α) (hi : i ≤ m) : swrD (m - i) m i d = rotD (m - i) m (m + i) d := by
  funext x
  simp only [rotD, swrD]
  by_cases c1 : x < m - i ∨ m + i ≤ x
  · rw [if_pos c1, if_neg (by omega), if_neg (by omega)]
  · rw [if_neg c1]
    by_cases c2 : x < m - i + (m + i - m)
    · rw [if_pos c2, if_pos (by omega)]
      congr 1; omega
    · rw [if_neg c2, if_neg (by omega), if_pos (by omega)]
      congr 1; omega

/-- an order: 'le' is total and transitive; 'lt' is what is not the other way round -/
structure Ord (lt : α → α → Bool) : Prop where
  asym : ∀ x y, lt x y = true → lt y x = false
  ntrans : ∀ x y z, lt y x = false → lt z y = false → lt z x = false

def Sorted (lt : α → α → Bool) (a b : Nat) (d : Nat → α) : Prop := ∀ i j, a ≤ i → i < j → j < b → lt (d j) (d i) = false

variable {lt : α → α → Bool}

theorem Sorted.le (O : Ord lt) {a b : Nat} {d : Nat → α} (h : Sorted lt a b d) {i j : Nat} (h1 : a ≤ i) (h2 : i ≤ j) (h3 : j < b) : lt (d j) (d i) = false := by
  rcases Nat.lt_or_ge i j with h4 | h4
  · exact h i j h1 h4 h3
  · have : i = j := by omega
    subst this
    cases hh : lt (d i) (d i) with
    | false => rfl
    | true => have := O.asym _ _ hh; rw [hh] at this; cases this

/-- two sorted rows of which none of the second is less than one of the first -/
theorem Sorted.join {a m b : Nat} {d : Nat → α} (h1 : Sorted lt a m d) (h2 : Sorted lt m b d) (h : ∀ i j, a ≤ i → i < m → m ≤ j → j < b → lt (d j) (d i) = false) : Sorted lt a b d := by
  intro i j hi hij hj
  by_cases c1 : j < m
  · exact h1 i j hi hij c1
  · by_cases c2 : i < m
    · exact h i j hi c2 (by omega) hj
    · exact h2 i j (by omega) hij hj

theorem Sorted.congr {a b : Nat} {d d' : Nat → α} (h : Sorted lt a b d) (he : ∀ i, a ≤ i → i < b → d' i = d i) : Sorted lt a b d' := by
  intro i j h1 h2 h3
  rw [he i h1 (by omega), he j (by omega) h3]
  exact h i j h1 h2 h3

/-- what the merge's search finds: from s0 on to s the mirror is not less, from s on it is -/
structure Found (lt : α → α → Bool) (d : Nat → α) (p s0 s r0 : Nat) : Prop where
  lo : s0 ≤ s
  hi : s ≤ r0
  yes : ∀ c, s0 ≤ c → c < s → lt (d (p - c)) (d c) = false
  no : ∀ c, s ≤ c → c < r0 → lt (d (p - c)) (d c) = true

/-- where the search begins and ends -/
def s0 (a m b : Nat) : Nat := if (a + b) / 2 < m then (a + b) / 2 + m - b else a
def r0 (a m b : Nat) : Nat := if (a + b) / 2 < m then (a + b) / 2 else m

/-- the parts behind the rotation -/
theorem merge_cut (O : Ord lt) {a m b s : Nat} {d : Nat → α} (h1 : a ≤ m) (h2 : m ≤ b) (ha : Sorted lt a m d) (hb : Sorted lt m b d)
    (hf : Found lt d ((a + b) / 2 + m - 1) (s0 a m b) s (r0 a m b)) :
    let mid := (a + b) / 2
    let e := mid + m - s
    a ≤ s ∧ s ≤ m ∧ m ≤ e ∧ e ≤ b ∧ s ≤ mid ∧ mid ≤ e ∧
    Sorted lt a s (rotD s m e d) ∧ Sorted lt s mid (rotD s m e d) ∧ Sorted lt mid e (rotD s m e d) ∧ Sorted lt e b (rotD s m e d) ∧
    ∀ i j, a ≤ i → i < mid → mid ≤ j → j < b → lt (rotD s m e d j) (rotD s m e d i) = false := by
  intro mid e
  obtain ⟨f1, f2, f3, f4⟩ := hf
  have hmid : mid = (a + b) / 2 := rfl
  have he : e = mid + m - s := rfl
  have hs : a ≤ s ∧ s ≤ m ∧ m ≤ e ∧ e ≤ b ∧ s ≤ mid ∧ mid ≤ e := by
    unfold s0 at f1; unfold r0 at f2
    split at f1 <;> rename_i c <;> simp only [c, if_true, if_false] at f2 <;> omega
  obtain ⟨g1, g2, g3, g4, g5, g6⟩ := hs
  have x1 : ∀ i, i < s → rotD s m e d i = d i := fun i hi => by simp only [rotD]; rw [if_pos (.inl hi)]
  have x2 : ∀ i, s ≤ i → i < mid → rotD s m e d i = d (i + (m - s)) := fun i hi hj => by simp only [rotD]; rw [if_neg (by omega), if_pos (by omega)]
  have x3 : ∀ i, mid ≤ i → i < e → rotD s m e d i = d (i - (e - m)) := fun i hi hj => by simp only [rotD]; rw [if_neg (by omega), if_neg (by omega)]
  have x4 : ∀ i, e ≤ i → rotD s m e d i = d i := fun i hi => by simp only [rotD]; rw [if_pos (.inr hi)]
  refine ⟨g1, g2, g3, g4, g5, g6, ?_, ?_, ?_, ?_, ?_⟩
  · intro i j hi hij hj
    rw [x1 i (by omega), x1 j hj]
    exact ha i j hi hij (by omega)
  · intro i j hi hij hj
    rw [x2 i hi (by omega), x2 j (by omega) hj]
    exact hb _ _ (by omega) (by omega) (by omega)
  · intro i j hi hij hj
    rw [x3 i hi (by omega), x3 j (by omega) hj]
    exact ha _ _ (by omega) (by omega) (by omega)
  · intro i j hi hij hj
    rw [x4 i hi, x4 j (by omega)]
    exact hb i j (by omega) hij hj
  · intro i j hi hi2 hj hj2
    by_cases c1 : i < s
    · rw [x1 i c1]
      by_cases c2 : j < e
      · rw [x3 j hj c2]
        exact ha _ _ hi (by omega) (by omega)
      · rw [x4 j (by omega)]
        -- the last of the first row's head against the first of the second row's tail
        have hlt : s0 a m b < s := by
          rcases Nat.lt_or_ge (s0 a m b) s with h | h
          · exact h
          · exfalso
            unfold s0 at f1 h
            split at h <;> rename_i c <;> simp only [c, if_true, if_false] at f1 <;> omega
        have hq := f3 (s - 1) (by omega) (by omega)
        have hp : (a + b) / 2 + m - 1 - (s - 1) = e := by omega
        rw [hp] at hq
        have q1 := ha.le O (i := i) (j := s - 1) hi (by omega) (by omega)
        have q2 := hb.le O (i := e) (j := j) (by omega) (by omega) hj2
        exact O.ntrans _ _ _ (O.ntrans _ _ _ q1 hq) q2
    · rw [x2 i (by omega) hi2]
      by_cases c2 : j < e
      · rw [x3 j hj c2]
        have hlt : s < r0 a m b := by
          rcases Nat.lt_or_ge s (r0 a m b) with h | h
          · exact h
          · exfalso
            unfold r0 at f2 h
            split at h <;> rename_i c <;> simp only [c, if_true, if_false] at f2 <;> omega
        have hq := O.asym _ _ (f4 s (by omega) hlt)
        have hp : (a + b) / 2 + m - 1 - s = e - 1 := by omega
        rw [hp] at hq
        have q1 := hb.le O (i := i + (m - s)) (j := e - 1) (by omega) (by omega) (by omega)
        have q2 := ha.le O (i := s) (j := j - (e - m)) (by omega) (by omega) (by omega)
        exact O.ntrans _ _ _ (O.ntrans _ _ _ q1 hq) q2
      · rw [x4 j (by omega)]
        exact hb _ _ (by omega) (by omega) hj2

/-- THE MERGE: behind the rotation and the two lesser merges the whole is sorted -/
theorem merge_ok {a mid b : Nat} {d d1 d2 : Nat → α} (h1 : a ≤ mid) (h2 : mid ≤ b) (hc : ∀ i j, a ≤ i → i < mid → mid ≤ j → j < b → lt (d j) (d i) = false)
    (p1 : PermD a mid d d1) (s1 : Sorted lt a mid d1) (p2 : PermD mid b d1 d2) (s2 : Sorted lt mid b d2) : Sorted lt a b d2 := by
  refine Sorted.join (s1.congr fun i hi hi2 => p2.out (.inl hi2)) s2 fun i j hi hi2 hj hj2 => ?_
  rw [p2.out (.inl hi2)]
  have q1 : ∀ j, mid ≤ j → j < b → lt (d1 j) (d1 i) = false := fun j hj hj2 => by
    rw [p1.out (.inr hj)]
    exact p1.all (p := fun x => lt (d j) x = false) (fun k hk hk2 => hc k j hk hk2 hj hj2) i hi hi2
  exact p2.all (p := fun x => lt x (d1 i) = false) (fun k hk hk2 => q1 k hk hk2) j hj hj2

end Go.Srt
namespace Go.Srt
variable {α : Type} {lt : α → α → Bool}

/-- [a, i] is sorted but for place j -/
def InsI (lt : α → α → Bool) (a i j : Nat) (d : Nat → α) : Prop := ∀ p q, a ≤ p → p < q → q ≤ i → q ≠ j → lt (d q) (d p) = false

theorem ins_start {a i : Nat} {d : Nat → α} (h : Sorted lt a i d) : InsI lt a i i d := fun p q h1 h2 h3 h4 => h p q h1 h2 (by omega)

theorem ins_step (O : Ord lt) {a i j : Nat} {d : Nat → α} (h : InsI lt a i j d) (h1 : a < j) (h2 : j ≤ i) (h3 : lt (d j) (d (j - 1)) = true) : InsI lt a i (j - 1) (swp d j (j - 1)) := by
  intro p q hp hpq hq hne
  simp only [swp]
  by_cases e1 : q = j
  · rw [if_pos e1]
    by_cases e2 : p = j - 1
    · rw [if_neg (by omega), if_pos e2]; exact O.asym _ _ h3
    · rw [if_neg (by omega), if_neg e2]; exact h p (j - 1) hp (by omega) (by omega) (by omega)
  · rw [if_neg e1, if_neg hne]
    by_cases e2 : p = j
    · rw [if_pos e2]; exact h (j - 1) q (by omega) (by omega) hq e1
    · rw [if_neg e2]
      by_cases e3 : p = j - 1
      · rw [if_pos e3]; exact h j q (by omega) (by omega) hq e1
      · rw [if_neg e3]; exact h p q hp hpq hq e1

theorem ins_done (O : Ord lt) {a i j : Nat} {d : Nat → α} (h : InsI lt a i j d) (h1 : a ≤ j) (h2 : j ≤ i) (h3 : j = a ∨ lt (d j) (d (j - 1)) = false) : Sorted lt a (i + 1) d := by
  intro p q hp hpq hq
  by_cases e : q = j
  · subst e
    rcases h3 with h3 | h3
    · omega
    · by_cases e2 : p = q - 1
      · subst e2; exact h3
      · exact O.ntrans _ _ _ (h p (q - 1) hp (by omega) (by omega) (by omega)) h3
  · exact h p q hp hpq (by omega) e

theorem sorted_one {a b : Nat} {d : Nat → α} (h : b ≤ a + 1) : Sorted lt a b d := fun i j h1 h2 h3 => by omega

/-- a piece of the second row put ahead of a piece of the first -/
theorem rot_sorted {a s m e b : Nat} {d : Nat → α} (h1 : a ≤ s) (h2 : s ≤ m) (h3 : m ≤ e) (h4 : e ≤ b) (ha : Sorted lt a m d) (hb : Sorted lt m b d)
    (c1 : ∀ i j, a ≤ i → i < s → m ≤ j → j < e → lt (d j) (d i) = false)
    (c2 : ∀ i j, s ≤ i → i < m → m ≤ j → j < e → lt (d i) (d j) = false)
    (c3 : ∀ i j, a ≤ i → i < m → e ≤ j → j < b → lt (d j) (d i) = false) : Sorted lt a b (rotD s m e d) := by
  have x1 : ∀ i, i < s → rotD s m e d i = d i := fun i hi => by simp only [rotD]; rw [if_pos (.inl hi)]
  have x2 : ∀ i, s ≤ i → i < s + (e - m) → rotD s m e d i = d (i + (m - s)) := fun i hi hj => by simp only [rotD]; rw [if_neg (by omega), if_pos (by omega)]
  have x3 : ∀ i, s + (e - m) ≤ i → i < e → rotD s m e d i = d (i - (e - m)) := fun i hi hj => by simp only [rotD]; rw [if_neg (by omega), if_neg (by omega)]
  have x4 : ∀ i, e ≤ i → rotD s m e d i = d i := fun i hi => by simp only [rotD]; rw [if_pos (.inr hi)]
  intro i j hi hij hj
  by_cases i1 : i < s
  · rw [x1 i i1]
    by_cases j1 : j < s
    · rw [x1 j j1]; exact ha i j hi hij (by omega)
    · by_cases j2 : j < s + (e - m)
      · rw [x2 j (by omega) j2]; exact c1 _ _ hi i1 (by omega) (by omega)
      · by_cases j3 : j < e
        · rw [x3 j (by omega) j3]; exact ha _ _ hi (by omega) (by omega)
        · rw [x4 j (by omega)]; exact c3 _ _ hi (by omega) (by omega) hj
  · by_cases i2 : i < s + (e - m)
    · rw [x2 i (by omega) i2]
      by_cases j2 : j < s + (e - m)
      · rw [x2 j (by omega) j2]; exact hb _ _ (by omega) (by omega) (by omega)
      · by_cases j3 : j < e
        · rw [x3 j (by omega) j3]; exact c2 _ _ (by omega) (by omega) (by omega) (by omega)
        · rw [x4 j (by omega)]; exact hb _ _ (by omega) (by omega) hj
    · by_cases i3 : i < e
      · rw [x3 i (by omega) i3]
        by_cases j3 : j < e
        · rw [x3 j (by omega) j3]; exact ha _ _ (by omega) (by omega) (by omega)
        · rw [x4 j (by omega)]; exact c3 _ _ (by omega) (by omega) (by omega) hj
      · rw [x4 i (by omega), x4 j (by omega)]; exact hb _ _ (by omega) hij hj

/-- one element walks up -/
theorem walk_up {a k : Nat} (d : Nat → α) (h : a ≤ k) : swp (rotD a (a + 1) (k + 1) d) k (k + 1) = rotD a (a + 1) (k + 2) d := by
  funext i
  simp only [swp, rotD]
  repeat' split
  all_goals first | rfl | (exfalso; omega) | (congr 1; omega)
theorem walk_up0 {a : Nat} (d : Nat → α) : rotD a (a + 1) (a + 1) d = d := rotD_right d

/-- one element walks down -/
theorem walk_down {m k : Nat} (d : Nat → α) (h : k < m) : swp (rotD (k + 1) m (m + 1) d) (k + 1) k = rotD k m (m + 1) d := by
  funext i
  simp only [swp, rotD]
  repeat' split
  all_goals first | rfl | (exfalso; omega) | (congr 1; omega)
theorem walk_down0 {m : Nat} (d : Nat → α) : rotD m m (m + 1) d = d := rotD_left d

end Go.Srt
namespace Go.Mir
open Go Go.Proofs Go.Srt
set_option maxRecDepth 4000
set_option maxHeartbeats 1000000

/-- a block of rows of the run's own making -/
def DatA (h : T O) (n0 n id L : Nat) (g : Nat → V) (d : Nat → List Tm) : Prop :=
  (∃ t, h.get id = some (.cells t L 1) ∧ ∀ j, j < L → t.get j = some (g j)) ∧ n0 ≤ id ∧ id < n ∧ ∀ j, j < L → RowIn h n (g j) (d j) ∧ vid (g j) ≠ some id
def Dat (h : T O) (n0 n : Nat) (v : V) (L : Nat) (d : Nat → List Tm) : Prop :=
  (v = .base (.slice none 0 0) ∧ L = 0) ∨ ∃ id g, v = .slice id 0 L false 0 L ∧ DatA h n0 n id L g d

theorem DatA.congr {h : T O} {n0 n id L : Nat} {g : Nat → V} {d d' : Nat → List Tm} (D : DatA h n0 n id L g d) (e : ∀ j, j < L → d' j = d j) : DatA h n0 n id L g d' :=
  ⟨D.1, D.2.1, D.2.2.1, fun j hj => by rw [e j hj]; exact D.2.2.2 j hj⟩

theorem Dat.congr {h : T O} {n0 n L : Nat} {v : V} {d d' : Nat → List Tm} (D : Dat h n0 n v L d) (e : ∀ j, j < L → d' j = d j) : Dat h n0 n v L d' := by
  rcases D with D | ⟨id, g, hv, D⟩
  · exact .inl D
  · exact .inr ⟨id, g, hv, D.congr e⟩

theorem Dat.of {h : T O} {n0 n : Nat} {v : V} {ls : List (List Tm)} (R : OutAt h n0 n v ls) : Dat h n0 n v ls.length (fun j => ls.getD j []) := by
  rcases R with ⟨rfl, rfl⟩ | ⟨id, t, rfl, h1, h2, h3, g, hg⟩
  · exact .inl ⟨rfl, rfl⟩
  · exact .inr ⟨id, g, rfl, ⟨t, h1, fun j hj => (hg j hj).1⟩, h2, h3, fun j hj => (hg j hj).2⟩

theorem Dat.out {h : T O} {n0 n : Nat} {v : V} {L : Nat} {d : Nat → List Tm} (D : Dat h n0 n v L d) : OutAt h n0 n v ((List.range L).map d) := by
  rcases D with ⟨rfl, rfl⟩ | ⟨id, g, rfl, ⟨t, h1, h4⟩, h2, h3, hg⟩
  · exact .inl ⟨rfl, rfl⟩
  · have hL : ((List.range L).map d).length = L := by simp
    refine .inr ⟨id, t, by rw [hL], by rw [hL]; exact h1, h2, h3, g, fun j hj => ?_⟩
    rw [hL] at hj
    refine ⟨h4 j hj, ?_, (hg j hj).2⟩
    rw [List.getD_eq_getElem?_getD, List.getElem?_map, List.getElem?_range hj]
    exact (hg j hj).1

theorem Dat.len {h : T O} {n0 n : Nat} {v : V} {L : Nat} {d : Nat → List Tm} (D : Dat h n0 n v L d) {h' : T O} {e : Nat} {k : V → Out} : lenIn h' (.slice e) v k = k (.int .i64 (L : Int)) := by
  rcases D with ⟨rfl, rfl⟩ | ⟨id, g, rfl, _⟩
  · exact lenIn_nil
  · exact lenIn_slice

theorem DatA.at {h : T O} {n0 n id L : Nat} {g : Nat → V} {d : Nat → List Tm} (D : DatA h n0 n id L g d) {j : Nat} (hj : j < L) {k : V → Out} : cellAt h id j k = k (g j) := by
  obtain ⟨⟨t, h1, h2⟩, _⟩ := D
  have := Cells.at (g := g) (off := 0) (len := L) (h := h) (id := id) ⟨_, t, L, 1, h1, .inl rfl, by omega, fun j hj => by rw [Nat.zero_add]; exact h2 j hj⟩ hj (a := j) (by omega) (k := k)
  exact this

/-- new blocks elsewhere -/
theorem DatA.ext {h h' : T O} {n0 n n' id L : Nat} {g : Nat → V} {d : Nat → List Tm} (D : DatA h n0 n id L g d) (G : Gro h n h' n') : DatA h' n0 n' id L g d := by
  obtain ⟨⟨t, h1, h2⟩, h3, h4, h5⟩ := D
  exact ⟨⟨t, (G.2 id h4).trans h1, h2⟩, h3, Nat.lt_of_lt_of_le h4 G.1, fun j hj => ⟨(h5 j hj).1.ext G, (h5 j hj).2⟩⟩

/-- two places changed -/
theorem DatA.swap {h H : T O} {n0 n id L i j : Nat} {g : Nat → V} {d : Nat → List Tm} (D : DatA h n0 n id L g d) (hi : i < L) (hj : j < L) {T' : T V}
    (h1 : H.get id = some (.cells T' L 1)) (h2 : ∀ k, k < L → T'.get k = some (swp g i j k)) (h3 : ∀ k, k ≠ id → H.get k = h.get k) : DatA H n0 n id L (swp g i j) (swp d i j) := by
  obtain ⟨_, h4, h5, h6⟩ := D
  refine ⟨⟨T', h1, h2⟩, h4, h5, fun k hk => ?_⟩
  have ext : ∀ {v : V} {l : List Tm}, RowIn h n v l ∧ vid v ≠ some id → RowIn H n v l ∧ vid v ≠ some id := fun R =>
    ⟨⟨R.1.1.keep fun a ha => h3 a (by rintro rfl; exact R.2 ha), R.1.2⟩, R.2⟩
  unfold swp
  split
  · exact ext (h6 j hj)
  · split
    · exact ext (h6 i hi)
    · exact ext (h6 k hk)
end Go.Mir
namespace Go.Mir
open Go Go.Proofs Go.Srt
set_option maxRecDepth 4000
set_option maxHeartbeats 4000000

noncomputable def ltR (x y : List Tm) : Bool := decide (cmpR x y < 0)
theorem ltR_t {x y : List Tm} (h : cmpR x y < 0) : ltR x y = true := decide_eq_true h
theorem ltR_f {x y : List Tm} (h : ¬ cmpR x y < 0) : ltR x y = false := decide_eq_false h

theorem _root_.Go.Srt.PermD.all' {α : Type} {a b L : Nat} {d d' : Nat → α} (h : PermD a b d d') {p : α → Prop} (hp : ∀ i, i < L → p (d i)) (hb : b ≤ L := by omega) : ∀ i, i < L → p (d' i) := fun i hi => by
  by_cases c : a ≤ i ∧ i < b
  · exact h.all (fun k _ hk => hp k (by omega)) i c.1 c.2
  · rw [h.out (by omega)]; exact hp i hi

theorem insertion_ok {h : T O} {n0 n id L a b : Nat} {g : Nat → V} {d : Nat → List Tm} (D : DatA h n0 n id L g d) (hO : Ord ltR) (h0 : n0 ≤ n) (hb : b ≤ L) (hL : L ≤ 1000) (ha : a ≤ 1000) (hs : ∀ j, j < L → (d j).length ≤ 1000000) :
    Fn env1 96 [.slice id 0 L false 0 L, .int .i64 (a : Int), .int .i64 (b : Int), .func 43 [] []] h n (fun _ h' n' => ∃ g' d', DatA h' n0 n' id L g' d' ∧ PermD a b d d' ∧ Sorted ltR a b d' ∧ n ≤ n' ∧ ∀ j, j < n0 → h'.get j = h.get j) := by
  refine Fn.mk fn96 rfl fz96 (by simp) fun Q cs K => ?_
  simp (maxSteps := 2000000) (disch := first | omega | assumption) only [↓mCode, ↓mOps, mAll, seval, vPtr, ite_ne, wrap_i64, boundN_int, e1_tys, e1_fns, fn96, Tryz.f96]
  refine W_loop (fun m regs h' n' => ∃ (i : Nat) (g' : Nat → V) (d' : Nat → List Tm), m = b - i ∧ a + 1 ≤ i ∧ (i ≤ b ∨ i = a + 1) ∧ regs.get 0 = some (.slice id 0 L false 0 L) ∧ regs.get 1 = some (.int .i64 (a : Int)) ∧ regs.get 2 = some (.int .i64 (b : Int)) ∧
    regs.get 3 = some (.func 43 [] []) ∧ regs.get 8 = some (.int .i64 (i : Int)) ∧ DatA h' n0 n' id L g' d' ∧ PermD a b d d' ∧ Sorted ltR a i d' ∧ n ≤ n' ∧ ∀ j, j < n0 → h'.get j = h.get j)
    _ ⟨a + 1, g, d, rfl, by omega, .inr rfl, ?_, ?_, ?_, ?_, ?_, D, PermD.refl a b d, sorted_one (by omega), Nat.le_refl _, fun j hj => rfl⟩ ?_
  · simp (maxSteps := 2000000) (disch := first | omega | assumption) only [↓mCode, ↓mOps, mAll, seval, vPtr, ite_ne, wrap_i64, boundN_int, e1_tys]
  · simp (maxSteps := 2000000) (disch := first | omega | assumption) only [↓mCode, ↓mOps, mAll, seval, vPtr, ite_ne, wrap_i64, boundN_int, e1_tys]
  · simp (maxSteps := 2000000) (disch := first | omega | assumption) only [↓mCode, ↓mOps, mAll, seval, vPtr, ite_ne, wrap_i64, boundN_int, e1_tys]
  · simp (maxSteps := 2000000) (disch := first | omega | assumption) only [↓mCode, ↓mOps, mAll, seval, vPtr, ite_ne, wrap_i64, boundN_int, e1_tys]
  · simp (maxSteps := 2000000) (disch := first | omega | assumption) only [↓mCode, ↓mOps, mAll, seval, vPtr, ite_ne, wrap_i64, boundN_int, e1_tys]; rfl
  rintro m regs h' n' ⟨i, g', d', rfl, hi, hi2, r0, r1, r2, r3, r8, D, hp, hso, hn, hk⟩ IH
  by_cases c1 : i < b
  · have c1' : (i : Int) < (b : Int) := by omega
    simp (maxSteps := 2000000) (disch := first | omega | assumption) only [↓mCode, ↓mOps, mAll, seval, vPtr, ite_ne, wrap_i64, boundN_int, e1_tys, e1_fns, fn96, Tryz.f96, r0, r1, r2, r3, r8, c1']
    refine W_loopE (fun m regs h9 n9 => ∃ (j : Nat) (g' : Nat → V) (d' : Nat → List Tm), m = j ∧ a ≤ j ∧ j ≤ i ∧ regs.get 0 = some (.slice id 0 L false 0 L) ∧ regs.get 1 = some (.int .i64 (a : Int)) ∧ regs.get 2 = some (.int .i64 (b : Int)) ∧
      regs.get 3 = some (.func 43 [] []) ∧ regs.get 8 = some (.int .i64 (i : Int)) ∧ regs.get 9 = some (.int .i64 (j : Int)) ∧ DatA h9 n0 n9 id L g' d' ∧ PermD a b d d' ∧ InsI ltR a i j d' ∧ n ≤ n9 ∧ ∀ j, j < n0 → h9.get j = h.get j)
      (fun regs h9 n9 => ∃ (g' : Nat → V) (d' : Nat → List Tm), regs.get 0 = some (.slice id 0 L false 0 L) ∧ regs.get 1 = some (.int .i64 (a : Int)) ∧ regs.get 2 = some (.int .i64 (b : Int)) ∧
      regs.get 3 = some (.func 43 [] []) ∧ regs.get 8 = some (.int .i64 (i : Int)) ∧ DatA h9 n0 n9 id L g' d' ∧ PermD a b d d' ∧ Sorted ltR a (i + 1) d' ∧ n ≤ n9 ∧ ∀ j, j < n0 → h9.get j = h.get j)
      _ ⟨i, g', d', rfl, by omega, Nat.le_refl _, ?_, ?_, ?_, ?_, ?_, ?_, D, hp, ins_start hso, hn, hk⟩ ?_ ?_
    iterate 6
      · simp only [mBase, Nat.reduceEqDiff, Nat.reduceSub, reduceIte, r0, r1, r2, r3, r8] <;> rfl
    · rintro t2 hexit2 m regs h9 n9 ⟨j, g', d', e0, hj, hj2, r0, r1, r2, r3, r8, r9, D, hp, hin, hn, hk⟩ IH2
      simp (maxSteps := 2000000) (disch := first | omega | assumption) only [↓mCode, ↓mOps, mAll, seval, vPtr, ite_ne, wrap_i64, boundN_int, e1_tys, e1_fns, fn96, Tryz.f96]
      by_cases c2 : j > a
      · have c2' : (j : Int) > (a : Int) := by omega
        have hA : ∀ {k : V → Out}, cellAt h9 id j k = k (g' j) := D.at (by omega)
        have e1 : ((j : Int) - 1).toNat = j - 1 := by omega
        have hB : ∀ {k : V → Out}, cellAt h9 id (j - 1) k = k (g' (j - 1)) := D.at (by omega)
        refine W_draw sr96_4 ss96_4 ?_ ?_
        · exact sk96_4
        simp (maxSteps := 2000000) (disch := first | omega | assumption) only [↓mCode, ↓mOps, mAll, seval, vPtr, ite_ne, wrap_i64, boundN_int, e1_tys, e1_fns, fn96, Tryz.f96, r0, r1, r2, r3, r8, r9, c2', e1, hA, hB, Nat.mul_one]
        have sm : ∀ k, k < L → (d' k).length ≤ 1000000 := hp.all' (p := fun x => x.length ≤ 1000000) hs
        refine (compare_ok (D.2.2.2 j (by omega)).1 (D.2.2.2 (j - 1) (by omega)).1 (sm j (by omega)) (sm (j - 1) (by omega))).call rfl e1_subs ?_
        rintro _ h8 n8 ⟨rfl, G⟩
        have D := D.ext G
        have hn8 : n ≤ n8 := Nat.le_trans hn G.1
        have hk8 : ∀ j, j < n0 → h8.get j = h.get j := fun j hj => (G.2 j (by omega)).trans (hk j hj)
        by_cases c3 : lexL cmpT (d' j) (d' (j - 1)) < 0
        · simp (maxSteps := 2000000) (disch := first | omega | assumption) only [↓mCode, ↓mOps, mAll, seval, vPtr, ite_ne, wrap_i64, boundN_int, e1_tys, e1_fns, fn96, Tryz.f96, r0, r1, r2, r3, r8, r9, c3]
          have hA : ∀ {k : V → Out}, cellAt h8 id j k = k (g' j) := D.at (by omega)
          have hB : ∀ {k : V → Out}, cellAt h8 id (j - 1) k = k (g' (j - 1)) := D.at (by omega)
          refine W_draw sr96_6 ss96_6 ?_ ?_
          · exact sk96_6
          have oA : oneV (g' j) = true := (D.2.2.2 j (by omega)).1.1.one
          have oB : oneV (g' (j - 1)) = true := (D.2.2.2 (j - 1) (by omega)).1.1.one
          have cA : cellsOf (g' j) = [g' j] := cellsOf_one oA
          have cB : cellsOf (g' (j - 1)) = [g' (j - 1)] := cellsOf_one oB
          obtain ⟨t9, g9, gt9⟩ := D.1
          simp (maxSteps := 2000000) (disch := first | omega | assumption) only [↓mCode, ↓mOps, mAll, seval, vPtr, ite_ne, wrap_i64, boundN_int, e1_tys, e1_fns, fn96, Tryz.f96, r0, r1, r2, r3, r8, r9, e1, hA, hB, oA, oB, cA, cB, g9, Nat.mul_one]
          refine IH2 (j - 1) _ _ _ (by omega) ⟨j - 1, swp g' j (j - 1), swp d' j (j - 1), rfl, by omega, by omega, ?_, ?_, ?_, ?_, ?_, ?_,
            D.swap (by omega) (by omega) (T.get_put _ _ _ _ |>.trans (if_pos rfl)) (fun k hk => ?_) (fun k hk => by rw [T.get_put, if_neg hk, T.get_put, if_neg hk]),
            hp.trans (swp_perm d' (by omega) (by omega) (by omega) (by omega)), ins_step hO hin (by omega) hj2 (ltR_t c3), hn8, fun k hk => ?_⟩
          iterate 5
            · simp only [mBase, Nat.reduceEqDiff, Nat.reduceSub, reduceIte, r0, r1, r2, r3, r8] <;> rfl
          · have e7 : (((j - 1 : Nat)) : Int) = (j : Int) - 1 := by omega
            rw [e7]; simp (maxSteps := 2000000) (disch := first | omega | assumption) only [↓mCode, ↓mOps, mAll, seval, vPtr, ite_ne, wrap_i64, boundN_int, r9]
          · unfold swp
            rw [T.get_put, T.get_put]
            by_cases k1 : k = j - 1
            · rw [if_pos k1, if_neg (by omega), if_pos k1]
            · by_cases k2 : k = j
              · rw [if_neg k1, if_pos k2, if_pos k2]
              · rw [if_neg k1, if_neg k2, if_neg k2, if_neg k1]; exact gt9 k hk
          · have := D.2.1
            rw [T.get_put, if_neg (by omega), T.get_put, if_neg (by omega)]; exact hk8 k hk
        · simp (maxSteps := 2000000) (disch := first | omega | assumption) only [↓mCode, ↓mOps, mAll, seval, vPtr, ite_ne, wrap_i64, boundN_int, e1_tys, e1_fns, fn96, Tryz.f96, r0, r1, r2, r3, r8, r9, c3]
          refine hexit2 _ _ _ ⟨g', d', ?_, ?_, ?_, ?_, ?_, D, hp, ins_done hO hin hj hj2 (.inr (ltR_f c3)), hn8, hk8⟩
          iterate 5
            · simp only [mBase, Nat.reduceEqDiff, Nat.reduceSub, reduceIte, r0, r1, r2, r3, r8] <;> rfl
      · have c2' : ¬ (j : Int) > (a : Int) := by omega
        refine W_draw sr96_4 ss96_4 ?_ ?_
        · exact sk96_4
        simp (maxSteps := 2000000) (disch := first | omega | assumption) only [↓mCode, ↓mOps, mAll, seval, vPtr, ite_ne, wrap_i64, boundN_int, e1_tys, e1_fns, fn96, Tryz.f96, r0, r1, r2, r3, r8, r9, c2', Nat.mul_one]
        refine hexit2 _ _ _ ⟨g', d', ?_, ?_, ?_, ?_, ?_, D, hp, ins_done hO hin hj hj2 (.inl (by omega)), hn, hk⟩
        iterate 5
          · simp only [mBase, Nat.reduceEqDiff, Nat.reduceSub, reduceIte, r0, r1, r2, r3, r8] <;> rfl
    · rintro regs h9 n9 ⟨g', d', r0, r1, r2, r3, r8, D, hp, hso, hn, hk⟩
      simp (maxSteps := 2000000) (disch := first | omega | assumption) only [↓mCode, ↓mOps, mAll, seval, vPtr, ite_ne, wrap_i64, boundN_int, e1_tys, e1_fns, fn96, Tryz.f96, r0, r1, r2, r3, r8]
      refine IH (b - (i + 1)) _ _ _ (by omega) ⟨i + 1, g', d', rfl, by omega, by omega, ?_, ?_, ?_, ?_, ?_, D, hp, hso, hn, hk⟩
      iterate 5
        · simp only [mBase, Nat.reduceEqDiff, Nat.reduceSub, reduceIte, r0, r1, r2, r3, r8] <;> rfl
  · have c1' : ¬ (i : Int) < (b : Int) := by omega
    simp (maxSteps := 2000000) (disch := first | omega | assumption) only [↓mCode, ↓mOps, mAll, seval, vPtr, ite_ne, wrap_i64, boundN_int, e1_tys, e1_fns, fn96, Tryz.f96, r0, r1, r2, r3, r8, c1']
    exact K _ _ _ ⟨g', d', D, hp, fun p q h1 h2 h3 => hso p q h1 h2 (by omega), hn, hk⟩
end Go.Mir
namespace Go.Mir
open Go Go.Proofs Go.Srt
set_option maxRecDepth 4000
set_option maxHeartbeats 4000000

theorem swapRange_ok {h : T O} {n0 n id L a b m : Nat} {g : Nat → V} {d : Nat → List Tm} {f : V} (D : DatA h n0 n id L g d) (hab : a + m ≤ b) (hb : b + m ≤ L) (hL : L ≤ 1000) (h0 : n0 ≤ n) :
    Fn env1 242 [.slice id 0 L false 0 L, .int .i64 (a : Int), .int .i64 (b : Int), .int .i64 (m : Int), f] h n (fun _ h' n' => ∃ g', DatA h' n0 n' id L g' (swrD a b m d) ∧ n ≤ n' ∧ ∀ j, j < n0 → h'.get j = h.get j) := by
  refine Fn.mk fn242 rfl fz242 (by simp) fun Q cs K => ?_
  simp (maxSteps := 2000000) (disch := first | omega | assumption) only [↓mCode, ↓mOps, mAll, seval, vPtr, ite_ne, wrap_i64, boundN_int, e1_tys, e1_fns, fn242, Tryz.f242]
  refine W_loop (fun q regs h' n' => ∃ (i : Nat) (g' : Nat → V), q = m - i ∧ i ≤ m ∧ regs.get 0 = some (.slice id 0 L false 0 L) ∧ regs.get 1 = some (.int .i64 (a : Int)) ∧ regs.get 2 = some (.int .i64 (b : Int)) ∧
    regs.get 3 = some (.int .i64 (m : Int)) ∧ regs.get 10 = some (.int .i64 (i : Int)) ∧ DatA h' n0 n' id L g' (swrD a b i d) ∧ n ≤ n' ∧ ∀ j, j < n0 → h'.get j = h.get j)
    _ ⟨0, g, rfl, by omega, ?_, ?_, ?_, ?_, ?_, by rw [swrD_zero]; exact D, Nat.le_refl _, fun j hj => rfl⟩ ?_
  · simp (maxSteps := 2000000) (disch := first | omega | assumption) only [↓mCode, ↓mOps, mAll, seval, vPtr, ite_ne, wrap_i64, boundN_int, e1_tys]
  · simp (maxSteps := 2000000) (disch := first | omega | assumption) only [↓mCode, ↓mOps, mAll, seval, vPtr, ite_ne, wrap_i64, boundN_int, e1_tys]
  · simp (maxSteps := 2000000) (disch := first | omega | assumption) only [↓mCode, ↓mOps, mAll, seval, vPtr, ite_ne, wrap_i64, boundN_int, e1_tys]
  · simp (maxSteps := 2000000) (disch := first | omega | assumption) only [↓mCode, ↓mOps, mAll, seval, vPtr, ite_ne, wrap_i64, boundN_int, e1_tys]
  · simp (maxSteps := 2000000) (disch := first | omega | assumption) only [↓mCode, ↓mOps, mAll, seval, vPtr, ite_ne, wrap_i64, boundN_int, e1_tys]
  rintro q regs h' n' ⟨i, g', rfl, hi, r0, r1, r2, r3, r10, D, hn, hk⟩ IH
  by_cases c1 : i < m
  · have c1' : (i : Int) < (m : Int) := by omega
    simp (maxSteps := 2000000) (disch := first | omega | assumption) only [↓mCode, ↓mOps, mAll, seval, vPtr, ite_ne, wrap_i64, boundN_int, e1_tys, e1_fns, fn242, Tryz.f242, r0, r1, r2, r3, r10, c1']
    have e1 : ((a : Int) + (i : Int)).toNat = a + i := by omega
    have e2 : ((b : Int) + (i : Int)).toNat = b + i := by omega
    have hA : ∀ {k : V → Out}, cellAt h' id (a + i) k = k (g' (a + i)) := D.at (by omega)
    have hB : ∀ {k : V → Out}, cellAt h' id (b + i) k = k (g' (b + i)) := D.at (by omega)
    have oA : oneV (g' (a + i)) = true := (D.2.2.2 (a + i) (by omega)).1.1.one
    have oB : oneV (g' (b + i)) = true := (D.2.2.2 (b + i) (by omega)).1.1.one
    have cA : cellsOf (g' (a + i)) = [g' (a + i)] := cellsOf_one oA
    have cB : cellsOf (g' (b + i)) = [g' (b + i)] := cellsOf_one oB
    obtain ⟨t9, g9, gt9⟩ := D.1
    refine W_draw sr242_3 ss242_3 ?_ ?_
    · exact sk242_3
    simp (maxSteps := 2000000) (disch := first | omega | assumption) only [↓mCode, ↓mOps, mAll, seval, vPtr, ite_ne, wrap_i64, boundN_int, e1_tys, e1_fns, fn242, Tryz.f242, r0, r1, r2, r3, r10, e1, e2, hA, hB, oA, oB, cA, cB, g9, Nat.mul_one]
    have hid := D.2.1
    refine IH (m - (i + 1)) _ _ _ (by omega) ⟨i + 1, swp g' (a + i) (b + i), rfl, by omega, ?_, ?_, ?_, ?_, ?_, ?_, hn, fun k hk' => ?_⟩
    iterate 5
      · simp only [mBase, Nat.reduceEqDiff, Nat.reduceSub, reduceIte, r0, r1, r2, r3, r10] <;> rfl
    · rw [swrD_succ d (by omega)]
      refine D.swap (by omega) (by omega) (T.get_put _ _ _ _ |>.trans (if_pos rfl)) (fun k hk => ?_) (fun k hk => by rw [T.get_put, if_neg hk, T.get_put, if_neg hk])
      unfold swp
      rw [T.get_put, T.get_put]
      by_cases k1 : k = b + i
      · rw [if_pos k1, if_neg (by omega), if_pos k1]
      · by_cases k2 : k = a + i
        · rw [if_neg k1, if_pos k2, if_pos k2]
        · rw [if_neg k1, if_neg k2, if_neg k2, if_neg k1]; exact gt9 k hk
    · rw [T.get_put, if_neg (by omega), T.get_put, if_neg (by omega)]; exact hk k hk'
  · have c1' : ¬ (i : Int) < (m : Int) := by omega
    have e : i = m := by omega
    simp (maxSteps := 2000000) (disch := first | omega | assumption) only [↓mCode, ↓mOps, mAll, seval, vPtr, ite_ne, wrap_i64, boundN_int, e1_tys, e1_fns, fn242, Tryz.f242, r0, r1, r2, r3, r10, c1']
    exact K _ _ _ ⟨g', by rw [← e]; exact D, hn, hk⟩
end Go.Mir
namespace Go.Mir
open Go Go.Proofs Go.Srt
set_option maxRecDepth 4000
set_option maxHeartbeats 4000000

theorem rotate_ok {h : T O} {n0 n id L a m b : Nat} {g : Nat → V} {d : Nat → List Tm} {f : V} (D : DatA h n0 n id L g d) (h1 : a < m) (h2 : m < b) (hb : b ≤ L) (hL : L ≤ 1000) (h0 : n0 ≤ n) :
    Fn env1 161 [.slice id 0 L false 0 L, .int .i64 (a : Int), .int .i64 (m : Int), .int .i64 (b : Int), f] h n (fun _ h' n' => ∃ g', DatA h' n0 n' id L g' (rotD a m b d) ∧ n ≤ n' ∧ ∀ j, j < n0 → h'.get j = h.get j) := by
  refine Fn.mk fn161 rfl fz161 (by simp) fun Q cs K => ?_
  have e1 : (m : Int) - (a : Int) = ((m - a : Nat) : Int) := by omega
  have e2 : (b : Int) - (m : Int) = ((b - m : Nat) : Int) := by omega
  simp (maxSteps := 2000000) (disch := first | omega | assumption) only [↓mCode, ↓mOps, mAll, seval, vPtr, ite_ne, wrap_i64, boundN_int, e1_tys, e1_fns, fn161, Tryz.f161, e1, e2]
  refine W_loopE (fun q regs h' n' => ∃ (i j : Nat) (g' : Nat → V) (d' : Nat → List Tm), q = i + j ∧ 0 < i ∧ 0 < j ∧ i ≤ m ∧ m + j ≤ L ∧ regs.get 0 = some (.slice id 0 L false 0 L) ∧ regs.get 2 = some (.int .i64 (m : Int)) ∧ regs.get 4 = some f ∧
    regs.get 10 = some (.int .i64 (i : Int)) ∧ regs.get 11 = some (.int .i64 (j : Int)) ∧ DatA h' n0 n' id L g' d' ∧ rotD (m - i) m (m + j) d' = rotD a m b d ∧ n ≤ n' ∧ ∀ j, j < n0 → h'.get j = h.get j)
    (fun regs h' n' => ∃ (i : Nat) (g' : Nat → V) (d' : Nat → List Tm), 0 < i ∧ i ≤ m ∧ m + i ≤ L ∧ regs.get 0 = some (.slice id 0 L false 0 L) ∧ regs.get 2 = some (.int .i64 (m : Int)) ∧ regs.get 4 = some f ∧
    regs.get 10 = some (.int .i64 (i : Int)) ∧ DatA h' n0 n' id L g' d' ∧ rotD (m - i) m (m + i) d' = rotD a m b d ∧ n ≤ n' ∧ ∀ j, j < n0 → h'.get j = h.get j)
    _ ⟨m - a, b - m, g, d, rfl, by omega, by omega, by omega, by omega, ?_, ?_, ?_, ?_, ?_, D, by rw [show m - (m - a) = a by omega, show m + (b - m) = b by omega], Nat.le_refl _, fun j hj => rfl⟩ ?_ ?_
  · simp (maxSteps := 2000000) (disch := first | omega | assumption) only [↓mCode, ↓mOps, mAll, seval, vPtr, ite_ne, wrap_i64, boundN_int, e1_tys]
  · simp (maxSteps := 2000000) (disch := first | omega | assumption) only [↓mCode, ↓mOps, mAll, seval, vPtr, ite_ne, wrap_i64, boundN_int, e1_tys]
  · simp (maxSteps := 2000000) (disch := first | omega | assumption) only [↓mCode, ↓mOps, mAll, seval, vPtr, ite_ne, wrap_i64, boundN_int, e1_tys]
  · simp (maxSteps := 2000000) (disch := first | omega | assumption) only [↓mCode, ↓mOps, mAll, seval, vPtr, ite_ne, wrap_i64, boundN_int, e1_tys]
  · simp (maxSteps := 2000000) (disch := first | omega | assumption) only [↓mCode, ↓mOps, mAll, seval, vPtr, ite_ne, wrap_i64, boundN_int, e1_tys]
  · rintro t hexit q regs h' n' ⟨i, j, g', d', e0, hi, hj, him, hjl, r0, r2, r4, r10, r11, D, hr, hn, hk⟩ IH
    have e3 : (m : Int) - (i : Int) = ((m - i : Nat) : Int) := by omega
    by_cases c1 : i = j
    · subst c1
      have c1' : ¬ ((i : Int) ≠ (i : Int)) := by simp
      simp (maxSteps := 2000000) (disch := first | omega | assumption) only [↓mCode, ↓mOps, mAll, seval, vPtr, ite_ne, wrap_i64, boundN_int, e1_tys, e1_fns, fn161, Tryz.f161, r0, r2, r4, r10, r11, c1']
      exact hexit _ _ _ ⟨i, g', d', hi, him, by omega, by simp only [mBase, Nat.reduceEqDiff, Nat.reduceSub, reduceIte, r0], by simp only [mBase, Nat.reduceEqDiff, Nat.reduceSub, reduceIte, r2], by simp only [mBase, Nat.reduceEqDiff, Nat.reduceSub, reduceIte, r4], by simp only [mBase, Nat.reduceEqDiff, Nat.reduceSub, reduceIte, r10], D, hr, hn, hk⟩
    · have c1' : ((i : Int) ≠ (j : Int)) = True := eq_true (by omega)
      by_cases c2 : i > j
      · have c2' : (i : Int) > (j : Int) := by omega
        have e4 : (i : Int) - (j : Int) = ((i - j : Nat) : Int) := by omega
        simp (maxSteps := 2000000) (disch := first | omega | assumption) only [↓mCode, ↓mOps, mAll, seval, vPtr, ite_ne, wrap_i64, boundN_int, e1_tys, e1_fns, fn161, Tryz.f161, r0, r2, r4, r10, r11, c1', c2', e3]
        refine (swapRange_ok (f := f) D (a := m - i) (b := m) (m := j) (by omega) (by omega) hL (by omega)).call rfl e1_subs ?_
        rintro v h8 n8 ⟨g8, D8, hn8, hk8⟩
        simp (maxSteps := 2000000) (disch := first | omega | assumption) only [↓mCode, ↓mOps, mAll, seval, vPtr, ite_ne, wrap_i64, boundN_int, e1_tys, e1_fns, fn161, Tryz.f161, r0, r2, r4, r10, r11, e4]
        exact IH (i - j + j) _ _ _ (by omega) ⟨i - j, j, g8, _, rfl, by omega, hj, by omega, hjl, by simp only [mBase, Nat.reduceEqDiff, Nat.reduceSub, reduceIte, r0], by simp only [mBase, Nat.reduceEqDiff, Nat.reduceSub, reduceIte, r2], by simp only [mBase, Nat.reduceEqDiff, Nat.reduceSub, reduceIte, r4], by simp only [mBase, Nat.reduceEqDiff, Nat.reduceSub, reduceIte, r10], by simp only [mBase, Nat.reduceEqDiff, Nat.reduceSub, reduceIte, r11], D8,
          by rw [rot_gt d' him c2]; exact hr, by omega, fun k hk' => (hk8 k hk').trans (hk k hk')⟩
      · have c2' : ¬ (i : Int) > (j : Int) := by omega
        have e4 : (j : Int) - (i : Int) = ((j - i : Nat) : Int) := by omega
        have e5 : (m : Int) + (j : Int) - (i : Int) = ((m + j - i : Nat) : Int) := by omega
        simp (maxSteps := 2000000) (disch := first | omega | assumption) only [↓mCode, ↓mOps, mAll, seval, vPtr, ite_ne, wrap_i64, boundN_int, e1_tys, e1_fns, fn161, Tryz.f161, r0, r2, r4, r10, r11, c1', c2', e3, e5]
        refine (swapRange_ok (f := f) D (a := m - i) (b := m + j - i) (m := i) (by omega) (by omega) hL (by omega)).call rfl e1_subs ?_
        rintro v h8 n8 ⟨g8, D8, hn8, hk8⟩
        simp (maxSteps := 2000000) (disch := first | omega | assumption) only [↓mCode, ↓mOps, mAll, seval, vPtr, ite_ne, wrap_i64, boundN_int, e1_tys, e1_fns, fn161, Tryz.f161, r0, r2, r4, r10, r11, e4]
        exact IH (i + (j - i)) _ _ _ (by omega) ⟨i, j - i, g8, _, rfl, hi, by omega, him, by omega, by simp only [mBase, Nat.reduceEqDiff, Nat.reduceSub, reduceIte, r0], by simp only [mBase, Nat.reduceEqDiff, Nat.reduceSub, reduceIte, r2], by simp only [mBase, Nat.reduceEqDiff, Nat.reduceSub, reduceIte, r4], by simp only [mBase, Nat.reduceEqDiff, Nat.reduceSub, reduceIte, r10], by simp only [mBase, Nat.reduceEqDiff, Nat.reduceSub, reduceIte, r11], D8,
          by rw [rot_lt d' him (by omega)]; exact hr, by omega, fun k hk' => (hk8 k hk').trans (hk k hk')⟩
  · rintro regs h' n' ⟨i, g', d', hi, him, hil, r0, r2, r4, r10, D, hr, hn, hk⟩
    have e3 : (m : Int) - (i : Int) = ((m - i : Nat) : Int) := by omega
    simp (maxSteps := 2000000) (disch := first | omega | assumption) only [↓mCode, ↓mOps, mAll, seval, vPtr, ite_ne, wrap_i64, boundN_int, e1_tys, e1_fns, fn161, Tryz.f161, r0, r2, r4, r10, e3]
    refine (swapRange_ok (f := f) D (a := m - i) (b := m) (m := i) (by omega) (by omega) hL (by omega)).call rfl e1_subs ?_
    rintro v h8 n8 ⟨g8, D8, hn8, hk8⟩
    simp (maxSteps := 2000000) (disch := first | omega | assumption) only [↓mCode, ↓mOps, mAll, seval, vPtr, ite_ne, wrap_i64, boundN_int, e1_tys, e1_fns, fn161, Tryz.f161, r0, r2, r4, r10]
    exact K _ _ _ ⟨g8, by rw [← hr, ← rot_eq d' him]; exact D8, by omega, fun k hk' => (hk8 k hk').trans (hk k hk')⟩
end Go.Mir
namespace Go.Mir
open Go Go.Proofs Go.Srt
set_option maxRecDepth 4000
set_option maxHeartbeats 8000000

theorem conv_u64 {m : Nat} {k : V → Out} (h : m < 18446744073709551616) : convInt .u64 (m : Int) k = k (.int .u64 (m : Int)) := by
  have : IntKind.wrap .u64 (m : Int) = (m : Int) := by simp only [IntKind.wrap, IntKind.bits, IntKind.signed, Bool.false_and, Bool.false_eq_true, if_false]; omega
  show wrapK .u64 (m : Int) k = _
  show fInt _ _ = _; rw [fInt_eq, this]
theorem shr_one {m : Nat} {k : V → Out} : intBin .shr .u64 (m : Int) .u64 1 k = k (.int .u64 ((m / 2 : Nat) : Int)) := by
  have e : (m : Int).fdiv 2 = ((m / 2 : Nat) : Int) := by rw [Int.fdiv_eq_ediv_of_nonneg _ (by decide)]; omega
  have : Go.binOp .shr 0 (.int .u64 (m : Int)) (.int .u64 1) = .pure (.int .u64 ((m : Int).fdiv 2)) := rfl
  show gen .shr .u64 (m : Int) .u64 1 k = _; unfold gen; rw [this, e, genI_int]
theorem tb169 : toBytes tys 158 = false := by kernel_rfl
theorem tb3 : toBytes tys 3 = false := by kernel_rfl
theorem convK_169 {h : T O} {z : Int} {k : V → Out} : convK tys h 3 158 (.int .i64 z) k = convInt .u64 z k := by
  unfold convK; rw [ty3, ty158, om_some, om_some]
theorem convK_3 {h : T O} {z : Int} {k : V → Out} : convK tys h 158 3 (.int .u64 z) k = convInt .i64 z k := by
  unfold convK; rw [ty3, ty158, om_some, om_some]

section
variable {d : Nat → List Tm} {a m b p c : Nat}
theorem up_t (O : Ord ltR) (hb : Sorted ltR m b d) {h x : Nat} (h1 : m ≤ h) (h2 : h < b) (e : ltR (d h) (d x) = true) {k : Nat} (k1 : m ≤ k) (k2 : k ≤ h) : ltR (d k) (d x) = true := by
  cases e2 : ltR (d k) (d x) with
  | true => rfl
  | false => have := O.ntrans _ _ _ e2 (hb.le O k1 k2 h2); rw [e] at this; cases this
theorem up_f (O : Ord ltR) (hb : Sorted ltR m b d) {h x : Nat} (h1 : m ≤ h) (e : ltR (d h) (d x) = false) {k : Nat} (k1 : h ≤ k) (k2 : k < b) : ltR (d k) (d x) = false :=
  O.ntrans _ _ _ e (hb.le O h1 k1 k2)
theorem dn_f (O : Ord ltR) (ha : Sorted ltR a m d) {h x : Nat} (h2 : h < m) (e : ltR (d x) (d h) = false) {k : Nat} (k1 : a ≤ k) (k2 : k ≤ h) : ltR (d x) (d k) = false :=
  O.ntrans _ _ _ (ha.le O k1 k2 h2) e
theorem dn_t (O : Ord ltR) (ha : Sorted ltR a m d) {h x : Nat} (h1 : a ≤ h) (e : ltR (d x) (d h) = true) {k : Nat} (k1 : h ≤ k) (k2 : k < m) : ltR (d x) (d k) = true := by
  cases e2 : ltR (d x) (d k) with
  | true => rfl
  | false => have := O.ntrans _ _ _ (ha.le O h1 k1 k2) e2; rw [e] at this; cases this

/-- the places of the merge's search -/
theorem place (h1 : a < m) (h2 : m < b) (hp : p = (a + b) / 2 + m - 1) (l : s0 a m b ≤ c) (r : c < r0 a m b) : a ≤ c ∧ c < m ∧ m ≤ p - c ∧ p - c < b ∧ c ≤ p := by
  unfold s0 at l; unfold r0 at r
  split at l <;> rename_i q <;> simp only [q, if_true, if_false] at r <;> omega
theorem s0_le (h1 : a < m) (h2 : m < b) : s0 a m b ≤ r0 a m b := by
  unfold s0 r0
  split <;> omega
theorem r0_le (h1 : a < m) (h2 : m < b) : r0 a m b ≤ b := by
  unfold r0
  split <;> omega
theorem yes_step (O : Ord ltR) (h1 : a < m) (h2 : m < b) (hp : p = (a + b) / 2 + m - 1) (ha : Sorted ltR a m d) (hb : Sorted ltR m b d) (l : s0 a m b ≤ c) (r : c < r0 a m b)
    (e : ltR (d (p - c)) (d c) = false) {k : Nat} (k1 : s0 a m b ≤ k) (k2 : k ≤ c) : ltR (d (p - k)) (d k) = false := by
  have q1 := place h1 h2 hp l r
  have q2 := place (c := k) h1 h2 hp k1 (by omega)
  exact O.ntrans _ _ _ (ha.le O q2.1 k2 q1.2.1) (O.ntrans _ _ _ e (hb.le O q1.2.2.1 (by omega) q2.2.2.2.1))
theorem no_step (O : Ord ltR) (h1 : a < m) (h2 : m < b) (hp : p = (a + b) / 2 + m - 1) (ha : Sorted ltR a m d) (hb : Sorted ltR m b d) (l : s0 a m b ≤ c) (r : c < r0 a m b)
    (e : ltR (d (p - c)) (d c) = true) {k : Nat} (k1 : c ≤ k) (k2 : k < r0 a m b) : ltR (d (p - k)) (d k) = true := by
  have q1 := place h1 h2 hp l r
  have q2 := place (c := k) h1 h2 hp (by omega) k2
  cases e2 : ltR (d (p - k)) (d k) with
  | true => rfl
  | false =>
    have := O.ntrans _ _ _ (O.ntrans _ _ _ (ha.le O q1.1 k1 q2.2.1) e2) (hb.le O q2.2.2.1 (by omega) q1.2.2.2.1)
    rw [e] at this; cases this
end

/-- one element of the first row, put into the second -/
theorem symMergeA {h : T O} {n0 n id L a m b : Nat} {g : Nat → V} {d : Nat → List Tm} (D : DatA h n0 n id L g d) (hO : Ord ltR) (h1 : m = a + 1) (h2 : m < b) (hb : b ≤ L) (hL : L ≤ 1000) (h0 : n0 ≤ n) (hs : ∀ j, j < L → (d j).length ≤ 1000000) (s1 : Sorted ltR a m d) (s2 : Sorted ltR m b d) :
    Fn env1 97 [.slice id 0 L false 0 L, .int .i64 (a : Int), .int .i64 (m : Int), .int .i64 (b : Int), .func 43 [] []] h n (fun _ h' n' => ∃ g' d', DatA h' n0 n' id L g' d' ∧ PermD a b d d' ∧ Sorted ltR a b d' ∧ n ≤ n' ∧ ∀ j, j < n0 → h'.get j = h.get j) := by
  refine Fn.mk fn97 rfl fz97 (by simp) fun Q cs K => ?_
  have e1 : (m : Int) - (a : Int) = 1 := by omega
  simp (maxSteps := 2000000) (disch := first | omega | assumption) only [↓mCode, ↓mOps, mAll, seval, vPtr, ite_ne, wrap_i64, boundN_int, e1_tys, e1_fns, fn97, Tryz.f97, e1]
  refine W_loopE (fun q regs h' n' => ∃ (i j : Nat), q = j - i ∧ m ≤ i ∧ i ≤ j ∧ j ≤ b ∧ regs.get 0 = some (.slice id 0 L false 0 L) ∧ regs.get 1 = some (.int .i64 (a : Int)) ∧ regs.get 4 = some (.func 43 [] []) ∧
    regs.get 10 = some (.int .i64 (i : Int)) ∧ regs.get 11 = some (.int .i64 (j : Int)) ∧ DatA h' n0 n' id L g d ∧ (∀ k, m ≤ k → k < i → ltR (d k) (d a) = true) ∧ (∀ k, j ≤ k → k < b → ltR (d k) (d a) = false) ∧ n ≤ n' ∧ ∀ j, j < n0 → h'.get j = h.get j)
    (fun regs h' n' => ∃ (i : Nat), m ≤ i ∧ i ≤ b ∧ regs.get 0 = some (.slice id 0 L false 0 L) ∧ regs.get 1 = some (.int .i64 (a : Int)) ∧
    regs.get 10 = some (.int .i64 (i : Int)) ∧ DatA h' n0 n' id L g d ∧ (∀ k, m ≤ k → k < i → ltR (d k) (d a) = true) ∧ (∀ k, i ≤ k → k < b → ltR (d k) (d a) = false) ∧ n ≤ n' ∧ ∀ j, j < n0 → h'.get j = h.get j)
    _ ⟨m, b, rfl, Nat.le_refl _, by omega, Nat.le_refl _, ?_, ?_, ?_, ?_, ?_, D, fun k k1 k2 => absurd k2 (by omega), fun k k1 k2 => absurd k2 (by omega), Nat.le_refl _, fun j hj => rfl⟩ ?_ ?_
  · simp (maxSteps := 2000000) (disch := first | omega | assumption) only [↓mCode, ↓mOps, mAll, seval, vPtr, ite_ne, wrap_i64, boundN_int, e1_tys]
  · simp (maxSteps := 2000000) (disch := first | omega | assumption) only [↓mCode, ↓mOps, mAll, seval, vPtr, ite_ne, wrap_i64, boundN_int, e1_tys]
  · simp (maxSteps := 2000000) (disch := first | omega | assumption) only [↓mCode, ↓mOps, mAll, seval, vPtr, ite_ne, wrap_i64, boundN_int, e1_tys]
  · simp (maxSteps := 2000000) (disch := first | omega | assumption) only [↓mCode, ↓mOps, mAll, seval, vPtr, ite_ne, wrap_i64, boundN_int, e1_tys]
  · simp (maxSteps := 2000000) (disch := first | omega | assumption) only [↓mCode, ↓mOps, mAll, seval, vPtr, ite_ne, wrap_i64, boundN_int, e1_tys]
  · rintro t hexit q regs h' n' ⟨i, j, e0, hi, hij, hj, r0, r1, r4, r10, r11, D, ht, hf, hn, hk⟩ IH
    by_cases c1 : i < j
    · have c1' : (i : Int) < (j : Int) := by omega
      have e2 : (i : Int) + (j : Int) = ((i + j : Nat) : Int) := by omega
      have e3 : ∀ {k : V → Out}, convInt .u64 ((i + j : Nat) : Int) k = k (.int .u64 ((i + j : Nat) : Int)) := conv_u64 (by omega)
      have e4 : ∀ {k : V → Out}, intBin .shr .u64 ((i + j : Nat) : Int) .u64 1 k = k (.int .u64 (((i + j) / 2 : Nat) : Int)) := shr_one
      have e5 : ∀ {k : V → Out}, convInt .i64 (((i + j) / 2 : Nat) : Int) k = k (.int .i64 (((i + j) / 2 : Nat) : Int)) := convInt_i64 (by omega) (by omega)
      obtain ⟨c, hc⟩ : ∃ c, c = (i + j) / 2 := ⟨_, rfl⟩
      have hc1 : i ≤ c := by omega
      have hc2 : c < j := by omega
      rw [← hc] at e4 e5
      have hA : ∀ {k : V → Out}, cellAt h' id c k = k (g c) := D.at (by omega)
      have hB : ∀ {k : V → Out}, cellAt h' id a k = k (g a) := D.at (by omega)
      simp (maxSteps := 2000000) (disch := first | omega | assumption) only [↓mCode, ↓mOps, mAll, seval, vPtr, ite_ne, wrap_i64, boundN_int, e1_tys, e1_fns, fn97, Tryz.f97, tb169, tb3, convK_169, convK_3, r0, r1, r4, r10, r11, c1', e2, e3, e4, e5]
      refine W_draw sr97_5 ss97_5 ?_ ?_
      · exact sk97_5
      simp (maxSteps := 2000000) (disch := first | omega | assumption) only [↓mCode, ↓mOps, mAll, seval, vPtr, ite_ne, wrap_i64, boundN_int, e1_tys, e1_fns, fn97, Tryz.f97, r0, r1, r4, r10, r11, hA, hB, Nat.mul_one]
      refine (compare_ok (D.2.2.2 c (by omega)).1 (D.2.2.2 a (by omega)).1 (hs c (by omega)) (hs a (by omega))).call rfl e1_subs ?_
      rintro _ h8 n8 ⟨rfl, G⟩
      have D := D.ext G
      have hn8 : n ≤ n8 := Nat.le_trans hn G.1
      have hk8 : ∀ j, j < n0 → h8.get j = h.get j := fun j hj => (G.2 j (by omega)).trans (hk j hj)
      by_cases c3 : lexL cmpT (d c) (d a) < 0
      · simp (maxSteps := 2000000) (disch := first | omega | assumption) only [↓mCode, ↓mOps, mAll, seval, vPtr, ite_ne, wrap_i64, boundN_int, e1_tys, e1_fns, fn97, Tryz.f97, r0, r1, r4, r10, r11, c3]
        exact IH (j - (c + 1)) _ _ _ (by omega) ⟨c + 1, j, rfl, by omega, by omega, hj, by simp only [mBase, Nat.reduceEqDiff, Nat.reduceSub, reduceIte, r0], by simp only [mBase, Nat.reduceEqDiff, Nat.reduceSub, reduceIte, r1], by simp only [mBase, Nat.reduceEqDiff, Nat.reduceSub, reduceIte, r4], by simp only [mBase, Nat.reduceEqDiff, Nat.reduceSub, reduceIte, r10]; rfl, by simp only [mBase, Nat.reduceEqDiff, Nat.reduceSub, reduceIte, r11], D,
          fun k k1 k2 => up_t hO s2 (by omega) (by omega) (ltR_t c3) k1 (by omega), hf, hn8, hk8⟩
      · simp (maxSteps := 2000000) (disch := first | omega | assumption) only [↓mCode, ↓mOps, mAll, seval, vPtr, ite_ne, wrap_i64, boundN_int, e1_tys, e1_fns, fn97, Tryz.f97, r0, r1, r4, r10, r11, c3]
        exact IH (c - i) _ _ _ (by omega) ⟨i, c, rfl, by omega, by omega, by omega, by simp only [mBase, Nat.reduceEqDiff, Nat.reduceSub, reduceIte, r0], by simp only [mBase, Nat.reduceEqDiff, Nat.reduceSub, reduceIte, r1], by simp only [mBase, Nat.reduceEqDiff, Nat.reduceSub, reduceIte, r4], by simp only [mBase, Nat.reduceEqDiff, Nat.reduceSub, reduceIte, r10], by simp only [mBase, Nat.reduceEqDiff, Nat.reduceSub, reduceIte, r11], D,
          ht, fun k k1 k2 => up_f hO s2 (by omega) (ltR_f c3) k1 k2, hn8, hk8⟩
    · have c1' : ¬ (i : Int) < (j : Int) := by omega
      have e : j = i := by omega
      subst e
      simp (maxSteps := 2000000) (disch := first | omega | assumption) only [↓mCode, ↓mOps, mAll, seval, vPtr, ite_ne, wrap_i64, boundN_int, e1_tys, e1_fns, fn97, Tryz.f97, r0, r1, r4, r10, r11, c1']
      exact hexit _ _ _ ⟨j, hi, hj, by simp only [mBase, Nat.reduceEqDiff, Nat.reduceSub, reduceIte, r0], by simp only [mBase, Nat.reduceEqDiff, Nat.reduceSub, reduceIte, r1], by simp only [mBase, Nat.reduceEqDiff, Nat.reduceSub, reduceIte, r10], D, ht, hf, hn, hk⟩
  · rintro regs h' n' ⟨i, hi, hib, r0, r1, r10, D, ht, hf, hn, hk⟩
    simp (maxSteps := 2000000) (disch := first | omega | assumption) only [↓mCode, ↓mOps, mAll, seval, vPtr, ite_ne, wrap_i64, boundN_int, e1_tys, e1_fns, fn97, Tryz.f97, r0, r1, r10]
    refine W_loop (fun q regs h' n' => ∃ (k : Nat) (g' : Nat → V), q = i - k ∧ a ≤ k ∧ k + 1 ≤ i ∧ regs.get 0 = some (.slice id 0 L false 0 L) ∧ regs.get 13 = some (.int .i64 (k : Int)) ∧
      regs.get 10 = some (.int .i64 (i : Int)) ∧ DatA h' n0 n' id L g' (rotD a (a + 1) (k + 1) d) ∧ n ≤ n' ∧ ∀ j, j < n0 → h'.get j = h.get j)
      _ ⟨a, g, rfl, Nat.le_refl _, by omega, ?_, ?_, ?_, by rw [walk_up0]; exact D, hn, hk⟩ ?_
    iterate 3
      · simp only [mBase, Nat.reduceEqDiff, Nat.reduceSub, reduceIte, r0, r1, r10] <;> rfl
    rintro q regs h' n' ⟨k, g', rfl, hak, hki, r0, r13, r10, D, hn, hk⟩ IH
    by_cases c1 : k + 1 < i
    · have c1' : (k : Int) < (i : Int) - 1 := by omega
      have e2 : ((k : Int) + 1).toNat = k + 1 := by omega
      have hA : ∀ {q : V → Out}, cellAt h' id k q = q (g' k) := D.at (by omega)
      have hB : ∀ {q : V → Out}, cellAt h' id (k + 1) q = q (g' (k + 1)) := D.at (by omega)
      have oA : oneV (g' k) = true := (D.2.2.2 k (by omega)).1.1.one
      have oB : oneV (g' (k + 1)) = true := (D.2.2.2 (k + 1) (by omega)).1.1.one
      have cA : cellsOf (g' k) = [g' k] := cellsOf_one oA
      have cB : cellsOf (g' (k + 1)) = [g' (k + 1)] := cellsOf_one oB
      obtain ⟨t9, g9, gt9⟩ := D.1
      simp (maxSteps := 2000000) (disch := first | omega | assumption) only [↓mCode, ↓mOps, mAll, seval, vPtr, ite_ne, wrap_i64, boundN_int, e1_tys, e1_fns, fn97, Tryz.f97, r0, r13, r10, c1']
      refine W_draw sr97_11 ss97_11 ?_ ?_
      · exact sk97_11
      simp (maxSteps := 2000000) (disch := first | omega | assumption) only [↓mCode, ↓mOps, mAll, seval, vPtr, ite_ne, wrap_i64, boundN_int, e1_tys, e1_fns, fn97, Tryz.f97, r0, r13, r10, e2, hA, hB, oA, oB, cA, cB, g9, Nat.mul_one]
      have hid := D.2.1
      refine IH (i - (k + 1)) _ _ _ (by omega) ⟨k + 1, swp g' k (k + 1), rfl, by omega, by omega, ?_, ?_, ?_, ?_, hn, fun x hx => ?_⟩
      iterate 3
        · simp only [mBase, Nat.reduceEqDiff, Nat.reduceSub, reduceIte, r0, r13, r10] <;> rfl
      · rw [← walk_up d hak]
        refine D.swap (by omega) (by omega) (T.get_put _ _ _ _ |>.trans (if_pos rfl)) (fun x hx => ?_) (fun x hx => by rw [T.get_put, if_neg hx, T.get_put, if_neg hx])
        unfold swp
        rw [T.get_put, T.get_put]
        by_cases k1 : x = k + 1
        · rw [if_pos k1, if_neg (by omega), if_pos k1]
        · by_cases k2 : x = k
          · rw [if_neg k1, if_pos k2, if_pos k2]
          · rw [if_neg k1, if_neg k2, if_neg k2, if_neg k1]; exact gt9 x hx
      · rw [T.get_put, if_neg (by omega), T.get_put, if_neg (by omega)]; exact hk x hx
    · have c1' : ¬ (k : Int) < (i : Int) - 1 := by omega
      have e : k + 1 = i := by omega
      simp (maxSteps := 2000000) (disch := first | omega | assumption) only [↓mCode, ↓mOps, mAll, seval, vPtr, ite_ne, wrap_i64, boundN_int, e1_tys, e1_fns, fn97, Tryz.f97, r0, r13, r10, c1']
      rw [e] at D
      refine K _ _ _ ⟨g', _, D, (rotD_perm d (by omega) (by omega)).mono (Nat.le_refl _) hib, ?_, hn, hk⟩
      refine rot_sorted (Nat.le_refl _) (by omega) (by omega) hib (h1 ▸ s1) (h1 ▸ s2) (fun x y x1 x2 => absurd x2 (by omega)) (fun x y x1 x2 y1 y2 => ?_) (fun x y x1 x2 y1 y2 => ?_)
      · have e : x = a := by omega
        subst e; exact hO.asym _ _ (ht y (by omega) y2)
      · have e : x = a := by omega
        subst e; exact hf y y1 y2
end Go.Mir
