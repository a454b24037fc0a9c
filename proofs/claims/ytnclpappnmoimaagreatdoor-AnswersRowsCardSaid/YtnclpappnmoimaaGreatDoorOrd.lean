/- The plain law of rows in order: comparing lists part by part; a sorted list is told by its members; inserting, striking what stands twice. No program in sight. -/
namespace Go.Srt
variable {α β : Type}

/-- a comparison: 0 just at the same, turned round it changes its sign, 'less' goes on -/
structure LC (c : α → α → Int) : Prop where
  z : ∀ x y, c x y = 0 ↔ x = y
  s : ∀ x y, c x y < 0 ↔ 0 < c y x
  t : ∀ x y w, c x y < 0 → c y w < 0 → c x w < 0

theorem LC.irr {c : α → α → Int} (h : LC c) (x : α) : c x x = 0 := (h.z x x).2 rfl

/-- lists, part by part -/
def lexL (c : α → α → Int) : List α → List α → Int
  | [], [] => 0
  | [], _ :: _ => -1
  | _ :: _, [] => 1
  | x :: a, y :: b => if c x y = 0 then lexL c a b else c x y

theorem lexL_LC {c : α → α → Int} (h : LC c) : LC (lexL c) where
  z := by
    intro a
    induction a with
    | nil => intro b; cases b <;> simp [lexL]
    | cons x a ih =>
      intro b
      cases b with
      | nil => simp [lexL]
      | cons y b =>
        simp only [lexL]
        split
        · rename_i hz; rw [ih b, (h.z x y).1 hz]; simp
        · rename_i hz
          constructor
          · intro e; exact absurd e hz
          · intro e; cases e; exact absurd (h.irr x) hz
  s := by
    intro a
    induction a with
    | nil => intro b; cases b <;> simp [lexL]
    | cons x a ih =>
      intro b
      cases b with
      | nil => simp [lexL]
      | cons y b =>
        simp only [lexL]
        by_cases hz : c x y = 0
        · have e := (h.z x y).1 hz
          subst e
          rw [if_pos (h.irr x), if_pos (h.irr x)]; exact ih b
        · have hz' : ¬ c y x = 0 := fun e => hz ((h.z x y).2 ((h.z y x).1 e).symm)
          rw [if_neg hz, if_neg hz']; exact h.s x y
  t := by
    intro a
    induction a with
    | nil =>
      intro b d h1 h2
      cases b with
      | nil => simp [lexL] at h1
      | cons y b => cases d with
        | nil => simp [lexL] at h2
        | cons z d => simp [lexL]
    | cons x a ih =>
      intro b d h1 h2
      cases b with
      | nil => simp [lexL] at h1
      | cons y b => cases d with
        | nil => simp [lexL] at h2
        | cons z d =>
          simp only [lexL] at h1 h2 ⊢
          by_cases e1 : c x y = 0
          · have := (h.z x y).1 e1; subst this
            rw [if_pos (h.irr x)] at h1
            by_cases e2 : c x z = 0
            · rw [if_pos e2] at h2 ⊢; exact ih b d h1 h2
            · rw [if_neg e2] at h2 ⊢; exact h2
          · rw [if_neg e1] at h1
            by_cases e2 : c y z = 0
            · have := (h.z y z).1 e2; subst this
              rw [if_neg e1]; exact h1
            · rw [if_neg e2] at h2
              have := h.t x y z h1 h2
              rw [if_neg (by omega)]; exact this

/-- the first, then the second -/
def orC (p q : Int) : Int := if p = 0 then q else p

def pairC (c : α → α → Int) (d : β → β → Int) (x y : α × β) : Int := orC (c x.1 y.1) (d x.2 y.2)

theorem pairC_LC {c : α → α → Int} {d : β → β → Int} (h : LC c) (k : LC d) : LC (pairC c d) where
  z := by
    intro x y
    simp only [pairC, orC]
    split
    · rename_i e; rw [k.z, Prod.ext_iff, (h.z _ _).1 e]; simp
    · rename_i e
      constructor
      · intro e2; exact absurd e2 e
      · intro e2; subst e2; exact absurd (h.irr _) e
  s := by
    intro x y
    simp only [pairC, orC]
    by_cases e : c x.1 y.1 = 0
    · have e' : c y.1 x.1 = 0 := (h.z _ _).2 ((h.z _ _).1 e).symm
      rw [if_pos e, if_pos e']; exact k.s _ _
    · have e' : ¬ c y.1 x.1 = 0 := fun f => e ((h.z _ _).2 ((h.z _ _).1 f).symm)
      rw [if_neg e, if_neg e']; exact h.s _ _
  t := by
    intro x y w
    simp only [pairC, orC]
    intro h1 h2
    by_cases e1 : c x.1 y.1 = 0
    · rw [if_pos e1] at h1
      have q := (h.z _ _).1 e1
      rw [q]
      by_cases e2 : c y.1 w.1 = 0
      · rw [if_pos e2] at h2 ⊢; exact k.t _ _ _ h1 h2
      · rw [if_neg e2] at h2 ⊢; exact h2
    · rw [if_neg e1] at h1
      by_cases e2 : c y.1 w.1 = 0
      · rw [← (h.z _ _).1 e2, if_neg e1]; exact h1
      · rw [if_neg e2] at h2
        have := h.t _ _ _ h1 h2
        rw [if_neg (by omega)]; exact this

/-- whole numbers -/
def intC (x y : Int) : Int := if x < y then -1 else if y < x then 1 else 0
theorem intC_LC : LC intC where
  z x y := by unfold intC; split <;> (try split) <;> constructor <;> intro h <;> omega
  s x y := by unfold intC; split <;> (try split) <;> (try split) <;> constructor <;> intro h <;> omega
  t x y w h1 h2 := by
    unfold intC at h1 h2 ⊢
    have a1 : x < y := by split at h1 <;> (try split at h1) <;> omega
    have a2 : y < w := by split at h2 <;> (try split at h2) <;> omega
    rw [if_pos (by omega)]; decide
def natC (x y : Nat) : Int := if x = y then 0 else if x < y then -1 else 1
theorem natC_LC : LC natC where
  z x y := by unfold natC; split <;> (try split) <;> constructor <;> intro h <;> omega
  s x y := by unfold natC; split <;> (try split) <;> (try split) <;> (try split) <;> constructor <;> intro h <;> omega
  t x y w h1 h2 := by
    unfold natC at h1 h2 ⊢
    have a1 : x < y := by split at h1 <;> (try split at h1) <;> omega
    have a2 : y < w := by split at h2 <;> (try split at h2) <;> omega
    rw [if_neg (by omega), if_pos (by omega)]; decide

/-- rising, equals side by side -/
def Asc (c : α → α → Int) (l : List α) : Prop := l.Pairwise fun x y => c x y ≤ 0
/-- rising, no equals -/
def Strict (c : α → α → Int) (l : List α) : Prop := l.Pairwise fun x y => c x y < 0

variable {c : α → α → Int}

theorem LC.anti (h : LC c) {x y : α} (h1 : c x y ≤ 0) (h2 : c y x ≤ 0) : x = y := by
  rw [← h.z]
  have := h.s x y
  have := h.s y x
  omega

theorem LC.le_trans (h : LC c) {x y w : α} (h1 : c x y ≤ 0) (h2 : c y w ≤ 0) : c x w ≤ 0 := by
  by_cases e1 : c x y = 0
  · rw [(h.z _ _).1 e1]; exact h2
  · by_cases e2 : c y w = 0
    · rw [← (h.z _ _).1 e2]; exact h1
    · have := h.t x y w (by omega) (by omega); omega

theorem asc_unique (h : LC c) : ∀ {l m : List α}, l.Perm m → Asc c l → Asc c m → l = m
  | [], m, p, _, _ => p.nil_eq
  | x :: l, [], p, _, _ => absurd p.length_eq (by simp)
  | x :: l, y :: m, p, h1, h2 => by
    have a1 := List.pairwise_cons.1 h1
    have a2 := List.pairwise_cons.1 h2
    have e : x = y := by
      have hx : x ∈ y :: m := p.subset (List.mem_cons_self)
      have hy : y ∈ x :: l := p.symm.subset (List.mem_cons_self)
      rcases List.mem_cons.1 hx with e | hx
      · exact e
      · rcases List.mem_cons.1 hy with e | hy
        · exact e.symm
        · exact h.anti (a1.1 y hy) (a2.1 x hx)
    subst e
    rw [asc_unique h (List.Perm.cons_inv p) a1.2 a2.2]

theorem strict_unique (h : LC c) : ∀ {l m : List α}, (∀ x, x ∈ l ↔ x ∈ m) → Strict c l → Strict c m → l = m
  | [], [], _, _, _ => rfl
  | [], y :: m, p, _, _ => absurd ((p y).2 (List.mem_cons_self)) (by simp)
  | x :: l, [], p, _, _ => absurd ((p x).1 (List.mem_cons_self)) (by simp)
  | x :: l, y :: m, p, h1, h2 => by
    have a1 := List.pairwise_cons.1 h1
    have a2 := List.pairwise_cons.1 h2
    have e : x = y := by
      rcases List.mem_cons.1 ((p x).1 (List.mem_cons_self)) with e | hx
      · exact e
      · rcases List.mem_cons.1 ((p y).2 (List.mem_cons_self)) with e | hy
        · exact e.symm
        · exact h.anti (Int.le_of_lt (a1.1 y hy)) (Int.le_of_lt (a2.1 x hx))
    subst e
    have hn1 : x ∉ l := fun hx => by have := a1.1 x hx; rw [h.irr] at this; omega
    have hn2 : x ∉ m := fun hx => by have := a2.1 x hx; rw [h.irr] at this; omega
    rw [strict_unique h (fun w => ?_) a1.2 a2.2]
    constructor
    · intro hw
      rcases List.mem_cons.1 ((p w).1 (List.mem_cons_of_mem _ hw)) with e | h'
      · subst e; exact absurd hw hn1
      · exact h'
    · intro hw
      rcases List.mem_cons.1 ((p w).2 (List.mem_cons_of_mem _ hw)) with e | h'
      · subst e; exact absurd hw hn2
      · exact h'

/-- put ahead of the first that is not less -/
def ins (c : α → α → Int) (x : α) : List α → List α
  | [] => [x]
  | y :: l => if c y x < 0 then y :: ins c x l else x :: y :: l
/-- the same, if it is not there -/
def insOnce (c : α → α → Int) (x : α) : List α → List α
  | [] => [x]
  | y :: l => if c y x < 0 then y :: insOnce c x l else if c y x = 0 then y :: l else x :: y :: l

theorem ins_perm (x : α) : ∀ l, (ins c x l).Perm (x :: l)
  | [] => List.Perm.refl _
  | y :: l => by
    simp only [ins]; split
    · exact ((ins_perm x l).cons y).trans (List.Perm.swap x y l)
    · exact List.Perm.refl _

theorem ins_asc (h : LC c) (x : α) : ∀ {l}, Asc c l → Asc c (ins c x l)
  | [], _ => List.pairwise_singleton _ _
  | y :: l, ha => by
    have a := List.pairwise_cons.1 ha
    simp only [ins]; split
    · rename_i hlt
      refine List.pairwise_cons.2 ⟨fun z hz => ?_, ins_asc h x a.2⟩
      rcases List.mem_cons.1 ((ins_perm x l).subset hz) with e | hz
      · subst e; omega
      · exact a.1 z hz
    · rename_i hge
      have hxy : c x y ≤ 0 := by have := h.s x y; have := h.s y x; omega
      refine List.pairwise_cons.2 ⟨fun z hz => ?_, ha⟩
      rcases List.mem_cons.1 hz with e | hz
      · subst e; exact hxy
      · exact h.le_trans hxy (a.1 z hz)

theorem insOnce_mem (h : LC c) (x : α) : ∀ l w, w ∈ insOnce c x l ↔ w = x ∨ w ∈ l
  | [], w => by simp [insOnce]
  | y :: l, w => by
    simp only [insOnce]; split
    · rw [List.mem_cons, insOnce_mem h x l w, List.mem_cons]
      constructor
      · rintro (h | h | h) <;> simp [h]
      · rintro (h | h | h) <;> simp [h]
    · split
      · rename_i e; rw [(h.z _ _).1 e]; simp
      · simp

theorem insOnce_strict (h : LC c) (x : α) : ∀ {l}, Strict c l → Strict c (insOnce c x l)
  | [], _ => List.pairwise_singleton _ _
  | y :: l, ha => by
    have a := List.pairwise_cons.1 ha
    simp only [insOnce]; split
    · rename_i hlt
      refine List.pairwise_cons.2 ⟨fun z hz => ?_, insOnce_strict h x a.2⟩
      rcases (insOnce_mem h x l z).1 hz with e | hz
      · subst e; exact hlt
      · exact a.1 z hz
    · split
      · exact ha
      · rename_i h1 h2
        have hxy : c x y < 0 := by have := h.s x y; omega
        refine List.pairwise_cons.2 ⟨fun z hz => ?_, ha⟩
        rcases List.mem_cons.1 hz with e | hz
        · subst e; exact hxy
        · exact h.t _ _ _ hxy (a.1 z hz)

def sortR (c : α → α → Int) (l : List α) : List α := l.foldl (fun acc x => ins c x acc) []
def distR (c : α → α → Int) (l : List α) : List α := l.foldl (fun acc x => insOnce c x acc) []

theorem sortR_go (h : LC c) : ∀ (l acc : List α), Asc c acc → Asc c (l.foldl (fun acc x => ins c x acc) acc) ∧ (l.foldl (fun acc x => ins c x acc) acc).Perm (acc ++ l)
  | [], acc, ha => ⟨ha, by simp⟩
  | x :: l, acc, ha => by
    obtain ⟨h1, h2⟩ := sortR_go h l (ins c x acc) (ins_asc h x ha)
    refine ⟨h1, h2.trans ?_⟩
    exact ((ins_perm x acc).append_right l).trans (by
      show (x :: (acc ++ l)).Perm (acc ++ x :: l)
      exact List.perm_middle.symm)

theorem distR_go (h : LC c) : ∀ (l acc : List α), Strict c acc → Strict c (l.foldl (fun acc x => insOnce c x acc) acc) ∧ ∀ w, w ∈ l.foldl (fun acc x => insOnce c x acc) acc ↔ w ∈ acc ∨ w ∈ l
  | [], acc, ha => ⟨ha, by simp⟩
  | x :: l, acc, ha => by
    obtain ⟨h1, h2⟩ := distR_go h l (insOnce c x acc) (insOnce_strict h x ha)
    refine ⟨h1, fun w => ?_⟩
    rw [List.foldl_cons, h2 w, insOnce_mem h x acc w, List.mem_cons]
    constructor
    · rintro ((h | h) | h) <;> simp [h]
    · rintro (h | h | h) <;> simp [h]

/-- a sorted row of the same members is what inserting gives -/
theorem sortR_eq (h : LC c) {l d : List α} (hp : d.Perm l) (ha : Asc c d) : d = sortR c l := by
  obtain ⟨h1, h2⟩ := sortR_go h l [] List.Pairwise.nil
  exact asc_unique h (hp.trans (by show l.Perm (l.foldl (fun acc x => ins c x acc) []); simpa using h2.symm)) ha h1

/-- of equals side by side the first stays -/
def compFrom (p : α) [DecidableEq α] : List α → List α
  | [] => []
  | y :: l => if y = p then compFrom y l else y :: compFrom y l
def comp [DecidableEq α] : List α → List α
  | [] => []
  | x :: l => x :: compFrom x l

theorem compFrom_mem [DecidableEq α] : ∀ (l : List α) (p w : α), (w = p ∨ w ∈ compFrom p l) ↔ (w = p ∨ w ∈ l)
  | [], p, w => by simp [compFrom]
  | y :: l, p, w => by
    simp only [compFrom]; split
    · rename_i e; subst e
      rw [compFrom_mem l y w]; simp
    · rw [List.mem_cons, List.mem_cons, compFrom_mem l y w]

theorem compFrom_strict [DecidableEq α] (h : LC c) : ∀ {l : List α} {p : α}, Asc c (p :: l) → Strict c (p :: compFrom p l)
  | [], p, _ => List.pairwise_singleton _ _
  | y :: l, p, ha => by
    have a := List.pairwise_cons.1 ha
    simp only [compFrom]; split
    · rename_i e; subst e; exact compFrom_strict h a.2
    · rename_i e
      have hlt : c p y < 0 := by
        have h1 := a.1 y (List.mem_cons_self)
        have h2 : c p y ≠ 0 := fun h0 => e ((h.z _ _).1 h0).symm
        omega
      have ih := compFrom_strict h a.2
      refine List.pairwise_cons.2 ⟨fun w hw => ?_, ih⟩
      rcases List.mem_cons.1 hw with e2 | hw
      · subst e2; exact hlt
      · exact h.t _ _ _ hlt ((List.pairwise_cons.1 ih).1 w hw)

/-- of a sorted row, each once, is what inserting once gives -/
theorem distR_eq [DecidableEq α] (h : LC c) {l d : List α} (hp : d.Perm l) (ha : Asc c d) : comp d = distR c l := by
  obtain ⟨h1, h2⟩ := distR_go h l [] List.Pairwise.nil
  refine strict_unique h (fun w => ?_) ?_ h1
  · have : w ∈ comp d ↔ w ∈ d := by
      cases d with
      | nil => simp [comp]
      | cons x d => simp only [comp, List.mem_cons]; exact compFrom_mem d x w
    rw [this, hp.mem_iff]
    exact ((h2 w).trans (by simp)).symm
  · cases d with
    | nil => exact List.Pairwise.nil
    | cons x d => exact compFrom_strict h ha

end Go.Srt
