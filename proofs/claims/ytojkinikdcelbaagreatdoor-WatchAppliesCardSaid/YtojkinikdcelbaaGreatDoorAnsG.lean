/- Walks: a row copied; a list of rows copied. -/
import Derived.Test.YtojkinikdcelbaaGreatDoorEnv
import Derived.Test.YtojkinikdcelbaaGreatDoorHkE
set_option linter.unusedSimpArgs false
set_option linter.unusedVariables false
set_option linter.defProp false
namespace Go.Srt
variable {α β : Type}

/-- a comparison: 0 just at the same, turned round it changes its sign, 'less' goes on -/
structure LC (c : α → α → Int) : Prop where
  z : ∀ x y, c x y = 0 ↔ x = y
  s : ∀ x y, c x y < 0 ↔ 0 < c y x
  t : ∀ x y w, c x y < 0 → c y w < 0 → c x w < 0

theorem LC.irr {c : α → α → Int} (h : LC c) (x : α) : c x x = 0 := (h.z x x).2 rfl

/-- lists, part by part -/
def lexL (c : α → α → Int) : List α → List α → Int
  | [], [] => 0
  | [], _ :: _ => -1
  | _ :: _, [] => 1
  | x :: a, y :: b => if c x y = 0 then lexL c a b else c x y

theorem lexL_LC {c : α → α → Int} (h : LC c) : LC (lexL c) where
  z := by
    intro a
    induction a with
    | nil => intro b; cases b <;> simp [lexL]
    | cons x a ih =>
      intro b
      cases b with
      | nil => simp [lexL]
      | cons y b =>
        simp only [lexL]
        split
        · rename_i hz; rw [ih b, (h.z x y).1 hz]; simp
        · rename_i hz
          constructor
          · intro e; exact absurd e hz
          · intro e; cases e; exact absurd (h.irr x) hz
  s := by
    intro a
    induction a with
    | nil => intro b; cases b <;> simp [lexL]
    | cons x a ih =>
      intro b
      cases b with
      | nil => simp [lexL]
      | cons y b =>
        simp only [lexL]
        by_cases hz : c x y = 0
        · have e := (h.z x y).1 hz
          subst e
          rw [if_pos (h.irr x), if_pos (h.irr x)]; exact ih b
        · have hz' : ¬ c y x = 0 := fun e => hz ((h.z x y).2 ((h.z y x).1 e).symm)
          rw [if_neg hz, if_neg hz']; exact h.s x y
  t := by
    intro a
    induction a with
    | nil =>
      intro b d h1 h2
      cases b with
      | nil => simp [lexL] at h1
      | cons y b => cases d with
        | nil => simp [lexL] at h2
        | cons z d => simp [lexL]
    | cons x a ih =>
      intro b d h1 h2
      cases b with
      | nil => simp [lexL] at h1
      | cons y b => cases d with
        | nil => simp [lexL] at h2
        | cons z d =>
          simp only [lexL] at h1 h2 ⊢
          by_cases e1 : c x y = 0
          · have := (h.z x y).1 e1; subst this
            rw [if_pos (h.irr x)] at h1
            by_cases e2 : c x z = 0
            · rw [if_pos e2] at h2 ⊢; exact ih b d h1 h2
            · rw [if_neg e2] at h2 ⊢; exact h2
          · rw [if_neg e1] at h1
            by_cases e2 : c y z = 0
            · have := (h.z y z).1 e2; subst this
              rw [if_neg e1]; exact h1
            · rw [if_neg e2] at h2
              have := h.t x y z h1 h2
              rw [if_neg (by omega)]; exact this

/-- the first, then the second -/
def orC (p q : Int) : Int := if p = 0 then q else p

def pairC (c : α → α → Int) (d : β → β → Int) (x y : α × β) : Int := orC (c x.1 y.1) (d x.2 y.2)

theorem pairC_LC {c : α → α → Int} {d : β → β → Int} (h : LC c) (k : LC d) : LC (pairC c d) where
  z := by
    intro x y
    simp only [pairC, orC]
    split
    · rename_i e; rw [k.z, Prod.ext_iff, (h.z _ _).1 e]; simp
    · rename_i e
      constructor
      · intro e2; exact absurd e2 e
      · intro e2; subst e2; exact absurd (h.irr _) e
  s := by
    intro x y
    simp only [pairC, orC]
    by_cases e : c x.1 y.1 = 0
    · have e' : c y.1 x.1 = 0 := (h.z _ _).2 ((h.z _ _).1 e).symm
      rw [if_pos e, if_pos e']; exact k.s _ _
    · have e' : ¬ c y.1 x.1 = 0 := fun f => e ((h.z _ _).2 ((h.z _ _).1 f).symm)
      rw [if_neg e, if_neg e']; exact h.s _ _
  t := by
    intro x y w
    simp only [pairC, orC]
    intro h1 h2
    by_cases e1 : c x.1 y.1 = 0
    · rw [if_pos e1] at h1
      have q := (h.z _ _).1 e1
      rw [q]
      by_cases e2 : c y.1 w.1 = 0
      · rw [if_pos e2] at h2 ⊢; exact k.t _ _ _ h1 h2
      · rw [if_neg e2] at h2 ⊢; exact h2
    · rw [if_neg e1] at h1
      by_cases e2 : c y.1 w.1 = 0
      · rw [← (h.z _ _).1 e2, if_neg e1]; exact h1
      · rw [if_neg e2] at h2
        have := h.t _ _ _ h1 h2
        rw [if_neg (by omega)]; exact this

/-- whole numbers -/
def intC (x y : Int) : Int := if x < y then -1 else if y < x then 1 else 0
theorem intC_LC : LC intC where
  z x y := by unfold intC; split <;> (try split) <;> constructor <;> intro h <;> omega
  s x y := by unfold intC; split <;> (try split) <;> (try split) <;> constructor <;> intro h <;> omega
  t x y w h1 h2 := by
    unfold intC at h1 h2 ⊢
    have a1 : x < y := by split at h1 <;> (try split at h1) <;> omega
    have a2 : y < w := by split at h2 <;> (try split at h2) <;> omega
    rw [if_pos (by omega)]; decide
def natC (x y : Nat) : Int := if x = y then 0 else if x < y then -1 else 1
theorem natC_LC : LC natC where
  z x y := by unfold natC; split <;> (try split) <;> constructor <;> intro h <;> omega
  s x y := by unfold natC; split <;> (try split) <;> (try split) <;> (try split) <;> constructor <;> intro h <;> omega
  t x y w h1 h2 := by
    unfold natC at h1 h2 ⊢
    have a1 : x < y := by split at h1 <;> (try split at h1) <;> omega
    have a2 : y < w := by split at h2 <;> (try split at h2) <;> omega
    rw [if_neg (by omega), if_pos (by omega)]; decide

/-- rising, equals side by side -/
def Asc (c : α → α → Int) (l : List α) : Prop := l.Pairwise fun x y => c x y ≤ 0
/-- rising, no equals -/
def Strict (c : α → α → Int) (l : List α) : Prop := l.Pairwise fun x y => c x y < 0

variable {c : α → α → Int}

theorem LC.anti (h : LC c) {x y : α} (h1 : c x y ≤ 0) (h2 : c y x ≤ 0) : x = y := by
  rw [← h.z]
  have := h.s x y
  have := h.s y x
  omega

theorem LC.le_trans (h : LC c) {x y w : α} (h1 : c x y ≤ 0) (h2 : c y w ≤ 0) : c x w ≤ 0 := by
  by_cases e1 : c x y = 0
  · rw [(h.z _ _).1 e1]; exact h2
  · by_cases e2 : c y w = 0
    · rw [← (h.z _ _).1 e2]; exact h1
    · have := h.t x y w (by omega) (by omega); omega

theorem asc_unique (h : LC c) : ∀ {l m : List α}, l.Perm m → Asc c l → Asc c m → l = m
  | [], m, p, _, _ => p.nil_eq
  | x :: l, [], p, _, _ => absurd p.length_eq (by simp)
  | x :: l, y :: m, p, h1, h2 => by
    have a1 := List.pairwise_cons.1 h1
    have a2 := List.pairwise_cons.1 h2
    have e : x = y := by
      have hx : x ∈ y :: m := p.subset (List.mem_cons_self)
      have hy : y ∈ x :: l := p.symm.subset (List.mem_cons_self)
      rcases List.mem_cons.1 hx with e | hx
      · exact e
      · rcases List.mem_cons.1 hy with e | hy
        · exact e.symm
        · exact h.anti (a1.1 y hy) (a2.1 x hx)
    subst e
    rw [asc_unique h (List.Perm.cons_inv p) a1.2 a2.2]

theorem strict_unique (h : LC c) : ∀ {l m : List α}, (∀ x, x ∈ l ↔ x ∈ m) → Strict c l → Strict c m → l = m
  | [], [], _, _, _ => rfl
  | [], y :: m, p, _, _ => absurd ((p y).2 (List.mem_cons_self)) (by simp)
  | x :: l, [], p, _, _ => absurd ((p x).1 (List.mem_cons_self)) (by simp)
  | x :: l, y :: m, p, h1, h2 => by
    have a1 := List.pairwise_cons.1 h1
    have a2 := List.pairwise_cons.1 h2
    have e : x = y := by
      rcases List.mem_cons.1 ((p x).1 (List.mem_cons_self)) with e | hx
      · exact e
      · rcases List.mem_cons.1 ((p y).2 (List.mem_cons_self)) with e | hy
        · exact e.symm
        · exact h.anti (Int.le_of_lt (a1.1 y hy)) (Int.le_of_lt (a2.1 x hx))
    subst e
    have hn1 : x ∉ l := fun hx => by have := a1.1 x hx; rw [h.irr] at this; omega
    have hn2 : x ∉ m := fun hx => by have := a2.1 x hx; rw [h.irr] at this; omega
    rw [strict_unique h (fun w => ?_) a1.2 a2.2]
    constructor
    · intro hw
      rcases List.mem_cons.1 ((p w).1 (List.mem_cons_of_mem _ hw)) with e | h'
      · subst e; exact absurd hw hn1
      · exact h'
    · intro hw
      rcases List.mem_cons.1 ((p w).2 (List.mem_cons_of_mem _ hw)) with e | h'
      · subst e; exact absurd hw hn2
      · exact h'

/-- put ahead of the first that is not less -/
def ins (c : α → α → Int) (x : α) : List α → List α
  | [] => [x]
  | y :: l => if c y x < 0 then y :: ins c x l else x :: y :: l
/-- the same, if it is not there -/
def insOnce (c : α → α → Int) (x : α) : List α → List α
  | [] => [x]
  | y :: l => if c y x < 0 then y :: insOnce c x l else if c y x = 0 then y :: l else x :: y :: l

theorem ins_perm (x : α) : ∀ l, (ins c x l).Perm (x :: l)
  | [] => List.Perm.refl _
  | y :: l => by
    simp only [ins]; split
    · exact ((ins_perm x l).cons y).trans (List.Perm.swap x y l)
    · exact List.Perm.refl _

theorem ins_asc (h : LC c) (x : α) : ∀ {l}, Asc c l → Asc c (ins c x l)
  | [], _ => List.pairwise_singleton _ _
  | y :: l, ha => by
    have a := List.pairwise_cons.1 ha
    simp only [ins]; split
    · rename_i hlt
      refine List.pairwise_cons.2 ⟨fun z hz => ?_, ins_asc h x a.2⟩
      rcases List.mem_cons.1 ((ins_perm x l).subset hz) with e | hz
      · subst e; omega
      · exact a.1 z hz
    · rename_i hge
      have hxy : c x y ≤ 0 := by have := h.s x y; have := h.s y x; omega
      refine List.pairwise_cons.2 ⟨fun z hz => ?_, ha⟩
      rcases List.mem_cons.1 hz with e | hz
      · subst e; exact hxy
      · exact h.le_trans hxy (a.1 z hz)

theorem insOnce_mem (h : LC c) (x : α) : ∀ l w, w ∈ insOnce c x l ↔ w = x ∨ w ∈ l
  | [], w => by simp [insOnce]
  | y :: l, w => by
    simp only [insOnce]; split
    · rw [List.mem_cons, insOnce_mem h x l w, List.mem_cons]
      constructor
      · rintro (h | h | h) <;> simp [h]
      · rintro (h | h | h) <;> simp [h]
    · split
      · rename_i e; rw [(h.z _ _).1 e]; simp
      · simp

theorem insOnce_strict (h : LC c) (x : α) : ∀ {l}, Strict c l → Strict c (insOnce c x l)
  | [], _ => List.pairwise_singleton _ _
  | y :: l, ha => by
    have a := List.pairwise_cons.1 ha
    simp only [insOnce]; split
    · rename_i hlt
      refine List.pairwise_cons.2 ⟨fun z hz => ?_, insOnce_strict h x a.2⟩
      rcases (insOnce_mem h x l z).1 hz with e | hz
      · subst e; exact hlt
      · exact a.1 z hz
    · split
      · exact ha
      · rename_i h1 h2
        have hxy : c x y < 0 := by have := h.s x y; omega
        refine List.pairwise_cons.2 ⟨fun z hz => ?_, ha⟩
        rcases List.mem_cons.1 hz with e | hz
        · subst e; exact hxy
        · exact h.t _ _ _ hxy (a.1 z hz)

def sortR (c : α → α → Int) (l : List α) : List α := l.foldl (fun acc x => ins c x acc) []
def distR (c : α → α → Int) (l : List α) : List α := l.foldl (fun acc x => insOnce c x acc) []

theorem sortR_go (h : LC c) : ∀ (l acc : List α), Asc c acc → Asc c (l.foldl (fun acc x => ins c x acc) acc) ∧ (l.foldl (fun acc x => ins c x acc) acc).Perm (acc ++ l)
  | [], acc, ha => ⟨ha, by simp⟩
  | x :: l, acc, ha => by
    obtain ⟨h1, h2⟩ := sortR_go h l (ins c x acc) (ins_asc h x ha)
    refine ⟨h1, h2.trans ?_⟩
    exact ((ins_perm x acc).append_right l).trans (by
      show (x :: (acc ++ l)).Perm (acc ++ x :: l)
      exact List.perm_middle.symm)

theorem distR_go (h : LC c) : ∀ (l acc : List α), Strict c acc → Strict c (l.foldl (fun acc x => insOnce c x acc) acc) ∧ ∀ w, w ∈ l.foldl (fun acc x => insOnce c x acc) acc ↔ w ∈ acc ∨ w ∈ l
  | [], acc, ha => ⟨ha, by simp⟩
  | x :: l, acc, ha => by
    obtain ⟨h1, h2⟩ := distR_go h l (insOnce c x acc) (insOnce_strict h x ha)
    refine ⟨h1, fun w => ?_⟩
    rw [List.foldl_cons, h2 w, insOnce_mem h x acc w, List.mem_cons]
    constructor
    · rintro ((h | h) | h) <;> simp [h]
    · rintro (h | h | h) <;> simp [h]

/-- a sorted row of the same members is what inserting gives -/
theorem sortR_eq (h : LC c) {l d : List α} (hp : d.Perm l) (ha : Asc c d) : d = sortR c l := by
  obtain ⟨h1, h2⟩ := sortR_go h l [] List.Pairwise.nil
  exact asc_unique h (hp.trans (by show l.Perm (l.foldl (fun acc x => ins c x acc) []); simpa using h2.symm)) ha h1

/-- of equals side by side the first stays -/
def compFrom (p : α) [DecidableEq α] : List α → List α
  | [] => []
  | y :: l => if y = p then compFrom y l else y :: compFrom y l
def comp [DecidableEq α] : List α → List α
  | [] => []
  | x :: l => x :: compFrom x l

theorem compFrom_mem [DecidableEq α] : ∀ (l : List α) (p w : α), (w = p ∨ w ∈ compFrom p l) ↔ (w = p ∨ w ∈ l)
  | [], p, w => by simp [compFrom]
  | y :: l, p, w => by
    simp only [compFrom]; split
    · rename_i e; subst e
      rw [compFrom_mem l y w]; simp
    · rw [List.mem_cons, List.mem_cons, compFrom_mem l y w]

theorem compFrom_strict [DecidableEq α] (h : LC c) : ∀ {l : List α} {p : α}, Asc c (p :: l) → Strict c (p :: compFrom p l)
  | [], p, _ => List.pairwise_singleton _ _
  | y :: l, p, ha => by
    have a := List.pairwise_cons.1 ha
    simp only [compFrom]; split
    · rename_i e; subst e; exact compFrom_strict h a.2
    · rename_i e
      have hlt : c p y < 0 := by
        have h1 := a.1 y (List.mem_cons_self)
        have h2 : c p y ≠ 0 := fun h0 => e ((h.z _ _).1 h0).symm
        omega
      have ih := compFrom_strict h a.2
      refine List.pairwise_cons.2 ⟨fun w hw => ?_, ih⟩
      rcases List.mem_cons.1 hw with e2 | hw
      · subst e2; exact hlt
      · exact h.t _ _ _ hlt ((List.pairwise_cons.1 ih).1 w hw)

/-- of a sorted row, each once, is what inserting once gives -/
theorem distR_eq [DecidableEq α] (h : LC c) {l d : List α} (hp : d.Perm l) (ha : Asc c d) : comp d = distR c l := by
  obtain ⟨h1, h2⟩ := distR_go h l [] List.Pairwise.nil
  refine strict_unique h (fun w => ?_) ?_ h1
  · have : w ∈ comp d ↔ w ∈ d := by
      cases d with
      | nil => simp [comp]
      | cons x d => simp only [comp, List.mem_cons]; exact compFrom_mem d x w
    rw [this, hp.mem_iff]
    exact ((h2 w).trans (by simp)).symm
  · cases d with
    | nil => exact List.Pairwise.nil
    | cons x d => exact compFrom_strict h ha

end Go.Srt
namespace Go.Mir
open Go Go.Proofs Go.Srt

theorem cmpL_sign : ∀ (a b : List Nat), cmpL a b = -1 ∨ cmpL a b = 0 ∨ cmpL a b = 1
  | [], [] => .inr (.inl rfl)
  | [], _ :: _ => .inl rfl
  | _ :: _, [] => .inr (.inr rfl)
  | x :: a, y :: b => by
    rw [cmpL_cons]
    split
    · exact cmpL_sign a b
    · split
      · exact .inl rfl
      · exact .inr (.inr rfl)

theorem cmpL_lex : ∀ (a b : List Nat), cmpL a b = lexL natC a b
  | [], [] => rfl
  | [], _ :: _ => rfl
  | _ :: _, [] => rfl
  | x :: a, y :: b => by
    rw [cmpL_cons, lexL, cmpL_lex a b]
    by_cases h : x = y
    · rw [if_pos h, if_pos (show natC x y = 0 by unfold natC; rw [if_pos h])]
    · rw [if_neg h]
      by_cases hl : x < y
      · have e : natC x y = -1 := by unfold natC; rw [if_neg h, if_pos hl]
        rw [e, if_pos hl]; rfl
      · have e : natC x y = 1 := by unfold natC; rw [if_neg h, if_neg hl]
        rw [e, if_neg hl]; rfl

theorem cmpL_LC : LC cmpL := by
  rw [show cmpL = lexL natC from funext fun a => funext fun b => cmpL_lex a b]
  exact lexL_LC natC_LC

/-- how two terms stand -/
noncomputable def cmpT : Tm → Tm → Int := pairC intC (pairC cmpL cmpL)
theorem cmpT_LC : LC cmpT := pairC_LC intC_LC (pairC_LC cmpL_LC cmpL_LC)

theorem texts_ok (a b : List Nat) (h : T O) (n : Nat) : Fn env0 101 [.str a, .str b] h n (fun v h' n' => v = .int .i64 (cmpL a b) ∧ h' = h ∧ n' = n) := by
  refine Fn.mk fn101 rfl fz101 (by simp) fun Q cs K => ?_
  have hs := cmpL_sign a b
  simp (maxSteps := 2000000) only [↓mCode, ↓mOps, mAll, seval, vPtr, fn101, Tryz.f101]
  refine ⟨fun h1 => ?_, fun h1 => ⟨fun h2 => ?_, fun h2 => ?_⟩⟩
  · exact K _ _ _ ⟨by rw [show cmpL a b = -1 by omega], rfl, rfl⟩
  · exact K _ _ _ ⟨by rw [show cmpL a b = 1 by omega], rfl, rfl⟩
  · exact K _ _ _ ⟨by rw [show cmpL a b = 0 by omega], rfl, rfl⟩


theorem cmp02_ok (x y : Tm) (h : T O) (n : Nat) : Fn env0 68 [tv x, tv y] h n (fun v h' n' => v = .int .i64 (cmpT x y)) := by
  refine Fn.mk fn68 rfl fz68 (by simp) fun Q cs K => ?_
  obtain ⟨k, s, e⟩ := x
  obtain ⟨k', s', e'⟩ := y
  simp (maxSteps := 2000000) (disch := first | omega | assumption) only [↓mCode, ↓mOps, mAll, seval, vPtr, ite_ne, wrap_i64, boundN_int, fn68, Tryz.f68, tv]
  refine ⟨fun h1 => ?_, fun h1 => ⟨fun h2 => ?_, fun h2 => ?_⟩⟩
  · exact K _ _ _ (by simp only [cmpT, pairC, orC, intC, if_pos h1]; rfl)
  · exact K _ _ _ (by simp only [cmpT, pairC, orC, intC, if_neg h1, if_pos h2]; rfl)
  · refine (texts_ok s s' _ _).call e0_hook e0_subs ?_
    rintro _ _ _ ⟨rfl, rfl, rfl⟩
    simp (maxSteps := 2000000) (disch := first | omega | assumption) only [↓mCode, ↓mOps, mAll, seval, vPtr, ite_ne, wrap_i64, boundN_int, fn68, Tryz.f68, tv]
    refine ⟨fun h3 => ?_, fun h3 => ?_⟩
    · exact K _ _ _ (by simp only [cmpT, pairC, orC, intC, if_neg h1, if_neg h2, if_pos, if_neg h3])
    · refine (texts_ok e e' _ _).call e0_hook e0_subs ?_
      rintro _ _ _ ⟨rfl, rfl, rfl⟩
      simp (maxSteps := 2000000) (disch := first | omega | assumption) only [↓mCode, ↓mOps, mAll, seval, vPtr, ite_ne, wrap_i64, boundN_int, fn68, Tryz.f68, tv]
      refine K _ _ _ ?_
      simp only [cmpT, pairC, orC, intC, if_neg h1, if_neg h2, if_true]
      rw [if_pos (by omega)]

/-- a whole number is a number -/
theorem nan_ok (a : Int) (h : T O) (n : Nat) : Fn env0 162 [.int .i64 a] h n (fun v h' n' => v = .bool false ∧ h' = h ∧ n' = n) := by
  refine Fn.mk fn162 rfl fz162 (by simp) fun Q cs K => ?_
  simp (maxSteps := 2000000) (disch := first | omega | assumption) only [↓mCode, ↓mOps, mAll, seval, vPtr, ite_ne, wrap_i64, boundN_int, fn162, Tryz.f162]
  exact K _ _ _ ⟨by simp, rfl, rfl⟩

/-- whole numbers, by cmp.Compare -/
theorem cmpK_ok (a b : Int) (h : T O) (n : Nat) : Fn env0 99 [.int .i64 a, .int .i64 b] h n (fun v h' n' => v = .int .i64 (intC a b) ∧ h' = h ∧ n' = n) := by
  refine Fn.mk fn99 rfl fz99 (by simp) fun Q cs K => ?_
  simp (maxSteps := 2000000) (disch := first | omega | assumption) only [↓mCode, ↓mOps, mAll, seval, vPtr, ite_ne, wrap_i64, boundN_int, fn99, Tryz.f99]
  refine (nan_ok _ _ _).call e0_hook e0_subs ?_
  rintro _ _ _ ⟨rfl, rfl, rfl⟩
  simp (maxSteps := 2000000) (disch := first | omega | assumption) only [↓mCode, ↓mOps, mAll, seval, vPtr, ite_ne, wrap_i64, boundN_int, fn99, Tryz.f99]
  refine (nan_ok _ _ _).call e0_hook e0_subs ?_
  rintro _ _ _ ⟨rfl, rfl, rfl⟩
  simp (maxSteps := 2000000) (disch := first | omega | assumption) only [↓mCode, ↓mOps, mAll, seval, vPtr, ite_ne, wrap_i64, boundN_int, fn99, Tryz.f99]
  refine ⟨fun h1 => ?_, fun h1 => ⟨fun h2 => ?_, fun h2 => ?_⟩⟩
  · exact K _ _ _ ⟨by simp only [intC, if_pos h1], rfl, rfl⟩
  · exact K _ _ _ ⟨by simp only [intC, if_neg h1, if_pos h2], rfl, rfl⟩
  · exact K _ _ _ ⟨by simp only [intC, if_neg h1, if_neg h2], rfl, rfl⟩

theorem extK_cmp {a b : List Nat} {h : T O} {n : Nat} {k : Kv} : extK .cmp [.str a, .str b] h n k = k (.int .i64 (cmpL a b)) h n := by
  show fInt (cmpL a b) (fun z => k (.int .i64 z) h n) = _
  rw [fInt_eq]

/-- texts, by bytealg.CompareString -/
theorem cmpS_ok (a b : List Nat) (h : T O) (n : Nat) : Fn env0 163 [.str a, .str b] h n (fun v h' n' => v = .int .i64 (cmpL a b) ∧ h' = h ∧ n' = n) := by
  refine Fn.mk fn163 rfl fz163 (by simp) fun Q cs K => ?_
  simp (maxSteps := 2000000) (disch := first | omega | assumption) only [↓mCode, ↓mOps, mAll, seval, vPtr, ite_ne, wrap_i64, boundN_int, fn163, Tryz.f163, enterK_ext (E := env0) (f := 243) e0_hook fn243 e0_subs rfl e0_ext243, extK_cmp]
  exact K _ _ _ ⟨rfl, rfl, rfl⟩

/-- texts, by strings.Compare -/
theorem cmpStr_ok (a b : List Nat) (h : T O) (n : Nat) : Fn env0 100 [.str a, .str b] h n (fun v h' n' => v = .int .i64 (cmpL a b) ∧ h' = h ∧ n' = n) := by
  refine Fn.mk fn100 rfl fz100 (by simp) fun Q cs K => ?_
  simp (maxSteps := 2000000) (disch := first | omega | assumption) only [↓mCode, ↓mOps, mAll, seval, vPtr, ite_ne, wrap_i64, boundN_int, fn100, Tryz.f100]
  refine (cmpS_ok _ _ _ _).call e0_hook e0_subs ?_
  rintro _ _ _ ⟨rfl, rfl, rfl⟩
  simp (maxSteps := 2000000) (disch := first | omega | assumption) only [↓mCode, ↓mOps, mAll, seval, vPtr, ite_ne, wrap_i64, boundN_int, fn100, Tryz.f100]
  exact K _ _ _ ⟨rfl, rfl, rfl⟩

/-- the first that is not 0 of three -/
theorem or_ok (a b c : Int) {h : T O} {n id : Nat} (C : Cells h id 0 3 (fun j => if j = 0 then .int .i64 a else if j = 1 then .int .i64 b else .int .i64 c)) :
    Fn env0 98 [.slice id 0 3 true 3 3] h n (fun v h' n' => v = .int .i64 (orC a (orC b c)) ∧ h' = h ∧ n' = n) := by
  refine Fn.mk fn98 rfl fz98 (by simp) fun Q cs K => ?_
  have c0 : ∀ {k : V → Out}, cellAt h id 0 k = k (.int .i64 a) := C.at (j := 0) (by omega) rfl
  have c1 : ∀ {k : V → Out}, cellAt h id 1 k = k (.int .i64 b) := C.at (j := 1) (by omega) rfl
  have c2 : ∀ {k : V → Out}, cellAt h id 2 k = k (.int .i64 c) := C.at (j := 2) (by omega) rfl
  simp (maxSteps := 2000000) (disch := first | omega | assumption) only [↓mCode, ↓mOps, mAll, seval, vPtr, ite_ne, wrap_i64, boundN_int, fn98, Tryz.f98, W_loop0, W_inLoop, ↓c0, ↓c1, ↓c2]
  refine ⟨fun h1 => K _ _ _ ⟨?_, rfl, rfl⟩, fun h1 => ⟨fun h2 => K _ _ _ ⟨?_, rfl, rfl⟩, fun h2 => ⟨fun h3 => K _ _ _ ⟨?_, rfl, rfl⟩, fun h3 => K _ _ _ ⟨?_, rfl, rfl⟩⟩⟩⟩
  · simp only [orC, if_neg h1]
  · simp only [orC, if_pos (Decidable.not_not.1 h1), if_neg h2]
  · simp only [orC, if_pos (Decidable.not_not.1 h1), if_pos (Decidable.not_not.1 h2)]
  · simp only [orC, if_pos (Decidable.not_not.1 h1), if_pos (Decidable.not_not.1 h2), Decidable.not_not.1 h3]

end Go.Mir
namespace Go.Mir
open Go Go.Proofs Go.Srt
set_option maxRecDepth 4000
set_option maxHeartbeats 1000000
/-- terms, by term.Compare -/
theorem cmp_ok (x y : Tm) (h : T O) (n : Nat) : Fn env0 67 [tv x, tv y] h n (fun v h' n' => v = .int .i64 (cmpT x y)) := by
  refine Fn.mk fn67 rfl fz67 (by simp) fun Q cs K => ?_
  obtain ⟨k, s, e⟩ := x
  obtain ⟨k', s', e'⟩ := y
  simp (maxSteps := 2000000) (disch := first | omega | assumption) only [↓mCode, ↓mOps, mAll, seval, vPtr, ite_ne, wrap_i64, boundN_int, fn67, Tryz.f67, tv]
  refine W_draw sr67_1 ss67_1 ?_ ?_
  · exact sk67_1
  simp (maxSteps := 2000000) (disch := first | omega | assumption) only [↓mCode, ↓mOps, mAll, seval, vPtr, ite_ne, wrap_i64, boundN_int, tv]
  refine (cmpK_ok _ _ _ _).call e0_hook e0_subs ?_
  rintro _ _ _ ⟨rfl, rfl, rfl⟩
  simp (maxSteps := 2000000) (disch := first | omega | assumption) only [↓mCode, ↓mOps, mAll, seval, vPtr, ite_ne, wrap_i64, boundN_int, tv]
  refine (cmpStr_ok _ _ _ _).call e0_hook e0_subs ?_
  rintro _ _ _ ⟨rfl, rfl, rfl⟩
  simp (maxSteps := 2000000) (disch := first | omega | assumption) only [↓mCode, ↓mOps, mAll, seval, vPtr, ite_ne, wrap_i64, boundN_int, tv]
  refine (cmpStr_ok _ _ _ _).call e0_hook e0_subs ?_
  rintro _ _ _ ⟨rfl, rfl, rfl⟩
  simp (maxSteps := 2000000) (disch := first | omega | assumption) only [↓mCode, ↓mOps, mAll, seval, vPtr, ite_ne, wrap_i64, boundN_int, tv]
  refine (or_ok (intC k k') (cmpL s s') (cmpL e e') ⟨_, ofT [.int .i64 (intC k k'), .int .i64 (cmpL s s'), .int .i64 (cmpL e e')], 3, 1, T.get_put _ _ _ _ |>.trans (if_pos rfl), .inl rfl, by omega, fun j hj => ?_⟩).call e0_hook e0_subs ?_
  · rw [ofT_get]
    rcases j with _ | _ | _ | j
    · rfl
    · rfl
    · rfl
    · omega
  rintro _ _ _ ⟨rfl, rfl, rfl⟩
  simp (maxSteps := 2000000) (disch := first | omega | assumption) only [↓mCode, ↓mOps, mAll, seval, vPtr, ite_ne, wrap_i64, boundN_int, tv, fn67, Tryz.f67]
  exact K _ _ _ rfl
end Go.Mir
namespace Go.Mir
open Go Go.Proofs Go.Srt

/-- a value as a term -/
noncomputable def asTm : V → Option Tm
  | .agg [.int .i64 k, .str s, .str e] => some (k, s, e)
  | _ => none

/-- the calls that are known: terms compared; the chapter's rows -/
noncomputable def hook1 (f : Nat) (args : List V) (h : T O) : Option V :=
  match f with
  | 67 => (match args with | [a, b] => (asTm a).bind fun x => (asTm b).map fun y => .int .i64 (cmpT x y) | _ => none)
  | 68 => (match args with | [a, b] => (asTm a).bind fun x => (asTm b).map fun y => .int .i64 (cmpT x y) | _ => none)
  | 6 => (match args with | [] => some (.bool true) | _ => none)
  | 40 => keyHook args h
  | _ => none
noncomputable def env1 : Env := { env0 with hook := hook1 }
theorem e1_tys : env1.tys = tys := rfl
theorem e1_fns : env1.fns = fns := rfl
theorem e1_scripts : env1.scripts = scripts := rfl
theorem e1_subs {f : Nat} : env1.subs.get f = none := rfl
theorem ent67 {a a' : Int} {b c b' c' : List Nat} {fr : Fr} {cs : List Fr} {h : T O} {n : Nat} {go : Go_} {fin : Kv} :
    enterK env1 67 [.agg [.int .i64 a, .str b, .str c], .agg [.int .i64 a', .str b', .str c']] fr cs h n go fin = fin (.int .i64 (cmpT (a, b, c) (a', b', c'))) h n := enterK_hook rfl
theorem ent68 {a a' : Int} {b c b' c' : List Nat} {fr : Fr} {cs : List Fr} {h : T O} {n : Nat} {go : Go_} {fin : Kv} :
    enterK env1 68 [.agg [.int .i64 a, .str b, .str c], .agg [.int .i64 a', .str b', .str c']] fr cs h n go fin = fin (.int .i64 (cmpT (a, b, c) (a', b', c'))) h n := enterK_hook rfl
theorem ent6 {fr : Fr} {cs : List Fr} {h : T O} {n : Nat} {go : Go_} {fin : Kv} : enterK env1 6 [] fr cs h n go fin = fin (.bool true) h n := enterK_hook rfl

theorem lexL_drop {c : Tm → Tm → Int} {a b : List Tm} {i : Nat} (ha : i < a.length) (hb : i < b.length) :
    lexL c (a.drop i) (b.drop i) = if c (a.getD i (0, [], [])) (b.getD i (0, [], [])) = 0 then lexL c (a.drop (i + 1)) (b.drop (i + 1)) else c (a.getD i (0, [], [])) (b.getD i (0, [], [])) := by
  rw [List.drop_eq_getElem_cons ha, List.drop_eq_getElem_cons hb]
  simp only [lexL, List.getD_eq_getElem?_getD, List.getElem?_eq_getElem ha, List.getElem?_eq_getElem hb, Option.getD_some]

set_option maxRecDepth 4000
set_option maxHeartbeats 1000000
/-- rows, by the reference's CompareRows -/
theorem cmpRows_ok {h : T O} {n : Nat} {va vb : V} {la lb : List Tm} (ha : Row h va la) (hb : Row h vb lb) (hla : la.length ≤ 1000000) (hlb : lb.length ≤ 1000000) :
    Fn env1 46 [va, vb] h n (fun v h' n' => v = .int .i64 (lexL cmpT la lb) ∧ h' = h ∧ n' = n) := by
  refine Fn.mk fn46 rfl fz46 (by simp) fun Q cs K => ?_
  have la_len : ∀ {e : Nat} {k : V → Out}, lenIn h (.slice e) va k = k (.int .i64 (la.length : Int)) := Sl.len ha
  have lb_len : ∀ {e : Nat} {k : V → Out}, lenIn h (.slice e) vb k = k (.int .i64 (lb.length : Int)) := Sl.len hb
  simp (maxSteps := 2000000) (disch := first | omega | assumption) only [↓mCode, ↓mOps, mAll, seval, vPtr, ite_ne, wrap_i64, boundN_int, e1_tys, e1_fns, fn46, Tryz.f46]
  refine W_loop (fun m regs h' n' => ∃ i : Nat, m = la.length - i ∧ i ≤ la.length ∧ i ≤ lb.length ∧ regs.get 0 = some va ∧ regs.get 1 = some vb ∧ regs.get 5 = some (.int .i64 (i : Int)) ∧
    h' = h ∧ n' = n ∧ lexL cmpT la lb = lexL cmpT (la.drop i) (lb.drop i)) _ ⟨0, rfl, by omega, by omega, ?_, ?_, ?_, rfl, rfl, rfl⟩ ?_
  · simp (maxSteps := 2000000) (disch := first | omega | assumption) only [↓mCode, ↓mOps, mAll, seval, vPtr, ite_ne, wrap_i64, boundN_int, e1_tys]
  · simp (maxSteps := 2000000) (disch := first | omega | assumption) only [↓mCode, ↓mOps, mAll, seval, vPtr, ite_ne, wrap_i64, boundN_int, e1_tys]
  · simp (maxSteps := 2000000) (disch := first | omega | assumption) only [↓mCode, ↓mOps, mAll, seval, vPtr, ite_ne, wrap_i64, boundN_int, e1_tys]
  rintro m regs h' n' ⟨i, rfl, hi1, hi2, r0, r1, r5, rfl, rfl, hx⟩ IH
  have done : ∀ {z : Int}, lexL cmpT (la.drop i) (lb.drop i) = z → W env1 Q fun go => popK (.int .i64 z) cs h' n' go := fun e => K _ _ _ ⟨by rw [hx, e], rfl, rfl⟩
  by_cases c1 : i < la.length
  · have c1' : (i : Int) < (la.length : Int) := by omega
    by_cases c2 : i < lb.length
    · have c2' : (i : Int) < (lb.length : Int) := by omega
      obtain ⟨ida, ofa, exa, ka, loa, rfl, hloa, hca⟩ := ha.get c1
      obtain ⟨idb, ofb, exb, kb, lob, rfl, hlob, hcb⟩ := hb.get c2
      simp (maxSteps := 2000000) (disch := first | omega | assumption) only [↓mCode, ↓mOps, mAll, seval, vPtr, ite_ne, wrap_i64, boundN_int, e1_tys, e1_fns, fn46, Tryz.f46, r0, r1, r5, la_len, lb_len, c1', c2']
      refine W_draw sr46_4 ss46_4 ?_ ?_
      · exact sk46_4
      simp (maxSteps := 2000000) (disch := first | omega | assumption) only [↓mCode, ↓mOps, mAll, seval, vPtr, ite_ne, wrap_i64, boundN_int, e1_tys, e1_fns, fn46, Tryz.f46, r0, r1, r5, la_len, lb_len, c1', c2', ↓hca, ↓hcb, ent68]
      refine ⟨fun h1 => done (by rw [lexL_drop c1 c2, if_neg h1]), fun h1 => ?_⟩
      refine IH (la.length - (i + 1)) _ _ _ (by omega) ⟨i + 1, rfl, by omega, by omega, ?_, ?_, ?_, rfl, rfl, ?_⟩
      iterate 3
        · simp only [mBase, Nat.reduceEqDiff, Nat.reduceSub, reduceIte, r0, r1] <;> rfl
      · rw [hx, lexL_drop c1 c2, if_pos (Decidable.not_not.1 h1)]
    · have c2' : ¬ (i : Int) < (lb.length : Int) := by omega
      have e1 : lb.drop i = [] := List.drop_eq_nil_of_le (by omega)
      simp (maxSteps := 2000000) (disch := first | omega | assumption) only [↓mCode, ↓mOps, mAll, seval, vPtr, ite_ne, wrap_i64, boundN_int, e1_tys, e1_fns, fn46, Tryz.f46, r0, r1, r5, la_len, lb_len, c1', c2']
      have e2 : lexL cmpT (la.drop i) (lb.drop i) = 1 := by rw [e1, List.drop_eq_getElem_cons c1]; rfl
      refine ⟨fun h1 => absurd h1 (by omega), fun h1 => ⟨fun h2 => done e2, fun h2 => absurd h2 (by omega)⟩⟩
  · have c1' : ¬ (i : Int) < (la.length : Int) := by omega
    have e1 : la.drop i = [] := List.drop_eq_nil_of_le (by omega)
    simp (maxSteps := 2000000) (disch := first | omega | assumption) only [↓mCode, ↓mOps, mAll, seval, vPtr, ite_ne, wrap_i64, boundN_int, e1_tys, e1_fns, fn46, Tryz.f46, r0, r1, r5, la_len, lb_len, c1']
    refine ⟨fun h1 => done ?_, fun h1 => ⟨fun h2 => absurd h2 (by omega), fun h2 => done ?_⟩⟩
    · rw [e1, List.drop_eq_getElem_cons (show i < lb.length by omega)]; rfl
    · rw [e1, List.drop_eq_nil_of_le (show lb.length ≤ i by omega)]; rfl
end Go.Mir
namespace Go.Mir
open Go Go.Proofs Go.Srt
set_option maxRecDepth 4000
set_option maxHeartbeats 1000000

theorem beq_dec {α : Type} [BEq α] [LawfulBEq α] [DecidableEq α] (x y : α) : (x == y) = decide (x = y) := by rw [Bool.eq_iff_iff]; simp
theorem eqTm {a a' : Int} {b c b' c' : List Nat} {k : Bool → Out} : eqV tys 43 (.agg [.int .i64 a, .str b, .str c]) (.agg [.int .i64 a', .str b', .str c']) k = k (decide ((a, b, c) = (a', b', c'))) := by
  show (om (tys.get 43) fun ti => need (isAggK ti.kind) (eqT tys 20 ti (.agg [.int .i64 a, .str b, .str c]) (.agg [.int .i64 a', .str b', .str c']) k)) = _
  rw [ty43, om_some]
  show (om (tys.get 41) fun ti => need true (partV ti [.int .i64 a, .str b, .str c] 0 fun x => partV ti [.int .i64 a', .str b', .str c'] 0 fun y => eqT tys 19 ti x y fun r => Bool.rec (k false) (om (tys.get 9) fun ti => need true (partV ti [.int .i64 a, .str b, .str c] 1 fun x => partV ti [.int .i64 a', .str b', .str c'] 1 fun y => eqT tys 19 ti x y fun r => Bool.rec (k false)
    (om (tys.get 9) fun ti => need true (partV ti [.int .i64 a, .str b, .str c] 2 fun x => partV ti [.int .i64 a', .str b', .str c'] 2 fun y => eqT tys 19 ti x y fun r => Bool.rec (k false) (k true) r)) r)) r)) = _
  rw [ty41, ty9]
  show need (sameKind .i64 .i64) (fB (ieq a a') fun r => Bool.rec (k false) (fB (eqL b b') fun r => Bool.rec (k false) (fB (eqL c c') fun r => Bool.rec (k false) (k true) r) r) r) = _
  rw [sameKind_self, need_true, fB_eq, fB_eq, fB_eq, ieq_eq, eqL_eq, eqL_eq]
  simp only [beq_dec, brec_dec]
  by_cases h1 : a = a'
  · by_cases h2 : b = b'
    · by_cases h3 : c = c'
      · subst h1; subst h2; subst h3; simp
      · subst h1; subst h2; simp [h3]
    · subst h1; simp [h2]
  · simp [h1]
theorem binK_aggneq {t : Nat} {a b : List V} {k : V → Out} : binK tys .neq t (.agg a) (.agg b) k = eqV tys t (.agg a) (.agg b) fun r => k (.bool (not r)) := rfl
theorem binK_aggeql {t : Nat} {a b : List V} {k : V → Out} : binK tys .eql t (.agg a) (.agg b) k = eqV tys t (.agg a) (.agg b) fun r => k (.bool r) := rfl

theorem list_ext_getD {α : Type} {a b : List α} {d : α} (hl : a.length = b.length) (h : ∀ j, j < a.length → a.getD j d = b.getD j d) : a = b := by
  apply List.ext_getElem hl
  intro j h1 h2
  have := h j h1
  simpa [List.getD_eq_getElem?_getD, List.getElem?_eq_getElem h1, List.getElem?_eq_getElem h2] using this

end Go.Mir
namespace Go.Mir
open Go Go.Proofs Go.Srt
set_option maxRecDepth 4000
set_option maxHeartbeats 1000000

/-- v is a list of these rows -/
def Rows (h : T O) (v : V) (ls : List (List Tm)) : Prop := ∃ g : Nat → V, Sl h 1 g v ls.length ∧ ∀ i, i < ls.length → Row h (g i) (ls.getD i [])

theorem Rows.len {h : T O} {v : V} {ls : List (List Tm)} (R : Rows h v ls) {e : Nat} {k : V → Out} : lenIn h (.slice e) v k = k (.int .i64 (ls.length : Int)) := by
  obtain ⟨g, S, _⟩ := R
  exact Sl.len S

/-- a row of a list -/
theorem Rows.get {h : T O} {v : V} {ls : List (List Tm)} (R : Rows h v ls) {i : Nat} (hi : i < ls.length) : ∃ id off ex k lo r, v = .slice id off ls.length ex k lo ∧ ls.length ≤ lo ∧
    (∀ (kk : V → Out), cellAt h id (off + i) kk = kk r) ∧ Row h r (ls.getD i []) := by
  obtain ⟨g, S, hr⟩ := R
  generalize hL : ls.length = L at S
  cases S with
  | nil => omega
  | tail => omega
  | slice id off len ex k lo hlo C =>
    exact ⟨id, off, ex, k, lo, g i, rfl, by omega, fun kk => C.at (j := i) (by omega) rfl, hr i hi⟩

def Small (ls : List (List Tm)) : Prop := ∀ i, i < ls.length → (ls.getD i []).length ≤ 1000000

/-- lists of rows, by the reference's SameRows -/
theorem sameRows_ok {h : T O} {n : Nat} {va vb : V} {la lb : List (List Tm)} (ha : Rows h va la) (hb : Rows h vb lb) (hla : la.length ≤ 1000000) (hsa : Small la) (hsb : Small lb) :
    Fn env1 27 [va, vb] h n (fun v h' n' => v = .bool (decide (la = lb)) ∧ h' = h ∧ n' = n) := by
  refine Fn.mk fn27 rfl fz27 (by simp) fun Q cs K => ?_
  have la_len : ∀ {e : Nat} {k : V → Out}, lenIn h (.slice e) va k = k (.int .i64 (la.length : Int)) := ha.len
  have lb_len : ∀ {e : Nat} {k : V → Out}, lenIn h (.slice e) vb k = k (.int .i64 (lb.length : Int)) := hb.len
  simp (maxSteps := 2000000) (disch := first | omega | assumption) only [↓mCode, ↓mOps, mAll, seval, vPtr, ite_ne, wrap_i64, boundN_int, e1_tys, e1_fns, fn27, Tryz.f27, la_len, lb_len]
  refine ⟨fun h1 => K _ _ _ ⟨by rw [decide_eq_false]; intro e; subst e; exact h1 rfl, rfl, rfl⟩, fun h1 => ?_⟩
  have hl : la.length = lb.length := by omega
  refine W_loop (fun m regs h' n' => ∃ i : Nat, m = la.length - i ∧ i ≤ la.length ∧ regs.get 0 = some va ∧ regs.get 1 = some vb ∧ regs.get 5 = some (.int .i64 (i : Int)) ∧
    h' = h ∧ n' = n ∧ ∀ j, j < i → la.getD j [] = lb.getD j []) _ ⟨0, rfl, by omega, ?_, ?_, ?_, rfl, rfl, fun j hj => absurd hj (by omega)⟩ ?_
  · simp (maxSteps := 2000000) (disch := first | omega | assumption) only [↓mCode, ↓mOps, mAll, seval, vPtr, ite_ne, wrap_i64, boundN_int, e1_tys]
  · simp (maxSteps := 2000000) (disch := first | omega | assumption) only [↓mCode, ↓mOps, mAll, seval, vPtr, ite_ne, wrap_i64, boundN_int, e1_tys]
  · simp (maxSteps := 2000000) (disch := first | omega | assumption) only [↓mCode, ↓mOps, mAll, seval, vPtr, ite_ne, wrap_i64, boundN_int, e1_tys]
  rintro m regs h' n' ⟨i, rfl, hi1, r0, r1, r5, rfl, rfl, hx⟩ IH
  by_cases c1 : i < la.length
  · have c1' : (i : Int) < (la.length : Int) := by omega
    have c2 : i < lb.length := by omega
    obtain ⟨ida, ofa, exa, ka, loa, ra, rfl, hloa, hca, hra⟩ := ha.get c1
    obtain ⟨idb, ofb, exb, kb, lob, rb, rfl, hlob, hcb, hrb⟩ := hb.get c2
    simp (maxSteps := 2000000) (disch := first | omega | assumption) only [↓mCode, ↓mOps, mAll, seval, vPtr, ite_ne, wrap_i64, boundN_int, e1_tys, e1_fns, fn27, Tryz.f27, r0, r1, r5, la_len, lb_len, c1']
    refine W_draw sr27_6 ss27_6 ?_ ?_
    · exact sk27_6
    simp (maxSteps := 2000000) (disch := first | omega | assumption) only [↓mCode, ↓mOps, mAll, seval, vPtr, ite_ne, wrap_i64, boundN_int, e1_tys, e1_fns, fn27, Tryz.f27, r0, r1, r5, la_len, lb_len, c1', hca, hcb, Nat.mul_one]
    refine (cmpRows_ok hra hrb (hsa i c1) (hsb i c2)).call rfl e1_subs ?_
    rintro _ _ _ ⟨rfl, rfl, rfl⟩
    simp (maxSteps := 2000000) (disch := first | omega | assumption) only [↓mCode, ↓mOps, mAll, seval, vPtr, ite_ne, wrap_i64, boundN_int, e1_tys, e1_fns, fn27, Tryz.f27, r0, r1, r5]
    have hz := (lexL_LC cmpT_LC).z (la.getD i []) (lb.getD i [])
    refine ⟨fun h2 => K _ _ _ ⟨by rw [decide_eq_false]; intro e; exact h2 (hz.2 (by rw [e])), rfl, rfl⟩, fun h2 => ?_⟩
    refine IH (la.length - (i + 1)) _ _ _ (by omega) ⟨i + 1, rfl, by omega, ?_, ?_, ?_, rfl, rfl, fun j hj => ?_⟩
    iterate 3
      · simp only [mBase, Nat.reduceEqDiff, Nat.reduceSub, reduceIte, r0, r1] <;> rfl
    · by_cases e : j = i
      · rw [e]; exact hz.1 (Decidable.not_not.1 h2)
      · exact hx j (by omega)
  · have c1' : ¬ (i : Int) < (la.length : Int) := by omega
    simp (maxSteps := 2000000) (disch := first | omega | assumption) only [↓mCode, ↓mOps, mAll, seval, vPtr, ite_ne, wrap_i64, boundN_int, e1_tys, e1_fns, fn27, Tryz.f27, r0, r1, r5, la_len, lb_len, c1']
    exact K _ _ _ ⟨by rw [decide_eq_true]; exact list_ext_getD hl fun j hj => hx j (by omega), rfl, rfl⟩
end Go.Mir
namespace Go.Mir
open Go Go.Proofs Go.Srt
set_option maxRecDepth 4000
set_option maxHeartbeats 1000000

/-- new blocks only -/
def Gro (h : T O) (n : Nat) (h' : T O) (n' : Nat) : Prop := n ≤ n' ∧ ∀ j, j < n → h'.get j = h.get j

theorem Gro.refl (h : T O) (n : Nat) : Gro h n h n := ⟨Nat.le_refl n, fun _ _ => rfl⟩
theorem Gro.trans {h h' h'' : T O} {n n' n'' : Nat} (a : Gro h n h' n') (b : Gro h' n' h'' n'') : Gro h n h'' n'' := ⟨Nat.le_trans a.1 b.1, fun j hj => (b.2 j (Nat.lt_of_lt_of_le hj a.1)).trans (a.2 j hj)⟩
theorem Gro.put {h h' : T O} {n n' : Nat} (a : Gro h n h' n') (o : O) : Gro h n (h'.put n' (some o)) (n' + 1) := ⟨Nat.le_succ_of_le a.1, fun j hj => by
  rw [T.get_put, if_neg (by have := a.1; omega)]; exact a.2 j hj⟩

theorem Gro.set {h h' : T O} {n n' : Nat} (a : Gro h n h' n') {j : Nat} (hj : n ≤ j) (x : Option O) : Gro h n (h'.put j x) n' := ⟨a.1, fun i hi => by
  rw [T.get_put, if_neg (by omega)]; exact a.2 i hi⟩
theorem Gro.up {h h' : T O} {n n' : Nat} (a : Gro h n h' n') {m : Nat} (hm : n' ≤ m) : Gro h n h' m := ⟨Nat.le_trans a.1 hm, a.2⟩

/-- where a value's blocks lie -/
def RowIn (h : T O) (n : Nat) (v : V) (l : List Tm) : Prop := Row h v l ∧ ∀ id, vid v = some id → id < n
def RowsIn (h : T O) (n : Nat) (v : V) (ls : List (List Tm)) : Prop := (∀ id, vid v = some id → id < n) ∧ ∃ g : Nat → V, Sl h 1 g v ls.length ∧ ∀ i, i < ls.length → RowIn h n (g i) (ls.getD i [])

theorem RowIn.ext {h h' : T O} {n n' : Nat} {v : V} {l : List Tm} (R : RowIn h n v l) (E : Gro h n h' n') : RowIn h' n' v l :=
  ⟨R.1.keep fun id hv => E.2 id (R.2 id hv), fun id hv => Nat.lt_of_lt_of_le (R.2 id hv) E.1⟩
theorem RowsIn.ext {h h' : T O} {n n' : Nat} {v : V} {ls : List (List Tm)} (R : RowsIn h n v ls) (E : Gro h n h' n') : RowsIn h' n' v ls := by
  obtain ⟨h1, g, S, hr⟩ := R
  exact ⟨fun id hv => Nat.lt_of_lt_of_le (h1 id hv) E.1, g, S.keep fun id hv => E.2 id (h1 id hv), fun i hi => (hr i hi).ext E⟩
theorem RowsIn.rows {h : T O} {n : Nat} {v : V} {ls : List (List Tm)} (R : RowsIn h n v ls) : Rows h v ls := by
  obtain ⟨h1, g, S, hr⟩ := R
  exact ⟨g, S, fun i hi => (hr i hi).1⟩

theorem eqB4 {a b : Bool} {k : V → Out} : binK tys .eql 4 (.bool a) (.bool b) k = k (.bool (decide (a = b))) := by
  show (om (tys.get 4) fun ti => eqT tys 20 ti (.bool a) (.bool b) fun r => k (.bool r)) = _
  rw [ty4, om_some]
  show fB (Bool.rec (not b) b a) (fun r => k (.bool r)) = _
  rw [fB_eq]
  cases a <;> cases b <;> rfl
theorem neB4 {a b : Bool} {k : V → Out} : binK tys .neq 4 (.bool a) (.bool b) k = k (.bool (decide (a ≠ b))) := by
  show (om (tys.get 4) fun ti => eqT tys 20 ti (.bool a) (.bool b) fun r => k (.bool (not r))) = _
  rw [ty4, om_some]
  show fB (Bool.rec (not b) b a) (fun r => k (.bool (not r))) = _
  rw [fB_eq]
  cases a <;> cases b <;> rfl

/-- answers, by the reference's Same -/
theorem same20_ok {h : T O} {n : Nat} {va vb : V} {la lb : List (List Tm)} {ya yb : Bool} (ha : RowsIn h n va la) (hb : RowsIn h n vb lb) (hla : la.length ≤ 1000000) (hsa : Small la) (hsb : Small lb) :
    Fn env1 9 [.agg [.bool ya, va], .agg [.bool yb, vb]] h n (fun v h' n' => v = .bool (decide (ya = yb ∧ la = lb)) ∧ Gro h n h' n') := by
  refine Fn.mk fn9 rfl fz9 (by simp) fun Q cs K => ?_
  have G : Gro h n ((h.put n (some (O.cells (ofT [.bool ya, va]) 2 2))).put (n + 1) (some (O.cells (ofT [.bool yb, vb]) 2 2))) (n + 1 + 1) := ((Gro.refl h n).put _).put _
  by_cases c1 : ya = yb
  · subst c1
    simp (maxSteps := 2000000) (disch := first | omega | assumption) only [↓mCode, ↓mOps, mAll, seval, vPtr, ite_ne, wrap_i64, boundN_int, e1_tys, e1_fns, fn9, Tryz.f9, eqB4]
    refine (sameRows_ok (ha.ext G).rows (hb.ext G).rows hla hsa hsb).call rfl e1_subs ?_
    rintro _ _ _ ⟨rfl, rfl, rfl⟩
    simp (maxSteps := 2000000) (disch := first | omega | assumption) only [↓mCode, ↓mOps, mAll, seval, vPtr, ite_ne, wrap_i64, boundN_int, e1_tys, e1_fns, fn9, Tryz.f9]
    exact K _ _ _ ⟨by simp, G⟩
  · simp (maxSteps := 2000000) (disch := first | omega | assumption) only [↓mCode, ↓mOps, mAll, seval, vPtr, ite_ne, wrap_i64, boundN_int, e1_tys, e1_fns, fn9, Tryz.f9, eqB4, c1]
    exact K _ _ _ ⟨by simp [c1], G⟩

/-- rows, by slices.CompareFunc with term.Compare -/
theorem cmpFunc_ok {h : T O} {n : Nat} {va vb : V} {la lb : List Tm} (ha : RowIn h n va la) (hb : RowIn h n vb lb) (hla : la.length ≤ 1000000) (hlb : lb.length ≤ 1000000) :
    Fn env1 66 [va, vb, .func 67 [] []] h n (fun v h' n' => v = .int .i64 (lexL cmpT la lb) ∧ Gro h n h' n') := by
  refine Fn.mk fn66 rfl fz66 (by simp) fun Q cs K => ?_
  have la_len : ∀ {h' : T O} {e : Nat} {k : V → Out}, lenIn h' (.slice e) va k = k (.int .i64 (la.length : Int)) := by
    intro h' e k; have := ha.1; unfold Row at this
    generalize la.length = L at this ⊢
    cases this with
    | nil => exact lenIn_nil
    | tail => exact lenIn_tail
    | slice => exact lenIn_slice
  have lb_len : ∀ {h' : T O} {e : Nat} {k : V → Out}, lenIn h' (.slice e) vb k = k (.int .i64 (lb.length : Int)) := by
    intro h' e k; have := hb.1; unfold Row at this
    generalize lb.length = L at this ⊢
    cases this with
    | nil => exact lenIn_nil
    | tail => exact lenIn_tail
    | slice => exact lenIn_slice
  simp (maxSteps := 2000000) (disch := first | omega | assumption) only [↓mCode, ↓mOps, mAll, seval, vPtr, ite_ne, wrap_i64, boundN_int, e1_tys, e1_fns, fn66, Tryz.f66, la_len]
  refine W_loop (fun m regs h' n' => ∃ i : Nat, m = la.length - i ∧ i ≤ la.length ∧ i ≤ lb.length ∧ regs.get 0 = some va ∧ regs.get 1 = some vb ∧ regs.get 2 = some (.func 67 [] []) ∧ regs.get 11 = some va ∧
    regs.get 12 = some (.int .i64 (la.length : Int)) ∧ regs.get 13 = some (.int .i64 (i : Int)) ∧ Gro h n h' n' ∧ lexL cmpT la lb = lexL cmpT (la.drop i) (lb.drop i)) _ ⟨0, rfl, by omega, by omega, ?_, ?_, ?_, ?_, ?_, ?_, Gro.refl h n, rfl⟩ ?_
  · simp (maxSteps := 2000000) (disch := first | omega | assumption) only [↓mCode, ↓mOps, mAll, seval, vPtr, ite_ne, wrap_i64, boundN_int, e1_tys]
  · simp (maxSteps := 2000000) (disch := first | omega | assumption) only [↓mCode, ↓mOps, mAll, seval, vPtr, ite_ne, wrap_i64, boundN_int, e1_tys]
  · simp (maxSteps := 2000000) (disch := first | omega | assumption) only [↓mCode, ↓mOps, mAll, seval, vPtr, ite_ne, wrap_i64, boundN_int, e1_tys]
  · simp (maxSteps := 2000000) (disch := first | omega | assumption) only [↓mCode, ↓mOps, mAll, seval, vPtr, ite_ne, wrap_i64, boundN_int, e1_tys]
  · simp (maxSteps := 2000000) (disch := first | omega | assumption) only [↓mCode, ↓mOps, mAll, seval, vPtr, ite_ne, wrap_i64, boundN_int, e1_tys]
  · simp (maxSteps := 2000000) (disch := first | omega | assumption) only [↓mCode, ↓mOps, mAll, seval, vPtr, ite_ne, wrap_i64, boundN_int, e1_tys]
  rintro m regs h' n' ⟨i, rfl, hi1, hi2, r0, r1, r2, r11, r12, r13, G, hx⟩ IH
  have done : ∀ {z : Int} {h'' : T O} {n'' : Nat}, Gro h n h'' n'' → lexL cmpT (la.drop i) (lb.drop i) = z → W env1 Q fun go => popK (.int .i64 z) cs h'' n'' go := fun g e => K _ _ _ ⟨by rw [hx, e], g⟩
  have ha' := ha.ext G
  have hb' := hb.ext G
  by_cases c1 : i < la.length
  · have c1' : (i : Int) < (la.length : Int) := by omega
    obtain ⟨ida, ofa, exa, ka, loa, hva, hloa, hca⟩ := ha'.1.get c1
    have hna := ha'.2
    rw [hva] at hna
    have hna := hna ida rfl
    subst hva
    by_cases c2 : i < lb.length
    · have c2' : ¬ (lb.length : Int) ≤ (i : Int) := by omega
      obtain ⟨idb, ofb, exb, kb, lob, hvb, hlob, hcb⟩ := hb'.1.get c2
      have hnb := hb'.2
      rw [hvb] at hnb
      have hnb := hnb idb rfl
      subst hvb
      simp (maxSteps := 2000000) (disch := first | omega | assumption) only [↓mCode, ↓mOps, mAll, seval, vPtr, ite_ne, wrap_i64, boundN_int, e1_tys, e1_fns, fn66, Tryz.f66, r0, r1, r2, r11, r12, r13, la_len, lb_len, c1', c2', hca, hcb, ent67]
      have hg := G.1
      refine ⟨fun h1 => done ((((G.set hg _).set hg _).set (by omega) _ |>.set (by omega) _).up (by omega)) (by rw [lexL_drop c1 c2, if_neg h1]), fun h1 => ?_⟩
      refine IH (la.length - (i + 1)) _ _ _ (by omega) ⟨i + 1, rfl, by omega, by omega, ?_, ?_, ?_, ?_, ?_, ?_, (((G.set hg _).set hg _).set (by omega) _ |>.set (by omega) _).up (by omega), ?_⟩
      iterate 6
        · simp only [mBase, Nat.reduceEqDiff, Nat.reduceSub, reduceIte, r0, r1, r2, r11, r12] <;> rfl
      · rw [hx, lexL_drop c1 c2, if_pos (Decidable.not_not.1 h1)]
    · have c2' : (lb.length : Int) ≤ (i : Int) := by omega
      simp (maxSteps := 2000000) (disch := first | omega | assumption) only [↓mCode, ↓mOps, mAll, seval, vPtr, ite_ne, wrap_i64, boundN_int, e1_tys, e1_fns, fn66, Tryz.f66, r0, r1, r2, r11, r12, r13, la_len, lb_len, c1', c2', hca]
      have hg := G.1
      refine done (((G.set hg _).set hg _).up (by omega)) ?_
      rw [List.drop_eq_nil_of_le (show lb.length ≤ i by omega), List.drop_eq_getElem_cons c1]; rfl
  · have c1' : ¬ (i : Int) < (la.length : Int) := by omega
    simp (maxSteps := 2000000) (disch := first | omega | assumption) only [↓mCode, ↓mOps, mAll, seval, vPtr, ite_ne, wrap_i64, boundN_int, e1_tys, e1_fns, fn66, Tryz.f66, r0, r1, r2, r11, r12, r13, la_len, lb_len, c1']
    refine ⟨fun h1 => done G ?_, fun h1 => done G ?_⟩
    · rw [List.drop_eq_nil_of_le (show la.length ≤ i by omega), List.drop_eq_getElem_cons (show i < lb.length by omega)]; rfl
    · rw [List.drop_eq_nil_of_le (show la.length ≤ i by omega), List.drop_eq_nil_of_le (show lb.length ≤ i by omega)]; rfl

/-- rows, by answers.Compare -/
theorem compare_ok {h : T O} {n : Nat} {va vb : V} {la lb : List Tm} (ha : RowIn h n va la) (hb : RowIn h n vb lb) (hla : la.length ≤ 1000000) (hlb : lb.length ≤ 1000000) :
    Fn env1 43 [va, vb] h n (fun v h' n' => v = .int .i64 (lexL cmpT la lb) ∧ Gro h n h' n') := by
  refine Fn.mk fn43 rfl fz43 (by simp) fun Q cs K => ?_
  simp (maxSteps := 2000000) (disch := first | omega | assumption) only [↓mCode, ↓mOps, mAll, seval, vPtr, ite_ne, wrap_i64, boundN_int, e1_tys, e1_fns, fn43, Tryz.f43]
  refine (cmpFunc_ok ha hb hla hlb).call rfl e1_subs ?_
  rintro _ h' n' ⟨rfl, G⟩
  simp (maxSteps := 2000000) (disch := first | omega | assumption) only [↓mCode, ↓mOps, mAll, seval, vPtr, ite_ne, wrap_i64, boundN_int, e1_tys, e1_fns, fn43, Tryz.f43]
  exact K _ _ _ ⟨rfl, G⟩
end Go.Mir
namespace Go.Mir
open Go Go.Proofs Go.Srt
set_option maxRecDepth 4000
set_option maxHeartbeats 1000000

theorem nil31_s {id off len kk lo : Nat} {ex : Bool} {k : V → Out} : binK tys .eql 47 (.slice id off len ex kk lo) (.base (.slice none 0 0)) k = k (.bool false) := by
  show eqNil tys 47 (.slice id off len ex kk lo) (.base (.slice none 0 0)) (fun r => k (.bool r)) = _
  unfold eqNil
  rw [ty47]; rfl
theorem nil31_n {k : V → Out} : binK tys .eql 47 (.base (.slice none 0 0)) (.base (.slice none 0 0)) k = k (.bool true) := by
  show eqNil tys 47 (.base (.slice none 0 0)) (.base (.slice none 0 0)) (fun r => k (.bool r)) = _
  unfold eqNil
  rw [ty47]; rfl
theorem nil31_w {a : Addr} {k : V → Out} : binK tys .eql 47 (.base (.slice (some a) 0 0)) (.base (.slice none 0 0)) k = k (.bool false) := by
  show eqNil tys 47 (.base (.slice (some a) 0 0)) (.base (.slice none 0 0)) (fun r => k (.bool r)) = _
  unfold eqNil
  rw [ty47]; rfl
theorem nil31_t {a b c d e : Nat} {k : V → Out} : binK tys .eql 47 (.tail a b c d e) (.base (.slice none 0 0)) k = k (.bool false) := by
  show eqNil tys 47 (.tail a b c d e) (.base (.slice none 0 0)) (fun r => k (.bool r)) = _
  unfold eqNil
  rw [ty47]; rfl

theorem Row.one {h : T O} {v : V} {l : List Tm} (R : Row h v l) : oneV v = true := by
  unfold Row at R
  generalize l.length = L at R
  cases R <;> rfl

theorem notInt31 : srcTy tys 47 (.slice 0 0 0 true 0 0) = true := by kernel_rfl
theorem src31_w {a : Addr} : srcTy tys 47 (.base (.slice (some a) 0 0)) = true := notInt31
theorem src31_t {a b c d e : Nat} : srcTy tys 47 (.tail a b c d e) = true := notInt31
theorem src31_s {id off len kk lo : Nat} {ex : Bool} : srcTy tys 47 (.slice id off len ex kk lo) = true := notInt31

/-- a row, by slices.Clone -/
theorem clone_ok {h : T O} {n : Nat} {v : V} {l : List Tm} (R : RowIn h n v l) (hl : l.length ≤ 1000000) :
    Fn env1 41 [v] h n (fun v' h' n' => RowIn h' n' v' l ∧ (∀ id, vid v' = some id → n ≤ id) ∧ Gro h n h' n') := by
  refine Fn.mk fn41 rfl fz41 (by simp) fun Q cs K => ?_
  obtain ⟨R, hid⟩ := R
  unfold Row at R
  generalize hL : l.length = L at R
  cases R with
  | nil ad =>
    have e : l = [] := List.length_eq_zero_iff.1 hL
    subst e
    cases ad with
    | none =>
      simp (maxSteps := 2000000) (disch := first | omega | assumption) only [↓mCode, ↓mOps, mAll, seval, vPtr, ite_ne, wrap_i64, boundN_int, e1_tys, e1_fns, fn41, Tryz.f41, nil31_n]
      exact K _ _ _ ⟨⟨.nil none, fun id hh => (by cases hh)⟩, fun id hh => (by cases hh), Gro.refl h n⟩
    | some ad =>
      simp (maxSteps := 2000000) (disch := first | omega | assumption) only [↓mCode, ↓mOps, mAll, seval, vPtr, ite_ne, wrap_i64, boundN_int, e1_tys, e1_fns, fn41, Tryz.f41, nil31_w, src31_w]
      refine K _ _ _ ⟨⟨.slice _ _ _ _ _ _ (Nat.le_refl _) ⟨_, _, 0, 3, T.get_put _ _ _ _ |>.trans (if_pos rfl), .inl rfl, by omega, fun j hj => absurd hj (by simp)⟩, fun id hh => by cases hh; omega⟩, fun id hh => by cases hh; omega, (Gro.refl h n).put _⟩
  | tail id off a e k =>
    have e : l = [] := List.length_eq_zero_iff.1 hL
    subst e
    simp (maxSteps := 2000000) (disch := first | omega | assumption) only [↓mCode, ↓mOps, mAll, seval, vPtr, ite_ne, wrap_i64, boundN_int, e1_tys, e1_fns, fn41, Tryz.f41, nil31_t, src31_t]
    refine K _ _ _ ⟨⟨.slice _ _ _ _ _ _ (Nat.le_refl _) ⟨_, _, 0, 3, T.get_put _ _ _ _ |>.trans (if_pos rfl), .inl rfl, by omega, fun j hj => absurd hj (by simp)⟩, fun id hh => by cases hh; omega⟩, fun id hh => by cases hh; omega, (Gro.refl h n).put _⟩
  | slice id off len ex k lo hlo C =>
    subst hL
    have hid := hid id rfl
    have hC : ∀ {kk : List V → Out}, cellsAt h id off (l.length * 3) kk = kk ((List.range (l.length * 3)).map (rowG l)) := C.all rfl rfl
    have C' := C.keep (h' := h.put n (some (.cells (ofT []) 0 3))) (by rw [T.get_put, if_neg (by omega)])
    by_cases c0 : l.length = 0
    · have e : l = [] := List.length_eq_zero_iff.1 c0
      subst e
      have hC0 : ∀ {kk : List V → Out}, cellsAt h id off 0 kk = kk [] := hC
      simp (maxSteps := 2000000) (disch := first | omega | assumption) only [↓mCode, ↓mOps, mAll, seval, vPtr, ite_ne, wrap_i64, boundN_int, e1_tys, e1_fns, fn41, Tryz.f41, nil31_s, src31_s, need_true, hC0, app1_eq]
      refine K _ _ _ ⟨⟨.slice _ _ _ _ _ _ (Nat.le_refl _) ⟨_, _, 0, 3, T.get_put _ _ _ _ |>.trans (if_pos rfl), .inl rfl, by omega, fun j hj => absurd hj (by simp)⟩, fun id hh => by cases hh; omega⟩, fun id hh => by cases hh; omega, (Gro.refl h n).put _⟩
    · have c1 : ¬ l.length ≤ 0 := by omega
      simp (maxSteps := 2000000) (disch := first | omega | assumption) only [↓mCode, ↓mOps, mAll, seval, vPtr, ite_ne, wrap_i64, boundN_int, e1_tys, e1_fns, fn41, Tryz.f41, nil31_s, src31_s, need_true, hC, app1_eq, c0, c1, Nat.zero_mul, List.length_map, List.length_range]
      refine K _ _ _ ⟨⟨.slice _ _ _ _ _ _ (Nat.le_refl _) ⟨_, _, _, 3, T.get_put _ _ _ _ |>.trans (if_pos rfl), .inl rfl, by omega, fun j hj => ?_⟩, fun id hh => by cases hh; omega⟩, fun id hh => by cases hh; omega, ((Gro.refl h n).put _).put _⟩
      rw [ofT_get, Nat.zero_add, List.getElem?_map, List.getElem?_range hj]; rfl
end Go.Mir
