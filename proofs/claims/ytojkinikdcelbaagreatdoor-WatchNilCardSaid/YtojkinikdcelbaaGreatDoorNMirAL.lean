/- The small machine against the model: frames. No statement of the program stands here. -/
import Derived.Test.YtojkinikdcelbaaGreatDoorNMirAK
set_option linter.unusedSimpArgs false
set_option linter.unusedVariables false
set_option linter.defProp false
namespace Go.Mir
open Go Go.RowKit

def bAt (β : Beta) (id blk : Nat) : Prop := ∃ b, β id = some b ∧ b.blk = blk
theorem bAt.mono {β β' : Beta} (l : Le β β') {id blk : Nat} (h : bAt β id blk) : bAt β' id blk := let ⟨b, h1, h2⟩ := h; ⟨b, l _ _ h1, h2⟩

def ItR (β : Beta) (a : It) (b : Item) : Prop :=
  match a with
  | .reg all rem => ∃ ops L, b = .inRegion ops L ∧ ops.toList = all ∧ L.map (fun i => ops[i]?) = rem.map some
  | .code c => b = .code c
  | .inBlock id => b = .inBlock id
  | .inLoop c => b = .inLoop c
  | .inScope c => b = .inScope c
  | .inRange l => ∃ k, b = .inRangeFunc k ∧ bAt β l k
  | .endRange l => ∃ k, b = .endRangeFunc k ∧ bAt β l k
  | .beginRound => b = .beginRound
  | .dreg _ _ | .fin => False

theorem ItR.mono {β β' : Beta} (l : Le β β') {a : It} {b : Item} (h : ItR β a b) : ItR β' a b := by
  cases a <;> try exact h
  · obtain ⟨k, h1, h2⟩ := h; exact ⟨k, h1, h2.mono l⟩
  · obtain ⟨k, h1, h2⟩ := h; exact ⟨k, h1, h2.mono l⟩

def TodoR (β : Beta) : List It → List Item → Prop
  | [], [] => True
  | a :: t, b :: s => ItR β a b ∧ TodoR β t s
  | [], _ :: _ => False
  | _ :: _, [] => False

theorem TodoR.mono {β β' : Beta} (l : Le β β') : ∀ {t : List It} {s : List Item}, TodoR β t s → TodoR β' t s
  | [], [], _ => trivial
  | _ :: _, _ :: _, h => ⟨h.1.mono l, TodoR.mono l h.2⟩
  | [], _ :: _, h => h.elim
  | _ :: _, [], h => h.elim

theorem TodoR.cons {β : Beta} {a : It} {t : List It} {s : List Item} (h : TodoR β (a :: t) s) : ∃ b s', s = b :: s' ∧ ItR β a b ∧ TodoR β t s' := by
  cases s with
  | nil => exact h.elim
  | cons b s => exact ⟨b, s, rfl, h.1, h.2⟩

def DefR (β : Beta) : List Nat → List Deferred → Prop
  | [], [] => True
  | d :: ds, D :: Ds => (∃ b, bAt β d b ∧ D = { target := .collected b, args := #[] }) ∧ DefR β ds Ds
  | [], _ :: _ => False
  | _ :: _, [] => False

theorem DefR.mono {β β' : Beta} (l : Le β β') : ∀ {t : List Nat} {s : List Deferred}, DefR β t s → DefR β' t s
  | [], [], _ => trivial
  | _ :: _, _ :: _, h => ⟨let ⟨b, h1, h2⟩ := h.1; ⟨b, h1.mono l, h2⟩, DefR.mono l h.2⟩
  | [], _ :: _, h => h.elim
  | _ :: _, [], h => h.elim

def RoundR (β : Beta) (a : Option Nat) (b : Option Nat) : Prop :=
  match a with
  | none => b = none
  | some l => ∃ k, b = some k ∧ bAt β l k

theorem RoundR.mono {β β' : Beta} (l : Le β β') {a b : Option Nat} (h : RoundR β a b) : RoundR β' a b := by
  cases a with
  | none => exact h
  | some a => obtain ⟨k, h1, h2⟩ := h; exact ⟨k, h1, h2.mono l⟩

structure FiR (β : Beta) (i : Fi) (F : Frame) : Prop where
  fn : F.fn = i.fn
  sz : F.tmps.size = i.sz
  kind : F.kind = .normal
  defers : DefR β i.defers F.defers
  round : RoundR β i.round F.roundOf

theorem FiR.mono {β β' : Beta} (l : Le β β') {i : Fi} {F : Frame} (h : FiR β i F) : FiR β' i F := ⟨h.fn, h.sz, h.kind, h.defers.mono l, h.round.mono l⟩

/- places -/
def putT (tmps : Array Value) (dst : Option Nat) (v : Value) : Array Value := match dst with | some d => tmps.setIfInBounds d v | none => tmps

theorem putT_size (tmps : Array Value) (dst : Option Nat) (v : Value) : (putT tmps dst v).size = tmps.size := by cases dst <;> simp [putT]

theorem setD_ok {regs : T V} {dst : Option Nat} {sz : Nat} {v : V} {k : T V → Out} {r : Rz} (h : setD regs dst sz v k = .ok r) :
    ∃ regs', k regs' = .ok r ∧ (∀ d, dst = some d → d < sz) ∧ ∀ t, regs'.get t = if dst = some t then some v else regs.get t := by
  cases dst with
  | none => exact ⟨regs, h, fun d hd => (by cases hd), fun t => by rw [if_neg (by simp)]⟩
  | some d =>
    replace h := need_ok h; obtain ⟨hd, h⟩ := h
    replace h := setK_ok h; obtain ⟨t', h, hg⟩ := h
    refine ⟨t', h, fun d' hd' => ?_, fun t => ?_⟩
    · cases hd'; exact Nat.le_of_ble_eq_true hd
    · rw [hg]
      by_cases e : t = d
      · rw [if_pos e, if_pos (by rw [e])]
      · rw [if_neg e, if_neg (by simpa using fun h => e h.symm)]

theorem RegsR.set {β : Beta} {regs regs' : T V} {tmps : Array Value} {s s' : Nat → Prop} (h : RegsR β regs tmps s) {dst : Option Nat} {v : V} {val : Value}
    (hg : ∀ t, regs'.get t = if dst = some t then some v else regs.get t) (hv : conc β v = some val) (hd : ∀ d, dst = some d → d < tmps.size)
    (hs : ∀ t, s t → dst ≠ some t → s' t) : RegsR β regs' (putT tmps dst val) s' := fun t u hu hn => by
  rw [hg] at hu
  by_cases e : dst = some t
  · rw [if_pos e] at hu; cases hu
    subst e
    have := hd t rfl
    simp only [putT]
    rw [hv, Array.getD_eq_getD_getElem?, Array.getElem?_setIfInBounds, if_pos rfl, if_pos this]; rfl
  · rw [if_neg e] at hu
    rw [h t u hu fun hst => hn (hs t hst e)]
    cases dst with
    | none => rfl
    | some d =>
      have : d ≠ t := fun h => e (by rw [h])
      simp only [putT]
      rw [Array.getD_eq_getD_getElem?, Array.getD_eq_getD_getElem?, Array.getElem?_setIfInBounds, if_neg this]

theorem conc_undef (β : Beta) : conc β undefV = some undef := by simp [undefV, undef, conc, concL]

/- what is worked out but not yet done -/
def SameOn (r r' : T V) (op : Op) : Prop := ∀ t, Operand.tmp t ∈ op.operands.toList → r.get t = r'.get t

def boolW (v : V) (want : Bool) : Option Bool := match v with | .bool b => some (b == want) | .tuple [] => some false | _ => none

noncomputable def wantB (all : List Oper) (regs : T V) (g : Option (Nat × Bool)) : Option Bool :=
  match g with
  | none => some true
  | some (j, want) => (all[j]?).bind fun o => o.dst.bind fun d => (regs.get d).bind fun v => boolW v want

theorem wantK_ok {all : List Oper} {regs : T V} {g : Option (Nat × Bool)} {k : Bool → Out} {r : Rz} (h : wantK all regs g k = .ok r) : ∃ b, wantB all regs g = some b ∧ k b = .ok r := by
  cases g with
  | none => exact ⟨true, rfl, h⟩
  | some p =>
    obtain ⟨j, want⟩ := p
    replace h := om_ok h; obtain ⟨o, ho, h⟩ := h
    replace h := om_ok h; obtain ⟨d, hd, h⟩ := h
    replace h := om_ok h; obtain ⟨v, hv, h⟩ := h
    rw [nth_eq] at ho
    have key : ∃ b, boolW v want = some b ∧ k b = .ok r := by
      unfold wantV at h
      split at h
      · rename_i b
        rw [fB_eq] at h
        refine ⟨_, rfl, ?_⟩
        cases b <;> cases want <;> exact h
      · split at h
        · exact ⟨_, rfl, h⟩
        · exact (bad_ne h).elim
      · exact (bad_ne h).elim
    obtain ⟨b, hb, hk⟩ := key
    exact ⟨b, by simp [wantB, ho, hd, hv, hb], hk⟩

/-- what a step may do, as far as blocks below m go that do not stand in the world yet -/
structure MoreB (m : Nat) (β : Beta) (h : T O) (n : Nat) (β' : Beta) (h' : T O) (n' : Nat) : Prop where
  le : Le β β'
  lt : n ≤ n'
  pend : ∀ id, id < m → β id = none → β' id = none ∧ ∀ o, plainO o = true → h.get id = some o → h'.get id = some o

theorem MoreB.mono {m m' : Nat} {β : Beta} {h : T O} {n : Nat} {β' : Beta} {h' : T O} {n' : Nat} (M : MoreB m β h n β' h' n') (hm : m' ≤ m) : MoreB m' β h n β' h' n' :=
  ⟨M.le, M.lt, fun id hid => M.pend id (Nat.lt_of_lt_of_le hid hm)⟩

theorem More.toB {m : Nat} {β : Beta} {h : T O} {n : Nat} {β' : Beta} {h' : T O} {n' : Nat} (M : More β h n β' h' n') (hm : m ≤ n) : MoreB m β h n β' h' n' :=
  ⟨M.le, M.lt, fun id hid => M.pend id (Nat.lt_of_lt_of_le hid hm)⟩

/-- a block that is made but does not stand in the world yet -/
def AF (P : Program) (β : Beta) (h : T O) (regs : T V) (o : Oper) (id : Nat) : Prop :=
  ∃ rq ob vf, AllocSpec P rq o.op ob vf ∧ SameOn rq regs o.op ∧ (∀ d, o.dst = some d → regs.get d = some (vf id)) ∧ h.get id = some ob ∧ β id = none ∧ plainO ob = true

def PF (P : Program) (h : T O) (regs : T V) (o : Oper) : Prop :=
  ∃ rq hq v, PureSpec P hq rq o.op v ∧ SameOn rq regs o.op ∧ (∀ j x, hq.get j = some x → h.get j = some x) ∧ (∀ d, o.dst = some d → regs.get d = some v)

def LateG (P : Program) (tys : T TI) (all : List Oper) (β : Beta) (h : T O) (regs : T V) (al : List Nat) (idf : Nat → Nat) (x : Nat) : Prop :=
  ∀ o, all[x]? = some o → ∃ b, wantB all regs o.guard = some b ∧ (b = false → ∀ d, o.dst = some d → regs.get d = some undefV) ∧
    (b = true → isAl tys o.op = true → x ∈ al ∧ AF P β h regs o (idf x))

def LateP (P : Program) (tys : T TI) (all : List Oper) (h : T O) (regs : T V) (x : Nat) : Prop :=
  ∀ o, all[x]? = some o → wantB all regs o.guard = some true → isAl tys o.op = false → PF P h regs o

/-- x does not look at place d, nor write it -/
def Free (all : List Oper) (d x : Nat) : Prop := ∀ o, all[x]? = some o → Operand.tmp d ∉ o.op.operands.toList ∧ (∀ g w, o.guard = some (g, w) → ∀ og, all[g]? = some og → og.dst ≠ some d) ∧ o.dst ≠ some d

section
variable {P : Program} {tys : T TI} {all : List Oper} {β : Beta} {h : T O} {regs regs' : T V} {al : List Nat} {idf : Nat → Nat} {x : Nat} {dst : Option Nat} {v : V}

theorem SameOn.set {rq : T V} {op : Op} (hs : SameOn rq regs op) (hg : ∀ t, regs'.get t = if dst = some t then some v else regs.get t) (hf : ∀ d, dst = some d → Operand.tmp d ∉ op.operands.toList) : SameOn rq regs' op := by
  intro t ht
  rw [hs t ht, hg, if_neg fun e => hf t e ht]

theorem wantB_set (hg : ∀ t, regs'.get t = if dst = some t then some v else regs.get t) {g : Option (Nat × Bool)} (hf : ∀ d, dst = some d → ∀ j w, g = some (j, w) → ∀ og, all[j]? = some og → og.dst ≠ some d) :
    wantB all regs' g = wantB all regs g := by
  cases g with
  | none => rfl
  | some p =>
    obtain ⟨j, w⟩ := p
    simp only [wantB]
    cases hj : all[j]? with
    | none => rfl
    | some og =>
      simp only [Option.bind_some]
      cases hd : og.dst with
      | none => rfl
      | some d =>
        simp only [Option.bind_some]
        rw [hg, if_neg fun e => hf d e j w rfl og hj hd]

theorem LateG.set (H : LateG P tys all β h regs al idf x) (hg : ∀ t, regs'.get t = if dst = some t then some v else regs.get t) (hf : ∀ d, dst = some d → Free all d x) : LateG P tys all β h regs' al idf x := by
  intro o ho
  obtain ⟨b, h1, h2, h3⟩ := H o ho
  have hd : ∀ d, o.dst = some d → regs'.get d = regs.get d := fun d hd => by rw [hg, if_neg fun e => (hf d e o ho).2.2 hd]
  refine ⟨b, ?_, fun hb d ho' => by rw [hd d ho']; exact h2 hb d ho', fun hb ha => ?_⟩
  · rw [wantB_set hg fun d hd j w hg' og hj => (hf d hd o ho).2.1 j w hg' og hj]; exact h1
  · obtain ⟨hin, rq, ob, vf, a1, a2, a3, a4⟩ := h3 hb ha
    exact ⟨hin, rq, ob, vf, a1, a2.set hg fun d hd' => (hf d hd' o ho).1, fun d ho' => by rw [hd d ho']; exact a3 d ho', a4⟩

theorem LateP.set (H : LateP P tys all h regs x) (hg : ∀ t, regs'.get t = if dst = some t then some v else regs.get t) (hf : ∀ d, dst = some d → Free all d x) : LateP P tys all h regs' x := by
  intro o ho hw ha
  rw [wantB_set hg fun d hd j w hg' og hj => (hf d hd o ho).2.1 j w hg' og hj] at hw
  obtain ⟨rq, hq, u, a1, a2, a3, a4⟩ := H o ho hw ha
  exact ⟨rq, hq, u, a1, a2.set hg fun d hd' => (hf d hd' o ho).1, a3, fun d ho' => by rw [hg, if_neg fun e => (hf d e o ho).2.2 ho']; exact a4 d ho'⟩

theorem LateG.more {m n : Nat} {β' : Beta} {h' : T O} {n' : Nat} (H : LateG P tys all β h regs al idf x) (M : MoreB m β h n β' h' n') (hid : x ∈ al → idf x < m) : LateG P tys all β' h' regs al idf x := by
  intro o ho
  obtain ⟨b, h1, h2, h3⟩ := H o ho
  refine ⟨b, h1, h2, fun hb ha => ?_⟩
  obtain ⟨hin, rq, ob, vf, a1, a2, a3, a4, a5, a6⟩ := h3 hb ha
  obtain ⟨m1, m2⟩ := M.pend _ (hid hin) a5
  exact ⟨hin, rq, ob, vf, a1, a2, a3, m2 ob a6 a4, m1, a6⟩
end

def skipL (all : List Oper) (seen l : List Nat) (t : Nat) : Prop := ∃ x, x ∈ seen ∧ x ∈ l ∧ ∃ o, all[x]? = some o ∧ o.dst = some t

/-- a drawn region under way: 'D' is done, 'l' is to come -/
structure DS (P : Program) (tys : T TI) (lo hi : Nat) (β : Beta) (h : T O) (regs : T V) (all : List Oper) (tmps : Array Value) (sc : List Sc) (L D l seen : List Nat) (last : Option Nat) (evd must al : List Nat) (idf : Nat → Nat) : Prop where
  lin : LinExt all L
  dd : nodupD all = true
  split : L = D ++ l
  st : ScS tys all L sc seen last evd must
  done : ∀ x ∈ D, x ∈ seen
  late : ∀ x ∈ seen, x ∈ l → x ∈ evd
  lastD : ∀ c, last = some c → c ∈ D
  wr : ∀ x ∈ seen, x ∈ l → Wr all L seen x ∧ Rd all L x
  lg : ∀ x ∈ seen, x ∈ l → LateG P tys all β h regs al idf x
  al1 : ∀ x ∈ al, x ∈ seen ∧ lo ≤ idf x ∧ idf x < hi
  inj : ∀ x ∈ al, ∀ y ∈ al, idf x = idf y → x = y
  regs : RegsR β regs tmps (skipL all seen l)
  dl : ∀ x ∈ seen, x ∈ l → ∀ o d, all[x]? = some o → o.dst = some d → d < tmps.size

section
variable {P : Program} {tys : T TI} {lo hi : Nat} {β : Beta} {h : T O} {regs regs' : T V} {all : List Oper} {tmps : Array Value} {sc : List Sc} {L D l seen : List Nat} {last : Option Nat} {evd must al : List Nat} {idf : Nat → Nat}

theorem DS.more {n : Nat} {β' : Beta} {h' : T O} {n' : Nat} (S : DS P tys lo hi β h regs all tmps sc L D l seen last evd must al idf) (M : MoreB hi β h n β' h' n') : DS P tys lo hi β' h' regs all tmps sc L D l seen last evd must al idf :=
  { S with
    lg := fun x h1 h2 => (S.lg x h1 h2).more M fun hx => (S.al1 x hx).2.2
    regs := S.regs.mono M.le }

theorem DS.up {hi' : Nat} (S : DS P tys lo hi β h regs all tmps sc L D l seen last evd must al idf) (hh : hi ≤ hi') : DS P tys lo hi' β h regs all tmps sc L D l seen last evd must al idf :=
  { S with al1 := fun x hx => ⟨(S.al1 x hx).1, (S.al1 x hx).2.1, Nat.lt_of_lt_of_le (S.al1 x hx).2.2 hh⟩ }

/-- what is worked out and not done stays so when what stands in the row is put -/
theorem DS.set (S : DS P tys lo hi β h regs all tmps sc L D l seen last evd must al idf) {dst : Option Nat} {v : V} {val : Value} (hg : ∀ t, regs'.get t = if dst = some t then some v else regs.get t)
    (hv : conc β v = some val) (hd : ∀ d, dst = some d → d < tmps.size) (hf : ∀ d, dst = some d → ∀ x ∈ seen, x ∈ l → Free all d x) :
    DS P tys lo hi β h regs' all (putT tmps dst val) sc L D l seen last evd must al idf :=
  { S with
    lg := fun x h1 h2 => (S.lg x h1 h2).set hg fun d hd' => hf d hd' x h1 h2
    regs := S.regs.set hg hv hd fun t ht _ => ht
    dl := by rw [putT_size]; exact S.dl }
end

def DregR (P : Program) (tys : T TI) (lo hi : Nat) (β : Beta) (h : T O) (regs : T V) (all : List Oper) (sc : List Sc) (t : List It) (F : Frame) (pend : Option Nat) : Prop :=
  ∃ ops L D l seen last evd must al idf T, ops.toList = all ∧ F.todo = .inRegion ops (pend.toList ++ l) :: T ∧ TodoR β t T ∧
    DS P tys lo hi β h regs all F.tmps sc L D l seen last evd must al idf ∧ (∀ x ∈ seen, x ∈ l → x ∈ must ∨ isAlAt tys all x = true) ∧
    (∀ c, pend = some c → ∀ o d, all[c]? = some o → o.dst = some d → ∀ x ∈ seen, x ∈ l → Free all d x)

def BodyR (P : Program) (tys : T TI) (lo hi : Nat) (β : Beta) (h : T O) (regs : T V) (F : Frame) (todo : List It) : Prop :=
  match todo with
  | .fin :: _ => F.mode = .returning ∧ RegsR β regs F.tmps no
  | .dreg all sc :: t => F.mode = .run ∧ DregR P tys lo hi β h regs all sc t F none
  | t => F.mode = .run ∧ TodoR β t F.todo ∧ RegsR β regs F.tmps no

def FrR (P : Program) (tys : T TI) (lo hi : Nat) (β : Beta) (h : T O) (fr : Fr) (F : Frame) : Prop := FiR β fr.i F ∧ BodyR P tys lo hi β h fr.regs F fr.todo

def WaitB (P : Program) (tys : T TI) (lo hi : Nat) (β : Beta) (h : T O) (regs : T V) (F : Frame) (todo : List It) : Prop :=
  match todo with
  | .dreg all sc :: t => (match sc with | .ch c :: sc => DregR P tys lo hi β h regs all sc t F (some c) | _ => False)
  | t => TodoR β t F.todo ∧ RegsR β regs F.tmps no

/-- a frame that waits for a value -/
def WaitR (P : Program) (tys : T TI) (lo hi : Nat) (β : Beta) (h : T O) (fr : Fr) (F : Frame) : Prop := FiR β fr.i F ∧ F.mode = .run ∧ WaitB P tys lo hi β h fr.regs F fr.todo

theorem WaitR.more {P : Program} {tys : T TI} {lo hi : Nat} {β β' : Beta} {h h' : T O} {n n' : Nat} {fr : Fr} {F : Frame} (H : WaitR P tys lo hi β h fr F) (M : MoreB hi β h n β' h' n') : WaitR P tys lo hi β' h' fr F := by
  obtain ⟨i, regs, todo⟩ := fr
  obtain ⟨h1, h2, h3⟩ := H
  refine ⟨h1.mono M.le, h2, ?_⟩
  have gen : TodoR β todo F.todo ∧ RegsR β regs F.tmps no → TodoR β' todo F.todo ∧ RegsR β' regs F.tmps no := fun h => ⟨h.1.mono M.le, h.2.mono M.le⟩
  cases todo with
  | nil => exact gen h3
  | cons it t =>
    cases it with
    | dreg all sc =>
      cases sc with
      | nil => exact (h3 : False).elim
      | cons s sc =>
        cases s with
        | ch c =>
          obtain ⟨ops, L, D, l, seen, last, evd, must, al, idf, T, a1, a2, a3, a4, a5, a6⟩ : DregR P tys lo hi β h regs all sc t F (some c) := h3
          exact ⟨ops, L, D, l, seen, last, evd, must, al, idf, T, a1, a2, a3.mono M.le, a4.more M, a5, a6⟩
        | ev c => exact (h3 : False).elim
        | re c => exact (h3 : False).elim
    | _ => exact gen h3

theorem FrR.up {P : Program} {tys : T TI} {lo hi hi' : Nat} {β : Beta} {h : T O} {fr : Fr} {F : Frame} (H : FrR P tys lo hi β h fr F) (hh : hi ≤ hi') : FrR P tys lo hi' β h fr F := by
  obtain ⟨i, regs, todo⟩ := fr
  obtain ⟨h1, h2⟩ := H
  refine ⟨h1, ?_⟩
  cases todo with
  | nil => exact h2
  | cons it t =>
    cases it with
    | dreg all sc =>
      obtain ⟨hm, ops, L, D, l, seen, last, evd, must, al, idf, T, a1, a2, a3, a4, a5, a6⟩ : F.mode = .run ∧ DregR P tys lo hi β h regs all sc t F none := h2
      exact ⟨hm, ops, L, D, l, seen, last, evd, must, al, idf, T, a1, a2, a3, a4.up hh, a5, a6⟩
    | _ => exact h2

/-- where a run began -/
structure Bs where
  β : Beta
  h : T O
  n : Nat

structure BaseR (B0 : Bs) (β : Beta) (h : T O) (m : Nat) : Prop where
  le : B0.n ≤ m
  sub : Le B0.β β
  pend : ∀ id, id < B0.n → B0.β id = none → β id = none ∧ ∀ o, plainO o = true → B0.h.get id = some o → h.get id = some o

theorem BaseR.start (β : Beta) (h : T O) (n : Nat) : BaseR ⟨β, h, n⟩ β h n := ⟨Nat.le_refl n, Le.refl β, fun _ _ e => ⟨e, fun _ _ h => h⟩⟩

theorem BaseR.more {B0 : Bs} {β β' : Beta} {h h' : T O} {n n' m : Nat} (H : BaseR B0 β h m) (M : MoreB m β h n β' h' n') : BaseR B0 β' h' m :=
  ⟨H.le, H.sub.trans M.le, fun id hid hb =>
    let ⟨h1, h2⟩ := H.pend id hid hb
    let ⟨h3, h4⟩ := M.pend id (Nat.lt_of_lt_of_le hid H.le) h1
    ⟨h3, fun o hp ho => h4 o hp (h2 o hp ho)⟩⟩

def StackR (P : Program) (tys : T TI) (f0 : Nat) (cs0 : List Frame) (B0 : Bs) (β : Beta) (h : T O) : Nat → Fi → List Fr → List Frame → Prop
  | m, i, [], CS => CS = cs0 ∧ i.fn = f0 ∧ i.round = none ∧ BaseR B0 β h m
  | m, _, c :: cs, C :: CS => ∃ lo, lo ≤ m ∧ WaitR P tys lo m β h c C ∧ StackR P tys f0 cs0 B0 β h lo c.i cs CS
  | _, _, _ :: _, [] => False

theorem StackR.more {P : Program} {tys : T TI} {β β' : Beta} {h h' : T O} {n n' : Nat} {f0 : Nat} {cs0 : List Frame} {B0 : Bs} :
    ∀ {m : Nat} {i : Fi} {cs : List Fr} {CS : List Frame}, MoreB m β h n β' h' n' → StackR P tys f0 cs0 B0 β h m i cs CS → StackR P tys f0 cs0 B0 β' h' m i cs CS
  | _, _, [], _, M, H => ⟨H.1, H.2.1, H.2.2.1, H.2.2.2.more M⟩
  | _, _, _ :: _, _ :: _, M, ⟨lo, h1, h2, h3⟩ => ⟨lo, h1, h2.more M, StackR.more (M.mono h1) h3⟩
  | _, _, _ :: _, [], _, H => H.elim

theorem StackR.congr {P : Program} {tys : T TI} {β : Beta} {h : T O} {m : Nat} {f0 : Nat} {cs0 : List Frame} {B0 : Bs} {i j : Fi} {cs : List Fr} {CS : List Frame} (h1 : i.fn = j.fn) (h2 : i.round = j.round) (H : StackR P tys f0 cs0 B0 β h m i cs CS) :
    StackR P tys f0 cs0 B0 β h m j cs CS := by
  cases cs with
  | nil => exact ⟨H.1, by rw [← h1]; exact H.2.1, by rw [← h2]; exact H.2.2.1, H.2.2.2⟩
  | cons c cs => cases CS with
    | nil => exact H.elim
    | cons C CS => exact H

theorem finish_region {C : Frame} {ops : Array Oper} {i : Nat} {rest : List Nat} {k : List Item} (h : C.todo = .inRegion ops (i :: rest) :: k) {dst : Option Nat} (hd : (ops[i]?).bind (·.dst) = dst) (v : Value) :
    C.finish v = { C with tmps := putT C.tmps dst v, todo := .inRegion ops rest :: k } := by
  subst hd
  cases hb : (ops[i]?).bind (·.dst) <;> simp [Frame.finish, h, hb, putT]

theorem getE_toList {α : Type} (a : Array α) (i : Nat) : a[i]? = a.toList[i]? := by simp

/-- what waits for a value takes it -/
theorem finFr_ok {P : Program} {tys : T TI} {v : V} {cs : List Fr} {h : T O} {n : Nat} {go : Go_} {c : Fr} {r : Rz} (e : finFr v cs h n go c = .ok r) :
    ∃ regs todo, go c.i regs todo cs h n = .ok r ∧ ∀ lo hi β C val, WaitR P tys lo hi β h c C → conc β v = some val → FrR P tys lo hi β h ⟨c.i, regs, todo⟩ (C.finish val) := by
  obtain ⟨i, regs, todo⟩ := c
  replace e : finTodo i regs v todo (fun regs todo => go i regs todo cs h n) = .ok r := e
  cases todo with
  | nil => exact (bad_ne e).elim
  | cons it t =>
    replace e : finIt i regs v t (fun regs todo => go i regs todo cs h n) it = .ok r := e
    cases it with
    | reg all rem =>
      cases rem with
      | nil => exact (bad_ne e).elim
      | cons o rem =>
        replace e : setD regs o.dst i.sz v (fun regs => go i regs (.reg all rem :: t) cs h n) = .ok r := e
        replace e := setD_ok e; obtain ⟨regs', e, hsz, hg⟩ := e
        refine ⟨regs', _, e, fun lo hi β C val ⟨w1, w2, w3⟩ hv => ?_⟩
        obtain ⟨h1, h2⟩ : TodoR β (.reg all (o :: rem) :: t) C.todo ∧ RegsR β regs C.tmps no := w3
        obtain ⟨b, T, hC, ⟨ops, L, rfl, ha, hL⟩, hT⟩ := h1.cons
        cases L with
        | nil => simp at hL
        | cons j L =>
          simp only [List.map_cons, List.cons.injEq] at hL
          have hfin := finish_region hC (dst := o.dst) (by rw [hL.1]; rfl) val
          rw [hfin]
          have hw1 := w1.sz
          exact ⟨⟨w1.fn, by simp [putT_size, w1.sz], w1.kind, w1.defers, w1.round⟩, w2, ⟨⟨ops, L, rfl, ha, hL.2⟩, hT⟩, h2.set hg hv (fun d hd => by have := hsz d hd; simp only at this hw1; omega) fun t ht => ht.elim⟩
    | dreg all sc =>
      cases sc with
      | nil => exact (bad_ne e).elim
      | cons s sc =>
        cases s with
        | ev => exact (bad_ne e).elim
        | re => exact (bad_ne e).elim
        | ch j =>
          replace e : om (nth all j) (fun o => setD regs o.dst i.sz v fun regs => go i regs (.dreg all sc :: t) cs h n) = .ok r := e
          replace e := om_ok e; obtain ⟨o, ho, e⟩ := e
          rw [nth_eq] at ho
          replace e := setD_ok e; obtain ⟨regs', e, hsz, hg⟩ := e
          refine ⟨regs', _, e, fun lo hi β C val ⟨w1, w2, w3⟩ hv => ?_⟩
          obtain ⟨ops, L, D, l, seen, last, evd, must, al, idf, T, a1, a2, a3, a4, a5, a6⟩ : DregR P tys lo hi β h regs all sc t C (some j) := w3
          have hj : ops[j]? = some o := by rw [getE_toList, a1]; exact ho
          have hfin := finish_region (by simpa using a2) (dst := o.dst) (by rw [hj]; rfl) val
          rw [hfin]
          have hw1 := w1.sz
          refine ⟨⟨w1.fn, by simp [putT_size, w1.sz], w1.kind, w1.defers, w1.round⟩, w2, ops, L, D, l, seen, last, evd, must, al, idf, T, a1, rfl, a3, ?_, a5, fun c hc => (by cases hc)⟩
          exact a4.set hg hv (fun d hd => by have := hsz d hd; simp only at this hw1; omega) fun d hd => a6 j rfl o d ho hd
    | inRange l =>
      refine ⟨regs, _, e, fun lo hi β C val ⟨w1, w2, w3⟩ hv => ?_⟩
      obtain ⟨h1, h2⟩ : TodoR β (.inRange l :: t) C.todo ∧ RegsR β regs C.tmps no := w3
      obtain ⟨b, T, hC, ⟨k, rfl, hk⟩, hT⟩ := h1.cons
      have hfin : C.finish val = { C with todo := .endRangeFunc k :: T } := by simp [Frame.finish, hC]
      rw [hfin]
      exact ⟨⟨w1.fn, w1.sz, w1.kind, w1.defers, w1.round⟩, w2, ⟨⟨k, rfl, hk⟩, hT⟩, h2⟩
    | _ => exact (bad_ne e).elim

end Go.Mir
