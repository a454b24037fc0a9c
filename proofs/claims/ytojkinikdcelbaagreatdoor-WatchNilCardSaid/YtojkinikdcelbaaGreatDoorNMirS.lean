/- The small machine against the model: worlds. No statement of the program stands here. -/
import Derived.Test.YtojkinikdcelbaaGreatDoorNMirB
import Derived.Below
import Derived.Laws.World
import Derived.Laws.Sem
import GoSem.Step
import Derived.Calls
import Derived.Lib.ItoaNum
import Derived.Lib.LaidTab
import Derived.Laws.IdiomCopy
set_option linter.unusedSimpArgs false
set_option linter.unusedVariables false
set_option linter.defProp false
namespace Go.Mir
open Go Go.RowKit

/-- where a block lies -/
structure Blk where
  blk : Nat
  off : Nat
  room : Nat

abbrev Beta := Nat → Option Blk

def bytesOf (l : List Nat) : ByteArray := ⟨(l.map UInt8.ofNat).toArray⟩

def allB (l : List Nat) : Bool := l.all (fun b => decide (b < 256))

def capOf (b : Blk) (ex : Bool) (k : Nat) : Nat := if ex then k else b.room - k

mutual
def conc (β : Beta) : V → Option Value
  | .int k n => some (.int k n)
  | .bool b => some (.bool b)
  | .str l => if allB l then some (.string (bytesOf l)) else none
  | .ptr id off => (β id).map fun b => .pointer (some ⟨b.blk, b.off + off, none⟩)
  | .slice id off len ex k lo => (β id).bind fun b => if lo ≤ capOf b ex k then some (.slice (some ⟨b.blk, b.off + off, none⟩) len (capOf b ex k)) else none
  | .tail id off a esz k => (β id).map fun b => .slice (some ⟨b.blk, b.off + (if b.room - k = a then off else off + a * esz), none⟩) 0 (b.room - k - a)
  | .map id => (β id).map fun b => .map (some b.blk)
  | .func fn first cap => (concL β first).bind fun us => (concL β cap).map fun vs => .func (.func fn) us.toArray vs.toArray
  | .yield id => (β id).map fun b => .func (.yield b.blk) #[] #[]
  | .iface t v => (conc β v).map (.iface t)
  | .agg cs => (concL β cs).map fun vs => .agg vs.toArray
  | .tuple cs => (concL β cs).map fun vs => .tuple vs.toArray
  | .base v => if v.oneCell' then some v else none
def concL (β : Beta) : List V → Option (List Value)
  | [] => some []
  | v :: vs => (conc β v).bind fun x => (concL β vs).map (x :: ·)
end

def Le (β β' : Beta) : Prop := ∀ id b, β id = some b → β' id = some b

theorem Le.refl (β : Beta) : Le β β := fun _ _ h => h
theorem Le.trans {a b c : Beta} (h : Le a b) (k : Le b c) : Le a c := fun id x hx => k id x (h id x hx)

mutual
theorem conc_mono {β β' : Beta} (h : Le β β') : ∀ (v : V) (x : Value), conc β v = some x → conc β' v = some x
  | .int .., _, e => by simpa [conc] using e
  | .bool .., _, e => by simpa [conc] using e
  | .str .., _, e => by simpa [conc] using e
  | .base .., _, e => by simpa [conc] using e
  | .ptr id off, x, e => by
    simp only [conc, Option.map_eq_some_iff] at e ⊢
    obtain ⟨b, hb, e⟩ := e; exact ⟨b, h _ _ hb, e⟩
  | .slice id off len ex k lo, x, e => by
    simp only [conc, Option.bind_eq_some_iff] at e ⊢
    obtain ⟨b, hb, e⟩ := e; exact ⟨b, h _ _ hb, e⟩
  | .tail id off a esz k, x, e => by
    simp only [conc, Option.map_eq_some_iff] at e ⊢
    obtain ⟨b, hb, e⟩ := e; exact ⟨b, h _ _ hb, e⟩
  | .map id, x, e => by
    simp only [conc, Option.map_eq_some_iff] at e ⊢
    obtain ⟨b, hb, e⟩ := e; exact ⟨b, h _ _ hb, e⟩
  | .yield id, x, e => by
    simp only [conc, Option.map_eq_some_iff] at e ⊢
    obtain ⟨b, hb, e⟩ := e; exact ⟨b, h _ _ hb, e⟩
  | .func fn first cap, x, e => by
    simp only [conc, Option.bind_eq_some_iff, Option.map_eq_some_iff] at e ⊢
    obtain ⟨us, hu, vs, hv, e⟩ := e; exact ⟨us, concL_mono h _ _ hu, vs, concL_mono h _ _ hv, e⟩
  | .iface t v, x, e => by
    simp only [conc, Option.map_eq_some_iff] at e ⊢
    obtain ⟨y, hy, e⟩ := e; exact ⟨y, conc_mono h _ _ hy, e⟩
  | .agg cs, x, e => by
    simp only [conc, Option.map_eq_some_iff] at e ⊢
    obtain ⟨y, hy, e⟩ := e; exact ⟨y, concL_mono h _ _ hy, e⟩
  | .tuple cs, x, e => by
    simp only [conc, Option.map_eq_some_iff] at e ⊢
    obtain ⟨y, hy, e⟩ := e; exact ⟨y, concL_mono h _ _ hy, e⟩
theorem concL_mono {β β' : Beta} (h : Le β β') : ∀ (v : List V) (x : List Value), concL β v = some x → concL β' v = some x
  | [], x, e => by simpa [concL] using e
  | v :: vs, x, e => by
    simp only [concL, Option.bind_eq_some_iff, Option.map_eq_some_iff] at e ⊢
    obtain ⟨y, hy, z, hz, e⟩ := e; exact ⟨y, conc_mono h _ _ hy, z, concL_mono h _ _ hz, e⟩
end

theorem concL_len {β : Beta} : ∀ {l : List V} {x : List Value}, concL β l = some x → x.length = l.length
  | [], x, e => by simp [concL] at e; simp [e]
  | v :: vs, x, e => by
    simp only [concL, Option.bind_eq_some_iff, Option.map_eq_some_iff] at e
    obtain ⟨y, hy, z, hz, rfl⟩ := e; simp [concL_len hz]

theorem concL_app {β : Beta} : ∀ {l m : List V} {x y : List Value}, concL β l = some x → concL β m = some y → concL β (l ++ m) = some (x ++ y)
  | [], m, x, y, e, f => by simp [concL] at e; simp [e, f]
  | v :: vs, m, x, y, e, f => by
    simp only [concL, Option.bind_eq_some_iff, Option.map_eq_some_iff] at e
    obtain ⟨a, ha, z, hz, rfl⟩ := e
    simp [concL, ha, concL_app hz f]

theorem concL_get {β : Beta} : ∀ {l : List V} {x : List Value} (i : Nat) {v : V}, concL β l = some x → l[i]? = some v → ∃ y, x[i]? = some y ∧ conc β v = some y
  | [], x, i, v, e, g => by simp at g
  | a :: vs, x, i, v, e, g => by
    simp only [concL, Option.bind_eq_some_iff, Option.map_eq_some_iff] at e
    obtain ⟨b, hb, z, hz, rfl⟩ := e
    cases i with
    | zero => simp at g; subst g; exact ⟨b, rfl, hb⟩
    | succ i => simp at g; simpa using concL_get i hz g

theorem concL_of {β : Beta} : ∀ {l : List V} {x : List Value}, l.length = x.length → (∀ (i : Nat) (v : V), l[i]? = some v → ∃ y, x[i]? = some y ∧ conc β v = some y) → concL β l = some x
  | [], x, e, _ => by cases x <;> simp_all [concL]
  | a :: vs, x, e, h => by
    cases x with
    | nil => simp at e
    | cons y x =>
      obtain ⟨z, hz, hc⟩ := h 0 a rfl
      simp at hz; subst hz
      have := concL_of (l := vs) (x := x) (by simpa using e) (fun i v hv => by simpa using h (i+1) v (by simpa using hv))
      simp [concL, hc, this]

theorem concL_drop {β : Beta} {l : List V} {x : List Value} (n : Nat) (e : concL β l = some x) : concL β (l.drop n) = some (x.drop n) :=
  concL_of (by simp [concL_len e]) fun i v h => by simpa using concL_get (n+i) e (by simpa using h)

theorem concL_take {β : Beta} {l : List V} {x : List Value} (n : Nat) (e : concL β l = some x) : concL β (l.take n) = some (x.take n) :=
  concL_of (by simp [concL_len e]) fun i v h => by
    rw [List.getElem?_take] at h ⊢
    split at h
    · rename_i hi; simpa [hi] using concL_get i e h
    · cases h

theorem nth_eq {α : Type} : ∀ (l : List α) (i : Nat), nth l i = l[i]?
  | [], i => by simp [nth]
  | a :: l, 0 => rfl
  | a :: l, i + 1 => by
    show nth l i = _
    rw [nth_eq l i]; simp

section tree
variable {α : Type}

theorem T.get_node_zero (v : Option α) (l r : T α) : (T.node v l r).get 0 = v := rfl
theorem T.get_nil (i : Nat) : (T.nil : T α).get i = none := rfl
theorem T.get_node_succ (v : Option α) (l r : T α) (m : Nat) : (T.node v l r).get (m + 1) = if m % 2 = 1 then r.get (m / 2) else l.get (m / 2) := by
  show Bool.rec (motive := fun _ => Option α) (l.get (m / 2)) (r.get (m / 2)) (Nat.beq (m % 2) 1) = _
  by_cases h : m % 2 = 1
  · have : Nat.beq (m % 2) 1 = true := by rw [h]; rfl
    rw [this, if_pos h]
  · have : Nat.beq (m % 2) 1 = false := by
      have : m % 2 = 0 := by omega
      rw [this]; rfl
    rw [this, if_neg h]

theorem T.get_fn (f : Nat → Option α) (i : Nat) : (T.fn f).get i = f i := rfl

/-- the tree with a place turned -/
noncomputable def T.put (t : T α) (i : Nat) (x : Option α) : T α := T.setK t i x t fun t => t

theorem T.setK_eq {β : Type} {f : β} : ∀ (t : T α) (i : Nat) (x : Option α) (k : T α → β), T.setK t i x f k = k (T.put t i x)
  | .nil, i, x, k => rfl
  | .fn g, i, x, k => rfl
  | .node v l r, 0, x, k => rfl
  | .node v l r, i + 1, x, k => by
    show (Bool.rec (motive := fun _ => β) (T.setK l (i / 2) x f fun l' => k (.node v l' r)) (T.setK r (i / 2) x f fun r' => k (.node v l r')) (Nat.beq (i % 2) 1)) =
      k (Bool.rec (motive := fun _ => T α) (T.setK l (i / 2) x (.node v l r) fun l' => .node v l' r) (T.setK r (i / 2) x (.node v l r) fun r' => .node v l r') (Nat.beq (i % 2) 1))
    cases Nat.beq (i % 2) 1 with
    | false => simp only; rw [T.setK_eq l, T.setK_eq l]
    | true => simp only; rw [T.setK_eq r, T.setK_eq r]

theorem T.get_put : ∀ (t : T α) (i : Nat) (x : Option α) (j : Nat), (t.put i x).get j = if j = i then x else t.get j
  | .nil, i, x, j => rfl
  | .fn g, i, x, j => rfl
  | .node v l r, 0, x, j => by
    show (T.node x l r).get j = _
    cases j <;> simp [T.get_node_zero, T.get_node_succ]
  | .node v l r, i + 1, x, j => by
    have e : (T.node v l r).put (i + 1) x = if i % 2 = 1 then .node v l (r.put (i / 2) x) else .node v (l.put (i / 2) x) r := by
      show (Bool.rec (motive := fun _ => T α) (T.setK l (i / 2) x (.node v l r) fun l' => .node v l' r) (T.setK r (i / 2) x (.node v l r) fun r' => .node v l r') (Nat.beq (i % 2) 1)) = _
      rw [T.setK_eq, T.setK_eq]
      by_cases hi : i % 2 = 1
      · have hb : Nat.beq (i % 2) 1 = true := by rw [hi]; rfl
        rw [hb, if_pos hi]
      · have hb : Nat.beq (i % 2) 1 = false := by
          have : i % 2 = 0 := by omega
          rw [this]; rfl
        rw [hb, if_neg hi]
    rw [e]
    by_cases hi : i % 2 = 1
    · rw [if_pos hi]
      cases j with
      | zero => simp [T.get_node_zero]
      | succ j =>
        rw [T.get_node_succ, T.get_node_succ, T.get_put r]
        by_cases hj : j % 2 = 1
        · simp only [hj, if_true]
          by_cases he : j / 2 = i / 2
          · have : j = i := by omega
            simp [this]
          · have : ¬ (j = i) := fun e => he (by rw [e])
            simp [he, this]
        · have : ¬ (j = i) := fun e => hj (by rw [e]; exact hi)
          simp [hj, this]
    · rw [if_neg hi]
      cases j with
      | zero => simp [T.get_node_zero]
      | succ j =>
        rw [T.get_node_succ, T.get_node_succ, T.get_put l]
        by_cases hj : j % 2 = 1
        · have : ¬ (j = i) := fun e => hi (by rw [← e]; exact hj)
          simp [hj, this]
        · simp only [hj, if_false]
          by_cases he : j / 2 = i / 2
          · have : j = i := by omega
            simp [this]
          · have : ¬ (j = i) := fun e => he (by rw [e])
            simp [he, this]

theorem T.setK_ok {β : Type} {f : β} {P : β → Prop} (t : T α) (i : Nat) (x : Option α) (k : T α → β) (h : P (T.setK t i x f k)) :
    ∃ t', P (k t') ∧ ∀ j, t'.get j = if j = i then x else t.get j :=
  ⟨t.put i x, by rw [T.setK_eq] at h; exact h, T.get_put t i x⟩

theorem T.get_blank (d i : Nat) : (T.blank d : T α).get i = none := by
  induction d generalizing i with
  | zero => rfl
  | succ d ih =>
    show (T.node none (T.blank d) (T.blank d) : T α).get i = none
    cases i with
    | zero => rfl
    | succ i => rw [T.get_node_succ, ih]; simp
end tree

/-- the answer is 'ok r' -/
theorem bad_ne {c : Nat} {r : Rz} : ¬ (bad c = .ok r) := by simp [bad]

theorem setK_ok {α : Type} {t : T α} {i : Nat} {x : Option α} {k : T α → Out} {r : Rz} (h : T.setK t i x (bad 0) k = .ok r) :
    ∃ t', k t' = .ok r ∧ ∀ j, t'.get j = if j = i then x else t.get j :=
  T.setK_ok (P := fun o => o = .ok r) t i x k h

theorem om_ok {α : Type} {o : Option α} {k : α → Out} {r : Rz} (h : om o k = .ok r) : ∃ x, o = some x ∧ k x = .ok r := by
  cases o with
  | none => exact (bad_ne h).elim
  | some x => exact ⟨x, rfl, h⟩

theorem need_ok {b : Bool} {k : Out} {r : Rz} (h : need b k = .ok r) : b = true ∧ k = .ok r := by
  cases b with
  | false => exact (bad_ne h).elim
  | true => exact ⟨rfl, h⟩

theorem rec_ok {b : Bool} {x y : Out} {r : Rz} (h : (Bool.rec x y b : Out) = .ok r) : (b = true ∧ y = .ok r) ∨ (b = false ∧ x = .ok r) := by
  cases b <;> simp_all

theorem bytesK_eq {β : Type} (l : List UInt8) (k : List Nat → β) : bytesK l k = k (l.map UInt8.toNat) := by
  induction l generalizing k with
  | nil => rfl
  | cons a l ih => show bytesK l _ = _; rw [ih, fNat_eq]; rfl

theorem bytesOf_map (l : List UInt8) : bytesOf (l.map UInt8.toNat) = ⟨l.toArray⟩ := by
  simp [bytesOf, List.map_map, Function.comp_def]

theorem allB_map (l : List UInt8) : allB (l.map UInt8.toNat) = true := by
  simp only [allB, List.all_map, List.all_eq_true, Function.comp, decide_eq_true_eq]
  intro x _; exact x.toNat_lt

/-- a value that stands in the program's text -/
theorem cv_ok {v : Value} {k : V → Out} {r : Rz} (h : cv v k = .ok r) : ∃ c, (∀ β, conc β c = some v) ∧ k c = .ok r := by
  cases v with
  | int kk n => exact ⟨_, fun _ => rfl, by simpa [cv, fInt_eq] using h⟩
  | bool b => exact ⟨_, fun _ => rfl, h⟩
  | string b =>
    have h : bytesK b.data.toList (fun l => k (.str l)) = .ok r := h
    rw [bytesK_eq] at h
    refine ⟨_, fun β => ?_, h⟩
    simp [conc, allB_map, bytesOf_map]
  | agg cs => exact (bad_ne h).elim
  | tuple cs => exact (bad_ne h).elim
  | _ => exact ⟨_, fun _ => rfl, h⟩

end Go.Mir
namespace Go.Mir
open Go Go.RowKit
def powTab : Array Value := (Lib.pow10Tab.map fun z => Value.int .u64 z).toArray
def laidP (w : World) : Prop := (∃ m, w.cell? ⟨0, 0, none⟩ = some (.int .i64 m)) ∧ ∃ e f, w.heap[1]? = some (.cells powTab e f)
theorem laid_below {W0 w : World} (b : Below W0.heap.size W0 w) (L : laidP W0) : laidP w :=
  ⟨let ⟨m, h⟩ := L.1; ⟨m, (b.cell (p := ⟨0, 0, none⟩) (World.block_lt_of_cell? _ _ h)).trans h⟩, let ⟨e, f, h⟩ := L.2; ⟨e, f, (b.block 1 (Array.getElem?_eq_some_iff.1 h).1).trans h⟩⟩
theorem laid_tab {P : Program} {w : World} (L : laidP w) (hg : P.globalNamed "internal/strconv.uint64pow10" = some 1) : Lib.TabIs P w "internal/strconv.uint64pow10" .u64 Lib.pow10Tab := by
  obtain ⟨e, f, h⟩ := L.2
  unfold Lib.TabIs World.var?
  rw [hg]
  show (match w.heap[1]? with | some (.cells cs _ _) => some cs | _ => none) = _
  rw [h]; rfl
end Go.Mir
namespace Go.Mir
open Go Go.RowKit

def RegsR (β : Beta) (regs : T V) (tmps : Array Value) (skip : Nat → Prop) : Prop :=
  ∀ t v, regs.get t = some v → ¬ skip t → conc β v = some (tmps.getD t undef)

def no : Nat → Prop := fun _ => False

theorem RegsR.mono {β β' : Beta} {regs : T V} {tmps : Array Value} {s : Nat → Prop} (h : RegsR β regs tmps s) (l : Le β β') : RegsR β' regs tmps s :=
  fun t v a b => conc_mono l _ _ (h t v a b)

def EntsR (β : Beta) : List (V × V × Nat) → List MapEntry → Prop
  | [], [] => True
  | e :: es, m :: ms => conc β e.1 = some m.key ∧ conc β e.2.1 = some m.val ∧ m.born = e.2.2 ∧ EntsR β es ms
  | _, _ => False

theorem EntsR.mono {β β' : Beta} (l : Le β β') : ∀ {es : List (V × V × Nat)} {ms : List MapEntry}, EntsR β es ms → EntsR β' es ms
  | [], [], _ => trivial
  | _ :: _, _ :: _, h => ⟨conc_mono l _ _ h.1, conc_mono l _ _ h.2.1, h.2.2.1, EntsR.mono l h.2.2.2⟩
  | [], _ :: _, h => h.elim
  | _ :: _, [], h => h.elim

/-- how a block of ours stands to a block of the model's -/
def ObjR (β : Beta) (b : Blk) (o : O) (ob : Option Obj) : Prop :=
  match o with
  | .cells t n esz => ∃ c elem frz, ob = some (.cells c elem frz) ∧ n ≤ b.room * esz ∧ b.off + b.room * esz ≤ c.size ∧
      (∀ j, b.off ≤ j → j < b.off + b.room * esz → ¬ (frz.1 ≤ j ∧ j < frz.2)) ∧
      ∀ i v, i < n → t.get i = some v → ∃ x, c[b.off + i]? = some x ∧ conc β v = some x
  | .map es clock => ∃ ms, ob = some (.map ms clock) ∧ EntsR β es ms.toList
  | .loop st pending fn sz regs ps assign body d => ∃ L bd, ob = some (.loop L) ∧ L.state = st ∧ L.pending = pending ∧ L.fn = fn ∧ L.tmps.size = sz ∧
      RegsR β regs L.tmps no ∧ L.params.toList = ps ∧ L.assign = assign ∧ L.body = body ∧ β d = some bd ∧ L.defers = bd.blk
  | .deferred => ob = some (.deferred (some []))
  | .ro t n _ => ∃ c elem frz, ob = some (.cells c elem frz) ∧ ∀ i v, i < n → t.get i = some v → ∃ x, c[b.off + i]? = some x ∧ conc β v = some x
  | .iter m since seen last => b.off = 0 ∧ ∃ k, ob = some (.mapIter k since seen.toArray last) ∧ (match m with | none => k = none | some id => ∃ bm, β id = some bm ∧ k = some bm.blk)

theorem ObjR.mono {β β' : Beta} {b : Blk} {o : O} {ob : Option Obj} (l : Le β β') (h : ObjR β b o ob) : ObjR β' b o ob := by
  cases o with
  | cells t n esz =>
    obtain ⟨c, elem, frz, h1, h2, h3, h4, h5⟩ := h
    exact ⟨c, elem, frz, h1, h2, h3, h4, fun i v hi hv => let ⟨x, hx, hc⟩ := h5 i v hi hv; ⟨x, hx, conc_mono l _ _ hc⟩⟩
  | map es clock => obtain ⟨ms, h1, h2⟩ := h; exact ⟨ms, h1, h2.mono l⟩
  | loop st pending fn sz regs ps assign body d =>
    obtain ⟨L, bd, h1, h2, h3, h4, h5, h6, h7, h8, h9, h10, h11⟩ := h
    exact ⟨L, bd, h1, h2, h3, h4, h5, h6.mono l, h7, h8, h9, l _ _ h10, h11⟩
  | ro t n esz =>
    obtain ⟨c, elem, frz, h1, h5⟩ := h
    exact ⟨c, elem, frz, h1, fun i v hi hv => let ⟨x, hx, hc⟩ := h5 i v hi hv; ⟨x, hx, conc_mono l _ _ hc⟩⟩
  | deferred => exact h
  | iter m since seen last =>
    obtain ⟨h0, k, h1, h2⟩ := h
    refine ⟨h0, k, h1, ?_⟩
    cases m with
    | none => exact h2
    | some id => obtain ⟨bm, h3, h4⟩ := h2; exact ⟨bm, l _ _ h3, h4⟩

/-- how our blocks stand to a world -/
structure HR (W0 : World) (β : Beta) (h : T O) (n : Nat) (w : World) : Prop where
  obj : ∀ id o b, h.get id = some o → β id = some b → ObjR β b o w.heap[b.blk]?
  inj : ∀ i j oi oj bi bj, h.get i = some oi → h.get j = some oj → β i = some bi → β j = some bj → bi.blk = bj.blk → i = j
  dom : ∀ id b, β id = some b → id < n ∧ b.blk < w.heap.size
  below : Below W0.heap.size W0 w
  laid : laidP W0
  above : ∀ j, n ≤ j → h.get j = none
  own : ∀ id o b, h.get id = some o → roO o = false → β id = some b → W0.heap.size ≤ b.blk

/-- what a step may do: new blocks, and nothing to blocks that do not stand in the world yet -/
structure More (β : Beta) (h : T O) (n : Nat) (β' : Beta) (h' : T O) (n' : Nat) : Prop where
  le : Le β β'
  lt : n ≤ n'
  pend : ∀ id, id < n → β id = none → β' id = none ∧ ∀ o, plainO o = true → h.get id = some o → h'.get id = some o

theorem More.refl (β : Beta) (h : T O) (n : Nat) : More β h n β h n := ⟨Le.refl β, Nat.le_refl n, fun _ _ e => ⟨e, fun _ _ h => h⟩⟩
theorem More.trans {β β' β'' : Beta} {h h' h'' : T O} {n n' n'' : Nat} (a : More β h n β' h' n') (b : More β' h' n' β'' h'' n'') : More β h n β'' h'' n'' :=
  ⟨a.le.trans b.le, Nat.le_trans a.lt b.lt, fun id hi hb =>
    let ⟨h1, h2⟩ := a.pend id hi hb
    let ⟨h3, h4⟩ := b.pend id (Nat.lt_of_lt_of_le hi a.lt) h1
    ⟨h3, fun o hp ho => h4 o hp (h2 o hp ho)⟩⟩

def upd (β : Beta) (id : Nat) (b : Blk) : Beta := fun i => if i = id then some b else β i

theorem upd_le {β : Beta} {id : Nat} {b : Blk} (h : β id = none) : Le β (upd β id b) := fun i x hx => by
  unfold upd; split
  · rename_i e; rw [e, h] at hx; cases hx
  · exact hx

theorem upd_self {β : Beta} {id : Nat} {b : Blk} : upd β id b id = some b := by simp [upd]

section
variable {W0 : World} {β : Beta} {h : T O} {n : Nat} {w : World}

theorem HR.base (H : HR W0 β h n w) : W0.heap.size ≤ w.heap.size := H.below.size

theorem HR.free (H : HR W0 β h n w) {id : Nat} (hn : n ≤ id) : β id = none := by
  cases hb : β id with
  | none => rfl
  | some b => have := (H.dom id b hb).1; omega

/-- a block that does not stand in the world yet -/
theorem HR.new (H : HR W0 β h n w) {h' : T O} {o : O} (hg : ∀ j, h'.get j = if j = n then some o else h.get j) : HR W0 β h' (n + 1) w where
  obj id o' b h1 h2 := by
    have hid := (H.dom id b h2).1
    rw [hg, if_neg (by omega)] at h1
    exact H.obj id o' b h1 h2
  inj i j oi oj bi bj h1 h2 h3 h4 e := by
    have hi := (H.dom i bi h3).1
    have hj := (H.dom j bj h4).1
    rw [hg, if_neg (by omega)] at h1
    rw [hg, if_neg (by omega)] at h2
    exact H.inj i j oi oj bi bj h1 h2 h3 h4 e
  dom id b hb := let ⟨a, d⟩ := H.dom id b hb; ⟨by omega, d⟩
  below := H.below
  laid := H.laid
  above j hj := by rw [hg, if_neg (by omega)]; exact H.above j (by omega)
  own id o' b h1 hr h2 := by
    have hid := (H.dom id b h2).1
    rw [hg, if_neg (by omega)] at h1
    exact H.own id o' b h1 hr h2

/-- and now it does -/
theorem HR.alloc (H : HR W0 β h n w) {id : Nat} {o : O} {b : Blk} {ob : Obj} (hid : id < n) (hb : β id = none) (ho : h.get id = some o)
    (hk : b.blk = w.heap.size) (hob : ObjR (upd β id b) b o (some ob)) : HR W0 (upd β id b) h n (w.alloc ob) where
  obj i o' b' h1 h2 := by
    by_cases e : i = id
    · subst e
      rw [upd_self] at h2; cases h2
      rw [ho] at h1; cases h1
      have : (w.alloc ob).heap[b.blk]? = some ob := by rw [hk]; show (w.heap.push ob)[w.heap.size]? = _; simp
      rw [this]; exact hob
    · have h2' : β i = some b' := by simpa [upd, e] using h2
      have hlt := (H.dom i b' h2').2
      have : (w.alloc ob).heap[b'.blk]? = w.heap[b'.blk]? := Below.heap_alloc _ _ _ hlt
      rw [this]
      exact (H.obj i o' b' h1 h2').mono (upd_le hb)
  inj i j oi oj bi bj h1 h2 h3 h4 e := by
    by_cases ei : i = id <;> by_cases ej : j = id
    · rw [ei, ej]
    · subst ei
      rw [upd_self] at h3; cases h3
      have h4' : β j = some bj := by simpa [upd, ej] using h4
      have := (H.dom j bj h4').2
      omega
    · subst ej
      rw [upd_self] at h4; cases h4
      have h3' : β i = some bi := by simpa [upd, ei] using h3
      have := (H.dom i bi h3').2
      omega
    · exact H.inj i j oi oj bi bj h1 h2 (by simpa [upd, ei] using h3) (by simpa [upd, ej] using h4) e
  dom i b' h2 := by
    have hs : (w.alloc ob).heap.size = w.heap.size + 1 := by simp
    by_cases e : i = id
    · subst e
      rw [upd_self] at h2; cases h2
      exact ⟨hid, by omega⟩
    · obtain ⟨a, d⟩ := H.dom i b' (by simpa [upd, e] using h2)
      exact ⟨a, by omega⟩
  below := H.below.alloc H.base ob
  laid := H.laid
  above := H.above
  own i o' b' h1 hr h2 := by
    by_cases e : i = id
    · subst e
      rw [upd_self] at h2; cases h2
      rw [hk]; exact H.base
    · exact H.own i o' b' h1 hr (by simpa [upd, e] using h2)

theorem HR.drew (H : HR W0 β h n w) : HR W0 β h n w.drew where
  obj := H.obj
  inj := H.inj
  dom := H.dom
  below := H.below.drew
  laid := H.laid
  above := H.above
  own := H.own

/-- a block that is not asked any more -/
theorem HR.drop (H : HR W0 β h n w) {h' : T O} {id : Nat} (hg : ∀ j, h'.get j = if j = id then none else h.get j) : HR W0 β h' n w where
  obj i o b h1 h2 := by
    rw [hg] at h1; split at h1
    · cases h1
    · exact H.obj i o b h1 h2
  inj i j oi oj bi bj h1 h2 h3 h4 e := by
    rw [hg] at h1 h2
    split at h1; · cases h1
    split at h2; · cases h2
    exact H.inj i j oi oj bi bj h1 h2 h3 h4 e
  dom := H.dom
  below := H.below
  laid := H.laid
  above j hj := by rw [hg]; split; · rfl
                   · exact H.above j hj
  own i o b h1 hr h2 := by
    rw [hg] at h1; split at h1
    · cases h1
    · exact H.own i o b h1 hr h2

/-- a block with other contents, here and there -/
theorem HR.put (H : HR W0 β h n w) {h' : T O} {id : Nat} {o o0 : O} {b : Blk} {w' : World} (ho0 : h.get id = some o0) (hb : β id = some b)
    (hg : ∀ j, h'.get j = if j = id then some o else h.get j) (hw : ∀ k, k ≠ b.blk → w'.heap[k]? = w.heap[k]?) (hs : w'.heap.size = w.heap.size)
    (hbel : Below W0.heap.size w w') (hob : ObjR β b o w'.heap[b.blk]?) (hro : roO o0 = false := by rfl) : HR W0 β h' n w' where
  obj i o' b' h1 h2 := by
    by_cases e : i = id
    · subst e
      rw [hb] at h2; cases h2
      rw [hg, if_pos rfl] at h1; cases h1
      exact hob
    · rw [hg, if_neg e] at h1
      have : b'.blk ≠ b.blk := fun eb => e (H.inj i id o' o0 b' b h1 ho0 h2 hb eb)
      rw [hw _ this]
      exact H.obj i o' b' h1 h2
  inj i j oi oj bi bj h1 h2 h3 h4 e := by
    have hi : ∃ o, h.get i = some o := by
      rw [hg] at h1; split at h1
      · rename_i e; exact ⟨o0, e ▸ ho0⟩
      · exact ⟨_, h1⟩
    have hj : ∃ o, h.get j = some o := by
      rw [hg] at h2; split at h2
      · rename_i e; exact ⟨o0, e ▸ ho0⟩
      · exact ⟨_, h2⟩
    obtain ⟨oi', hi⟩ := hi
    obtain ⟨oj', hj⟩ := hj
    exact H.inj i j oi' oj' bi bj hi hj h3 h4 e
  dom i b' h2 := let ⟨a, d⟩ := H.dom i b' h2; ⟨a, by omega⟩
  below := H.below.trans hbel
  laid := H.laid
  above j hj := by
    have := (H.dom id b hb).1
    rw [hg, if_neg (by omega)]; exact H.above j hj
  own i o' b' h1 hr h2 := by
    by_cases e : i = id
    · subst e
      rw [hb] at h2; cases h2
      exact H.own i o0 b ho0 hro hb
    · rw [hg, if_neg e] at h1
      exact H.own i o' b' h1 hr h2

theorem ext_put {h' : T O} {id : Nat} {x : Option O} {b : Blk} (hb : β id = some b) (hg : ∀ j, h'.get j = if j = id then x else h.get j) : More β h n β h' n :=
  ⟨Le.refl β, Nat.le_refl n, fun i _ e => ⟨e, fun o _ ho => by
    rw [hg]; split
    · rename_i e'; subst e'; rw [hb] at e; cases e
    · exact ho⟩⟩

theorem ext_new {h' : T O} {o : O} {b : Blk} (hf : β n = none) (hg : ∀ j, h'.get j = if j = n then some o else h.get j) : More β h n (upd β n b) h' (n + 1) :=
  ⟨upd_le hf, Nat.le_succ n, fun i hi e => ⟨by simp [upd, show i ≠ n by omega, e], fun o _ ho => by rw [hg, if_neg (by omega)]; exact ho⟩⟩

theorem HR.sub {hq : T O} (H : HR W0 β h n w) (hs : ∀ j x, hq.get j = some x → h.get j = some x) : HR W0 β hq n w where
  obj id o b h1 h2 := H.obj id o b (hs _ _ h1) h2
  inj i j oi oj bi bj h1 h2 h3 h4 e := H.inj i j oi oj bi bj (hs _ _ h1) (hs _ _ h2) h3 h4 e
  dom := H.dom
  below := H.below
  laid := H.laid
  above j hj := by
    cases hx : hq.get j with
    | none => rfl
    | some x => have := hs _ _ hx; rw [H.above j hj] at this; cases this
  own id o b h1 hr h2 := H.own id o b (hs _ _ h1) hr h2

/-- a cell -/
theorem HR.cell (H : HR W0 β h n w) {id off m esz : Nat} {o : O} {t : T V} {v : V} {b : Blk} (ho : h.get id = some o) (hr : o = .cells t m esz ∨ o = .ro t m esz) (hb : β id = some b) (hm : off < m)
    (hv : t.get off = some v) : ∃ x, w.cell? ⟨b.blk, b.off + off, none⟩ = some x ∧ conc β v = some x := by
  rcases hr with rfl | rfl
  · obtain ⟨c, elem, frz, h1, h2, h3, h4, h5⟩ := H.obj id _ b ho hb
    obtain ⟨x, hx, hc⟩ := h5 off v hm hv
    exact ⟨x, by simp [World.cell?, h1, hx], hc⟩
  · obtain ⟨c, elem, frz, h1, h5⟩ := H.obj id _ b ho hb
    obtain ⟨x, hx, hc⟩ := h5 off v hm hv
    exact ⟨x, by simp [World.cell?, h1, hx], hc⟩

end

theorem rCells_ok {o : O} {k : T V → Nat → Nat → Out} {r : Rz} (h : rCells o k = .ok r) : ∃ t m e, (o = .cells t m e ∨ o = .ro t m e) ∧ k t m e = .ok r := by
  cases o <;> first | exact ⟨_, _, _, .inl rfl, h⟩ | exact ⟨_, _, _, .inr rfl, h⟩ | exact (bad_ne h).elim

/-- a greater number for the next block -/
theorem HR.up {W0 : World} {β : Beta} {h : T O} {n m : Nat} {w : World} (H : HR W0 β h n w) (hm : n ≤ m) : HR W0 β h m w where
  obj := H.obj
  inj := H.inj
  dom id b hb := let ⟨a, d⟩ := H.dom id b hb; ⟨Nat.lt_of_lt_of_le a hm, d⟩
  below := H.below
  laid := H.laid
  above j hj := H.above j (Nat.le_trans hm hj)
  own := H.own

/-- less is known of the blocks -/
structure Rz.le (a b : Rz) : Prop where
  v : a.v = b.v
  n : b.n ≤ a.n
  h : ∀ id o, a.h.get id = some o → b.h.get id = some o

theorem Rz.le.refl (a : Rz) : Rz.le a a := ⟨rfl, Nat.le_refl _, fun _ _ h => h⟩
theorem Rz.le.trans {a b c : Rz} (h : Rz.le a b) (k : Rz.le b c) : Rz.le a c := ⟨h.v.trans k.v, Nat.le_trans k.n h.n, fun id o ho => k.h id o (h.h id o ho)⟩

theorem add_none (b o i : Nat) : (⟨b, o, none⟩ : Addr).add i = ⟨b, o + i, none⟩ := by
  unfold Addr.add; split <;> simp_all

theorem loadN_ok {t : T V} {off : Nat} {k : List V → Out} {r : Rz} : ∀ {n : Nat} {acc : List V}, 
    (Nat.rec (motive := fun _ => List V → Out) (fun acc => k acc) (fun m ih acc => om (t.get (Nat.add off m)) fun v => ih (v :: acc)) n acc : Out) = .ok r →
    ∃ l, k (l ++ acc) = .ok r ∧ l.length = n ∧ ∀ i v, l[i]? = some v → t.get (off + i) = some v
  | 0, acc, h => ⟨[], h, rfl, fun i v e => by simp at e⟩
  | n + 1, acc, h => by
    obtain ⟨x, hx, h⟩ := om_ok h
    obtain ⟨l, hl, hn, hg⟩ := loadN_ok h
    refine ⟨l ++ [x], by simpa using hl, by simp [hn], fun i v e => ?_⟩
    rw [List.getElem?_append] at e
    split at e
    · exact hg i v e
    · rename_i hi
      have : i = n := by
        have : i - l.length < 1 := by
          rcases Nat.lt_or_ge (i - l.length) 1 with h | h
          · exact h
          · rw [List.getElem?_eq_none (by simpa using h)] at e; cases e
        omega
      subst this
      have e0 : i - l.length = 0 := by omega
      rw [e0] at e
      simp at e; subst e
      exact hx

section
variable {W0 : World} {β : Beta} {h : T O} {n : Nat} {w : World} {P : Program}

/-- cells of a block, read -/
theorem cellsAt_ok {id off m : Nat} {k : List V → Out} {r : Rz} (e : cellsAt h id off m k = .ok r) :
    ∃ l, k l = .ok r ∧ l.length = m ∧ ∀ W0 β n w, HR W0 β h n w → ∀ b, β id = some b → ∃ vs, concL β l = some vs ∧ vs.length = m ∧
      ∀ (j : Nat) v, vs[j]? = some v → w.cell? ⟨b.blk, b.off + off + j, none⟩ = some v := by
  obtain ⟨o, ho, e⟩ := om_ok e
  obtain ⟨t, m', esz, hr, e⟩ := rCells_ok e
  · obtain ⟨hm, e⟩ := need_ok e
    have hm : off + m ≤ m' := Nat.le_of_ble_eq_true hm
    obtain ⟨l, hk, hl, hg⟩ := loadN_ok e
    refine ⟨l, by simpa using hk, hl, fun W0 β n w H b hb => ?_⟩
    have hc : ∀ (j : Nat) v, l[j]? = some v → ∃ x, w.cell? ⟨b.blk, b.off + off + j, none⟩ = some x ∧ conc β v = some x := by
      intro j v hj
      have hjl : j < l.length := by
        rcases Nat.lt_or_ge j l.length with h | h
        · exact h
        · rw [List.getElem?_eq_none h] at hj; cases hj
      have := H.cell ho hr hb (off := off + j) (by omega) (hg j v hj)
      simpa [Nat.add_assoc] using this
    let f : Nat → Value := fun j => (w.cell? ⟨b.blk, b.off + off + j, none⟩).getD undef
    refine ⟨(List.range m).map f, concL_of (by simp [hl]) fun i v hv => ?_, by simp, fun j v hj => ?_⟩
    · obtain ⟨x, hx, hcx⟩ := hc i v hv
      have hil : i < l.length := by
        rcases Nat.lt_or_ge i l.length with h | h
        · exact h
        · rw [List.getElem?_eq_none h] at hv; cases hv
      exact ⟨x, by simp [f, hx, show i < m by omega], hcx⟩
    · have hjm : j < m := by
        rcases Nat.lt_or_ge j m with h | h
        · exact h
        · rw [List.getElem?_eq_none (by simpa using h)] at hj; cases hj
      have hv : l[j]? = some l[j] := List.getElem?_eq_getElem (by omega)
      obtain ⟨x, hx, hcx⟩ := hc j _ hv
      simp [f, hx, hjm] at hj
      rw [hx, hj]

theorem cellAt_ok {id off : Nat} {k : V → Out} {r : Rz} (e : cellAt h id off k = .ok r) :
    ∃ v, k v = .ok r ∧ ∀ W0 β n w, HR W0 β h n w → ∀ b, β id = some b → ∃ x, w.cell? ⟨b.blk, b.off + off, none⟩ = some x ∧ conc β v = some x := by
  obtain ⟨o, ho, e⟩ := om_ok e
  obtain ⟨t, m', esz, hr, e⟩ := rCells_ok e
  · obtain ⟨hm, e⟩ := need_ok e
    have hm : off < m' := Nat.le_of_ble_eq_true hm
    obtain ⟨v, hv, e⟩ := om_ok e
    exact ⟨v, e, fun W0 β n w H b hb => H.cell ho hr hb hm hv⟩
end

end Go.Mir
