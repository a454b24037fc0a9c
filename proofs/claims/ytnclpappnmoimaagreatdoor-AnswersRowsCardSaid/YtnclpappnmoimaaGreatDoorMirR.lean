/- The small machine against the model: how values, blocks and worlds stand to each other. No statement of the program stands here. -/
import Derived.Test.YtnclpappnmoimaaGreatDoorMirB
import Derived.Below
import Derived.Laws.World
import Derived.Laws.Sem
namespace Go.Mir
open Go Go.RowKit

/-- where a block lies -/
structure Blk where
  blk : Nat
  off : Nat
  room : Nat

abbrev Beta := Nat → Option Blk

def bytesOf (l : List Nat) : ByteArray := ⟨(l.map UInt8.ofNat).toArray⟩

def allB (l : List Nat) : Bool := l.all (fun b => decide (b < 256))

def capOf (b : Blk) (ex : Bool) (k : Nat) : Nat := if ex then k else b.room - k

mutual
def conc (β : Beta) : V → Option Value
  | .int k n => some (.int k n)
  | .bool b => some (.bool b)
  | .str l => if allB l then some (.string (bytesOf l)) else none
  | .ptr id off => (β id).map fun b => .pointer (some ⟨b.blk, b.off + off, none⟩)
  | .slice id off len ex k lo => (β id).bind fun b => if lo ≤ capOf b ex k then some (.slice (some ⟨b.blk, b.off + off, none⟩) len (capOf b ex k)) else none
  | .tail id off a esz k => (β id).map fun b => .slice (some ⟨b.blk, b.off + (if b.room - k = a then off else off + a * esz), none⟩) 0 (b.room - k - a)
  | .map id => (β id).map fun b => .map (some b.blk)
  | .func fn first cap => (concL β first).bind fun us => (concL β cap).map fun vs => .func (.func fn) us.toArray vs.toArray
  | .yield id => (β id).map fun b => .func (.yield b.blk) #[] #[]
  | .iface t v => (conc β v).map (.iface t)
  | .agg cs => (concL β cs).map fun vs => .agg vs.toArray
  | .tuple cs => (concL β cs).map fun vs => .tuple vs.toArray
  | .base v => if v.oneCell' then some v else none
def concL (β : Beta) : List V → Option (List Value)
  | [] => some []
  | v :: vs => (conc β v).bind fun x => (concL β vs).map (x :: ·)
end

def Le (β β' : Beta) : Prop := ∀ id b, β id = some b → β' id = some b

theorem Le.refl (β : Beta) : Le β β := fun _ _ h => h
theorem Le.trans {a b c : Beta} (h : Le a b) (k : Le b c) : Le a c := fun id x hx => k id x (h id x hx)

mutual
theorem conc_mono {β β' : Beta} (h : Le β β') : ∀ (v : V) (x : Value), conc β v = some x → conc β' v = some x
  | .int .., _, e => by simpa [conc] using e
  | .bool .., _, e => by simpa [conc] using e
  | .str .., _, e => by simpa [conc] using e
  | .base .., _, e => by simpa [conc] using e
  | .ptr id off, x, e => by
    simp only [conc, Option.map_eq_some_iff] at e ⊢
    obtain ⟨b, hb, e⟩ := e; exact ⟨b, h _ _ hb, e⟩
  | .slice id off len ex k lo, x, e => by
    simp only [conc, Option.bind_eq_some_iff] at e ⊢
    obtain ⟨b, hb, e⟩ := e; exact ⟨b, h _ _ hb, e⟩
  | .tail id off a esz k, x, e => by
    simp only [conc, Option.map_eq_some_iff] at e ⊢
    obtain ⟨b, hb, e⟩ := e; exact ⟨b, h _ _ hb, e⟩
  | .map id, x, e => by
    simp only [conc, Option.map_eq_some_iff] at e ⊢
    obtain ⟨b, hb, e⟩ := e; exact ⟨b, h _ _ hb, e⟩
  | .yield id, x, e => by
    simp only [conc, Option.map_eq_some_iff] at e ⊢
    obtain ⟨b, hb, e⟩ := e; exact ⟨b, h _ _ hb, e⟩
  | .func fn first cap, x, e => by
    simp only [conc, Option.bind_eq_some_iff, Option.map_eq_some_iff] at e ⊢
    obtain ⟨us, hu, vs, hv, e⟩ := e; exact ⟨us, concL_mono h _ _ hu, vs, concL_mono h _ _ hv, e⟩
  | .iface t v, x, e => by
    simp only [conc, Option.map_eq_some_iff] at e ⊢
    obtain ⟨y, hy, e⟩ := e; exact ⟨y, conc_mono h _ _ hy, e⟩
  | .agg cs, x, e => by
    simp only [conc, Option.map_eq_some_iff] at e ⊢
    obtain ⟨y, hy, e⟩ := e; exact ⟨y, concL_mono h _ _ hy, e⟩
  | .tuple cs, x, e => by
    simp only [conc, Option.map_eq_some_iff] at e ⊢
    obtain ⟨y, hy, e⟩ := e; exact ⟨y, concL_mono h _ _ hy, e⟩
theorem concL_mono {β β' : Beta} (h : Le β β') : ∀ (v : List V) (x : List Value), concL β v = some x → concL β' v = some x
  | [], x, e => by simpa [concL] using e
  | v :: vs, x, e => by
    simp only [concL, Option.bind_eq_some_iff, Option.map_eq_some_iff] at e ⊢
    obtain ⟨y, hy, z, hz, e⟩ := e; exact ⟨y, conc_mono h _ _ hy, z, concL_mono h _ _ hz, e⟩
end

theorem concL_len {β : Beta} : ∀ {l : List V} {x : List Value}, concL β l = some x → x.length = l.length
  | [], x, e => by simp [concL] at e; simp [e]
  | v :: vs, x, e => by
    simp only [concL, Option.bind_eq_some_iff, Option.map_eq_some_iff] at e
    obtain ⟨y, hy, z, hz, rfl⟩ := e; simp [concL_len hz]

theorem concL_app {β : Beta} : ∀ {l m : List V} {x y : List Value}, concL β l = some x → concL β m = some y → concL β (l ++ m) = some (x ++ y)
  | [], m, x, y, e, f => by simp [concL] at e; simp [e, f]
  | v :: vs, m, x, y, e, f => by
    simp only [concL, Option.bind_eq_some_iff, Option.map_eq_some_iff] at e
    obtain ⟨a, ha, z, hz, rfl⟩ := e
    simp [concL, ha, concL_app hz f]

theorem concL_get {β : Beta} : ∀ {l : List V} {x : List Value} (i : Nat) {v : V}, concL β l = some x → l[i]? = some v → ∃ y, x[i]? = some y ∧ conc β v = some y
  | [], x, i, v, e, g => by simp at g
  | a :: vs, x, i, v, e, g => by
    simp only [concL, Option.bind_eq_some_iff, Option.map_eq_some_iff] at e
    obtain ⟨b, hb, z, hz, rfl⟩ := e
    cases i with
    | zero => simp at g; subst g; exact ⟨b, rfl, hb⟩
    | succ i => simp at g; simpa using concL_get i hz g

theorem concL_of {β : Beta} : ∀ {l : List V} {x : List Value}, l.length = x.length → (∀ (i : Nat) (v : V), l[i]? = some v → ∃ y, x[i]? = some y ∧ conc β v = some y) → concL β l = some x
  | [], x, e, _ => by cases x <;> simp_all [concL]
  | a :: vs, x, e, h => by
    cases x with
    | nil => simp at e
    | cons y x =>
      obtain ⟨z, hz, hc⟩ := h 0 a rfl
      simp at hz; subst hz
      have := concL_of (l := vs) (x := x) (by simpa using e) (fun i v hv => by simpa using h (i+1) v (by simpa using hv))
      simp [concL, hc, this]

theorem concL_drop {β : Beta} {l : List V} {x : List Value} (n : Nat) (e : concL β l = some x) : concL β (l.drop n) = some (x.drop n) :=
  concL_of (by simp [concL_len e]) fun i v h => by simpa using concL_get (n+i) e (by simpa using h)

theorem concL_take {β : Beta} {l : List V} {x : List Value} (n : Nat) (e : concL β l = some x) : concL β (l.take n) = some (x.take n) :=
  concL_of (by simp [concL_len e]) fun i v h => by
    rw [List.getElem?_take] at h ⊢
    split at h
    · rename_i hi; simpa [hi] using concL_get i e h
    · cases h

theorem nth_eq {α : Type} : ∀ (l : List α) (i : Nat), nth l i = l[i]?
  | [], i => by simp [nth]
  | a :: l, 0 => rfl
  | a :: l, i + 1 => by
    show nth l i = _
    rw [nth_eq l i]; simp

section tree
variable {α : Type}

theorem T.get_node_zero (v : Option α) (l r : T α) : (T.node v l r).get 0 = v := rfl
theorem T.get_nil (i : Nat) : (T.nil : T α).get i = none := rfl
theorem T.get_node_succ (v : Option α) (l r : T α) (m : Nat) : (T.node v l r).get (m + 1) = if m % 2 = 1 then r.get (m / 2) else l.get (m / 2) := by
  show Bool.rec (motive := fun _ => Option α) (l.get (m / 2)) (r.get (m / 2)) (Nat.beq (m % 2) 1) = _
  by_cases h : m % 2 = 1
  · have : Nat.beq (m % 2) 1 = true := by rw [h]; rfl
    rw [this, if_pos h]
  · have : Nat.beq (m % 2) 1 = false := by
      have : m % 2 = 0 := by omega
      rw [this]; rfl
    rw [this, if_neg h]

theorem T.get_fn (f : Nat → Option α) (i : Nat) : (T.fn f).get i = f i := rfl

/-- the tree with a place turned -/
noncomputable def T.put (t : T α) (i : Nat) (x : Option α) : T α := T.setK t i x t fun t => t

theorem T.setK_eq {β : Type} {f : β} : ∀ (t : T α) (i : Nat) (x : Option α) (k : T α → β), T.setK t i x f k = k (T.put t i x)
  | .nil, i, x, k => rfl
  | .fn g, i, x, k => rfl
  | .node v l r, 0, x, k => rfl
  | .node v l r, i + 1, x, k => by
    show (Bool.rec (motive := fun _ => β) (T.setK l (i / 2) x f fun l' => k (.node v l' r)) (T.setK r (i / 2) x f fun r' => k (.node v l r')) (Nat.beq (i % 2) 1)) =
      k (Bool.rec (motive := fun _ => T α) (T.setK l (i / 2) x (.node v l r) fun l' => .node v l' r) (T.setK r (i / 2) x (.node v l r) fun r' => .node v l r') (Nat.beq (i % 2) 1))
    cases Nat.beq (i % 2) 1 with
    | false => simp only; rw [T.setK_eq l, T.setK_eq l]
    | true => simp only; rw [T.setK_eq r, T.setK_eq r]

theorem T.get_put : ∀ (t : T α) (i : Nat) (x : Option α) (j : Nat), (t.put i x).get j = if j = i then x else t.get j
  | .nil, i, x, j => rfl
  | .fn g, i, x, j => rfl
  | .node v l r, 0, x, j => by
    show (T.node x l r).get j = _
    cases j <;> simp [T.get_node_zero, T.get_node_succ]
  | .node v l r, i + 1, x, j => by
    have e : (T.node v l r).put (i + 1) x = if i % 2 = 1 then .node v l (r.put (i / 2) x) else .node v (l.put (i / 2) x) r := by
      show (Bool.rec (motive := fun _ => T α) (T.setK l (i / 2) x (.node v l r) fun l' => .node v l' r) (T.setK r (i / 2) x (.node v l r) fun r' => .node v l r') (Nat.beq (i % 2) 1)) = _
      rw [T.setK_eq, T.setK_eq]
      by_cases hi : i % 2 = 1
      · have hb : Nat.beq (i % 2) 1 = true := by rw [hi]; rfl
        rw [hb, if_pos hi]
      · have hb : Nat.beq (i % 2) 1 = false := by
          have : i % 2 = 0 := by omega
          rw [this]; rfl
        rw [hb, if_neg hi]
    rw [e]
    by_cases hi : i % 2 = 1
    · rw [if_pos hi]
      cases j with
      | zero => simp [T.get_node_zero]
      | succ j =>
        rw [T.get_node_succ, T.get_node_succ, T.get_put r]
        by_cases hj : j % 2 = 1
        · simp only [hj, if_true]
          by_cases he : j / 2 = i / 2
          · have : j = i := by omega
            simp [this]
          · have : ¬ (j = i) := fun e => he (by rw [e])
            simp [he, this]
        · have : ¬ (j = i) := fun e => hj (by rw [e]; exact hi)
          simp [hj, this]
    · rw [if_neg hi]
      cases j with
      | zero => simp [T.get_node_zero]
      | succ j =>
        rw [T.get_node_succ, T.get_node_succ, T.get_put l]
        by_cases hj : j % 2 = 1
        · have : ¬ (j = i) := fun e => hi (by rw [← e]; exact hj)
          simp [hj, this]
        · simp only [hj, if_false]
          by_cases he : j / 2 = i / 2
          · have : j = i := by omega
            simp [this]
          · have : ¬ (j = i) := fun e => he (by rw [e])
            simp [he, this]

theorem T.setK_ok {β : Type} {f : β} {P : β → Prop} (t : T α) (i : Nat) (x : Option α) (k : T α → β) (h : P (T.setK t i x f k)) :
    ∃ t', P (k t') ∧ ∀ j, t'.get j = if j = i then x else t.get j :=
  ⟨t.put i x, by rw [T.setK_eq] at h; exact h, T.get_put t i x⟩

theorem T.get_blank (d i : Nat) : (T.blank d : T α).get i = none := by
  induction d generalizing i with
  | zero => rfl
  | succ d ih =>
    show (T.node none (T.blank d) (T.blank d) : T α).get i = none
    cases i with
    | zero => rfl
    | succ i => rw [T.get_node_succ, ih]; simp
end tree

/-- the answer is 'ok r' -/
theorem bad_ne {c : Nat} {r : Rz} : ¬ (bad c = .ok r) := by simp [bad]

theorem setK_ok {α : Type} {t : T α} {i : Nat} {x : Option α} {k : T α → Out} {r : Rz} (h : T.setK t i x (bad 0) k = .ok r) :
    ∃ t', k t' = .ok r ∧ ∀ j, t'.get j = if j = i then x else t.get j :=
  T.setK_ok (P := fun o => o = .ok r) t i x k h

theorem om_ok {α : Type} {o : Option α} {k : α → Out} {r : Rz} (h : om o k = .ok r) : ∃ x, o = some x ∧ k x = .ok r := by
  cases o with
  | none => exact (bad_ne h).elim
  | some x => exact ⟨x, rfl, h⟩

theorem need_ok {b : Bool} {k : Out} {r : Rz} (h : need b k = .ok r) : b = true ∧ k = .ok r := by
  cases b with
  | false => exact (bad_ne h).elim
  | true => exact ⟨rfl, h⟩

theorem rec_ok {b : Bool} {x y : Out} {r : Rz} (h : (Bool.rec x y b : Out) = .ok r) : (b = true ∧ y = .ok r) ∨ (b = false ∧ x = .ok r) := by
  cases b <;> simp_all

theorem bytesK_eq {β : Type} (l : List UInt8) (k : List Nat → β) : bytesK l k = k (l.map UInt8.toNat) := by
  induction l generalizing k with
  | nil => rfl
  | cons a l ih => show bytesK l _ = _; rw [ih, fNat_eq]; rfl

theorem bytesOf_map (l : List UInt8) : bytesOf (l.map UInt8.toNat) = ⟨l.toArray⟩ := by
  simp [bytesOf, List.map_map, Function.comp_def]

theorem allB_map (l : List UInt8) : allB (l.map UInt8.toNat) = true := by
  simp only [allB, List.all_map, List.all_eq_true, Function.comp, decide_eq_true_eq]
  intro x _; exact x.toNat_lt

/-- a value that stands in the program's text -/
theorem cv_ok {v : Value} {k : V → Out} {r : Rz} (h : cv v k = .ok r) : ∃ c, (∀ β, conc β c = some v) ∧ k c = .ok r := by
  cases v with
  | int kk n => exact ⟨_, fun _ => rfl, by simpa [cv, fInt_eq] using h⟩
  | bool b => exact ⟨_, fun _ => rfl, h⟩
  | string b =>
    have h : bytesK b.data.toList (fun l => k (.str l)) = .ok r := h
    rw [bytesK_eq] at h
    refine ⟨_, fun β => ?_, h⟩
    simp [conc, allB_map, bytesOf_map]
  | agg cs => exact (bad_ne h).elim
  | tuple cs => exact (bad_ne h).elim
  | _ => exact ⟨_, fun _ => rfl, h⟩

end Go.Mir
