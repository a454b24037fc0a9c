/- The small machine against the model: maps read, structs built, and all the operations that make a value. No statement of the program stands here. -/
import Derived.Test.YtojkinikdcelbaaGreatDoorNMirQ
import Derived.Laws.BytesString
set_option linter.unusedSimpArgs false
set_option linter.unusedVariables false
set_option linter.defProp false
namespace Go.Mir
open Go Go.RowKit

/-- a nil, or no nil, of a kind -/
def NilR (c : Nat) (x : Value) : Prop :=
  match c with
  | 1 => x = .pointer none
  | 2 => ∃ a b, x = .slice none a b
  | 3 => x = .map none
  | 4 => x = .nilFunc
  | 5 => ∃ a, x = .pointer (some a)
  | 6 => ∃ a b c, x = .slice (some a) b c
  | 7 => ∃ a, x = .map (some a)
  | 8 => ∃ a b c, x = .func a b c
  | _ => True

theorem nilV_ok {β : Beta} {v : V} {x : Value} (h : conc β v = some x) : NilR (nilV v) x := by
  cases v with
  | ptr id off =>
    simp only [conc, Option.map_eq_some_iff] at h
    obtain ⟨b, _, rfl⟩ := h; exact ⟨_, rfl⟩
  | slice id off len ex k lo =>
    simp only [conc, Option.bind_eq_some_iff] at h
    obtain ⟨b, _, h⟩ := h
    split at h
    · cases h; exact ⟨_, _, _, rfl⟩
    · cases h
  | tail id off a esz k =>
    simp only [conc, Option.map_eq_some_iff] at h
    obtain ⟨b, _, rfl⟩ := h; exact ⟨_, _, _, rfl⟩
  | map id =>
    simp only [conc, Option.map_eq_some_iff] at h
    obtain ⟨b, _, rfl⟩ := h; exact ⟨_, rfl⟩
  | yield id =>
    simp only [conc, Option.map_eq_some_iff] at h
    obtain ⟨b, _, rfl⟩ := h; exact ⟨_, _, _, rfl⟩
  | func fn first cap =>
    simp only [conc, Option.bind_eq_some_iff, Option.map_eq_some_iff] at h
    obtain ⟨us, _, vs, _, rfl⟩ := h; exact ⟨_, _, _, rfl⟩
  | base w =>
    simp only [conc] at h
    split at h
    · cases h
      cases x with
      | pointer a => cases a with
        | none => exact (rfl : Value.pointer none = Value.pointer none)
        | some a => exact trivial
      | slice a b c => cases a with
        | none => exact ⟨b, c, rfl⟩
        | some a => exact ⟨a, b, c, rfl⟩
      | map a => cases a with
        | none => exact (rfl : Value.map none = Value.map none)
        | some a => exact trivial
      | nilFunc => exact (rfl : Value.nilFunc = Value.nilFunc)
      | _ => exact trivial
    · cases h
  | _ => exact trivial

section
variable {P : Program} {t : Nat} (w : World)
theorem eq_ptr1 (d e : Nat) (hu : P.underlying t = some (.pointer e)) (b : Option Addr) : (Op.equalIn (d + 1) t (.pointer none) (.pointer b)).run P w = .ok b.isNone w := by simp [Op.equalIn, run_underlying hu]
theorem eq_ptr2 (d e : Nat) (hu : P.underlying t = some (.pointer e)) (b : Addr) : (Op.equalIn (d + 1) t (.pointer (some b)) (.pointer none)).run P w = .ok false w := by simp [Op.equalIn, run_underlying hu]
theorem eq_sl1 (d e : Nat) (hu : P.underlying t = some (.slice e)) (a c a' c' : Nat) (b : Option Addr) : (Op.equalIn (d + 1) t (.slice none a c) (.slice b a' c')).run P w = .ok b.isNone w := by simp [Op.equalIn, run_underlying hu]
theorem eq_sl2 (d e : Nat) (hu : P.underlying t = some (.slice e)) (a c a' c' : Nat) (b : Addr) : (Op.equalIn (d + 1) t (.slice (some b) a c) (.slice none a' c')).run P w = .ok false w := by simp [Op.equalIn, run_underlying hu]
theorem eq_map1 (d e f : Nat) (hu : P.underlying t = some (.map e f)) (b : Option Nat) : (Op.equalIn (d + 1) t (.map none) (.map b)).run P w = .ok b.isNone w := by simp [Op.equalIn, run_underlying hu]
theorem eq_map2 (d e f : Nat) (hu : P.underlying t = some (.map e f)) (b : Nat) : (Op.equalIn (d + 1) t (.map (some b)) (.map none)).run P w = .ok false w := by simp [Op.equalIn, run_underlying hu]
theorem eq_fn0 (d : Nat) (a b c) (hu : P.underlying t = some (.func a b c)) : (Op.equalIn (d + 1) t .nilFunc .nilFunc).run P w = .ok true w := by simp [Op.equalIn, run_underlying hu]
theorem eq_fn1 (d : Nat) (a b c) (hu : P.underlying t = some (.func a b c)) (f g h) : (Op.equalIn (d + 1) t .nilFunc (.func f g h)).run P w = .ok false w := by simp [Op.equalIn, run_underlying hu]
theorem eq_fn2 (d : Nat) (a b c) (hu : P.underlying t = some (.func a b c)) (f g h) : (Op.equalIn (d + 1) t (.func f g h) .nilFunc).run P w = .ok false w := by simp [Op.equalIn, run_underlying hu]
end

theorem eqNil_ok {P : Program} {tys : T TI} (HT : TysR P tys) {t : Nat} {x y : V} {k : Bool → Out} {r : Rz} (h : eqNil tys t x y k = .ok r) :
    ∃ b, k b = .ok r ∧ ∀ β vx vy, conc β x = some vx → conc β y = some vy → ∀ w, (Op.equal t vx vy).run P w = .ok b w ∧
      (∀ op o1 o2, (eqGuard op t o1 o2 vx vy).run P w = .ok () w) := by
  obtain ⟨ti, hti, h⟩ := om_ok h
  have T := HT _ _ hti
  rw [fNat_eq, fNat_eq, fNat_eq] at h
  obtain ⟨hc, h⟩ := need_ok h
  have hc0 : nilKind ti.kind ≠ 0 := fun e => by rw [e] at hc; cases hc
  obtain ⟨b, hb, hcase⟩ : ∃ b, k b = .ok r ∧ ((b = true ∧ nilV x = nilKind ti.kind ∧ nilV y = nilKind ti.kind) ∨
      (b = false ∧ nilV x = nilKind ti.kind ∧ nilV y = nilKind ti.kind + 4) ∨ (b = false ∧ nilV x = nilKind ti.kind + 4 ∧ nilV y = nilKind ti.kind)) := by
    rcases rec_ok h with ⟨hb, h⟩ | ⟨_, h⟩
    · have := Bool.and_eq_true_iff.1 hb
      exact ⟨true, h, .inl ⟨rfl, Nat.eq_of_beq_eq_true this.1, Nat.eq_of_beq_eq_true this.2⟩⟩
    · rcases rec_ok h with ⟨hb, h⟩ | ⟨_, h⟩
      · obtain ⟨hb', h⟩ := need_ok h
        exact ⟨false, h, .inr (.inl ⟨rfl, Nat.eq_of_beq_eq_true hb, Nat.eq_of_beq_eq_true hb'⟩)⟩
      · obtain ⟨hb', h⟩ := need_ok h
        have := Bool.and_eq_true_iff.1 hb'
        exact ⟨false, h, .inr (.inr ⟨rfl, Nat.eq_of_beq_eq_true this.1, Nat.eq_of_beq_eq_true this.2⟩)⟩
  refine ⟨b, hb, fun β vx vy hx hy w => ?_⟩
  have nx := nilV_ok hx
  have ny := nilV_ok hy
  cases hk : ti.kind <;> rw [hk] at hcase hc0 <;> simp only [nilKind, ne_eq, not_true_eq_false] at hc0
  case ptr e =>
    have hu := T.ptr hk
    rcases hcase with ⟨rfl, h1, h2⟩ | ⟨rfl, h1, h2⟩ | ⟨rfl, h1, h2⟩ <;> rw [h1] at nx <;> rw [h2] at ny <;> simp only [nilKind, NilR] at nx ny
    · subst nx; subst ny
      exact ⟨eq_ptr1 w 9999 _ hu none, fun op o1 o2 => by cases op <;> simp [eqGuard]⟩
    · subst nx; obtain ⟨a, rfl⟩ := ny
      exact ⟨eq_ptr1 w 9999 _ hu (some _), fun op o1 o2 => by cases op <;> simp [eqGuard]⟩
    · subst ny; obtain ⟨a, rfl⟩ := nx
      exact ⟨eq_ptr2 w 9999 _ hu _, fun op o1 o2 => by cases op <;> simp [eqGuard]⟩
  case slice e =>
    have hu := T.slice hk
    rcases hcase with ⟨rfl, h1, h2⟩ | ⟨rfl, h1, h2⟩ | ⟨rfl, h1, h2⟩ <;> rw [h1] at nx <;> rw [h2] at ny <;> simp only [nilKind, NilR] at nx ny
    · obtain ⟨_, _, rfl⟩ := nx; obtain ⟨_, _, rfl⟩ := ny
      exact ⟨eq_sl1 w 9999 _ hu _ _ _ _ none, fun op o1 o2 => by cases op <;> simp [eqGuard]⟩
    · obtain ⟨_, _, rfl⟩ := nx; obtain ⟨_, _, _, rfl⟩ := ny
      exact ⟨eq_sl1 w 9999 _ hu _ _ _ _ (some _), fun op o1 o2 => by cases op <;> simp [eqGuard]⟩
    · obtain ⟨_, _, rfl⟩ := ny; obtain ⟨_, _, _, rfl⟩ := nx
      exact ⟨eq_sl2 w 9999 _ hu _ _ _ _ _, fun op o1 o2 => by cases op <;> simp [eqGuard]⟩
  case map a b =>
    have hu := T.map hk
    rcases hcase with ⟨rfl, h1, h2⟩ | ⟨rfl, h1, h2⟩ | ⟨rfl, h1, h2⟩ <;> rw [h1] at nx <;> rw [h2] at ny <;> simp only [nilKind, NilR] at nx ny
    · subst nx; subst ny
      exact ⟨eq_map1 w 9999 _ _ hu none, fun op o1 o2 => by cases op <;> simp [eqGuard]⟩
    · subst nx; obtain ⟨a, rfl⟩ := ny
      exact ⟨eq_map1 w 9999 _ _ hu (some _), fun op o1 o2 => by cases op <;> simp [eqGuard]⟩
    · subst ny; obtain ⟨a, rfl⟩ := nx
      exact ⟨eq_map2 w 9999 _ _ hu _, fun op o1 o2 => by cases op <;> simp [eqGuard]⟩
  case func =>
    obtain ⟨f1, f2, f3, hu⟩ := T.func hk
    rcases hcase with ⟨rfl, h1, h2⟩ | ⟨rfl, h1, h2⟩ | ⟨rfl, h1, h2⟩ <;> rw [h1] at nx <;> rw [h2] at ny <;> simp only [nilKind, NilR] at nx ny
    · subst nx; subst ny
      exact ⟨eq_fn0 w 9999 _ _ _ hu, fun op o1 o2 => by cases op <;> simp [eqGuard]⟩
    · subst nx; obtain ⟨_, _, _, rfl⟩ := ny
      exact ⟨eq_fn1 w 9999 _ _ _ hu _ _ _, fun op o1 o2 => by cases op <;> simp [eqGuard]⟩
    · subst ny; obtain ⟨_, _, _, rfl⟩ := nx
      exact ⟨eq_fn2 w 9999 _ _ _ hu _ _ _, fun op o1 o2 => by cases op <;> simp [eqGuard]⟩
  all_goals exact (hc0 trivial).elim

theorem eqV_ok {P : Program} {tys : T TI} (HT : TysR P tys) {t : Nat} {x y : V} {k : Bool → Out} {r : Rz} (h : eqV tys t x y k = .ok r) :
    ∃ b, k b = .ok r ∧ ∀ β vx vy, conc β x = some vx → conc β y = some vy → ∀ w, (Op.equal t vx vy).run P w = .ok b w ∧
      (∀ op o1 o2, (eqGuard op t o1 o2 vx vy).run P w = .ok () w) := by
  unfold eqV at h
  split at h
  · obtain ⟨ti, hti, h⟩ := om_ok h
    obtain ⟨b, h, he, _⟩ := eqT_ok HT 20 _ _ _ _ _ h
    refine ⟨b, h, fun β vx vy hx hy w => ⟨he t (HT _ _ hti) β vx vy hx hy 10000 w (by omega), fun op o1 o2 => ?_⟩⟩
    simp only [conc, Option.some.injEq] at hx; subst hx
    cases op <;> simp [eqGuard]
  · obtain ⟨ti, hti, h⟩ := om_ok h
    obtain ⟨ha, h⟩ := need_ok h
    have T := HT _ _ hti
    obtain ⟨b, h, he, _⟩ := eqT_ok HT 20 _ _ _ _ _ h
    refine ⟨b, h, fun β vx vy hx hy w => ⟨he t T β vx vy hx hy 10000 w (by omega), fun op o1 o2 => ?_⟩⟩
    obtain ⟨us, hu, rfl⟩ := conc_agg hx
    cases vy with
    | agg ys => exact run_eqGuard_agg w op t o1 o2 _ _ (T.guard ha).1
    | _ => cases op <;> simp [eqGuard]
  · exact eqNil_ok HT h

/-- what 'binOp' of the model does -/
def BinRun (P : Program) (op : BinOp) (t : Nat) (v : V) (x y : V) : Prop :=
  ∀ β vx vy, conc β x = some vx → conc β y = some vy → ∃ val, conc β v = some val ∧
    ∀ w o1 o2, (do eqGuard op t o1 o2 vx vy; Go.binOp op t vx vy : Sem Value).run P w = .ok val w

theorem guard_int (P : Program) (op : BinOp) (t : Nat) (o1 o2 : Operand) (kx ky : IntKind) (a b : Int) (w : World) : (eqGuard op t o1 o2 (.int kx a) (.int ky b)).run P w = .ok () w := by
  cases op <;> simp [eqGuard]

theorem guard_str (P : Program) (op : BinOp) (t : Nat) (o1 o2 : Operand) (a b : ByteArray) (w : World) : (eqGuard op t o1 o2 (.string a) (.string b)).run P w = .ok () w := by
  cases op <;> simp [eqGuard]

theorem guard_flo (P : Program) (op : BinOp) (t : Nat) (o1 o2 : Operand) (kx ky : FloatKind) (a b : Nat) (w : World) : (eqGuard op t o1 o2 (.float kx a) (.float ky b)).run P w = .ok () w := by
  cases op <;> simp [eqGuard]

theorem allB_app {a b : List Nat} (ha : allB a = true) (hb : allB b = true) : allB (a ++ b) = true := by
  simp only [allB, List.all_append, Bool.and_eq_true] at *
  exact ⟨ha, hb⟩

theorem bytesOf_size (l : List Nat) : (bytesOf l).size = l.length := by
  show (bytesOf l).data.size = _
  simp [bytesOf]

theorem bytesOf_app (a b : List Nat) : bytesOf a ++ bytesOf b = bytesOf (a ++ b) := by
  apply ByteArray.ext
  simp [bytesOf]

theorem allB_cons' {x : Nat} {a : List Nat} (h : allB (x :: a) = true) : x < 256 ∧ allB a = true := by
  simpa [allB] using h

theorem u8_lt {a b : Nat} (ha : a < 256) (hb : b < 256) : (UInt8.ofNat a < UInt8.ofNat b) ↔ a < b := by
  rw [UInt8.lt_iff_toNat_lt]
  simp [UInt8.toNat_ofNat', Nat.mod_eq_of_lt ha, Nat.mod_eq_of_lt hb]

theorem cmpL_cons (x y : Nat) (a b : List Nat) : cmpL (x :: a) (y :: b) = if x = y then cmpL a b else if x < y then -1 else 1 := by
  have hrec : cmpL (x :: a) (y :: b) = Bool.rec (motive := fun _ => Int) (Bool.rec (motive := fun _ => Int) (.ofNat 1) (.negSucc 0) (Nat.ble x y)) (cmpL a b) (Nat.beq x y) := rfl
  rw [hrec]
  cases hxy : Nat.beq x y with
  | true => rw [if_pos (Nat.eq_of_beq_eq_true hxy)]
  | false =>
    have hne : x ≠ y := fun e => by subst e; simp at hxy
    rw [if_neg hne]
    cases hle : Nat.ble x y with
    | true => rw [if_pos (by have := Nat.le_of_ble_eq_true hle; omega)]; rfl
    | false =>
      have : ¬ x ≤ y := fun h => by rw [Nat.ble_eq_true_of_le h] at hle; cases hle
      rw [if_neg (by omega)]; rfl

theorem cmpL_zero : ∀ (a b : List Nat), cmpL a b = 0 ↔ a = b
  | [], [] => by simp [show cmpL [] [] = 0 from rfl]
  | [], y :: b => by simp [show cmpL [] (y :: b) = -1 from rfl]
  | x :: a, [] => by simp [show cmpL (x :: a) [] = 1 from rfl]
  | x :: a, y :: b => by
    rw [cmpL_cons]
    split
    · rename_i h; subst h; rw [cmpL_zero a b]; simp
    · rename_i h
      split <;> simp [h]

theorem less_cmpL : ∀ (a b : List Nat), allB a = true → allB b = true → Op.bytesLess (a.map UInt8.ofNat) (b.map UInt8.ofNat) = decide (cmpL a b < 0)
  | [], [], _, _ => rfl
  | [], y :: b, _, _ => rfl
  | x :: a, [], _, _ => rfl
  | x :: a, y :: b, ha, hb => by
    obtain ⟨hx, ha⟩ := allB_cons' ha
    obtain ⟨hy, hb⟩ := allB_cons' hb
    rw [cmpL_cons]
    simp only [List.map_cons, Op.bytesLess, less_cmpL a b ha hb]
    by_cases hxy : x = y
    · subst hxy
      simp [UInt8.lt_irrefl]
    · have h1 : ¬ UInt8.ofNat x = UInt8.ofNat y := fun h => hxy (ofNat_inj hx hy h)
      rw [if_neg hxy]
      by_cases hlt : x < y
      · have := (u8_lt hx hy).2 hlt
        simp [hlt, this]
      · have : ¬ UInt8.ofNat x < UInt8.ofNat y := fun h => hlt ((u8_lt hx hy).1 h)
        simp [hlt, this, h1]

theorem strBin_ok {P : Program} {op : BinOp} {a b : List Nat} {k : V → Out} {r : Rz} (h : strBin op a b k = .ok r) (t : Nat) :
    ∃ v, k v = .ok r ∧ BinRun P op t v (.str a) (.str b) := by
  cases op with
  | eql =>
    replace h : kB k (eqL a b) = .ok r := h
    rw [kB_eq] at h
    refine ⟨_, h, fun β vx vy hx hy => ⟨_, rfl, fun w o1 o2 => ?_⟩⟩
    obtain ⟨ha, rfl⟩ := conc_str hx
    obtain ⟨hb, rfl⟩ := conc_str hy
    simp only [Sem.run_bind, guard_str, Result.andThen_ok, binOp_string_eql, beq_bytes ha hb, eqL_eq, Sem.run_pure]
  | neq =>
    replace h : kB k (not (eqL a b)) = .ok r := h
    rw [kB_eq] at h
    refine ⟨_, h, fun β vx vy hx hy => ⟨_, rfl, fun w o1 o2 => ?_⟩⟩
    obtain ⟨ha, rfl⟩ := conc_str hx
    obtain ⟨hb, rfl⟩ := conc_str hy
    simp only [Sem.run_bind, guard_str, Result.andThen_ok, binOp_string_neq, beq_bytes ha hb, eqL_eq, Sem.run_pure]
  | add =>
    replace h : fL (a ++ b) (fun l => need (Nat.ble (List.length l) most64) (k (.str l))) = .ok r := h
    rw [fL_eq] at h
    replace h := need_ok h
    obtain ⟨hl, h⟩ := h
    have hl := Nat.le_of_ble_eq_true hl
    refine ⟨_, h, fun β vx vy hx hy => ?_⟩
    obtain ⟨ha, rfl⟩ := conc_str hx
    obtain ⟨hb, rfl⟩ := conc_str hy
    refine ⟨.string (bytesOf (a ++ b)), by simp [conc, allB_app ha hb], fun w o1 o2 => ?_⟩
    have hm : ¬ (((bytesOf a).size + (bytesOf b).size : Nat) : Int) > IntKind.i64.max := by
      rw [bytesOf_size, bytesOf_size]
      simp only [List.length_append] at hl
      unfold most64 at hl
      have : IntKind.i64.max = 9223372036854775807 := by decide
      rw [this]; omega
    simp only [Sem.run_bind, guard_str, Result.andThen_ok, binOp_string_add, Op.stringOp, hm, if_false, Sem.run_pure, bytesOf_app]
  | lss =>
    replace h : kB k (ilt (cmpL a b) (.ofNat 0)) = .ok r := h
    rw [kB_eq] at h
    refine ⟨_, h, fun β vx vy hx hy => ⟨_, rfl, fun w o1 o2 => ?_⟩⟩
    obtain ⟨ha, rfl⟩ := conc_str hx
    obtain ⟨hb, rfl⟩ := conc_str hy
    simp only [Sem.run_bind, guard_str, Result.andThen_ok]
    rw [show Go.binOp .lss t (.string (bytesOf a)) (.string (bytesOf b)) = Op.stringOp .lss (bytesOf a) (bytesOf b) from rfl]
    simp only [Op.stringOp, bytesOf_toList, less_cmpL a b ha hb, Sem.run_pure, ilt_eq]
    rfl
  | gtr =>
    replace h : kB k (ilt (.ofNat 0) (cmpL a b)) = .ok r := h
    rw [kB_eq] at h
    refine ⟨_, h, fun β vx vy hx hy => ⟨_, rfl, fun w o1 o2 => ?_⟩⟩
    obtain ⟨ha, rfl⟩ := conc_str hx
    obtain ⟨hb, rfl⟩ := conc_str hy
    simp only [Sem.run_bind, guard_str, Result.andThen_ok]
    rw [show Go.binOp .gtr t (.string (bytesOf a)) (.string (bytesOf b)) = Op.stringOp .gtr (bytesOf a) (bytesOf b) from rfl]
    simp only [Op.stringOp, beq_bytes ha hb, Sem.run_pure, ilt_eq]
    simp only [bytesOf_toList, less_cmpL a b ha hb]
    have hz := cmpL_zero a b
    have : (!(decide (cmpL a b < 0) || a == b)) = decide (Int.ofNat 0 < cmpL a b) := by
      rw [Bool.eq_iff_iff]
      simp only [Bool.not_eq_true', Bool.or_eq_false_iff, decide_eq_false_iff_not, beq_eq_false_iff_ne, decide_eq_true_eq, Int.ofNat_eq_natCast, Int.natCast_zero]
      constructor
      · rintro ⟨h1, h2⟩
        have : cmpL a b ≠ 0 := fun h => h2 (hz.1 h)
        omega
      · intro h1
        exact ⟨by omega, fun h => by have := hz.2 h; omega⟩
    rw [this]
  | _ => exact (bad_ne h).elim

theorem floBin_ok {P : Program} {op : BinOp} {kx : FloatKind} {a : Nat} {y : V} {k : V → Out} {r : Rz} (h : floBin op kx a y k = .ok r) (t : Nat) :
    ∃ v, k v = .ok r ∧ BinRun P op t v (.base (.float kx a)) y := by
  unfold floBin at h
  split at h
  · rename_i ky b
    have ht : Go.binOp op t (.float kx a) (.float ky b) = Go.binOp op 0 (.float kx a) (.float ky b) := by cases op <;> rfl
    split at h
    · rename_i q hq
      rw [kB_eq] at h
      refine ⟨_, h, fun β vx vy hx hy => ⟨_, rfl, fun w o1 o2 => ?_⟩⟩
      simp only [conc, Value.oneCell', if_true, Option.some.injEq] at hx hy
      subst hx; subst hy
      simp only [Sem.run_bind, guard_flo, Result.andThen_ok, ht, hq]; rfl
    · rename_i kk z hq
      rw [fNat_eq] at h
      refine ⟨_, h, fun β vx vy hx hy => ⟨_, rfl, fun w o1 o2 => ?_⟩⟩
      simp only [conc, Value.oneCell', if_true, Option.some.injEq] at hx hy
      subst hx; subst hy
      simp only [Sem.run_bind, guard_flo, Result.andThen_ok, ht, hq]; rfl
    · exact (bad_ne h).elim
  · exact (bad_ne h).elim

/-- values that '==' takes by their type -/
def Plain : Value → Prop
  | .bool _ | .pointer _ | .slice .. | .map _ | .func .. | .nilFunc | .agg _ => True
  | _ => False

theorem eql_plain (t : Nat) {x : Value} (y : Value) (h : Plain x) : Go.binOp .eql t x y = (do pure (.bool (← Op.equal t x y)) : Sem Value) := by
  cases x <;> simp only [Plain] at h <;> cases y <;> rfl
theorem neq_plain (t : Nat) {x : Value} (y : Value) (h : Plain x) : Go.binOp .neq t x y = (do pure (.bool (!(← Op.equal t x y))) : Sem Value) := by
  cases x <;> simp only [Plain] at h <;> cases y <;> rfl

theorem plain_of {tys : T TI} {t : Nat} {x y : V} {k : Bool → Out} {r : Rz} (h : eqV tys t x y k = .ok r) {β : Beta} {vx : Value} (hx : conc β x = some vx) : Plain vx := by
  unfold eqV at h
  split at h
  · simp only [conc, Option.some.injEq] at hx; subst hx; trivial
  · obtain ⟨us, hu, rfl⟩ := conc_agg hx; trivial
  · obtain ⟨ti, hti, h⟩ := om_ok h
    rw [fNat_eq, fNat_eq, fNat_eq] at h
    obtain ⟨hc, h⟩ := need_ok h
    have hc0 : nilKind ti.kind ≠ 0 := fun e => by rw [e] at hc; cases hc
    have hn : nilV x ≠ 0 := by
      intro e
      rw [e] at h
      have h0 : Nat.beq 0 (nilKind ti.kind) = false := by
        cases hb : Nat.beq 0 (nilKind ti.kind) with
        | false => rfl
        | true => exact (hc0 (Nat.eq_of_beq_eq_true hb).symm).elim
      rw [h0] at h
      replace h : need (and (Nat.beq 0 (Nat.add (nilKind ti.kind) 4)) (Nat.beq (nilV y) (nilKind ti.kind))) (k false) = .ok r := h
      obtain ⟨hb, h⟩ := need_ok h
      have : 0 = nilKind ti.kind + 4 := Nat.eq_of_beq_eq_true (Bool.and_eq_true_iff.1 hb).1
      omega
    have := nilV_ok hx
    cases x with
    | ptr => obtain ⟨a, rfl⟩ := this; trivial
    | slice => obtain ⟨a, b, c, rfl⟩ := this; trivial
    | tail => obtain ⟨a, b, c, rfl⟩ := this; trivial
    | map => obtain ⟨a, rfl⟩ := this; trivial
    | func => obtain ⟨a, b, c, rfl⟩ := this; trivial
    | yield => obtain ⟨a, b, c, rfl⟩ := this; trivial
    | base v =>
      simp only [conc] at hx
      split at hx
      · cases hx
        cases vx with
        | pointer a => trivial
        | slice => trivial
        | map => trivial
        | nilFunc => trivial
        | func => trivial
        | bool => trivial
        | agg => trivial
        | _ => exact (hn rfl).elim
      · cases hx
    | _ => exact (hn rfl).elim

theorem binOther_ok {P : Program} {tys : T TI} (HT : TysR P tys) {op : BinOp} {t : Nat} {x y : V} {k : V → Out} {r : Rz} (h : binOther tys op t x y k = .ok r) :
    ∃ v, k v = .ok r ∧ BinRun P op t v x y := by
  unfold binOther at h
  split at h
  · have hp := @plain_of _ _ _ _ _ _ h
    obtain ⟨b, h, hb⟩ := eqV_ok HT h
    refine ⟨_, h, fun β vx vy hx hy => ⟨_, rfl, fun w o1 o2 => ?_⟩⟩
    obtain ⟨h1, h2⟩ := hb β vx vy hx hy w
    simp only [Sem.run_bind, h2, Result.andThen_ok, eql_plain t vy (hp hx), h1, Sem.run_pure]
  · have hp := @plain_of _ _ _ _ _ _ h
    obtain ⟨b, h, hb⟩ := eqV_ok HT h
    refine ⟨_, h, fun β vx vy hx hy => ⟨_, rfl, fun w o1 o2 => ?_⟩⟩
    obtain ⟨h1, h2⟩ := hb β vx vy hx hy w
    simp only [Sem.run_bind, h2, Result.andThen_ok, neq_plain t vy (hp hx), h1, Sem.run_pure]
  · exact (bad_ne h).elim

theorem binK_ok {P : Program} {tys : T TI} (HT : TysR P tys) {op : BinOp} {t : Nat} {x y : V} {k : V → Out} {r : Rz} (h : binK tys op t x y k = .ok r) :
    ∃ v, k v = .ok r ∧ BinRun P op t v x y := by
  unfold binK at h
  split at h
  · split at h
    · obtain ⟨v, h, hv⟩ := intBin_ok (P := P) h t
      refine ⟨v, h, fun β vx vy hx hy => ?_⟩
      simp only [conc, Option.some.injEq] at hx hy
      subst hx; subst hy
      obtain ⟨val, h1, h2⟩ := hv β
      exact ⟨val, h1, fun w o1 o2 => by simp only [Sem.run_bind, guard_int, Result.andThen_ok, h2]⟩
    · exact (bad_ne h).elim
  · split at h
    · exact strBin_ok h t
    · exact (bad_ne h).elim
  · exact floBin_ok h t
  · exact binOther_ok HT h

end Go.Mir
namespace Go.Mir
open Go Go.RowKit

def Agrees (β : Beta) (regs : T V) (ρ : Operand → Value) (op : Op) : Prop := ∀ x ∈ op.operands.toList, Agree β regs ρ x

/-- what 'v' is for a pure operation -/
def PureSpec (P : Program) (h : T O) (regs : T V) (op : Op) (v : V) : Prop :=
  ∀ W0 β n w ρ, HR W0 β h n w → Agrees β regs ρ op → ∃ val, conc β v = some val ∧ ∀ o : Oper, o.op = op → (execOp ρ o).run P w = .ok (.value val) w

theorem ixOf_ok {i : V} {k : Nat → Out} {r : Rz} (h : ixOf i k = .ok r) : ∃ kk m, i = .int kk (.ofNat m) ∧ k m = .ok r := by
  unfold ixOf at h
  split at h
  · exact ⟨_, _, rfl, h⟩
  · exact (bad_ne h).elim

theorem conc_ptr {β : Beta} {id off : Nat} {v : Value} (h : conc β (.ptr id off) = some v) : ∃ b, β id = some b ∧ v = .pointer (some ⟨b.blk, b.off + off, none⟩) := by
  simp only [conc, Option.map_eq_some_iff] at h
  obtain ⟨b, hb, rfl⟩ := h; exact ⟨b, hb, rfl⟩

theorem conc_slice {β : Beta} {id off len : Nat} {ex : Bool} {k lo : Nat} {v : Value} (h : conc β (.slice id off len ex k lo) = some v) :
    ∃ b, β id = some b ∧ lo ≤ capOf b ex k ∧ v = .slice (some ⟨b.blk, b.off + off, none⟩) len (capOf b ex k) := by
  simp only [conc, Option.bind_eq_some_iff] at h
  replace h := h; obtain ⟨b, hb, h⟩ := h
  split at h
  · cases h; exact ⟨b, hb, by assumption, rfl⟩
  · cases h

theorem conc_map {β : Beta} {id : Nat} {v : Value} (h : conc β (.map id) = some v) : ∃ b, β id = some b ∧ v = .map (some b.blk) := by
  simp only [conc, Option.map_eq_some_iff] at h
  obtain ⟨b, hb, rfl⟩ := h; exact ⟨b, hb, rfl⟩

theorem conc_tuple {β : Beta} {l : List V} {v : Value} (h : conc β (.tuple l) = some v) : ∃ vs, concL β l = some vs ∧ v = .tuple vs.toArray := by
  simp only [conc, Option.map_eq_some_iff] at h
  obtain ⟨vs, hv, rfl⟩ := h
  exact ⟨vs, hv, rfl⟩

theorem conc_base {β : Beta} {x v : Value} (h : conc β (.base x) = some v) : v = x := by
  simp only [conc] at h
  split at h
  · cases h; rfl
  · cases h

/-- an operation of one operand -/
theorem pure1 {P : Program} {h : T O} {regs : T V} {op : Op} {x : Operand} {k : V → Out} {r : Rz} {f : Value → Sem Value}
    (hop : x ∈ op.operands.toList) (hx : ∀ (ρ : Operand → Value) (o : Oper), o.op = op → ∀ w, (execOp ρ o).run P w = ((f (ρ x)).run P w).andThen fun v w => .ok (.value v) w)
    {K : V → Out} (e : ev regs x K = .ok r)
    (hK : ∀ a, K a = .ok r → ∃ v, k v = .ok r ∧ ∀ W0 β n w, HR W0 β h n w → ∀ va, conc β a = some va → ∃ val, conc β v = some val ∧ (f va).run P w = .ok val w) :
    ∃ v, k v = .ok r ∧ PureSpec P h regs op v := by
  obtain ⟨a, e, ha⟩ := ev_ok e
  obtain ⟨v, hv, hs⟩ := hK a e
  refine ⟨v, hv, fun W0 β n w ρ H A => ?_⟩
  obtain ⟨val, h1, h2⟩ := hs W0 β n w H (ρ x) (ha β ρ (A x hop))
  exact ⟨val, h1, fun o ho => by rw [hx ρ o ho w, h2]; rfl⟩

/-- an operation of two operands -/
theorem pure2 {P : Program} {h : T O} {regs : T V} {op : Op} {x y : Operand} {k : V → Out} {r : Rz} {f : Value → Value → Sem Value}
    (hop : x ∈ op.operands.toList) (hop2 : y ∈ op.operands.toList) (hx : ∀ (ρ : Operand → Value) (o : Oper), o.op = op → ∀ w, (execOp ρ o).run P w = ((f (ρ x) (ρ y)).run P w).andThen fun v w => .ok (.value v) w)
    {K : V → V → Out} (e : (ev regs x fun a => ev regs y fun b => K a b) = .ok r)
    (hK : ∀ a b, K a b = .ok r → ∃ v, k v = .ok r ∧ ∀ W0 β n w, HR W0 β h n w → ∀ va vb, conc β a = some va → conc β b = some vb → ∃ val, conc β v = some val ∧ (f va vb).run P w = .ok val w) :
    ∃ v, k v = .ok r ∧ PureSpec P h regs op v := by
  obtain ⟨a, e, ha⟩ := ev_ok e
  obtain ⟨b, e, hb⟩ := ev_ok e
  obtain ⟨v, hv, hs⟩ := hK a b e
  refine ⟨v, hv, fun W0 β n w ρ H A => ?_⟩
  obtain ⟨val, h1, h2⟩ := hs W0 β n w H (ρ x) (ρ y) (ha β ρ (A x hop)) (hb β ρ (A y hop2))
  exact ⟨val, h1, fun o ho => by rw [hx ρ o ho w, h2]; rfl⟩

section
variable {P : Program} {tys : T TI} (HT : TysR P tys) {k : V → Out} {r : Rz}

theorem unK_ok {op : UnOp} {a : V} (h : unK op k a = .ok r) : ∃ v, k v = .ok r ∧ ∀ β va, conc β a = some va → ∃ val, conc β v = some val ∧ ∀ w, (Op.unary op va).run P w = .ok val w := by
  unfold unK at h
  split at h
  · split at h
    · rw [kB_eq] at h
      refine ⟨_, h, fun β va ha => ⟨_, rfl, fun w => ?_⟩⟩
      simp only [conc, Option.some.injEq] at ha; subst ha; rfl
    · exact (bad_ne h).elim
  · replace h := genI_ok h; obtain ⟨kk, z, hs, h⟩ := h
    refine ⟨_, h, fun β va ha => ⟨_, rfl, fun w => ?_⟩⟩
    simp only [conc, Option.some.injEq] at ha; subst ha; rw [hs]; rfl
  · exact (bad_ne h).elim

theorem nilCheckK_ok {a : V} (h : nilCheckK k a = .ok r) : k a = .ok r ∧ ∀ β va, conc β a = some va → (∃ p, va = .pointer (some p)) ∨ (∃ f u v, va = .func (.func f) u v) ∨ (∃ f u v, va = .func (.yield f) u v) := by
  unfold nilCheckK at h
  split at h
  · refine ⟨h, fun β va ha => .inl ?_⟩
    obtain ⟨b, _, rfl⟩ := conc_ptr ha; exact ⟨_, rfl⟩
  · refine ⟨h, fun β va ha => .inr (.inl ?_)⟩
    simp only [conc, Option.bind_eq_some_iff, Option.map_eq_some_iff] at ha
    obtain ⟨us, _, vs, _, rfl⟩ := ha; exact ⟨_, _, _, rfl⟩
  · refine ⟨h, fun β va ha => .inr (.inr ?_)⟩
    simp only [conc, Option.map_eq_some_iff] at ha
    obtain ⟨b, _, rfl⟩ := ha; exact ⟨_, _, _, rfl⟩
  · exact (bad_ne h).elim

theorem extractK_ok {i : Nat} {a : V} (h : extractK i k a = .ok r) : ∃ v, k v = .ok r ∧ ∀ β va, conc β a = some va → ∃ val, conc β v = some val ∧ ∀ w, (Instr.extract va i).run P w = .ok val w := by
  unfold extractK at h
  split at h
  · replace h := om_ok h; obtain ⟨v, hv, h⟩ := h
    rw [nth_eq] at hv
    refine ⟨v, h, fun β va ha => ?_⟩
    obtain ⟨vs, hvs, rfl⟩ := conc_tuple ha
    obtain ⟨y, hy, hc⟩ := concL_get i hvs hv
    exact ⟨y, hc, fun w => by simp [Instr.extract, hy]⟩
  · exact (bad_ne h).elim

theorem structOf_ok {t f : Nat} {kk : Nat × Nat × Nat × Bool → Out} (h : structOf tys t f kk = .ok r) : ∃ ti fs p, tys.get t = some ti ∧ ti.kind = .struct fs ∧ fs[f]? = some p ∧ kk p = .ok r := by
  replace h := om_ok h; obtain ⟨ti, hti, h⟩ := h
  split at h
  · replace h := om_ok h; obtain ⟨p, hp, h⟩ := h
    rw [nth_eq] at hp
    exact ⟨ti, _, p, hti, by assumption, hp, h⟩
  · exact (bad_ne h).elim

include HT in
theorem field_of {t f : Nat} {ti : TI} {fs : List (Nat × Nat × Nat × Bool)} {p : Nat × Nat × Nat × Bool} (hti : tys.get t = some ti) (hk : ti.kind = .struct fs) (hp : fs[f]? = some p) :
    ∃ gs g, P.underlying t = some (.struct gs) ∧ gs[f]? = some g ∧ g.offset = p.1 ∧ g.type = p.2.1 ∧ P.cellsOf g.type = p.2.2.1 := by
  obtain ⟨gs, hgs, hm⟩ := (HT _ _ hti).struct hk
  rw [← hm, List.getElem?_map, Option.map_eq_some_iff] at hp
  obtain ⟨g, hg, rfl⟩ := hp
  exact ⟨gs, g, hgs, by simpa using hg, rfl, rfl, rfl⟩

include HT in
theorem fieldAddrK_ok {t f : Nat} {a : V} (h : fieldAddrK tys t f k a = .ok r) : ∃ v, k v = .ok r ∧ ∀ β va, conc β a = some va → ∃ val, conc β v = some val ∧ ∀ w, (Instr.fieldAt t va f).run P w = .ok val w := by
  unfold fieldAddrK at h
  split at h
  · rename_i id off
    replace h := structOf_ok h; obtain ⟨ti, fs, p, hti, hk, hp, h⟩ := h
    replace h := need_ok h; obtain ⟨hz, h⟩ := h
    rw [fNat_eq] at h
    obtain ⟨gs, g, hgs, hg, ho, ht, hc⟩ := field_of HT hti hk hp
    refine ⟨_, h, fun β va ha => ?_⟩
    obtain ⟨b, hb, rfl⟩ := conc_ptr ha
    refine ⟨.pointer (some ⟨b.blk, b.off + (off + p.1), none⟩), by simp [conc, hb], fun w => ?_⟩
    have hsz : (sizeOf g.type).run P w = .ok p.2.2.1 w := by
      have : p.2.2.1 ≠ 0 := fun e => by rw [e] at hz; cases hz
      cases hi : P.info? g.type with
      | none => simp [Program.cellsOf, hi] at hc; exact (this hc.symm).elim
      | some i => rw [run_sizeOf w hi, hc]
    have h0 : p.2.2.1 ≠ 0 := fun e => by rw [e] at hz; cases hz
    simp only [Instr.fieldAt, Sem.run_bind, run_underlying hgs, Result.andThen_ok, hg, Instr.sureAddr, Sem.run_pure, fieldPlace, hsz, h0, if_false, Sem.run_ite, add_none, ho, Nat.add_assoc]
  · exact (bad_ne h).elim

include HT in
theorem fieldK_ok {t f : Nat} {a : V} (h : fieldK tys t f k a = .ok r) : ∃ v, k v = .ok r ∧ ∀ β va, conc β a = some va → ∃ val, conc β v = some val ∧ ∀ w, (Instr.field t va f).run P w = .ok val w := by
  unfold fieldK at h
  split at h
  · replace h := structOf_ok h; obtain ⟨ti, fs, p, hti, hk, hp, h⟩ := h
    replace h := om_ok h; obtain ⟨te, hte, h⟩ := h
    obtain ⟨v, h, hv⟩ := partV_ok h
    obtain ⟨gs, g, hgs, hg, ho, ht, hc⟩ := field_of HT hti hk hp
    refine ⟨v, h, fun β va ha => ?_⟩
    obtain ⟨us, hu, rfl⟩ := conc_agg ha
    obtain ⟨val, h1, h2⟩ := hv P _ (HT _ _ hte) β us hu
    refine ⟨val, h1, fun w => ?_⟩
    simp only [Instr.field, Sem.run_bind, run_underlying hgs, Result.andThen_ok, hg, asAgg, Sem.run_pure, ht, ho, h2]
  · exact (bad_ne h).elim

theorem ixAddr_ok {e id off len i : Nat} (h : ixAddr tys e id off len i k = .ok r) : ∃ te, tys.get e = some te ∧ i < len ∧ k (.ptr id (off + i * te.size)) = .ok r := by
  replace h := om_ok h; obtain ⟨te, hte, h⟩ := h
  replace h := need_ok h; obtain ⟨hl, h⟩ := h
  rw [fNat_eq] at h
  exact ⟨te, hte, Nat.le_of_ble_eq_true hl, h⟩

include HT in
theorem indexAddrK_ok {t : Nat} {a i : V} (h : indexAddrK tys t a i k = .ok r) : ∃ v, k v = .ok r ∧ ∀ β va vi, conc β a = some va → conc β i = some vi → ∃ val, conc β v = some val ∧ ∀ w, (Instr.indexAt t va vi).run P w = .ok val w := by
  replace h := ixOf_ok h; obtain ⟨kk, m, rfl, h⟩ := h
  replace h := om_ok h; obtain ⟨ti, hti, h⟩ := h
  have T := HT _ _ hti
  split at h
  · rename_i len e hk
    split at h
    · rename_i id off
      replace h := ixAddr_ok h; obtain ⟨te, hte, hm, h⟩ := h
      refine ⟨_, h, fun β va vi ha hi => ?_⟩
      obtain ⟨b, hb, rfl⟩ := conc_ptr ha
      simp only [conc, Option.some.injEq] at hi; subst hi
      refine ⟨.pointer (some ⟨b.blk, b.off + (off + m * te.size), none⟩), by simp [conc, hb], fun w => ?_⟩
      have hc : (0 : Int) ≤ (m : Int) ∧ (m : Int) < (len : Int) := ⟨by omega, by omega⟩
      simp only [Instr.indexAt, asIntOf, Sem.run_bind, Sem.run_pure, Result.andThen_ok, run_underlying (T.array hk), Instr.sureAddr, Sem.run_ite, hc, and_self, if_true, (HT _ _ hte).sizeOf, add_none, Int.toNat_natCast, Nat.add_assoc, Int.ofNat_eq_natCast]
    · exact (bad_ne h).elim
  · rename_i e hk
    split at h
    · rename_i id off len ex k1 lo
      replace h := ixAddr_ok h; obtain ⟨te, hte, hm, h⟩ := h
      refine ⟨_, h, fun β va vi ha hi => ?_⟩
      obtain ⟨b, hb, hlo, rfl⟩ := conc_slice ha
      simp only [conc, Option.some.injEq] at hi; subst hi
      refine ⟨.pointer (some ⟨b.blk, b.off + (off + m * te.size), none⟩), by simp [conc, hb], fun w => ?_⟩
      have hc : (0 : Int) ≤ (m : Int) ∧ (m : Int) < (len : Int) := ⟨by omega, by omega⟩
      simp only [Instr.indexAt, asIntOf, Sem.run_bind, Sem.run_pure, Result.andThen_ok, run_underlying (T.slice hk), Instr.sureAddr, Sem.run_ite, hc, and_self, if_true, (HT _ _ hte).sizeOf, add_none, Int.toNat_natCast, Nat.add_assoc, Int.ofNat_eq_natCast]
    · exact (bad_ne h).elim
  · exact (bad_ne h).elim

theorem getElem?_map_ofNat (l : List Nat) (i : Nat) : (bytesOf l)[i]? = (l[i]?).map UInt8.ofNat := by
  by_cases h : i < l.length
  · rw [ByteArray.getElem?_lt' _ _ (by rw [bytesOf_size]; exact h), List.getElem?_eq_getElem h]
    show some ((bytesOf l).data[i]'_) = _
    simp [bytesOf]
  · rw [ByteArray.getElem?_ge' _ _ (by rw [bytesOf_size]; exact h), List.getElem?_eq_none (by omega)]; rfl

include HT in
theorem indexK_ok {t : Nat} {a i : V} (h : indexK tys t a i k = .ok r) : ∃ v, k v = .ok r ∧ ∀ β va vi, conc β a = some va → conc β i = some vi → ∃ val, conc β v = some val ∧ ∀ w, (Instr.index t va vi).run P w = .ok val w := by
  replace h := ixOf_ok h; obtain ⟨kk, m, rfl, h⟩ := h
  replace h := om_ok h; obtain ⟨ti, hti, h⟩ := h
  have T := HT _ _ hti
  split at h
  · rename_i len e hk
    replace h := aggOf_ok h
    replace h := h; obtain ⟨cs, rfl, h⟩ := h
    replace h := om_ok h; obtain ⟨te, hte, h⟩ := h
    replace h := need_ok h; obtain ⟨hm, h⟩ := h
    have hm : m < len := Nat.le_of_ble_eq_true hm
    obtain ⟨v, h, hv⟩ := partV_ok h
    refine ⟨v, h, fun β va vi ha hi => ?_⟩
    obtain ⟨us, hu, rfl⟩ := conc_agg ha
    simp only [conc, Option.some.injEq] at hi; subst hi
    obtain ⟨val, h1, h2⟩ := hv P _ (HT _ _ hte) β us hu
    refine ⟨val, h1, fun w => ?_⟩
    have hc : (0 : Int) ≤ (m : Int) ∧ (m : Int) < (len : Int) := ⟨by simp, by omega⟩
    simp only [Instr.index, asIntOf, Sem.run_bind, Sem.run_pure, Result.andThen_ok, run_underlying (T.array hk), Sem.run_ite, Int.ofNat_eq_natCast, hc, and_self, if_true, (HT _ _ hte).sizeOf, Int.toNat_natCast]
    exact h2 w
  · rename_i hk
    split at h
    · rename_i l
      replace h := om_ok h; obtain ⟨x, hx, h⟩ := h
      rw [nth_eq] at hx
      refine ⟨_, h, fun β va vi ha hi => ⟨_, rfl, fun w => ?_⟩⟩
      obtain ⟨hl, rfl⟩ := conc_str ha
      simp only [conc, Option.some.injEq] at hi; subst hi
      have hx256 : x < 256 := by
        have := List.mem_of_getElem? hx
        simp only [allB, List.all_eq_true, decide_eq_true_eq] at hl
        exact hl x this
      have hg : (if (0 : Int) ≤ (m : Int) then (bytesOf l)[(m : Int).toNat]? else none) = some (UInt8.ofNat x) := by
        rw [if_pos (by omega), Int.toNat_natCast, getElem?_map_ofNat, hx]; rfl
      simp only [Instr.index, asIntOf, Sem.run_bind, Sem.run_pure, Result.andThen_ok, run_underlying (T.string hk), Int.ofNat_eq_natCast, hg]
      simp [Nat.mod_eq_of_lt hx256]
    · exact (bad_ne h).elim
  · exact (bad_ne h).elim

end

end Go.Mir
namespace Go.Mir
open Go Go.RowKit

theorem boundN_ok {x : Option V} {d : Nat} {k : Nat → Out} {r : Rz} (h : boundN x d k = .ok r) :
    ∃ n, k n = .ok r ∧ ((x = none ∧ n = d) ∨ ∃ kk, x = some (.int kk (.ofNat n))) := by
  unfold boundN at h
  split at h
  · exact ⟨d, h, .inl ⟨rfl, rfl⟩⟩
  · exact ⟨_, h, .inr ⟨_, rfl⟩⟩
  · exact (bad_ne h).elim

def concO (β : Beta) (x : Option V) (y : Option Value) : Prop :=
  match x, y with
  | none, none => True
  | some x, some y => conc β x = some y
  | _, _ => False

section
variable {P : Program} {w : World}

theorem run_bound (kk : IntKind) (n y : Nat) (c : BoundsCode) (h : n ≤ y) : (Instr.sliceBound (.int kk (.ofNat n)) y c).run P w = .ok n w := by
  have hc : (0 : Int) ≤ (n : Int) ∧ (n : Int) ≤ (y : Int) := ⟨by omega, by omega⟩
  simp only [Instr.sliceBound, asIntOf, Sem.run_bind, Sem.run_pure, Result.andThen_ok, Sem.run_ite, Int.ofNat_eq_natCast, hc, and_self, if_true, Int.toNat_natCast]

/-- the three bounds of a slice, where they are in order -/
theorem run_bounds {β : Beta} {lo hi mx : Option V} {lo' hi' mx' : Option Value} (hlo : concO β lo lo') (hhi : concO β hi hi') (hmx : concO β mx mx')
    {isS : Bool} {len cap a b m : Nat} (ha : (lo = none ∧ a = 0) ∨ ∃ kk, lo = some (.int kk (.ofNat a))) (hb : (hi = none ∧ b = len) ∨ ∃ kk, hi = some (.int kk (.ofNat b)))
    (hm : (mx = none ∧ m = cap) ∨ ∃ kk, mx = some (.int kk (.ofNat m))) (hms : mx ≠ none → hi ≠ none) (h1 : a ≤ b) (h2 : b ≤ m) (h3 : m ≤ cap) :
    (Instr.sliceBounds isS len cap lo' hi' mx').run P w = .ok (a, b, m) w := by
  have el : (lo' = none ∧ a = 0) ∨ ∃ kk, lo' = some (.int kk (.ofNat a)) := by
    rcases ha with ⟨rfl, rfl⟩ | ⟨kk, rfl⟩
    · cases lo' with
      | none => exact .inl ⟨rfl, rfl⟩
      | some => exact hlo.elim
    · cases lo' with
      | none => exact hlo.elim
      | some y => simp only [concO, conc, Option.some.injEq] at hlo; exact .inr ⟨kk, by rw [hlo]⟩
  have eh : (hi' = none ∧ b = len) ∨ ∃ kk, hi' = some (.int kk (.ofNat b)) := by
    rcases hb with ⟨rfl, rfl⟩ | ⟨kk, rfl⟩
    · cases hi' with
      | none => exact .inl ⟨rfl, rfl⟩
      | some => exact hhi.elim
    · cases hi' with
      | none => exact hhi.elim
      | some y => simp only [concO, conc, Option.some.injEq] at hhi; exact .inr ⟨kk, by rw [hhi]⟩
  have em : (mx' = none ∧ m = cap) ∨ ∃ kk, mx' = some (.int kk (.ofNat m)) := by
    rcases hm with ⟨rfl, rfl⟩ | ⟨kk, rfl⟩
    · cases mx' with
      | none => exact .inl ⟨rfl, rfl⟩
      | some => exact hmx.elim
    · cases mx' with
      | none => exact hmx.elim
      | some y => simp only [concO, conc, Option.some.injEq] at hmx; exact .inr ⟨kk, by rw [hmx]⟩
  have hmh : mx' ≠ none → hi' ≠ none := by
    intro e1 e2
    subst e2
    have : hi = none := by
      cases hi with
      | none => rfl
      | some => exact hhi.elim
    have : mx ≠ none := by
      intro e; subst e
      cases mx' with
      | none => exact e1 rfl
      | some => exact hmx.elim
    exact hms this (by assumption)
  rcases em with ⟨rfl, rfl⟩ | ⟨km, rfl⟩ <;> rcases eh with ⟨rfl, rfl⟩ | ⟨kh, rfl⟩ <;> rcases el with ⟨rfl, rfl⟩ | ⟨kl, rfl⟩ <;>
    first
      | (simp only [Instr.sliceBounds, Sem.run_bind, Sem.run_pure, Result.andThen_ok, run_bound _ _ _ _ h1, run_bound _ _ _ _ h2, run_bound _ _ _ _ h3]; done)
      | (exact absurd rfl (hmh (by simp)))

end

section
variable {P : Program} {tys : T TI} (HT : TysR P tys) {k : V → Out} {r : Rz}

theorem allB_sub {l : List Nat} (h : allB l = true) (a b : Nat) : allB ((l.drop a).take b) = true := by
  simp only [allB, List.all_eq_true, decide_eq_true_eq] at *
  intro x hx
  exact h x (List.mem_of_mem_drop (List.mem_of_mem_take hx))

theorem bytesOf_extract (l : List Nat) (a b : Nat) : (bytesOf l).extract a b = bytesOf ((l.drop a).take (b - a)) := by
  apply ByteArray.ext
  apply Array.ext'
  simp [bytesOf, List.extract_eq_take_drop, List.map_take, List.map_drop]

theorem concO_none {β : Beta} {x : Option Value} (h : concO β none x) : x = none := by
  cases x with
  | none => rfl
  | some => exact h.elim

theorem sliceStr_ok {x : V} {lo hi mx : Option V} (h : sliceStr x lo hi mx k = .ok r) :
    ∃ v, k v = .ok r ∧ ∀ β vx lo' hi' mx', conc β x = some vx → concO β lo lo' → concO β hi hi' → concO β mx mx' →
      ∃ val, conc β v = some val ∧ ∀ t, P.underlying t = some .string → ∀ w, (Instr.sliceAt t vx lo' hi' mx').run P w = .ok val w := by
  unfold sliceStr at h
  cases x <;> try exact (bad_ne h).elim
  rename_i l
  cases mx <;> try exact (bad_ne h).elim
  replace h := boundN_ok h; obtain ⟨a, h, ha⟩ := h
  rw [fNat_eq] at h
  replace h := boundN_ok h; obtain ⟨b, h, hb⟩ := h
  replace h := need_ok h; obtain ⟨hc, h⟩ := h
  rw [fL_eq] at h
  replace h : k (.str ((l.drop a).take (b - a))) = .ok r := h
  have hc := Bool.and_eq_true_iff.1 hc
  have h1 : a ≤ b := Nat.le_of_ble_eq_true hc.1
  have h2 : b ≤ l.length := Nat.le_of_ble_eq_true hc.2
  refine ⟨_, h, fun β vx lo' hi' mx' hx hlo hhi hmx => ?_⟩
  obtain ⟨hl, rfl⟩ := conc_str hx
  obtain rfl := concO_none hmx
  refine ⟨.string (bytesOf ((l.drop a).take (b - a))), ?_, fun t hu w => ?_⟩
  · have := allB_sub hl a (b - a)
    simp only [conc]
    rw [if_pos this]
  · have hb' : (hi = none ∧ b = (bytesOf l).size) ∨ ∃ kk, hi = some (.int kk (.ofNat b)) := by rw [bytesOf_size]; exact hb
    have := run_bounds (P := P) (w := w) (isS := false) (len := (bytesOf l).size) (cap := (bytesOf l).size) (m := (bytesOf l).size) hlo hhi (show concO β none none from trivial) ha hb' (.inl ⟨rfl, rfl⟩) (by simp) h1 (by rw [bytesOf_size]; exact h2) (Nat.le_refl _)
    simp [Instr.sliceAt, run_underlying hu, Instr.slice, this, bytesOf_extract]

theorem offTo_eq (m a off esz : Nat) : offTo m a off esz = if m = a then off else off + a * esz := by
  unfold offTo
  by_cases e : m = a
  · have : Nat.beq m a = true := by rw [e]; simp
    rw [this, if_pos e]
  · have : Nat.beq m a = false := by
      cases hb : Nat.beq m a with
      | false => rfl
      | true => exact (e (Nat.eq_of_beq_eq_true hb)).elim
    rw [this, if_neg e]; rfl

include HT in
theorem sliceSl_ok {e : Nat} {x : V} {lo hi mx : Option V} (hms : mx ≠ none → hi ≠ none) (h : sliceSl tys e x lo hi mx k = .ok r) :
    ∃ v, k v = .ok r ∧ ∀ β vx lo' hi' mx', conc β x = some vx → concO β lo lo' → concO β hi hi' → concO β mx mx' →
      ∃ val, conc β v = some val ∧ ∀ t, P.underlying t = some (.slice e) → ∀ w, (Instr.sliceAt t vx lo' hi' mx').run P w = .ok val w := by
  unfold sliceSl at h
  cases x <;> try exact (bad_ne h).elim
  case slice id off len ex kk low =>
    replace h := om_ok h; obtain ⟨te, hte, h⟩ := h
    replace h := boundN_ok h; obtain ⟨a, h, ha⟩ := h
    replace h := boundN_ok h; obtain ⟨b, h, hb⟩ := h
    cases mx with
    | none =>
      replace h := need_ok h; obtain ⟨hc, h⟩ := h
      have hc := Bool.and_eq_true_iff.1 hc
      have h1 : a ≤ b := Nat.le_of_ble_eq_true hc.1
      have h2 : b ≤ low := Nat.le_of_ble_eq_true hc.2
      unfold sliceSl2 at h
      rw [fNat_eq, fNat_eq] at h
      have hv : ∃ v, k v = .ok r ∧ ∀ β bb, β id = some bb → low ≤ capOf bb ex kk → conc β v = some (.slice (some ⟨bb.blk, bb.off + (if capOf bb ex kk = a then off else off + a * te.size), none⟩) (b - a) (capOf bb ex kk - a)) := by
        cases ex with
        | true =>
          replace h : fNat (offTo kk a off te.size) (fun off => fNat (Nat.sub kk a) (fun kk => k (.slice id off (b - a) true kk (low - a)))) = .ok r := h
          rw [fNat_eq, fNat_eq] at h
          refine ⟨_, h, fun β bb hbb hle => ?_⟩
          simp only [capOf, if_true] at hle ⊢
          simp only [conc, hbb, Option.bind_some, capOf, if_true, offTo_eq]
          rw [if_pos (show low - a ≤ Nat.sub kk a from Nat.sub_le_sub_right hle a)]
          rfl
        | false =>
          replace h : (Bool.rec (need (Nat.beq b a) (k (.tail id off a te.size kk))) (fNat (Nat.add off (Nat.mul a te.size)) fun off => fNat (Nat.add kk a) fun kk => k (.slice id off (b - a) false kk (low - a))) (or (Nat.beq a 0) (Nat.ble (Nat.succ a) low)) : Out) = .ok r := h
          rcases rec_ok h with ⟨hq, h⟩ | ⟨hq, h⟩
          · rw [fNat_eq, fNat_eq] at h
            refine ⟨_, h, fun β bb hbb hle => ?_⟩
            simp only [capOf, Bool.false_eq_true, if_false] at hle ⊢
            simp only [conc, hbb, Option.bind_some, capOf, Bool.false_eq_true, if_false]
            have e1 : bb.room - Nat.add kk a = bb.room - kk - a := by show bb.room - (kk + a) = _; omega
            rw [e1, if_pos (by omega)]
            rcases Bool.or_eq_true_iff.1 hq with hq | hq
            · have : a = 0 := Nat.eq_of_beq_eq_true hq
              subst this
              have e2 : Nat.add off (Nat.mul 0 te.size) = off := by show off + 0 * te.size = off; simp
              rw [e2]
              split <;> simp
            · have : a < low := Nat.le_of_ble_eq_true hq
              rw [if_neg (show ¬ bb.room - kk = a by omega)]; rfl
          · replace h := need_ok h; obtain ⟨hb0, h⟩ := h
            have : b = a := Nat.eq_of_beq_eq_true hb0
            subst this
            refine ⟨_, h, fun β bb hbb hle => ?_⟩
            simp only [capOf, Bool.false_eq_true, if_false] at hle ⊢
            simp [conc, hbb]
      obtain ⟨v, h, hcap⟩ := hv
      refine ⟨_, h, fun β vx lo' hi' mx' hx hlo hhi hmx => ?_⟩
      obtain ⟨bb, hbb, hle, rfl⟩ := conc_slice hx
      obtain rfl := concO_none hmx
      refine ⟨_, hcap β bb hbb hle, fun t hu w => ?_⟩
      · have := run_bounds (P := P) (w := w) (isS := true) (len := len) (cap := capOf bb ex kk) (m := capOf bb ex kk) hlo hhi (show concO β none none from trivial) ha hb (.inl ⟨rfl, rfl⟩) (by simp) h1 (by omega) (Nat.le_refl _)
        simp only [Instr.sliceAt, Sem.run_bind, run_underlying hu, Result.andThen_ok, Instr.slice, this, (HT _ _ hte).sizeOf, Sem.run_pure]
        congr 2
        split
        · rfl
        · simp [add_none, Nat.add_assoc]
    | some mx =>
      replace h := boundN_ok h; obtain ⟨m, h, hm⟩ := h
      replace h := need_ok h; obtain ⟨hc, h⟩ := h
      have hc := Bool.and_eq_true_iff.1 hc
      have hc2 := Bool.and_eq_true_iff.1 hc.2
      have h1 : a ≤ b := Nat.le_of_ble_eq_true hc.1
      have h2 : b ≤ m := Nat.le_of_ble_eq_true hc2.1
      have h3 : m ≤ low := Nat.le_of_ble_eq_true hc2.2
      unfold sliceSl3 at h
      rw [fNat_eq, fNat_eq, fNat_eq] at h
      have hm' : (some mx = none ∧ m = 0) ∨ ∃ kk, some mx = some (.int kk (.ofNat m)) := hm
      refine ⟨_, h, fun β vx lo' hi' mx' hx hlo hhi hmx => ?_⟩
      obtain ⟨bb, hbb, hle, rfl⟩ := conc_slice hx
      refine ⟨.slice (some ⟨bb.blk, bb.off + offTo m a off te.size, none⟩) (b - a) (m - a), ?_, fun t hu w => ?_⟩
      · simp only [conc, hbb, Option.bind_some, capOf, if_true]
        simp
      · have := run_bounds (P := P) (w := w) (isS := true) (len := len) (cap := capOf bb ex kk) (m := m) hlo hhi hmx ha hb (by
          rcases hm' with ⟨e, _⟩ | e
          · cases e
          · exact .inr e) hms h1 h2 (by omega)
        simp only [Instr.sliceAt, Sem.run_bind, run_underlying hu, Result.andThen_ok, Instr.slice, this, (HT _ _ hte).sizeOf, Sem.run_pure]
        congr 2
        rw [offTo_eq]
        split
        · rfl
        · simp [add_none, Nat.add_assoc]
  case base v =>
    cases v <;> try exact (bad_ne h).elim
    rename_i ad z1 z2
    cases ad <;> try exact (bad_ne h).elim
    replace h := om_ok h; obtain ⟨te, hte, h⟩ := h
    replace h := boundN_ok h; obtain ⟨a, h, ha⟩ := h
    replace h := boundN_ok h; obtain ⟨b, h, hb⟩ := h
    replace h := boundN_ok h; obtain ⟨m, h, hm⟩ := h
    replace h := need_ok h; obtain ⟨hc, h⟩ := h
    simp only [Bool.and_eq_true, Nat.beq_eq] at hc
    obtain ⟨rfl, rfl, rfl, rfl, rfl⟩ := hc
    refine ⟨_, h, fun β vx lo' hi' mx' hx hlo hhi hmx => ?_⟩
    have hx0 := hx
    obtain rfl := conc_base hx
    refine ⟨_, hx0, fun t hu w => ?_⟩
    have := run_bounds (P := P) (w := w) (isS := true) (len := 0) (cap := 0) (m := 0) hlo hhi hmx ha hb hm hms (Nat.le_refl 0) (Nat.le_refl 0) (Nat.le_refl 0)
    simp [Instr.sliceAt, run_underlying hu, Instr.slice, this, (HT _ _ hte).sizeOf]

include HT in
theorem sliceAr_ok {m0 e : Nat} {x : V} {lo hi mx : Option V} (h : sliceAr tys m0 e x lo hi mx k = .ok r) :
    ∃ v, k v = .ok r ∧ ∀ β vx lo' hi' mx', conc β x = some vx → concO β lo lo' → concO β hi hi' → concO β mx mx' →
      ∃ val, conc β v = some val ∧ ∀ t, P.underlying t = some (.array m0 e) → ∀ w, (Instr.sliceAt t vx lo' hi' mx').run P w = .ok val w := by
  unfold sliceAr at h
  cases x <;> try exact (bad_ne h).elim
  rename_i id off
  cases mx <;> try exact (bad_ne h).elim
  replace h := om_ok h; obtain ⟨te, hte, h⟩ := h
  replace h := boundN_ok h; obtain ⟨a, h, ha⟩ := h
  replace h := boundN_ok h; obtain ⟨b, h, hb⟩ := h
  replace h := need_ok h; obtain ⟨hc, h⟩ := h
  have hc := Bool.and_eq_true_iff.1 hc
  have h1 : a ≤ b := Nat.le_of_ble_eq_true hc.1
  have h2 : b ≤ m0 := Nat.le_of_ble_eq_true hc.2
  unfold sliceSl3 at h
  rw [fNat_eq, fNat_eq, fNat_eq] at h
  refine ⟨_, h, fun β vx lo' hi' mx' hx hlo hhi hmx => ?_⟩
  obtain ⟨bb, hbb, rfl⟩ := conc_ptr hx
  obtain rfl := concO_none hmx
  refine ⟨.slice (some ⟨bb.blk, bb.off + offTo m0 a off te.size, none⟩) (b - a) (m0 - a), ?_, fun t hu w => ?_⟩
  · simp only [conc, hbb, Option.bind_some, capOf, if_true]
    simp
  · have := run_bounds (P := P) (w := w) (isS := false) (len := m0) (cap := m0) (m := m0) hlo hhi (show concO β none none from trivial) ha hb (.inl ⟨rfl, rfl⟩) (by simp) h1 h2 (Nat.le_refl _)
    simp only [Instr.sliceAt, Sem.run_bind, run_underlying hu, Result.andThen_ok, Instr.sureAddr, this, (HT _ _ hte).sizeOf, Sem.run_pure]
    congr 2
    rw [offTo_eq]
    split
    · rfl
    · simp [add_none, Nat.add_assoc]

include HT in
theorem sliceK_ok {t : Nat} {x : V} {lo hi mx : Option V} (hms : mx ≠ none → hi ≠ none) (h : sliceK tys t x lo hi mx k = .ok r) :
    ∃ v, k v = .ok r ∧ ∀ β vx lo' hi' mx', conc β x = some vx → concO β lo lo' → concO β hi hi' → concO β mx mx' →
      ∃ val, conc β v = some val ∧ ∀ w, (Instr.sliceAt t vx lo' hi' mx').run P w = .ok val w := by
  replace h := om_ok h; obtain ⟨ti, hti, h⟩ := h
  have T := HT _ _ hti
  split at h
  · rename_i hk
    obtain ⟨v, h, hv⟩ := sliceStr_ok (P := P) h
    exact ⟨v, h, fun β vx lo' hi' mx' a b c d => let ⟨val, e, f⟩ := hv β vx lo' hi' mx' a b c d; ⟨val, e, f t (T.string hk)⟩⟩
  · rename_i e hk
    obtain ⟨v, h, hv⟩ := sliceSl_ok HT hms h
    exact ⟨v, h, fun β vx lo' hi' mx' a b c d => let ⟨val, e, f⟩ := hv β vx lo' hi' mx' a b c d; ⟨val, e, f t (T.slice hk)⟩⟩
  · rename_i n e hk
    obtain ⟨v, h, hv⟩ := sliceAr_ok HT h
    exact ⟨v, h, fun β vx lo' hi' mx' a b c d => let ⟨val, e, f⟩ := hv β vx lo' hi' mx' a b c d; ⟨val, e, f t (T.array hk)⟩⟩
  · exact (bad_ne h).elim

/- lengths -/
theorem kN_eq (k : V → Out) (n : Nat) : kN k n = k (.int .i64 (.ofNat n)) := fNat_eq n _

theorem goInt_eq (n : Nat) : goInt (n : Int) = .int .i64 (Int.ofNat n) := rfl

theorem oMap_ok {o : O} {kk : List (V × V × Nat) → Nat → Out} (h : oMap o kk = .ok r) : ∃ es c, o = .map es c ∧ kk es c = .ok r := by
  cases o <;> first | exact ⟨_, _, rfl, h⟩ | exact (bad_ne h).elim

theorem EntsR.len {β : Beta} : ∀ {es : List (V × V × Nat)} {ms : List MapEntry}, EntsR β es ms → es.length = ms.length
  | [], [], _ => rfl
  | _ :: _, _ :: _, h => by simp [EntsR.len h.2.2.2]
  | [], _ :: _, h => h.elim
  | _ :: _, [], h => h.elim

include HT in
theorem lenV_ok {h : T O} {t : Nat} {x : V} (e : lenV tys h t x k = .ok r) :
    ∃ v, k v = .ok r ∧ ∀ W0 β n w, HR W0 β h n w → ∀ vx, conc β x = some vx → ∃ val, conc β v = some val ∧ ∀ ty, (Builtin.len_ #[t] ty #[vx]).run P w = .ok val w := by
  replace e := om_ok e; obtain ⟨ti, hti, e⟩ := e
  have T := HT _ _ hti
  split at e
  · rename_i hk
    cases x <;> try exact (bad_ne e).elim
    rename_i l
    replace e : kN k l.length = .ok r := e
    rw [kN_eq] at e
    refine ⟨_, e, fun W0 β n w H vx hx => ⟨_, rfl, fun ty => ?_⟩⟩
    obtain ⟨hl, rfl⟩ := conc_str hx
    rw [run_len_string w t ty _ (T.string hk), bytesOf_size]; rfl
  · rename_i el hk
    unfold lenSl at e
    cases x <;> try exact (bad_ne e).elim
    case tail id off a esz kk =>
      replace e : kN k 0 = .ok r := e
      rw [kN_eq] at e
      refine ⟨_, e, fun W0 β n w H vx hx => ⟨_, rfl, fun ty => ?_⟩⟩
      simp only [conc, Option.map_eq_some_iff] at hx
      obtain ⟨b, hb, rfl⟩ := hx
      simp [Builtin.len_, run_underlying (T.slice hk), goInt]
    case slice id off len ex kk lo =>
      replace e : kN k len = .ok r := e
      rw [kN_eq] at e
      refine ⟨_, e, fun W0 β n w H vx hx => ⟨_, rfl, fun ty => ?_⟩⟩
      obtain ⟨b, hb, _, rfl⟩ := conc_slice hx
      simp [Builtin.len_, run_underlying (T.slice hk), goInt]
    case base v =>
      cases v <;> try exact (bad_ne e).elim
      rename_i ad z1 z2
      replace e : kN k z1 = .ok r := e
      rw [kN_eq] at e
      refine ⟨_, e, fun W0 β n w H vx hx => ⟨_, rfl, fun ty => ?_⟩⟩
      obtain rfl := conc_base hx
      simp [Builtin.len_, run_underlying (T.slice hk), goInt]
  · rename_i kt et hk
    unfold lenMap at e
    cases x <;> try exact (bad_ne e).elim
    case map id =>
      replace e := om_ok e; obtain ⟨o, ho, e⟩ := e
      replace e := oMap_ok e; obtain ⟨es, c, rfl, e⟩ := e
      rw [kN_eq] at e
      refine ⟨_, e, fun W0 β n w H vx hx => ⟨_, rfl, fun ty => ?_⟩⟩
      obtain ⟨b, hb, rfl⟩ := conc_map hx
      obtain ⟨ms, hms, hE⟩ := H.obj id _ b ho hb
      have : (getObj b.blk).run P w = .ok (.map ms c) w := by simp [getObj, Sem.run, hms]
      have hl := hE.len
      simp only [Array.length_toList] at hl
      simp [Builtin.len_, run_underlying (T.map hk), goInt, this, hl]
    case base v =>
      cases v <;> try exact (bad_ne e).elim
      rename_i ad
      cases ad <;> try exact (bad_ne e).elim
      replace e : kN k 0 = .ok r := e
      rw [kN_eq] at e
      refine ⟨_, e, fun W0 β n w H vx hx => ⟨_, rfl, fun ty => ?_⟩⟩
      obtain rfl := conc_base hx
      simp [Builtin.len_, run_underlying (T.map hk), goInt]
  · exact (bad_ne e).elim

end

end Go.Mir
namespace Go.Mir
open Go Go.RowKit

section
variable {P : Program} {tys : T TI} (HT : TysR P tys) {k : V → Out} {r : Rz}

theorem wrapK_eq (kk : IntKind) (z : Int) (k : V → Out) : wrapK kk z k = k (.int kk (kk.wrap z)) := fInt_eq _ _

theorem wrap8 (m : Nat) (h : m ≤ 255) : IntKind.u8.wrap (m : Int) = m := by
  have h1 : (IntKind.u8.bits : Nat) = 8 := rfl
  have : (m : Int) % (2 ^ 8 : Int) = m := Int.emod_eq_of_lt (by omega) (by omega)
  unfold IntKind.wrap
  simp only [h1, this]
  rw [if_neg]
  simp [IntKind.signed]

theorem convInt_ok {kk : IntKind} {z : Int} (h : convInt kk z k = .ok r) : k (.int kk (kk.wrap z)) = .ok r := by
  unfold convInt at h
  split at h
  · rename_i n
    rcases rec_ok h with ⟨hb, h⟩ | ⟨_, h⟩
    · have := wrap64 n (Nat.le_of_ble_eq_true hb)
      have e : IntKind.i64.wrap (Int.ofNat n) = Int.ofNat n := this
      rw [e]; exact h
    · rw [wrapK_eq] at h; exact h
  · rename_i n
    rcases rec_ok h with ⟨hb, h⟩ | ⟨_, h⟩
    · have := wrap8 n (Nat.le_of_ble_eq_true hb)
      have e : IntKind.u8.wrap (Int.ofNat n) = Int.ofNat n := this
      rw [e]; exact h
    · rw [wrapK_eq] at h; exact h
  · rw [wrapK_eq] at h; exact h

theorem natsOf_ok : ∀ {l : List V} {kk : List Nat → Out}, natsOf l kk = .ok r → ∃ ns : List Nat, kk ns = .ok r ∧ l = ns.map (fun n => V.int .u8 (.ofNat n)) ∧ allB ns = true
  | [], kk, h => ⟨[], h, rfl, rfl⟩
  | v :: l, kk, h => by
    replace h : (match v with | .int .u8 (.ofNat n) => need (Nat.ble n 255) (natsOf l fun l => kk (n :: l)) | _ => bad 41) = .ok r := h
    split at h
    · rename_i n
      replace h := need_ok h; obtain ⟨hn, h⟩ := h
      replace h := natsOf_ok h; obtain ⟨ns, h, rfl, hl⟩ := h
      have : n ≤ 255 := Nat.le_of_ble_eq_true hn
      exact ⟨n :: ns, h, rfl, by simp only [allB, List.all_cons, Bool.and_eq_true, decide_eq_true_eq] at *; exact ⟨by omega, hl⟩⟩
    · exact (bad_ne h).elim

theorem isU8_ok {e : Nat} (HT : TysR P tys) (h : isU8 tys e = true) : P.underlying e = some (.int .u8) := by
  unfold isU8 at h
  split at h
  · rename_i ti hti
    split at h
    · rename_i hk; exact (HT _ _ hti).int hk
    · cases h
  · cases h

theorem concL_ints {β : Beta} : ∀ {ns : List Nat} {vs : List Value}, concL β (ns.map fun n => V.int .u8 (.ofNat n)) = some vs → vs = ns.map fun n => Value.int .u8 (.ofNat n)
  | [], vs, h => by simp [concL] at h; simp [h]
  | n :: ns, vs, h => by
    simp only [List.map_cons, concL, conc, Option.bind_some, Option.map_eq_some_iff] at h
    obtain ⟨z, hz, rfl⟩ := h
    rw [concL_ints hz]; rfl

theorem fold_push : ∀ (ns : List Nat) (s : ByteArray), (ns.map (fun n : Nat => (Int.ofNat n))).foldl (fun r n => r.push (UInt8.ofNat n.toNat)) s = s ++ bytesOf ns
  | [], s => by
    apply ByteArray.ext; simp [bytesOf]
  | n :: ns, s => by
    simp only [List.map_cons, List.foldl_cons]
    rw [fold_push ns]
    apply ByteArray.ext
    apply Array.ext'
    simp [bytesOf]

include HT in
theorem convStr_ok {h : T O} {src dst : Nat} {ti : TI} (hti : tys.get src = some ti) {x : V} (e : convStr tys h ti.kind x k = .ok r) (hd : P.underlying dst = some .string) :
    ∃ v, k v = .ok r ∧ ∀ W0 β n w, HR W0 β h n w → ∀ vx, conc β x = some vx → ∃ val, conc β v = some val ∧ (convert src dst vx).run P w = .ok val w := by
  have T := HT _ _ hti
  unfold convStr at e
  cases hk : ti.kind <;> rw [hk] at e <;> try exact (bad_ne e).elim
  case string =>
    cases x <;> try exact (bad_ne e).elim
    rename_i l
    refine ⟨_, e, fun W0 β n w H vx hx => ⟨vx, hx, ?_⟩⟩
    obtain ⟨hl, rfl⟩ := conc_str hx
    simp [convert, run_underlying (T.string hk), run_underlying hd]
  case slice el =>
    cases x <;> try exact (bad_ne e).elim
    case slice id off len ex kk lo =>
      replace e := need_ok e; obtain ⟨hu8, e⟩ := e
      have hu8 := isU8_ok HT hu8
      replace e := cellsAt_ok e; obtain ⟨l, e, hl, hcells⟩ := e
      replace e := natsOf_ok e; obtain ⟨ns, e, rfl, hns⟩ := e
      refine ⟨_, e, fun W0 β n w H vx hx => ?_⟩
      obtain ⟨b, hb, _, rfl⟩ := conc_slice hx
      obtain ⟨vs, hvs, hlen, hcell⟩ := hcells W0 β n w H b hb
      have hv := concL_ints hvs
      refine ⟨.string (bytesOf ns), by simp [conc, hns], ?_⟩
      rw [run_convert_bytes_string w src dst el _ _ _ (T.slice hk) hu8 hd]
      have hload := run_loadCells_list (P := P) w ⟨b.blk, b.off + off, none⟩ vs (fun j v hj => by rw [add_none]; exact hcell j v hj)
      rw [hlen] at hload
      have hload2 : (loadCells ⟨b.blk, b.off + off, none⟩ len).run P w = .ok ((ns.map (fun n : Nat => (Int.ofNat n))).map (Value.int .u8)).toArray w := by
        rw [hload, hv, List.map_map]; rfl
      rw [run_bytesToString w _ len _ _ hload2, fold_push]
      congr 2
    case base v =>
      cases v <;> try exact (bad_ne e).elim
      rename_i ad z1 z2
      cases ad <;> try exact (bad_ne e).elim
      replace e := need_ok e; obtain ⟨hu8, e⟩ := e
      have hu8 := isU8_ok HT hu8
      refine ⟨_, e, fun W0 β n w H vx hx => ?_⟩
      obtain rfl := conc_base hx
      refine ⟨.string .empty, ?_, ?_⟩
      · have : allB [] = true := rfl
        simp only [conc, this, if_true]; rfl
      · rw [run_convert_bytes_string w src dst el _ _ _ (T.slice hk) hu8 hd]
        simp [Conv.bytesToString]

include HT in
theorem convK_ok {h : T O} {src dst : Nat} {x : V} (e : convK tys h src dst x k = .ok r) :
    ∃ v, k v = .ok r ∧ ∀ W0 β n w, HR W0 β h n w → ∀ vx, conc β x = some vx → ∃ val, conc β v = some val ∧ (convert src dst vx).run P w = .ok val w := by
  replace e := om_ok e; obtain ⟨ts, hts, e⟩ := e
  replace e := om_ok e; obtain ⟨td, htd, e⟩ := e
  have Ts := HT _ _ hts
  have Td := HT _ _ htd
  obtain ⟨ds, hds, _⟩ := Ts.und
  split at e
  · rename_i kk hk
    cases x <;> try exact (bad_ne e).elim
    rename_i k0 z
    replace e := convInt_ok e
    refine ⟨_, e, fun W0 β n w H vx hx => ⟨_, rfl, ?_⟩⟩
    simp only [conc, Option.some.injEq] at hx; subst hx
    simp [convert, run_underlying hds, run_underlying (Td.int hk), Conv.intToInt]
  · rename_i kk hk
    cases x <;> try exact (bad_ne e).elim
    rename_i k0 z
    replace e : fNat (kk.nearest z) (fun b => k (.base (.float kk b))) = .ok r := e
    rw [fNat_eq] at e
    refine ⟨_, e, fun W0 β n w H vx hx => ⟨_, rfl, ?_⟩⟩
    simp only [conc, Option.some.injEq] at hx; subst hx
    simp [convert, run_underlying hds, run_underlying (Td.float hk), Conv.intToFloat]
  · rename_i hk
    exact convStr_ok HT hts e (Td.string hk)
  · exact (bad_ne e).elim

/- loads -/
include HT in
theorem loadK_ok {h : T O} {t : Nat} {a : V} (e : loadK tys h t a k = .ok r) :
    ∃ v, k v = .ok r ∧ ∀ W0 β n w, HR W0 β h n w → ∀ va, conc β a = some va → ∃ ad, va = .pointer (some ad) ∧ ∃ val, conc β v = some val ∧ (loadVar t ad).run P w = .ok val w := by
  unfold loadK at e
  cases a <;> try exact (bad_ne e).elim
  rename_i id off
  replace e := om_ok e; obtain ⟨ti, hti, e⟩ := e
  have T := HT _ _ hti
  rcases rec_ok e with ⟨hk, e⟩ | ⟨hk, e⟩
  · replace e := cellsAt_ok e; obtain ⟨l, e, hl, hcells⟩ := e
    refine ⟨_, e, fun W0 β n w H va ha => ?_⟩
    obtain ⟨b, hb, rfl⟩ := conc_ptr ha
    obtain ⟨vs, hvs, hlen, hcell⟩ := hcells W0 β n w H b hb
    refine ⟨_, rfl, .agg vs.toArray, by simp [conc, hvs], ?_⟩
    have hload := run_loadCells_list (P := P) w ⟨b.blk, b.off + off, none⟩ vs (fun j v hj => by rw [add_none]; exact hcell j v hj)
    rw [hlen] at hload
    simp [loadVar, T.isAgg, hk, T.sizeOf, hload]
  · replace e := cellAt_ok e; obtain ⟨v, e, hcell⟩ := e
    refine ⟨v, e, fun W0 β n w H va ha => ?_⟩
    obtain ⟨b, hb, rfl⟩ := conc_ptr ha
    obtain ⟨x, hx, hc⟩ := hcell W0 β n w H b hb
    exact ⟨_, rfl, x, hc, by simp [loadVar, T.isAgg, hk, hx]⟩

end

end Go.Mir
namespace Go.Mir
open Go Go.RowKit

section
variable {P : Program} {tys : T TI} (HT : TysR P tys) {r : Rz}

theorem sameNow_run {kt : TypeId} {d : TypeDesc} (hu : P.underlying kt = some d) {x y : Value} {c : Bool} (h : Instr.sameNow d x y = some c) (w : World) :
    (Op.equal kt x y).run P w = .ok c w := by
  unfold Instr.sameNow at h
  split at h
  · split at h
    · rename_i k a k' b hk
      subst hk; cases h
      exact run_equalIn_int w 9999 kt _ _ a b hu
    · cases h
  · cases h
    show (Op.equalIn (9999 + 1) kt _ _).run P w = _
    rw [run_equalIn_string w 9999 kt _ _ hu, beq_toListBytes]
  · cases h
    exact run_equalIn_bool' w 9999 kt _ _ hu
  · cases h

theorem findNow_run {kt : TypeId} {d : TypeDesc} (hu : P.underlying kt = some d) {x : Value} (w : World) : ∀ (ms : List MapEntry) (i : Nat) (res : Option (Nat × Value)),
    Instr.findNow d x ms i = some res → (Instr.findAsking kt x ms i).run P w = .ok res w
  | [], i, res, h => by simp only [Instr.findNow, Option.some.injEq] at h; subst h; rfl
  | m :: ms, i, res, h => by
    simp only [Instr.findNow] at h
    split at h
    · rename_i hs
      cases h
      simp [Instr.findAsking, sameNow_run hu hs]
    · rename_i hs
      have := findNow_run hu w ms (i + 1) res h
      simp [Instr.findAsking, sameNow_run hu hs, this]
    · cases h

theorem findKey_run {kt : TypeId} {d : TypeDesc} (hu : P.underlying kt = some d) {x : Value} (w : World) (ms : List MapEntry) {res : Option (Nat × Value)}
    (h : (Instr.findAsking kt x ms 0).run P w = .ok res w) : (Instr.findKey kt x ms).run P w = .ok res w := by
  simp only [Instr.findKey, Sem.run_bind, run_underlying hu, Result.andThen_ok]
  cases hn : Instr.findNow d x ms 0 with
  | none => exact h
  | some r' =>
    have := findNow_run hu w ms 0 r' hn
    rw [this] at h
    cases h; rfl

include HT in
theorem keyEq_ok {tk : TI} {x y : V} {kb : Bool → Out} (h : keyEq tys tk x y kb = .ok r) : ∃ b, kb b = .ok r ∧ EqSpec P 20 tk x y b ∧ (b = true → KeySpec P 20 tk x y) := by
  unfold keyEq at h
  split at h
  · replace h := need_ok h; obtain ⟨_, h⟩ := h
    exact eqT_ok HT 20 _ _ _ _ _ h
  · exact eqT_ok HT 20 _ _ _ _ _ h

/-- what the search for a key tells -/
def FindSpec (P : Program) (tk : TI) (x : V) (es : List (V × V × Nat)) (i0 : Nat) (res : Option (Nat × (V × V × Nat))) : Prop :=
  ∀ kt, TIok P kt tk → ∀ β vx, conc β x = some vx → ∀ ms, EntsR β es ms → ∀ w,
    match res with
    | none => (Instr.findAsking kt vx ms i0).run P w = .ok none w
    | some (i, e) => ∃ m, ms[i - i0]? = some m ∧ i0 ≤ i ∧ es[i - i0]? = some e ∧ (Instr.findAsking kt vx ms i0).run P w = .ok (some (i, m.val)) w ∧
        conc β e.1 = some m.key ∧ conc β e.2.1 = some m.val ∧ m.born = e.2.2

include HT in
theorem find_go {tk : TI} {x : V} {kn : Out} {kf : Nat → V × V × Nat → Out} : ∀ (es : List (V × V × Nat)) (i0 : Nat),
    (List.rec (motive := fun _ => Nat → Out) (fun _ => kn) (fun e _ ih i => keyEq tys tk x e.1 fun r => Bool.rec (ih (Nat.succ i)) (kf i e) r) es i0 : Out) = .ok r →
    ∃ res, (match res with | none => kn | some (i, e) => kf i e) = .ok r ∧ FindSpec P tk x es i0 res
  | [], i0, h => ⟨none, h, fun kt T β vx hx ms hms w => by
      cases ms with
      | nil => rfl
      | cons => exact hms.elim⟩
  | e :: es, i0, h => by
    replace h := keyEq_ok HT h; obtain ⟨b, h, hb, _⟩ := h
    rcases rec_ok h with ⟨rfl, h⟩ | ⟨rfl, h⟩
    · refine ⟨some (i0, e), h, fun kt T β vx hx ms hms w => ?_⟩
      cases ms with
      | nil => exact hms.elim
      | cons m ms =>
        obtain ⟨h1, h2, h3, _⟩ := hms
        have heq : (Op.equal kt vx m.key).run P w = .ok true w := hb kt T β vx _ hx h1 10000 w (by omega)
        exact ⟨m, by simp, Nat.le_refl _, by simp, by simp [Instr.findAsking, heq], h1, h2, h3⟩
    · obtain ⟨res, h, hs⟩ := find_go es (i0 + 1) h
      refine ⟨res, h, fun kt T β vx hx ms hms w => ?_⟩
      cases ms with
      | nil => exact hms.elim
      | cons m ms =>
        obtain ⟨h1, h2, h3, h4⟩ := hms
        have heq : (Op.equal kt vx m.key).run P w = .ok false w := hb kt T β vx _ hx h1 10000 w (by omega)
        have := hs kt T β vx hx ms h4 w
        cases res with
        | none =>
          have : (Instr.findAsking kt vx ms (i0 + 1)).run P w = .ok none w := this
          show (Instr.findAsking kt vx (m :: ms) i0).run P w = .ok none w
          simp [Instr.findAsking, heq, this]
        | some p =>
          obtain ⟨i, e'⟩ := p
          obtain ⟨m', a1, a2, a3, a4, a5⟩ := this
          have e1 : i - i0 = (i - (i0 + 1)) + 1 := by omega
          refine ⟨m', by rw [e1]; simpa using a1, by omega, by rw [e1]; simpa using a3, by simp [Instr.findAsking, heq, a4], a5⟩

include HT in
theorem find_ok {tk : TI} {x : V} {es : List (V × V × Nat)} {kn : Out} {kf : Nat → V × V × Nat → Out} (h : find tys tk x es kn kf = .ok r) :
    ∃ res, (match res with | none => kn | some (i, e) => kf i e) = .ok r ∧ FindSpec P tk x es 0 res := find_go HT es 0 h

theorem one_ok {l : List V} {k : V → Out} (h : one l k = .ok r) : ∃ v, l = [v] ∧ k v = .ok r := by
  unfold one at h
  split at h
  · exact ⟨_, rfl, h⟩
  · exact (bad_ne h).elim

theorem zeroV_ok {te : TI} {k : V → Out} (h : zeroV te k = .ok r) : ∃ v, k v = .ok r ∧ ∀ P t, TIok P t te → ∃ z, (∀ w, (zeroValue t).run P w = .ok z w) ∧ ∀ β, conc β v = some z := by
  rcases rec_ok h with ⟨ha, h⟩ | ⟨ha, h⟩
  · refine ⟨_, h, fun P t T => ?_⟩
    obtain ⟨z, hz, hc, hagg, _, _⟩ := T.zero default
    obtain ⟨cs, rfl⟩ := hagg ha
    refine ⟨.agg cs, fun w => ?_, fun β => ?_⟩
    · obtain ⟨z', hz', _⟩ := T.zero w
      have : z' = .agg cs := by
        have h1 : (zeroValue t).run P w = .ok z' w := hz'
        obtain ⟨i, hi, _, _, zz, hzz, _⟩ := T.info
        simp [zeroValue, run_typeInfo _ hi, hzz] at h1 hz
        rw [← h1, hz]
      rw [hz', this]
    · have := hc β
      simp only [Value.cells] at this
      simp [conc, this]
  · replace h := one_ok h; obtain ⟨v, hv, h⟩ := h
    refine ⟨_, h, fun P t T => ?_⟩
    obtain ⟨z, hz, hc, _, hone, _⟩ := T.zero default
    have hcells := hone ha
    refine ⟨z, fun w => ?_, fun β => ?_⟩
    · obtain ⟨z', hz', _⟩ := T.zero w
      have : z' = z := by
        obtain ⟨i, hi, _, _, zz, hzz, _⟩ := T.info
        simp [zeroValue, run_typeInfo _ hi, hzz] at hz' hz
        rw [← hz', hz]
      rw [hz', this]
    · have := hc β
      rw [hv, hcells] at this
      simp only [concL, Option.bind_eq_some_iff, Option.map_eq_some_iff] at this
      obtain ⟨a, ha, b, hb, he⟩ := this
      simp at hb; subst hb
      simp at he; subst he
      exact ha

theorem mapTy_ok {t : Nat} {kk : TI → TI → Out} (h : mapTy tys t kk = .ok r) : ∃ ti kt et tk te, tys.get t = some ti ∧ ti.kind = .map kt et ∧ tys.get kt = some tk ∧ tys.get et = some te ∧ kk tk te = .ok r := by
  replace h := om_ok h; obtain ⟨ti, hti, h⟩ := h
  split at h
  · rename_i kt et hk
    replace h := om_ok h; obtain ⟨tk, htk, h⟩ := h
    replace h := om_ok h; obtain ⟨te, hte, h⟩ := h
    exact ⟨ti, kt, et, tk, te, hti, hk, htk, hte, h⟩
  · exact (bad_ne h).elim

theorem run_getMap {W0 : World} {β : Beta} {h : T O} {n : Nat} {w : World} (H : HR W0 β h n w) {id : Nat} {b : Blk} {es : List (V × V × Nat)} {c : Nat} (ho : h.get id = some (.map es c)) (hb : β id = some b) :
    ∃ ms, (getObj b.blk).run P w = .ok (.map ms c) w ∧ w.heap[b.blk]? = some (.map ms c) ∧ EntsR β es ms.toList := by
  obtain ⟨ms, hms, hE⟩ := H.obj id _ b ho hb
  exact ⟨ms, by simp [getObj, Sem.run, hms], hms, hE⟩

include HT in
theorem lookupK_ok {h : T O} {t : Nat} {m x : V} {ok : Bool} {k : V → Out} (e : lookupK tys h t m x ok k = .ok r) :
    ∃ v, k v = .ok r ∧ ∀ W0 β n w, HR W0 β h n w → ∀ vm vx, conc β m = some vm → conc β x = some vx → ∃ val, conc β v = some val ∧ (Instr.lookup t vm vx ok).run P w = .ok val w := by
  replace e := mapTy_ok e; obtain ⟨ti, kt, et, tk, te, hti, hk, htk, hte, e⟩ := e
  have Tk := HT _ _ htk
  have Te := HT _ _ hte
  have hu := (HT _ _ hti).map hk
  obtain ⟨dk, hdk, _⟩ := Tk.und
  replace e := need_ok e; obtain ⟨_, e⟩ := e
  -- the value told
  have out : ∀ {v : V} {b : Bool}, (Bool.rec (k v) (k (.tuple [v, .bool b])) ok : Out) = .ok r → ∃ u, k u = .ok r ∧
      ∀ β val, conc β v = some val → conc β u = some (if ok then .tuple #[val, .bool b] else val) := by
    intro v b e
    rcases rec_ok e with ⟨rfl, e⟩ | ⟨rfl, e⟩
    · exact ⟨_, e, fun β val hv => by simp [conc, concL, hv]⟩
    · exact ⟨_, e, fun β val hv => by simp [hv]⟩
  cases m <;> try exact (bad_ne e).elim
  case map id =>
    replace e := om_ok e; obtain ⟨o, ho, e⟩ := e
    replace e := oMap_ok e; obtain ⟨es, c, rfl, e⟩ := e
    replace e := keyEq_ok HT e; obtain ⟨b, e, _, hkey⟩ := e
    replace e := need_ok e; obtain ⟨hb, e⟩ := e
    have hkey := hkey hb
    replace e := find_ok HT e; obtain ⟨res, e, hres⟩ := e
    cases res with
    | none =>
      replace e := zeroV_ok e; obtain ⟨v, e, hz⟩ := e
      obtain ⟨u, hku, hu2⟩ := out e
      refine ⟨u, hku, fun W0 β n w H vm vx hm hx => ?_⟩
      obtain ⟨b, hb, rfl⟩ := conc_map hm
      obtain ⟨ms, hget, _, hE⟩ := run_getMap (P := P) H ho hb
      obtain ⟨z, hzr, hzc⟩ := hz P et Te
      have hck := fun em => hkey kt Tk β vx vx hx hx 10000 w em (by omega)
      have hf := findKey_run (P := P) hdk w ms.toList (hres kt Tk β vx hx ms.toList hE w)
      refine ⟨_, hu2 β z (hzc β), ?_⟩
      simp only [Instr.lookup, Sem.run_bind, run_underlying hu, Result.andThen_ok, hget, Sem.run_pure, hck, hf, hzr]
    | some p =>
      obtain ⟨i, en⟩ := p
      obtain ⟨u, hku, hu2⟩ := out e
      refine ⟨u, hku, fun W0 β n w H vm vx hm hx => ?_⟩
      obtain ⟨b, hb, rfl⟩ := conc_map hm
      obtain ⟨ms, hget, _, hE⟩ := run_getMap (P := P) H ho hb
      have hck := fun em => hkey kt Tk β vx vx hx hx 10000 w em (by omega)
      obtain ⟨m, _, _, _, hfa, _, hval, _⟩ := hres kt Tk β vx hx ms.toList hE w
      have hf := findKey_run (P := P) hdk w ms.toList hfa
      refine ⟨_, hu2 β _ hval, ?_⟩
      simp only [Instr.lookup, Sem.run_bind, run_underlying hu, Result.andThen_ok, hget, Sem.run_pure, hck, hf]
  case base v =>
    cases v <;> try exact (bad_ne e).elim
    rename_i ad
    cases ad <;> try exact (bad_ne e).elim
    replace e := keyEq_ok HT e; obtain ⟨b, e, _, hkey⟩ := e
    replace e := need_ok e; obtain ⟨hb, e⟩ := e
    have hkey := hkey hb
    replace e := zeroV_ok e; obtain ⟨v, e, hz⟩ := e
    obtain ⟨u, hku, hu2⟩ := out e
    refine ⟨u, hku, fun W0 β n w H vm vx hm hx => ?_⟩
    obtain rfl := conc_base hm
    obtain ⟨z, hzr, hzc⟩ := hz P et Te
    have hck := fun em => hkey kt Tk β vx vx hx hx 10000 w em (by omega)
    have hf : (Instr.findKey kt vx []).run P w = .ok none w := findKey_run (P := P) hdk w [] rfl
    refine ⟨_, hu2 β z (hzc β), ?_⟩
    simp only [Instr.lookup, Sem.run_bind, run_underlying hu, Result.andThen_ok, Sem.run_pure, hck, hf, hzr]

end

end Go.Mir
