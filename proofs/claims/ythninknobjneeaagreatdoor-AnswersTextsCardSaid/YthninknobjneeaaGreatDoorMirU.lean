/- The small machine against the model: the operations that make a value. No statement of the program stands here. -/
import Derived.Test.YthninknobjneeaaGreatDoorMirQ
namespace Go.Mir
open Go Go.RowKit

/-- a nil, or no nil, of a kind -/
def NilR (c : Nat) (x : Value) : Prop :=
  match c with
  | 1 => x = .pointer none
  | 2 => ∃ a b, x = .slice none a b
  | 3 => x = .map none
  | 4 => x = .nilFunc
  | 5 => ∃ a, x = .pointer (some a)
  | 6 => ∃ a b c, x = .slice (some a) b c
  | 7 => ∃ a, x = .map (some a)
  | 8 => ∃ a b c, x = .func a b c
  | _ => True

theorem nilV_ok {β : Beta} {v : V} {x : Value} (h : conc β v = some x) : NilR (nilV v) x := by
  cases v with
  | ptr id off =>
    simp only [conc, Option.map_eq_some_iff] at h
    obtain ⟨b, _, rfl⟩ := h; exact ⟨_, rfl⟩
  | slice id off len ex k lo =>
    simp only [conc, Option.bind_eq_some_iff] at h
    obtain ⟨b, _, h⟩ := h
    split at h
    · cases h; exact ⟨_, _, _, rfl⟩
    · cases h
  | tail id off a esz k =>
    simp only [conc, Option.map_eq_some_iff] at h
    obtain ⟨b, _, rfl⟩ := h; exact ⟨_, _, _, rfl⟩
  | map id =>
    simp only [conc, Option.map_eq_some_iff] at h
    obtain ⟨b, _, rfl⟩ := h; exact ⟨_, rfl⟩
  | yield id =>
    simp only [conc, Option.map_eq_some_iff] at h
    obtain ⟨b, _, rfl⟩ := h; exact ⟨_, _, _, rfl⟩
  | func fn first cap =>
    simp only [conc, Option.bind_eq_some_iff, Option.map_eq_some_iff] at h
    obtain ⟨us, _, vs, _, rfl⟩ := h; exact ⟨_, _, _, rfl⟩
  | base w =>
    simp only [conc] at h
    split at h
    · cases h
      cases x with
      | pointer a => cases a with
        | none => exact (rfl : Value.pointer none = Value.pointer none)
        | some a => exact trivial
      | slice a b c => cases a with
        | none => exact ⟨b, c, rfl⟩
        | some a => exact ⟨a, b, c, rfl⟩
      | map a => cases a with
        | none => exact (rfl : Value.map none = Value.map none)
        | some a => exact trivial
      | nilFunc => exact (rfl : Value.nilFunc = Value.nilFunc)
      | _ => exact trivial
    · cases h
  | _ => exact trivial

section
variable {P : Program} {t : Nat} (w : World)
theorem eq_ptr1 (d e : Nat) (hu : P.underlying t = some (.pointer e)) (b : Option Addr) : (Op.equalIn (d + 1) t (.pointer none) (.pointer b)).run P w = .ok b.isNone w := by simp [Op.equalIn, run_underlying hu]
theorem eq_ptr2 (d e : Nat) (hu : P.underlying t = some (.pointer e)) (b : Addr) : (Op.equalIn (d + 1) t (.pointer (some b)) (.pointer none)).run P w = .ok false w := by simp [Op.equalIn, run_underlying hu]
theorem eq_sl1 (d e : Nat) (hu : P.underlying t = some (.slice e)) (a c a' c' : Nat) (b : Option Addr) : (Op.equalIn (d + 1) t (.slice none a c) (.slice b a' c')).run P w = .ok b.isNone w := by simp [Op.equalIn, run_underlying hu]
theorem eq_sl2 (d e : Nat) (hu : P.underlying t = some (.slice e)) (a c a' c' : Nat) (b : Addr) : (Op.equalIn (d + 1) t (.slice (some b) a c) (.slice none a' c')).run P w = .ok false w := by simp [Op.equalIn, run_underlying hu]
theorem eq_map1 (d e f : Nat) (hu : P.underlying t = some (.map e f)) (b : Option Nat) : (Op.equalIn (d + 1) t (.map none) (.map b)).run P w = .ok b.isNone w := by simp [Op.equalIn, run_underlying hu]
theorem eq_map2 (d e f : Nat) (hu : P.underlying t = some (.map e f)) (b : Nat) : (Op.equalIn (d + 1) t (.map (some b)) (.map none)).run P w = .ok false w := by simp [Op.equalIn, run_underlying hu]
theorem eq_fn0 (d : Nat) (a b c) (hu : P.underlying t = some (.func a b c)) : (Op.equalIn (d + 1) t .nilFunc .nilFunc).run P w = .ok true w := by simp [Op.equalIn, run_underlying hu]
theorem eq_fn1 (d : Nat) (a b c) (hu : P.underlying t = some (.func a b c)) (f g h) : (Op.equalIn (d + 1) t .nilFunc (.func f g h)).run P w = .ok false w := by simp [Op.equalIn, run_underlying hu]
theorem eq_fn2 (d : Nat) (a b c) (hu : P.underlying t = some (.func a b c)) (f g h) : (Op.equalIn (d + 1) t (.func f g h) .nilFunc).run P w = .ok false w := by simp [Op.equalIn, run_underlying hu]
end

theorem eqNil_ok {P : Program} {tys : T TI} (HT : TysR P tys) {t : Nat} {x y : V} {k : Bool → Out} {r : Rz} (h : eqNil tys t x y k = .ok r) :
    ∃ b, k b = .ok r ∧ ∀ β vx vy, conc β x = some vx → conc β y = some vy → ∀ w, (Op.equal t vx vy).run P w = .ok b w ∧
      (∀ op o1 o2, (eqGuard op t o1 o2 vx vy).run P w = .ok () w) := by
  obtain ⟨ti, hti, h⟩ := om_ok h
  have T := HT _ _ hti
  rw [fNat_eq, fNat_eq, fNat_eq] at h
  obtain ⟨hc, h⟩ := need_ok h
  have hc0 : nilKind ti.kind ≠ 0 := fun e => by rw [e] at hc; cases hc
  obtain ⟨b, hb, hcase⟩ : ∃ b, k b = .ok r ∧ ((b = true ∧ nilV x = nilKind ti.kind ∧ nilV y = nilKind ti.kind) ∨
      (b = false ∧ nilV x = nilKind ti.kind ∧ nilV y = nilKind ti.kind + 4) ∨ (b = false ∧ nilV x = nilKind ti.kind + 4 ∧ nilV y = nilKind ti.kind)) := by
    rcases rec_ok h with ⟨hb, h⟩ | ⟨_, h⟩
    · have := Bool.and_eq_true_iff.1 hb
      exact ⟨true, h, .inl ⟨rfl, Nat.eq_of_beq_eq_true this.1, Nat.eq_of_beq_eq_true this.2⟩⟩
    · rcases rec_ok h with ⟨hb, h⟩ | ⟨_, h⟩
      · obtain ⟨hb', h⟩ := need_ok h
        exact ⟨false, h, .inr (.inl ⟨rfl, Nat.eq_of_beq_eq_true hb, Nat.eq_of_beq_eq_true hb'⟩)⟩
      · obtain ⟨hb', h⟩ := need_ok h
        have := Bool.and_eq_true_iff.1 hb'
        exact ⟨false, h, .inr (.inr ⟨rfl, Nat.eq_of_beq_eq_true this.1, Nat.eq_of_beq_eq_true this.2⟩)⟩
  refine ⟨b, hb, fun β vx vy hx hy w => ?_⟩
  have nx := nilV_ok hx
  have ny := nilV_ok hy
  cases hk : ti.kind <;> rw [hk] at hcase hc0 <;> simp only [nilKind, ne_eq, not_true_eq_false] at hc0
  case ptr e =>
    have hu := T.ptr hk
    rcases hcase with ⟨rfl, h1, h2⟩ | ⟨rfl, h1, h2⟩ | ⟨rfl, h1, h2⟩ <;> rw [h1] at nx <;> rw [h2] at ny <;> simp only [nilKind, NilR] at nx ny
    · subst nx; subst ny
      exact ⟨eq_ptr1 w 9999 _ hu none, fun op o1 o2 => by cases op <;> simp [eqGuard]⟩
    · subst nx; obtain ⟨a, rfl⟩ := ny
      exact ⟨eq_ptr1 w 9999 _ hu (some _), fun op o1 o2 => by cases op <;> simp [eqGuard]⟩
    · subst ny; obtain ⟨a, rfl⟩ := nx
      exact ⟨eq_ptr2 w 9999 _ hu _, fun op o1 o2 => by cases op <;> simp [eqGuard]⟩
  case slice e =>
    have hu := T.slice hk
    rcases hcase with ⟨rfl, h1, h2⟩ | ⟨rfl, h1, h2⟩ | ⟨rfl, h1, h2⟩ <;> rw [h1] at nx <;> rw [h2] at ny <;> simp only [nilKind, NilR] at nx ny
    · obtain ⟨_, _, rfl⟩ := nx; obtain ⟨_, _, rfl⟩ := ny
      exact ⟨eq_sl1 w 9999 _ hu _ _ _ _ none, fun op o1 o2 => by cases op <;> simp [eqGuard]⟩
    · obtain ⟨_, _, rfl⟩ := nx; obtain ⟨_, _, _, rfl⟩ := ny
      exact ⟨eq_sl1 w 9999 _ hu _ _ _ _ (some _), fun op o1 o2 => by cases op <;> simp [eqGuard]⟩
    · obtain ⟨_, _, rfl⟩ := ny; obtain ⟨_, _, _, rfl⟩ := nx
      exact ⟨eq_sl2 w 9999 _ hu _ _ _ _ _, fun op o1 o2 => by cases op <;> simp [eqGuard]⟩
  case map a b =>
    have hu := T.map hk
    rcases hcase with ⟨rfl, h1, h2⟩ | ⟨rfl, h1, h2⟩ | ⟨rfl, h1, h2⟩ <;> rw [h1] at nx <;> rw [h2] at ny <;> simp only [nilKind, NilR] at nx ny
    · subst nx; subst ny
      exact ⟨eq_map1 w 9999 _ _ hu none, fun op o1 o2 => by cases op <;> simp [eqGuard]⟩
    · subst nx; obtain ⟨a, rfl⟩ := ny
      exact ⟨eq_map1 w 9999 _ _ hu (some _), fun op o1 o2 => by cases op <;> simp [eqGuard]⟩
    · subst ny; obtain ⟨a, rfl⟩ := nx
      exact ⟨eq_map2 w 9999 _ _ hu _, fun op o1 o2 => by cases op <;> simp [eqGuard]⟩
  case func =>
    obtain ⟨f1, f2, f3, hu⟩ := T.func hk
    rcases hcase with ⟨rfl, h1, h2⟩ | ⟨rfl, h1, h2⟩ | ⟨rfl, h1, h2⟩ <;> rw [h1] at nx <;> rw [h2] at ny <;> simp only [nilKind, NilR] at nx ny
    · subst nx; subst ny
      exact ⟨eq_fn0 w 9999 _ _ _ hu, fun op o1 o2 => by cases op <;> simp [eqGuard]⟩
    · subst nx; obtain ⟨_, _, _, rfl⟩ := ny
      exact ⟨eq_fn1 w 9999 _ _ _ hu _ _ _, fun op o1 o2 => by cases op <;> simp [eqGuard]⟩
    · subst ny; obtain ⟨_, _, _, rfl⟩ := nx
      exact ⟨eq_fn2 w 9999 _ _ _ hu _ _ _, fun op o1 o2 => by cases op <;> simp [eqGuard]⟩
  all_goals exact (hc0 trivial).elim

theorem eqV_ok {P : Program} {tys : T TI} (HT : TysR P tys) {t : Nat} {x y : V} {k : Bool → Out} {r : Rz} (h : eqV tys t x y k = .ok r) :
    ∃ b, k b = .ok r ∧ ∀ β vx vy, conc β x = some vx → conc β y = some vy → ∀ w, (Op.equal t vx vy).run P w = .ok b w ∧
      (∀ op o1 o2, (eqGuard op t o1 o2 vx vy).run P w = .ok () w) := by
  unfold eqV at h
  split at h
  · obtain ⟨ti, hti, h⟩ := om_ok h
    obtain ⟨b, h, he, _⟩ := eqT_ok HT 20 _ _ _ _ _ h
    refine ⟨b, h, fun β vx vy hx hy w => ⟨he t (HT _ _ hti) β vx vy hx hy 10000 w (by omega), fun op o1 o2 => ?_⟩⟩
    simp only [conc, Option.some.injEq] at hx; subst hx
    cases op <;> simp [eqGuard]
  · obtain ⟨ti, hti, h⟩ := om_ok h
    obtain ⟨ha, h⟩ := need_ok h
    have T := HT _ _ hti
    obtain ⟨b, h, he, _⟩ := eqT_ok HT 20 _ _ _ _ _ h
    refine ⟨b, h, fun β vx vy hx hy w => ⟨he t T β vx vy hx hy 10000 w (by omega), fun op o1 o2 => ?_⟩⟩
    obtain ⟨us, hu, rfl⟩ := conc_agg hx
    cases vy with
    | agg ys => exact run_eqGuard_agg w op t o1 o2 _ _ (T.guard ha).1
    | _ => cases op <;> simp [eqGuard]
  · exact eqNil_ok HT h

/-- what 'binOp' of the model does -/
def BinRun (P : Program) (op : BinOp) (t : Nat) (v : V) (x y : V) : Prop :=
  ∀ β vx vy, conc β x = some vx → conc β y = some vy → ∃ val, conc β v = some val ∧
    ∀ w o1 o2, (do eqGuard op t o1 o2 vx vy; Go.binOp op t vx vy : Sem Value).run P w = .ok val w

theorem guard_int (P : Program) (op : BinOp) (t : Nat) (o1 o2 : Operand) (kx ky : IntKind) (a b : Int) (w : World) : (eqGuard op t o1 o2 (.int kx a) (.int ky b)).run P w = .ok () w := by
  cases op <;> simp [eqGuard]

theorem guard_str (P : Program) (op : BinOp) (t : Nat) (o1 o2 : Operand) (a b : ByteArray) (w : World) : (eqGuard op t o1 o2 (.string a) (.string b)).run P w = .ok () w := by
  cases op <;> simp [eqGuard]

theorem guard_flo (P : Program) (op : BinOp) (t : Nat) (o1 o2 : Operand) (kx ky : FloatKind) (a b : Nat) (w : World) : (eqGuard op t o1 o2 (.float kx a) (.float ky b)).run P w = .ok () w := by
  cases op <;> simp [eqGuard]

theorem allB_app {a b : List Nat} (ha : allB a = true) (hb : allB b = true) : allB (a ++ b) = true := by
  simp only [allB, List.all_append, Bool.and_eq_true] at *
  exact ⟨ha, hb⟩

theorem bytesOf_size (l : List Nat) : (bytesOf l).size = l.length := by
  show (bytesOf l).data.size = _
  simp [bytesOf]

theorem bytesOf_app (a b : List Nat) : bytesOf a ++ bytesOf b = bytesOf (a ++ b) := by
  apply ByteArray.ext
  simp [bytesOf]

theorem allB_cons' {x : Nat} {a : List Nat} (h : allB (x :: a) = true) : x < 256 ∧ allB a = true := by
  simpa [allB] using h

theorem u8_lt {a b : Nat} (ha : a < 256) (hb : b < 256) : (UInt8.ofNat a < UInt8.ofNat b) ↔ a < b := by
  rw [UInt8.lt_iff_toNat_lt]
  simp [UInt8.toNat_ofNat', Nat.mod_eq_of_lt ha, Nat.mod_eq_of_lt hb]

theorem cmpL_cons (x y : Nat) (a b : List Nat) : cmpL (x :: a) (y :: b) = if x = y then cmpL a b else if x < y then -1 else 1 := by
  have hrec : cmpL (x :: a) (y :: b) = Bool.rec (motive := fun _ => Int) (Bool.rec (motive := fun _ => Int) (.ofNat 1) (.negSucc 0) (Nat.ble x y)) (cmpL a b) (Nat.beq x y) := rfl
  rw [hrec]
  cases hxy : Nat.beq x y with
  | true => rw [if_pos (Nat.eq_of_beq_eq_true hxy)]
  | false =>
    have hne : x ≠ y := fun e => by subst e; simp at hxy
    rw [if_neg hne]
    cases hle : Nat.ble x y with
    | true => rw [if_pos (by have := Nat.le_of_ble_eq_true hle; omega)]; rfl
    | false =>
      have : ¬ x ≤ y := fun h => by rw [Nat.ble_eq_true_of_le h] at hle; cases hle
      rw [if_neg (by omega)]; rfl

theorem cmpL_zero : ∀ (a b : List Nat), cmpL a b = 0 ↔ a = b
  | [], [] => by simp [show cmpL [] [] = 0 from rfl]
  | [], y :: b => by simp [show cmpL [] (y :: b) = -1 from rfl]
  | x :: a, [] => by simp [show cmpL (x :: a) [] = 1 from rfl]
  | x :: a, y :: b => by
    rw [cmpL_cons]
    split
    · rename_i h; subst h; rw [cmpL_zero a b]; simp
    · rename_i h
      split <;> simp [h]

theorem less_cmpL : ∀ (a b : List Nat), allB a = true → allB b = true → Op.bytesLess (a.map UInt8.ofNat) (b.map UInt8.ofNat) = decide (cmpL a b < 0)
  | [], [], _, _ => rfl
  | [], y :: b, _, _ => rfl
  | x :: a, [], _, _ => rfl
  | x :: a, y :: b, ha, hb => by
    obtain ⟨hx, ha⟩ := allB_cons' ha
    obtain ⟨hy, hb⟩ := allB_cons' hb
    rw [cmpL_cons]
    simp only [List.map_cons, Op.bytesLess, less_cmpL a b ha hb]
    by_cases hxy : x = y
    · subst hxy
      simp [UInt8.lt_irrefl]
    · have h1 : ¬ UInt8.ofNat x = UInt8.ofNat y := fun h => hxy (ofNat_inj hx hy h)
      rw [if_neg hxy]
      by_cases hlt : x < y
      · have := (u8_lt hx hy).2 hlt
        simp [hlt, this]
      · have : ¬ UInt8.ofNat x < UInt8.ofNat y := fun h => hlt ((u8_lt hx hy).1 h)
        simp [hlt, this, h1]

theorem strBin_ok {P : Program} {op : BinOp} {a b : List Nat} {k : V → Out} {r : Rz} (h : strBin op a b k = .ok r) (t : Nat) :
    ∃ v, k v = .ok r ∧ BinRun P op t v (.str a) (.str b) := by
  cases op with
  | eql =>
    replace h : kB k (eqL a b) = .ok r := h
    rw [kB_eq] at h
    refine ⟨_, h, fun β vx vy hx hy => ⟨_, rfl, fun w o1 o2 => ?_⟩⟩
    obtain ⟨ha, rfl⟩ := conc_str hx
    obtain ⟨hb, rfl⟩ := conc_str hy
    simp only [Sem.run_bind, guard_str, Result.andThen_ok, binOp_string_eql, beq_bytes ha hb, eqL_eq, Sem.run_pure]
  | neq =>
    replace h : kB k (not (eqL a b)) = .ok r := h
    rw [kB_eq] at h
    refine ⟨_, h, fun β vx vy hx hy => ⟨_, rfl, fun w o1 o2 => ?_⟩⟩
    obtain ⟨ha, rfl⟩ := conc_str hx
    obtain ⟨hb, rfl⟩ := conc_str hy
    simp only [Sem.run_bind, guard_str, Result.andThen_ok, binOp_string_neq, beq_bytes ha hb, eqL_eq, Sem.run_pure]
  | add =>
    replace h : fL (a ++ b) (fun l => need (Nat.ble (List.length l) most64) (k (.str l))) = .ok r := h
    rw [fL_eq] at h
    replace h := need_ok h
    obtain ⟨hl, h⟩ := h
    have hl := Nat.le_of_ble_eq_true hl
    refine ⟨_, h, fun β vx vy hx hy => ?_⟩
    obtain ⟨ha, rfl⟩ := conc_str hx
    obtain ⟨hb, rfl⟩ := conc_str hy
    refine ⟨.string (bytesOf (a ++ b)), by simp [conc, allB_app ha hb], fun w o1 o2 => ?_⟩
    have hm : ¬ (((bytesOf a).size + (bytesOf b).size : Nat) : Int) > IntKind.i64.max := by
      rw [bytesOf_size, bytesOf_size]
      simp only [List.length_append] at hl
      unfold most64 at hl
      have : IntKind.i64.max = 9223372036854775807 := by decide
      rw [this]; omega
    simp only [Sem.run_bind, guard_str, Result.andThen_ok, binOp_string_add, Op.stringOp, hm, if_false, Sem.run_pure, bytesOf_app]
  | lss =>
    replace h : kB k (ilt (cmpL a b) (.ofNat 0)) = .ok r := h
    rw [kB_eq] at h
    refine ⟨_, h, fun β vx vy hx hy => ⟨_, rfl, fun w o1 o2 => ?_⟩⟩
    obtain ⟨ha, rfl⟩ := conc_str hx
    obtain ⟨hb, rfl⟩ := conc_str hy
    simp only [Sem.run_bind, guard_str, Result.andThen_ok]
    rw [show Go.binOp .lss t (.string (bytesOf a)) (.string (bytesOf b)) = Op.stringOp .lss (bytesOf a) (bytesOf b) from rfl]
    simp only [Op.stringOp, bytesOf_toList, less_cmpL a b ha hb, Sem.run_pure, ilt_eq]
    rfl
  | gtr =>
    replace h : kB k (ilt (.ofNat 0) (cmpL a b)) = .ok r := h
    rw [kB_eq] at h
    refine ⟨_, h, fun β vx vy hx hy => ⟨_, rfl, fun w o1 o2 => ?_⟩⟩
    obtain ⟨ha, rfl⟩ := conc_str hx
    obtain ⟨hb, rfl⟩ := conc_str hy
    simp only [Sem.run_bind, guard_str, Result.andThen_ok]
    rw [show Go.binOp .gtr t (.string (bytesOf a)) (.string (bytesOf b)) = Op.stringOp .gtr (bytesOf a) (bytesOf b) from rfl]
    simp only [Op.stringOp, beq_bytes ha hb, Sem.run_pure, ilt_eq]
    simp only [bytesOf_toList, less_cmpL a b ha hb]
    have hz := cmpL_zero a b
    have : (!(decide (cmpL a b < 0) || a == b)) = decide (Int.ofNat 0 < cmpL a b) := by
      rw [Bool.eq_iff_iff]
      simp only [Bool.not_eq_true', Bool.or_eq_false_iff, decide_eq_false_iff_not, beq_eq_false_iff_ne, decide_eq_true_eq, Int.ofNat_eq_natCast, Int.natCast_zero]
      constructor
      · rintro ⟨h1, h2⟩
        have : cmpL a b ≠ 0 := fun h => h2 (hz.1 h)
        omega
      · intro h1
        exact ⟨by omega, fun h => by have := hz.2 h; omega⟩
    rw [this]
  | _ => exact (bad_ne h).elim

theorem floBin_ok {P : Program} {op : BinOp} {kx : FloatKind} {a : Nat} {y : V} {k : V → Out} {r : Rz} (h : floBin op kx a y k = .ok r) (t : Nat) :
    ∃ v, k v = .ok r ∧ BinRun P op t v (.base (.float kx a)) y := by
  unfold floBin at h
  split at h
  · rename_i ky b
    have ht : Go.binOp op t (.float kx a) (.float ky b) = Go.binOp op 0 (.float kx a) (.float ky b) := by cases op <;> rfl
    split at h
    · rename_i q hq
      rw [kB_eq] at h
      refine ⟨_, h, fun β vx vy hx hy => ⟨_, rfl, fun w o1 o2 => ?_⟩⟩
      simp only [conc, Value.oneCell', if_true, Option.some.injEq] at hx hy
      subst hx; subst hy
      simp only [Sem.run_bind, guard_flo, Result.andThen_ok, ht, hq]; rfl
    · rename_i kk z hq
      rw [fNat_eq] at h
      refine ⟨_, h, fun β vx vy hx hy => ⟨_, rfl, fun w o1 o2 => ?_⟩⟩
      simp only [conc, Value.oneCell', if_true, Option.some.injEq] at hx hy
      subst hx; subst hy
      simp only [Sem.run_bind, guard_flo, Result.andThen_ok, ht, hq]; rfl
    · exact (bad_ne h).elim
  · exact (bad_ne h).elim

/-- values that '==' takes by their type -/
def Plain : Value → Prop
  | .bool _ | .pointer _ | .slice .. | .map _ | .func .. | .nilFunc | .agg _ => True
  | _ => False

theorem eql_plain (t : Nat) {x : Value} (y : Value) (h : Plain x) : Go.binOp .eql t x y = (do pure (.bool (← Op.equal t x y)) : Sem Value) := by
  cases x <;> simp only [Plain] at h <;> cases y <;> rfl
theorem neq_plain (t : Nat) {x : Value} (y : Value) (h : Plain x) : Go.binOp .neq t x y = (do pure (.bool (!(← Op.equal t x y))) : Sem Value) := by
  cases x <;> simp only [Plain] at h <;> cases y <;> rfl

theorem plain_of {tys : T TI} {t : Nat} {x y : V} {k : Bool → Out} {r : Rz} (h : eqV tys t x y k = .ok r) {β : Beta} {vx : Value} (hx : conc β x = some vx) : Plain vx := by
  unfold eqV at h
  split at h
  · simp only [conc, Option.some.injEq] at hx; subst hx; trivial
  · obtain ⟨us, hu, rfl⟩ := conc_agg hx; trivial
  · obtain ⟨ti, hti, h⟩ := om_ok h
    rw [fNat_eq, fNat_eq, fNat_eq] at h
    obtain ⟨hc, h⟩ := need_ok h
    have hc0 : nilKind ti.kind ≠ 0 := fun e => by rw [e] at hc; cases hc
    have hn : nilV x ≠ 0 := by
      intro e
      rw [e] at h
      have h0 : Nat.beq 0 (nilKind ti.kind) = false := by
        cases hb : Nat.beq 0 (nilKind ti.kind) with
        | false => rfl
        | true => exact (hc0 (Nat.eq_of_beq_eq_true hb).symm).elim
      rw [h0] at h
      replace h : need (and (Nat.beq 0 (Nat.add (nilKind ti.kind) 4)) (Nat.beq (nilV y) (nilKind ti.kind))) (k false) = .ok r := h
      obtain ⟨hb, h⟩ := need_ok h
      have : 0 = nilKind ti.kind + 4 := Nat.eq_of_beq_eq_true (Bool.and_eq_true_iff.1 hb).1
      omega
    have := nilV_ok hx
    cases x with
    | ptr => obtain ⟨a, rfl⟩ := this; trivial
    | slice => obtain ⟨a, b, c, rfl⟩ := this; trivial
    | tail => obtain ⟨a, b, c, rfl⟩ := this; trivial
    | map => obtain ⟨a, rfl⟩ := this; trivial
    | func => obtain ⟨a, b, c, rfl⟩ := this; trivial
    | yield => obtain ⟨a, b, c, rfl⟩ := this; trivial
    | base v =>
      simp only [conc] at hx
      split at hx
      · cases hx
        cases vx with
        | pointer a => trivial
        | slice => trivial
        | map => trivial
        | nilFunc => trivial
        | func => trivial
        | bool => trivial
        | agg => trivial
        | _ => exact (hn rfl).elim
      · cases hx
    | _ => exact (hn rfl).elim

theorem binOther_ok {P : Program} {tys : T TI} (HT : TysR P tys) {op : BinOp} {t : Nat} {x y : V} {k : V → Out} {r : Rz} (h : binOther tys op t x y k = .ok r) :
    ∃ v, k v = .ok r ∧ BinRun P op t v x y := by
  unfold binOther at h
  split at h
  · have hp := @plain_of _ _ _ _ _ _ h
    obtain ⟨b, h, hb⟩ := eqV_ok HT h
    refine ⟨_, h, fun β vx vy hx hy => ⟨_, rfl, fun w o1 o2 => ?_⟩⟩
    obtain ⟨h1, h2⟩ := hb β vx vy hx hy w
    simp only [Sem.run_bind, h2, Result.andThen_ok, eql_plain t vy (hp hx), h1, Sem.run_pure]
  · have hp := @plain_of _ _ _ _ _ _ h
    obtain ⟨b, h, hb⟩ := eqV_ok HT h
    refine ⟨_, h, fun β vx vy hx hy => ⟨_, rfl, fun w o1 o2 => ?_⟩⟩
    obtain ⟨h1, h2⟩ := hb β vx vy hx hy w
    simp only [Sem.run_bind, h2, Result.andThen_ok, neq_plain t vy (hp hx), h1, Sem.run_pure]
  · exact (bad_ne h).elim

theorem binK_ok {P : Program} {tys : T TI} (HT : TysR P tys) {op : BinOp} {t : Nat} {x y : V} {k : V → Out} {r : Rz} (h : binK tys op t x y k = .ok r) :
    ∃ v, k v = .ok r ∧ BinRun P op t v x y := by
  unfold binK at h
  split at h
  · split at h
    · obtain ⟨v, h, hv⟩ := intBin_ok (P := P) h t
      refine ⟨v, h, fun β vx vy hx hy => ?_⟩
      simp only [conc, Option.some.injEq] at hx hy
      subst hx; subst hy
      obtain ⟨val, h1, h2⟩ := hv β
      exact ⟨val, h1, fun w o1 o2 => by simp only [Sem.run_bind, guard_int, Result.andThen_ok, h2]⟩
    · exact (bad_ne h).elim
  · split at h
    · exact strBin_ok h t
    · exact (bad_ne h).elim
  · exact floBin_ok h t
  · exact binOther_ok HT h

end Go.Mir
namespace Go.Mir
open Go Go.RowKit

def Agrees (β : Beta) (regs : T V) (ρ : Operand → Value) (op : Op) : Prop := ∀ x ∈ op.operands.toList, Agree β regs ρ x

/-- what 'v' is for a pure operation -/
def PureSpec (P : Program) (h : T O) (regs : T V) (op : Op) (v : V) : Prop :=
  ∀ W0 β n w ρ, HR W0 β h n w → Agrees β regs ρ op → ∃ val, conc β v = some val ∧ ∀ o : Oper, o.op = op → (execOp ρ o).run P w = .ok (.value val) w

theorem ixOf_ok {i : V} {k : Nat → Out} {r : Rz} (h : ixOf i k = .ok r) : ∃ kk m, i = .int kk (.ofNat m) ∧ k m = .ok r := by
  unfold ixOf at h
  split at h
  · exact ⟨_, _, rfl, h⟩
  · exact (bad_ne h).elim

theorem conc_ptr {β : Beta} {id off : Nat} {v : Value} (h : conc β (.ptr id off) = some v) : ∃ b, β id = some b ∧ v = .pointer (some ⟨b.blk, b.off + off, none⟩) := by
  simp only [conc, Option.map_eq_some_iff] at h
  obtain ⟨b, hb, rfl⟩ := h; exact ⟨b, hb, rfl⟩

theorem conc_slice {β : Beta} {id off len : Nat} {ex : Bool} {k lo : Nat} {v : Value} (h : conc β (.slice id off len ex k lo) = some v) :
    ∃ b, β id = some b ∧ lo ≤ capOf b ex k ∧ v = .slice (some ⟨b.blk, b.off + off, none⟩) len (capOf b ex k) := by
  simp only [conc, Option.bind_eq_some_iff] at h
  replace h := h; obtain ⟨b, hb, h⟩ := h
  split at h
  · cases h; exact ⟨b, hb, by assumption, rfl⟩
  · cases h

theorem conc_map {β : Beta} {id : Nat} {v : Value} (h : conc β (.map id) = some v) : ∃ b, β id = some b ∧ v = .map (some b.blk) := by
  simp only [conc, Option.map_eq_some_iff] at h
  obtain ⟨b, hb, rfl⟩ := h; exact ⟨b, hb, rfl⟩

theorem conc_tuple {β : Beta} {l : List V} {v : Value} (h : conc β (.tuple l) = some v) : ∃ vs, concL β l = some vs ∧ v = .tuple vs.toArray := by
  simp only [conc, Option.map_eq_some_iff] at h
  obtain ⟨vs, hv, rfl⟩ := h
  exact ⟨vs, hv, rfl⟩

theorem conc_base {β : Beta} {x v : Value} (h : conc β (.base x) = some v) : v = x := by
  simp only [conc] at h
  split at h
  · cases h; rfl
  · cases h

/-- an operation of one operand -/
theorem pure1 {P : Program} {h : T O} {regs : T V} {op : Op} {x : Operand} {k : V → Out} {r : Rz} {f : Value → Sem Value}
    (hop : x ∈ op.operands.toList) (hx : ∀ (ρ : Operand → Value) (o : Oper), o.op = op → ∀ w, (execOp ρ o).run P w = ((f (ρ x)).run P w).andThen fun v w => .ok (.value v) w)
    {K : V → Out} (e : ev regs x K = .ok r)
    (hK : ∀ a, K a = .ok r → ∃ v, k v = .ok r ∧ ∀ W0 β n w, HR W0 β h n w → ∀ va, conc β a = some va → ∃ val, conc β v = some val ∧ (f va).run P w = .ok val w) :
    ∃ v, k v = .ok r ∧ PureSpec P h regs op v := by
  obtain ⟨a, e, ha⟩ := ev_ok e
  obtain ⟨v, hv, hs⟩ := hK a e
  refine ⟨v, hv, fun W0 β n w ρ H A => ?_⟩
  obtain ⟨val, h1, h2⟩ := hs W0 β n w H (ρ x) (ha β ρ (A x hop))
  exact ⟨val, h1, fun o ho => by rw [hx ρ o ho w, h2]; rfl⟩

/-- an operation of two operands -/
theorem pure2 {P : Program} {h : T O} {regs : T V} {op : Op} {x y : Operand} {k : V → Out} {r : Rz} {f : Value → Value → Sem Value}
    (hop : x ∈ op.operands.toList) (hop2 : y ∈ op.operands.toList) (hx : ∀ (ρ : Operand → Value) (o : Oper), o.op = op → ∀ w, (execOp ρ o).run P w = ((f (ρ x) (ρ y)).run P w).andThen fun v w => .ok (.value v) w)
    {K : V → V → Out} (e : (ev regs x fun a => ev regs y fun b => K a b) = .ok r)
    (hK : ∀ a b, K a b = .ok r → ∃ v, k v = .ok r ∧ ∀ W0 β n w, HR W0 β h n w → ∀ va vb, conc β a = some va → conc β b = some vb → ∃ val, conc β v = some val ∧ (f va vb).run P w = .ok val w) :
    ∃ v, k v = .ok r ∧ PureSpec P h regs op v := by
  obtain ⟨a, e, ha⟩ := ev_ok e
  obtain ⟨b, e, hb⟩ := ev_ok e
  obtain ⟨v, hv, hs⟩ := hK a b e
  refine ⟨v, hv, fun W0 β n w ρ H A => ?_⟩
  obtain ⟨val, h1, h2⟩ := hs W0 β n w H (ρ x) (ρ y) (ha β ρ (A x hop)) (hb β ρ (A y hop2))
  exact ⟨val, h1, fun o ho => by rw [hx ρ o ho w, h2]; rfl⟩

section
variable {P : Program} {tys : T TI} (HT : TysR P tys) {k : V → Out} {r : Rz}

theorem unK_ok {op : UnOp} {a : V} (h : unK op k a = .ok r) : ∃ v, k v = .ok r ∧ ∀ β va, conc β a = some va → ∃ val, conc β v = some val ∧ ∀ w, (Op.unary op va).run P w = .ok val w := by
  unfold unK at h
  split at h
  · split at h
    · rw [kB_eq] at h
      refine ⟨_, h, fun β va ha => ⟨_, rfl, fun w => ?_⟩⟩
      simp only [conc, Option.some.injEq] at ha; subst ha; rfl
    · exact (bad_ne h).elim
  · replace h := genI_ok h; obtain ⟨kk, z, hs, h⟩ := h
    refine ⟨_, h, fun β va ha => ⟨_, rfl, fun w => ?_⟩⟩
    simp only [conc, Option.some.injEq] at ha; subst ha; rw [hs]; rfl
  · exact (bad_ne h).elim

theorem nilCheckK_ok {a : V} (h : nilCheckK k a = .ok r) : k a = .ok r ∧ ∀ β va, conc β a = some va → (∃ p, va = .pointer (some p)) ∨ (∃ f u v, va = .func (.func f) u v) ∨ (∃ f u v, va = .func (.yield f) u v) := by
  unfold nilCheckK at h
  split at h
  · refine ⟨h, fun β va ha => .inl ?_⟩
    obtain ⟨b, _, rfl⟩ := conc_ptr ha; exact ⟨_, rfl⟩
  · refine ⟨h, fun β va ha => .inr (.inl ?_)⟩
    simp only [conc, Option.bind_eq_some_iff, Option.map_eq_some_iff] at ha
    obtain ⟨us, _, vs, _, rfl⟩ := ha; exact ⟨_, _, _, rfl⟩
  · refine ⟨h, fun β va ha => .inr (.inr ?_)⟩
    simp only [conc, Option.map_eq_some_iff] at ha
    obtain ⟨b, _, rfl⟩ := ha; exact ⟨_, _, _, rfl⟩
  · exact (bad_ne h).elim

theorem extractK_ok {i : Nat} {a : V} (h : extractK i k a = .ok r) : ∃ v, k v = .ok r ∧ ∀ β va, conc β a = some va → ∃ val, conc β v = some val ∧ ∀ w, (Instr.extract va i).run P w = .ok val w := by
  unfold extractK at h
  split at h
  · replace h := om_ok h; obtain ⟨v, hv, h⟩ := h
    rw [nth_eq] at hv
    refine ⟨v, h, fun β va ha => ?_⟩
    obtain ⟨vs, hvs, rfl⟩ := conc_tuple ha
    obtain ⟨y, hy, hc⟩ := concL_get i hvs hv
    exact ⟨y, hc, fun w => by simp [Instr.extract, hy]⟩
  · exact (bad_ne h).elim

theorem structOf_ok {t f : Nat} {kk : Nat × Nat × Nat × Bool → Out} (h : structOf tys t f kk = .ok r) : ∃ ti fs p, tys.get t = some ti ∧ ti.kind = .struct fs ∧ fs[f]? = some p ∧ kk p = .ok r := by
  replace h := om_ok h; obtain ⟨ti, hti, h⟩ := h
  split at h
  · replace h := om_ok h; obtain ⟨p, hp, h⟩ := h
    rw [nth_eq] at hp
    exact ⟨ti, _, p, hti, by assumption, hp, h⟩
  · exact (bad_ne h).elim

include HT in
theorem field_of {t f : Nat} {ti : TI} {fs : List (Nat × Nat × Nat × Bool)} {p : Nat × Nat × Nat × Bool} (hti : tys.get t = some ti) (hk : ti.kind = .struct fs) (hp : fs[f]? = some p) :
    ∃ gs g, P.underlying t = some (.struct gs) ∧ gs[f]? = some g ∧ g.offset = p.1 ∧ g.type = p.2.1 ∧ P.cellsOf g.type = p.2.2.1 := by
  obtain ⟨gs, hgs, hm⟩ := (HT _ _ hti).struct hk
  rw [← hm, List.getElem?_map, Option.map_eq_some_iff] at hp
  obtain ⟨g, hg, rfl⟩ := hp
  exact ⟨gs, g, hgs, by simpa using hg, rfl, rfl, rfl⟩

include HT in
theorem fieldAddrK_ok {t f : Nat} {a : V} (h : fieldAddrK tys t f k a = .ok r) : ∃ v, k v = .ok r ∧ ∀ β va, conc β a = some va → ∃ val, conc β v = some val ∧ ∀ w, (Instr.fieldAt t va f).run P w = .ok val w := by
  unfold fieldAddrK at h
  split at h
  · rename_i id off
    replace h := structOf_ok h; obtain ⟨ti, fs, p, hti, hk, hp, h⟩ := h
    replace h := need_ok h; obtain ⟨hz, h⟩ := h
    rw [fNat_eq] at h
    obtain ⟨gs, g, hgs, hg, ho, ht, hc⟩ := field_of HT hti hk hp
    refine ⟨_, h, fun β va ha => ?_⟩
    obtain ⟨b, hb, rfl⟩ := conc_ptr ha
    refine ⟨.pointer (some ⟨b.blk, b.off + (off + p.1), none⟩), by simp [conc, hb], fun w => ?_⟩
    have hsz : (sizeOf g.type).run P w = .ok p.2.2.1 w := by
      have : p.2.2.1 ≠ 0 := fun e => by rw [e] at hz; cases hz
      cases hi : P.info? g.type with
      | none => simp [Program.cellsOf, hi] at hc; exact (this hc.symm).elim
      | some i => rw [run_sizeOf w hi, hc]
    have h0 : p.2.2.1 ≠ 0 := fun e => by rw [e] at hz; cases hz
    simp only [Instr.fieldAt, Sem.run_bind, run_underlying hgs, Result.andThen_ok, hg, Instr.sureAddr, Sem.run_pure, fieldPlace, hsz, h0, if_false, Sem.run_ite, add_none, ho, Nat.add_assoc]
  · exact (bad_ne h).elim

include HT in
theorem fieldK_ok {t f : Nat} {a : V} (h : fieldK tys t f k a = .ok r) : ∃ v, k v = .ok r ∧ ∀ β va, conc β a = some va → ∃ val, conc β v = some val ∧ ∀ w, (Instr.field t va f).run P w = .ok val w := by
  unfold fieldK at h
  split at h
  · replace h := structOf_ok h; obtain ⟨ti, fs, p, hti, hk, hp, h⟩ := h
    replace h := om_ok h; obtain ⟨te, hte, h⟩ := h
    obtain ⟨v, h, hv⟩ := partV_ok h
    obtain ⟨gs, g, hgs, hg, ho, ht, hc⟩ := field_of HT hti hk hp
    refine ⟨v, h, fun β va ha => ?_⟩
    obtain ⟨us, hu, rfl⟩ := conc_agg ha
    obtain ⟨val, h1, h2⟩ := hv P _ (HT _ _ hte) β us hu
    refine ⟨val, h1, fun w => ?_⟩
    simp only [Instr.field, Sem.run_bind, run_underlying hgs, Result.andThen_ok, hg, asAgg, Sem.run_pure, ht, ho, h2]
  · exact (bad_ne h).elim

theorem ixAddr_ok {e id off len i : Nat} (h : ixAddr tys e id off len i k = .ok r) : ∃ te, tys.get e = some te ∧ i < len ∧ k (.ptr id (off + i * te.size)) = .ok r := by
  replace h := om_ok h; obtain ⟨te, hte, h⟩ := h
  replace h := need_ok h; obtain ⟨hl, h⟩ := h
  rw [fNat_eq] at h
  exact ⟨te, hte, Nat.le_of_ble_eq_true hl, h⟩

include HT in
theorem indexAddrK_ok {t : Nat} {a i : V} (h : indexAddrK tys t a i k = .ok r) : ∃ v, k v = .ok r ∧ ∀ β va vi, conc β a = some va → conc β i = some vi → ∃ val, conc β v = some val ∧ ∀ w, (Instr.indexAt t va vi).run P w = .ok val w := by
  replace h := ixOf_ok h; obtain ⟨kk, m, rfl, h⟩ := h
  replace h := om_ok h; obtain ⟨ti, hti, h⟩ := h
  have T := HT _ _ hti
  split at h
  · rename_i len e hk
    split at h
    · rename_i id off
      replace h := ixAddr_ok h; obtain ⟨te, hte, hm, h⟩ := h
      refine ⟨_, h, fun β va vi ha hi => ?_⟩
      obtain ⟨b, hb, rfl⟩ := conc_ptr ha
      simp only [conc, Option.some.injEq] at hi; subst hi
      refine ⟨.pointer (some ⟨b.blk, b.off + (off + m * te.size), none⟩), by simp [conc, hb], fun w => ?_⟩
      have hc : (0 : Int) ≤ (m : Int) ∧ (m : Int) < (len : Int) := ⟨by omega, by omega⟩
      simp only [Instr.indexAt, asIntOf, Sem.run_bind, Sem.run_pure, Result.andThen_ok, run_underlying (T.array hk), Instr.sureAddr, Sem.run_ite, hc, and_self, if_true, (HT _ _ hte).sizeOf, add_none, Int.toNat_natCast, Nat.add_assoc, Int.ofNat_eq_natCast]
    · exact (bad_ne h).elim
  · rename_i e hk
    split at h
    · rename_i id off len ex k1 lo
      replace h := ixAddr_ok h; obtain ⟨te, hte, hm, h⟩ := h
      refine ⟨_, h, fun β va vi ha hi => ?_⟩
      obtain ⟨b, hb, hlo, rfl⟩ := conc_slice ha
      simp only [conc, Option.some.injEq] at hi; subst hi
      refine ⟨.pointer (some ⟨b.blk, b.off + (off + m * te.size), none⟩), by simp [conc, hb], fun w => ?_⟩
      have hc : (0 : Int) ≤ (m : Int) ∧ (m : Int) < (len : Int) := ⟨by omega, by omega⟩
      simp only [Instr.indexAt, asIntOf, Sem.run_bind, Sem.run_pure, Result.andThen_ok, run_underlying (T.slice hk), Instr.sureAddr, Sem.run_ite, hc, and_self, if_true, (HT _ _ hte).sizeOf, add_none, Int.toNat_natCast, Nat.add_assoc, Int.ofNat_eq_natCast]
    · exact (bad_ne h).elim
  · exact (bad_ne h).elim

theorem getElem?_map_ofNat (l : List Nat) (i : Nat) : (bytesOf l)[i]? = (l[i]?).map UInt8.ofNat := by
  by_cases h : i < l.length
  · rw [ByteArray.getElem?_lt' _ _ (by rw [bytesOf_size]; exact h), List.getElem?_eq_getElem h]
    show some ((bytesOf l).data[i]'_) = _
    simp [bytesOf]
  · rw [ByteArray.getElem?_ge' _ _ (by rw [bytesOf_size]; exact h), List.getElem?_eq_none (by omega)]; rfl

include HT in
theorem indexK_ok {t : Nat} {a i : V} (h : indexK tys t a i k = .ok r) : ∃ v, k v = .ok r ∧ ∀ β va vi, conc β a = some va → conc β i = some vi → ∃ val, conc β v = some val ∧ ∀ w, (Instr.index t va vi).run P w = .ok val w := by
  replace h := ixOf_ok h; obtain ⟨kk, m, rfl, h⟩ := h
  replace h := om_ok h; obtain ⟨ti, hti, h⟩ := h
  have T := HT _ _ hti
  split at h
  · rename_i len e hk
    replace h := aggOf_ok h
    replace h := h; obtain ⟨cs, rfl, h⟩ := h
    replace h := om_ok h; obtain ⟨te, hte, h⟩ := h
    replace h := need_ok h; obtain ⟨hm, h⟩ := h
    have hm : m < len := Nat.le_of_ble_eq_true hm
    obtain ⟨v, h, hv⟩ := partV_ok h
    refine ⟨v, h, fun β va vi ha hi => ?_⟩
    obtain ⟨us, hu, rfl⟩ := conc_agg ha
    simp only [conc, Option.some.injEq] at hi; subst hi
    obtain ⟨val, h1, h2⟩ := hv P _ (HT _ _ hte) β us hu
    refine ⟨val, h1, fun w => ?_⟩
    have hc : (0 : Int) ≤ (m : Int) ∧ (m : Int) < (len : Int) := ⟨by simp, by omega⟩
    simp only [Instr.index, asIntOf, Sem.run_bind, Sem.run_pure, Result.andThen_ok, run_underlying (T.array hk), Sem.run_ite, Int.ofNat_eq_natCast, hc, and_self, if_true, (HT _ _ hte).sizeOf, Int.toNat_natCast]
    exact h2 w
  · rename_i hk
    split at h
    · rename_i l
      replace h := om_ok h; obtain ⟨x, hx, h⟩ := h
      rw [nth_eq] at hx
      refine ⟨_, h, fun β va vi ha hi => ⟨_, rfl, fun w => ?_⟩⟩
      obtain ⟨hl, rfl⟩ := conc_str ha
      simp only [conc, Option.some.injEq] at hi; subst hi
      have hx256 : x < 256 := by
        have := List.mem_of_getElem? hx
        simp only [allB, List.all_eq_true, decide_eq_true_eq] at hl
        exact hl x this
      have hg : (if (0 : Int) ≤ (m : Int) then (bytesOf l)[(m : Int).toNat]? else none) = some (UInt8.ofNat x) := by
        rw [if_pos (by omega), Int.toNat_natCast, getElem?_map_ofNat, hx]; rfl
      simp only [Instr.index, asIntOf, Sem.run_bind, Sem.run_pure, Result.andThen_ok, run_underlying (T.string hk), Int.ofNat_eq_natCast, hg]
      simp [Nat.mod_eq_of_lt hx256]
    · exact (bad_ne h).elim
  · exact (bad_ne h).elim

end

end Go.Mir
