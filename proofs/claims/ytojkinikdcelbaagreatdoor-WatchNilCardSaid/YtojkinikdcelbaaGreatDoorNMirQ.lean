/- The small machine against the model: parts, equality, keys. No statement of the program stands here. -/
import Derived.Test.YtojkinikdcelbaaGreatDoorNMirS
import Derived.Laws.StructEq
import Derived.ChangeKeysEq
set_option linter.unusedSimpArgs false
set_option linter.unusedVariables false
set_option linter.defProp false
namespace Go.Mir
open Go Go.RowKit

def KindR (P : Program) : TK → TypeDesc → Prop
  | .bool, .bool => True
  | .int k, .int k' => k = k'
  | .float k, .float k' => k = k'
  | .string, .string => True
  | .ptr e, .pointer e' => e = e'
  | .slice e, .slice e' => e = e'
  | .array n e, .array n' e' => n = n' ∧ e = e'
  | .map k e, .map k' e' => k = k' ∧ e = e'
  | .struct fs, .struct gs => gs.toList.map (fun f => (f.offset, f.type, P.cellsOf f.type, f.name != "_")) = fs
  | .func, .func .. => True
  | .iface, .interface _ => True
  | _, _ => False

/-- what the machine knows of a type is so -/
structure TIok (P : Program) (t : Nat) (ti : TI) : Prop where
  info : ∃ i, P.info? t = some i ∧ i.size = ti.size ∧ i.bytes = ti.bytes ∧ ∃ z, i.zero = some z ∧ concL (fun _ => none) ti.zero = some z.cells.toList ∧
    (isAggK ti.kind = true → ∃ cs, z = .agg cs) ∧ (isAggK ti.kind = false → z.cells = #[z]) ∧ ti.zero.length = ti.size
  und : ∃ d, P.underlying t = some d ∧ KindR P ti.kind d
  guard : isAggK ti.kind = true → P.eqGuardType P.depth t = false ∧ P.stoodInHeld t = false
  small : ti.bytes ≤ 65536

def TysR (P : Program) (tys : T TI) : Prop := ∀ t ti, tys.get t = some ti → TIok P t ti

def Agree (β : Beta) (regs : T V) (ρ : Operand → Value) : Operand → Prop
  | .tmp t => ∀ v, regs.get t = some v → conc β v = some (ρ (.tmp t))
  | .const c => ρ (.const c) = c
  | .func f => ρ (.func f) = .func (.func f) #[] #[]
  | .global _ => True

theorem ev_ok {regs : T V} {x : Operand} {k : V → Out} {r : Rz} (h : ev regs x k = .ok r) :
    ∃ v, k v = .ok r ∧ ∀ β ρ, Agree β regs ρ x → conc β v = some (ρ x) := by
  cases x with
  | tmp t => obtain ⟨v, hv, h⟩ := om_ok h; exact ⟨v, h, fun β ρ a => a v hv⟩
  | const c => obtain ⟨v, hv, h⟩ := cv_ok h; exact ⟨v, h, fun β ρ a => by rw [hv, a]⟩
  | global g => exact (bad_ne h).elim
  | func f => exact ⟨_, h, fun β ρ a => by rw [a]; simp [conc, concL]⟩

theorem evL_ok {regs : T V} {r : Rz} : ∀ {xs : List Operand} {k : List V → Out}, evL regs xs k = .ok r →
    ∃ vs, k vs = .ok r ∧ ∀ β ρ, (∀ x ∈ xs, Agree β regs ρ x) → concL β vs = some (xs.map ρ)
  | [], k, h => ⟨[], h, fun β ρ _ => rfl⟩
  | x :: xs, k, h => by
    obtain ⟨v, h, hv⟩ := ev_ok (k := fun v => evL regs xs fun vs => k (v :: vs)) h
    obtain ⟨vs, h, hvs⟩ := evL_ok h
    exact ⟨v :: vs, h, fun β ρ a => by simp [concL, hv β ρ (a x (by simp)), hvs β ρ fun y hy => a y (by simp [hy])]⟩

/- whole numbers -/
theorem kno_inj {a b : IntKind} (h : sameKind a b = true) : a = b := by
  cases a <;> cases b <;> first | rfl | (exact absurd h (by decide))

theorem ilt_eq (a b : Int) : ilt a b = decide (a < b) := by
  cases a with
  | ofNat m => cases b with
    | ofNat n =>
      show Nat.ble (m+1) n = _
      rw [Bool.eq_iff_iff]
      simp only [Nat.ble_eq, decide_eq_true_eq, Int.ofNat_eq_natCast]
      omega
    | negSucc n => show false = _; exact (decide_eq_false (by simp only [Int.ofNat_eq_natCast]; omega)).symm
  | negSucc m => cases b with
    | ofNat n => show true = _; exact (decide_eq_true (by simp only [Int.ofNat_eq_natCast]; omega)).symm
    | negSucc n =>
      show Nat.ble (n+1) m = _
      rw [Bool.eq_iff_iff]
      simp only [Nat.ble_eq, decide_eq_true_eq]
      omega

theorem ieq_eq (a b : Int) : ieq a b = (a == b) := by
  cases a with
  | ofNat m => cases b with
    | ofNat n =>
      show Nat.beq m n = _
      rw [Bool.eq_iff_iff]
      simp only [Nat.beq_eq, beq_iff_eq, Int.ofNat_eq_natCast]; omega
    | negSucc n => rfl
  | negSucc m => cases b with
    | ofNat n => rfl
    | negSucc n =>
      show Nat.beq m n = _
      rw [Bool.eq_iff_iff]
      simp [Nat.beq_eq]

theorem genI_ok {s : Sem Value} {k : V → Out} {r : Rz} (h : genI s k = .ok r) : ∃ kk z, s = .pure (.int kk z) ∧ k (.int kk z) = .ok r := by
  unfold genI at h
  split at h
  · rw [fInt_eq] at h; exact ⟨_, _, rfl, h⟩
  · exact (bad_ne h).elim

theorem wrap64 (m : Nat) (h : m ≤ most64) : IntKind.i64.wrap (m : Int) = m := by
  have h1 : (IntKind.i64.bits : Nat) = 64 := rfl
  have : (m : Int) % (2 ^ 64 : Int) = m := Int.emod_eq_of_lt (by omega) (by unfold most64 at h; omega)
  unfold IntKind.wrap
  simp only [h1, this]
  rw [if_neg]
  simp [IntKind.signed]
  unfold most64 at h; omega

theorem binOp_int (op : BinOp) (t : Nat) (kx ky : IntKind) (a b : Int) : Go.binOp op t (.int kx a) (.int ky b) = Go.binOp op 0 (.int kx a) (.int ky b) := by
  cases op <;> rfl

def BinSpec (P : Program) (op : BinOp) (t : Nat) (v : V) (β : Beta) (x y : Value) : Prop :=
  ∃ val, conc β v = some val ∧ ∀ w, (Go.binOp op t x y).run P w = .ok val w

theorem gen_ok {P : Program} {op : BinOp} {kx ky : IntKind} {a b : Int} {k : V → Out} {r : Rz} (h : gen op kx a ky b k = .ok r) (t : Nat) :
    ∃ v, k v = .ok r ∧ ∀ β, BinSpec P op t v β (.int kx a) (.int ky b) := by
  obtain ⟨kk, z, hs, hk⟩ := genI_ok h
  exact ⟨_, hk, fun β => ⟨_, rfl, fun w => by rw [binOp_int, hs]; rfl⟩⟩

theorem kB_eq (k : V → Out) (b : Bool) : kB k b = k (.bool b) := fB_eq b _

theorem intBin_ok {P : Program} {op : BinOp} {kx ky : IntKind} {a b : Int} {k : V → Out} {r : Rz} (h : intBin op kx a ky b k = .ok r) (t : Nat) :
    ∃ v, k v = .ok r ∧ ∀ β, BinSpec P op t v β (.int kx a) (.int ky b) := by
  cases op with
  | lss =>
    replace h := need_ok h; obtain ⟨hk, h⟩ := h
    obtain rfl := kno_inj hk
    rw [kB_eq] at h
    exact ⟨_, h, fun β => ⟨_, rfl, fun w => by simp [Go.binOp, Op.intCmp, ilt_eq]⟩⟩
  | gtr =>
    replace h := need_ok h; obtain ⟨hk, h⟩ := h
    obtain rfl := kno_inj hk
    rw [kB_eq] at h
    exact ⟨_, h, fun β => ⟨_, rfl, fun w => by simp [Go.binOp, Op.intCmp, ilt_eq]⟩⟩
  | leq =>
    replace h := need_ok h; obtain ⟨hk, h⟩ := h
    obtain rfl := kno_inj hk
    rw [kB_eq] at h
    refine ⟨_, h, fun β => ⟨_, rfl, fun w => ?_⟩⟩
    have : decide (a ≤ b) = !decide (b < a) := by rw [Bool.eq_iff_iff]; simp
    simp [Go.binOp, Op.intCmp, ilt_eq, this]
  | geq =>
    replace h := need_ok h; obtain ⟨hk, h⟩ := h
    obtain rfl := kno_inj hk
    rw [kB_eq] at h
    refine ⟨_, h, fun β => ⟨_, rfl, fun w => ?_⟩⟩
    have : decide (a ≥ b) = !decide (a < b) := by rw [Bool.eq_iff_iff]; simp
    simp [Go.binOp, Op.intCmp, ilt_eq, this]
  | eql =>
    replace h := need_ok h; obtain ⟨hk, h⟩ := h
    obtain rfl := kno_inj hk
    rw [kB_eq] at h
    exact ⟨_, h, fun β => ⟨_, rfl, fun w => by simp [Go.binOp, Op.intCmp, ieq_eq]⟩⟩
  | neq =>
    replace h := need_ok h; obtain ⟨hk, h⟩ := h
    obtain rfl := kno_inj hk
    rw [kB_eq] at h
    exact ⟨_, h, fun β => ⟨_, rfl, fun w => by simp [Go.binOp, Op.intCmp, ieq_eq, bne]⟩⟩
  | add =>
    have h : addI kx a ky b k = .ok r := h
    unfold addI at h
    split at h
    · rename_i m n _
      replace h := need_ok h; obtain ⟨hk, h⟩ := h
      obtain rfl := kno_inj hk
      rw [fNat_eq] at h
      rcases rec_ok h with ⟨hb, h⟩ | ⟨_, h⟩
      · refine ⟨_, h, fun β => ⟨_, rfl, fun w => ?_⟩⟩
        have := wrap64 (m + n) (Nat.le_of_ble_eq_true hb)
        simp only [Go.binOp, Op.intArith, ne_eq, not_true_eq_false, if_false, Sem.run_pure]
        have e : (Int.ofNat m + Int.ofNat n) = ((m + n : Nat) : Int) := rfl
        rw [e, this]; rfl
      · exact gen_ok h t
    · exact gen_ok h t
  | sub =>
    have h : subI kx a ky b k = .ok r := h
    unfold subI at h
    split at h
    · rename_i m n _
      replace h := need_ok h; obtain ⟨hk, h⟩ := h
      obtain rfl := kno_inj hk
      rcases rec_ok h with ⟨hb, h⟩ | ⟨_, h⟩
      · rw [fNat_eq] at h
        rcases rec_ok h with ⟨hc, h⟩ | ⟨_, h⟩
        · refine ⟨_, h, fun β => ⟨_, rfl, fun w => ?_⟩⟩
          have hle := Nat.le_of_ble_eq_true hb
          have := wrap64 (m - n) (Nat.le_of_ble_eq_true hc)
          simp only [Go.binOp, Op.intArith, ne_eq, not_true_eq_false, if_false, Sem.run_pure]
          have e : (Int.ofNat m - Int.ofNat n) = ((m - n : Nat) : Int) := by
            simp only [Int.ofNat_eq_natCast]; omega
          rw [e, this]; rfl
        · exact gen_ok h t
      · exact gen_ok h t
    · exact gen_ok h t
  | _ => exact gen_ok h t

end Go.Mir
namespace Go.Mir
open Go Go.RowKit

section
variable {P : Program} {t : Nat} {ti : TI}

theorem TIok.isAgg (h : TIok P t ti) (w : World) : (isAgg t).run P w = .ok (isAggK ti.kind) w := by
  obtain ⟨d, hd, hk⟩ := h.und
  simp only [Go.isAgg, Sem.run_bind, run_underlying hd, Result.andThen_ok]
  cases hkk : ti.kind <;> cases d <;> simp_all [KindR, isAggK]

theorem TIok.cells (h : TIok P t ti) : P.cellsOf t = ti.size := by
  obtain ⟨i, hi, hs, _⟩ := h.info
  simp [Program.cellsOf, hi, hs]

theorem TIok.sizeOf (h : TIok P t ti) (w : World) : (sizeOf t).run P w = .ok ti.size w := by
  obtain ⟨i, hi, hs, _⟩ := h.info
  rw [run_sizeOf w hi, h.cells]

theorem TIok.typeInfo (h : TIok P t ti) (w : World) : ∃ i, P.info? t = some i ∧ (typeInfo t).run P w = .ok i w ∧ i.size = ti.size ∧ i.bytes = ti.bytes := by
  obtain ⟨i, hi, hs, hb, _⟩ := h.info
  exact ⟨i, hi, run_typeInfo w hi, hs, hb⟩

theorem conc_none {β : Beta} : Le (fun _ => none) β := fun _ _ h => by cases h

theorem TIok.zero (h : TIok P t ti) (w : World) : ∃ z, (zeroValue t).run P w = .ok z w ∧ (∀ β, concL β ti.zero = some z.cells.toList) ∧
    (isAggK ti.kind = true → ∃ cs, z = .agg cs) ∧ (isAggK ti.kind = false → z.cells = #[z]) ∧ z.cells.size = ti.size := by
  obtain ⟨i, hi, hs, hb, z, hz, hc, ha, hn, hl⟩ := h.info
  refine ⟨z, ?_, fun β => concL_mono conc_none _ _ hc, ha, hn, ?_⟩
  · simp [zeroValue, run_typeInfo w hi, hz]
  · have := concL_len hc
    simpa [hl] using this

theorem TIok.underlying (h : TIok P t ti) : ∃ d, P.underlying t = some d ∧ KindR P ti.kind d ∧ ∀ w, (underlying t).run P w = .ok d w := by
  obtain ⟨d, hd, hk⟩ := h.und
  exact ⟨d, hd, hk, run_underlying hd⟩

theorem TIok.struct {fs : List (Nat × Nat × Nat × Bool)} (h : TIok P t ti) (hk : ti.kind = .struct fs) : ∃ gs, P.underlying t = some (.struct gs) ∧
    gs.toList.map (fun f => (f.offset, f.type, P.cellsOf f.type, f.name != "_")) = fs := by
  obtain ⟨d, hd, h2⟩ := h.und
  rw [hk] at h2
  cases d <;> simp only [KindR] at h2
  exact ⟨_, hd, h2⟩

theorem TIok.array {n e : Nat} (h : TIok P t ti) (hk : ti.kind = .array n e) : P.underlying t = some (.array n e) := by
  obtain ⟨d, hd, h2⟩ := h.und
  rw [hk] at h2
  cases d <;> simp only [KindR] at h2
  obtain ⟨rfl, rfl⟩ := h2; exact hd

theorem TIok.slice {e : Nat} (h : TIok P t ti) (hk : ti.kind = .slice e) : P.underlying t = some (.slice e) := by
  obtain ⟨d, hd, h2⟩ := h.und
  rw [hk] at h2
  cases d <;> simp only [KindR] at h2
  subst h2; exact hd

theorem TIok.map {k e : Nat} (h : TIok P t ti) (hk : ti.kind = .map k e) : P.underlying t = some (.map k e) := by
  obtain ⟨d, hd, h2⟩ := h.und
  rw [hk] at h2
  cases d <;> simp only [KindR] at h2
  obtain ⟨rfl, rfl⟩ := h2; exact hd

theorem TIok.ptr {e : Nat} (h : TIok P t ti) (hk : ti.kind = .ptr e) : P.underlying t = some (.pointer e) := by
  obtain ⟨d, hd, h2⟩ := h.und
  rw [hk] at h2
  cases d <;> simp only [KindR] at h2
  subst h2; exact hd

theorem TIok.int {k : IntKind} (h : TIok P t ti) (hk : ti.kind = .int k) : P.underlying t = some (.int k) := by
  obtain ⟨d, hd, h2⟩ := h.und
  rw [hk] at h2
  cases d <;> simp only [KindR] at h2
  subst h2; exact hd

theorem TIok.float {k : FloatKind} (h : TIok P t ti) (hk : ti.kind = .float k) : P.underlying t = some (.float k) := by
  obtain ⟨d, hd, h2⟩ := h.und
  rw [hk] at h2
  cases d <;> simp only [KindR] at h2
  subst h2; exact hd

theorem TIok.string (h : TIok P t ti) (hk : ti.kind = .string) : P.underlying t = some .string := by
  obtain ⟨d, hd, h2⟩ := h.und
  rw [hk] at h2
  cases d <;> simp only [KindR] at h2
  exact hd

theorem TIok.bool (h : TIok P t ti) (hk : ti.kind = .bool) : P.underlying t = some .bool := by
  obtain ⟨d, hd, h2⟩ := h.und
  rw [hk] at h2
  cases d <;> simp only [KindR] at h2
  exact hd

theorem TIok.func (h : TIok P t ti) (hk : ti.kind = .func) : ∃ a b c, P.underlying t = some (.func a b c) := by
  obtain ⟨d, hd, h2⟩ := h.und
  rw [hk] at h2
  cases d <;> simp only [KindR] at h2
  exact ⟨_, _, _, hd⟩
end

/-- a part of a struct or an array -/
theorem partV_ok {ti : TI} {cs : List V} {off : Nat} {k : V → Out} {r : Rz} (h : partV ti cs off k = .ok r) :
    ∃ v, k v = .ok r ∧ ∀ P t, TIok P t ti → ∀ β vs, concL β cs = some vs → ∃ val, conc β v = some val ∧ ∀ w, (part t vs.toArray off).run P w = .ok val w := by
  rcases rec_ok h with ⟨ha, h⟩ | ⟨ha, h⟩
  · rw [spine_eq] at h
    refine ⟨_, h, fun P t T β vs hv => ⟨.agg (vs.toArray.extract off (off + ti.size)), ?_, fun w => ?_⟩⟩
    · have := concL_take ti.size (concL_drop off hv)
      simp only [conc, this, Option.map_some, Option.some.injEq, Value.agg.injEq]
      apply Array.ext'
      simp [List.extract_eq_take_drop]
    · simp [part, T.isAgg, T.sizeOf, ha]
  · obtain ⟨v, hv, h⟩ := om_ok h
    rw [nth_eq] at hv
    refine ⟨v, h, fun P t T β vs hvs => ?_⟩
    obtain ⟨y, hy, hc⟩ := concL_get off hvs hv
    refine ⟨y, hc, fun w => ?_⟩
    simp [part, T.isAgg, ha, hy]

/- equality -/
def EqSpec (P : Program) (d : Nat) (ti : TI) (x y : V) (b : Bool) : Prop :=
  ∀ t, TIok P t ti → ∀ β vx vy, conc β x = some vx → conc β y = some vy → ∀ D w, d ≤ D → (Op.equalIn D t vx vy).run P w = .ok b w

/-- 'x' is a value of its type, as a key must be -/
def KeySpec (P : Program) (d : Nat) (ti : TI) (x y : V) : Prop :=
  ∀ t, TIok P t ti → ∀ β vx vy, conc β x = some vx → conc β y = some vy → ∀ D w em, d ≤ D → (Instr.checkKey em D t vx).run P w = .ok () w

theorem eqL_eq : ∀ (a b : List Nat), eqL a b = (a == b)
  | [], [] => rfl
  | [], _ :: _ => rfl
  | _ :: _, [] => rfl
  | x :: a, y :: b => by
    show Bool.rec (motive := fun _ => Bool) false (eqL a b) (Nat.beq x y) = _
    rw [eqL_eq a b]
    cases h : Nat.beq x y with
    | false =>
      have : ¬ x = y := fun e => by subst e; simp at h
      simp [this]
    | true =>
      have : x = y := Nat.eq_of_beq_eq_true h
      simp [this]

theorem ofNat_inj {a b : Nat} (ha : a < 256) (hb : b < 256) (h : UInt8.ofNat a = UInt8.ofNat b) : a = b := by
  have := congrArg UInt8.toNat h
  simpa [Nat.mod_eq_of_lt ha, Nat.mod_eq_of_lt hb] using this

theorem map_inj : ∀ {a b : List Nat}, allB a = true → allB b = true → a.map UInt8.ofNat = b.map UInt8.ofNat → a = b
  | [], [], _, _, _ => rfl
  | [], _ :: _, _, _, h => by simp at h
  | _ :: _, [], _, _, h => by simp at h
  | x :: a, y :: b, ha, hb, h => by
    simp only [allB, List.all_cons, Bool.and_eq_true, decide_eq_true_eq] at ha hb
    simp only [List.map_cons, List.cons.injEq] at h
    rw [ofNat_inj ha.1 hb.1 h.1, map_inj (by simpa [allB] using ha.2) (by simpa [allB] using hb.2) h.2]

theorem bytesOf_toList (l : List Nat) : (bytesOf l).toList = l.map UInt8.ofNat := by
  rw [bytesOf, ByteArray.toList_mk]

theorem beq_bytes {a b : List Nat} (ha : allB a = true) (hb : allB b = true) : ((bytesOf a).toList == (bytesOf b).toList) = (a == b) := by
  rw [bytesOf_toList, bytesOf_toList, Bool.eq_iff_iff]
  simp only [beq_iff_eq]
  exact ⟨fun h => map_inj ha hb h, fun h => by rw [h]⟩

theorem conc_str {β : Beta} {l : List Nat} {v : Value} (h : conc β (.str l) = some v) : allB l = true ∧ v = .string (bytesOf l) := by
  simp only [conc] at h
  split at h
  · rename_i hl; cases h; exact ⟨hl, rfl⟩
  · cases h

theorem depth1 {d D : Nat} (h : d + 1 ≤ D) : ∃ D', D = D' + 1 ∧ d ≤ D' := ⟨D - 1, by omega, by omega⟩

theorem eqInt_ok {x y : V} {k : Bool → Out} {r : Rz} {kk : IntKind} (d : Nat) (h : eqInt x y k = .ok r) :
    ∃ b, k b = .ok r ∧ ∀ P (ti : TI), ti.kind = .int kk → EqSpec P (d + 1) ti x y b ∧ KeySpec P (d + 1) ti x y := by
  unfold eqInt at h
  split at h
  · split at h
    · replace h := need_ok h
      obtain ⟨hk, h⟩ := h
      obtain rfl := kno_inj hk
      rw [fB_eq] at h
      refine ⟨_, h, fun P ti hti => ⟨fun t T β vx vy hx hy D w hD => ?_, fun t T β vx vy hx hy D w em hD => ?_⟩⟩
      · simp only [conc, Option.some.injEq] at hx hy
        subst hx; subst hy
        obtain ⟨D, rfl, _⟩ := depth1 hD
        rw [run_equalIn_int w D t _ kk _ _ (T.int hti), ieq_eq]
      · simp only [conc, Option.some.injEq] at hx
        subst hx
        obtain ⟨D, rfl, _⟩ := depth1 hD
        simp [Instr.checkKey, run_underlying (T.int hti)]
    · exact (bad_ne h).elim
  · exact (bad_ne h).elim

theorem eqBool_ok {x y : V} {k : Bool → Out} {r : Rz} (d : Nat) (h : eqBool x y k = .ok r) :
    ∃ b, k b = .ok r ∧ ∀ P (ti : TI), ti.kind = .bool → EqSpec P (d + 1) ti x y b ∧ KeySpec P (d + 1) ti x y := by
  unfold eqBool at h
  split at h
  · split at h
    · rename_i a _ b
      rw [fB_eq] at h
      refine ⟨_, h, fun P ti hti => ⟨fun t T β vx vy hx hy D w hD => ?_, fun t T β vx vy hx hy D w em hD => ?_⟩⟩
      · simp only [conc, Option.some.injEq] at hx hy
        subst hx; subst hy
        obtain ⟨D, rfl, _⟩ := depth1 hD
        rw [run_equalIn_bool' w D t _ _ (T.bool hti)]
        cases a <;> cases b <;> rfl
      · simp only [conc, Option.some.injEq] at hx
        subst hx
        obtain ⟨D, rfl, _⟩ := depth1 hD
        simp [Instr.checkKey, run_underlying (T.bool hti)]
    · exact (bad_ne h).elim
  · exact (bad_ne h).elim

theorem eqStr_ok {x y : V} {k : Bool → Out} {r : Rz} (d : Nat) (h : eqStr x y k = .ok r) :
    ∃ b, k b = .ok r ∧ ∀ P (ti : TI), ti.kind = .string → EqSpec P (d + 1) ti x y b ∧ KeySpec P (d + 1) ti x y := by
  unfold eqStr at h
  split at h
  · split at h
    · rename_i a _ b
      rw [fB_eq] at h
      refine ⟨_, h, fun P ti hti => ⟨fun t T β vx vy hx hy D w hD => ?_, fun t T β vx vy hx hy D w em hD => ?_⟩⟩
      · obtain ⟨ha, rfl⟩ := conc_str hx
        obtain ⟨hb, rfl⟩ := conc_str hy
        obtain ⟨D, rfl, _⟩ := depth1 hD
        rw [run_equalIn_string w D t _ _ (T.string hti), beq_bytes ha hb, eqL_eq]
      · obtain ⟨ha, rfl⟩ := conc_str hx
        obtain ⟨D, rfl, _⟩ := depth1 hD
        simp [Instr.checkKey, run_underlying (T.string hti)]
    · exact (bad_ne h).elim
  · exact (bad_ne h).elim

theorem aggOf_ok {x : V} {k : List V → Out} {r : Rz} (h : aggOf x k = .ok r) : ∃ l, x = .agg l ∧ k l = .ok r := by
  unfold aggOf at h
  split at h
  · exact ⟨_, rfl, h⟩
  · exact (bad_ne h).elim

theorem conc_agg {β : Beta} {l : List V} {v : Value} (h : conc β (.agg l) = some v) : ∃ vs, concL β l = some vs ∧ v = .agg vs.toArray := by
  simp only [conc, Option.map_eq_some_iff] at h
  obtain ⟨vs, hv, rfl⟩ := h
  exact ⟨vs, hv, rfl⟩

/-- what 'ih' must be for the parts -/
def IhSpec (P : Program) (d : Nat) (ih : TI → V → V → (Bool → Out) → Out) : Prop :=
  ∀ ti x y k r, ih ti x y k = .ok r → ∃ b, k b = .ok r ∧ EqSpec P d ti x y b ∧ (b = true → KeySpec P d ti x y)

def checkFields (em : Bool) (d : Nat) (xs : Array Value) : List Field → Sem Unit
  | [] => pure ()
  | f :: fs =>
    if f.name ≠ "_" then do
      let a ← part f.type xs f.offset
      Instr.checkKey em d f.type a
      checkFields em d xs fs
    else checkFields em d xs fs

theorem run_checkKey_struct {P : Program} (w : World) (em : Bool) (d : Nat) {t : TypeId} {gs : Array Field} (xs : Array Value) (hu : P.underlying t = some (.struct gs)) :
    (Instr.checkKey em (d + 1) t (.agg xs)).run P w = (checkFields em d xs gs.toList).run P w := by
  simp only [Instr.checkKey, Sem.run_bind, run_underlying hu, Result.andThen_ok]
  rw [← Array.forIn_toList]
  generalize gs.toList = L
  clear hu
  induction L generalizing w with
  | nil => simp [checkFields]
  | cons f L ih =>
    simp only [List.forIn_cons, checkFields, Sem.run_bind, Sem.run_ite]
    split
    · generalize (part f.type xs f.offset).run P w = r1
      cases r1 with
      | ok a w1 =>
        simp only [Result.andThen_ok]
        generalize (Instr.checkKey em d f.type a).run P w1 = r2
        cases r2 with
        | ok b w2 => simp only [Result.andThen_ok, Sem.run_pure]; exact ih w2
        | halt x w2 => simp [Result.andThen]
      | halt x w1 => simp [Result.andThen]
    · simp only [Sem.run_pure, Result.andThen_ok]
      exact ih w

def checkItems (em : Bool) (d : Nat) (e : TypeId) (c : Nat) (xs : Array Value) : List Nat → Sem Unit
  | [] => pure ()
  | i :: is => do
    let a ← part e xs (i * c)
    Instr.checkKey em d e a
    checkItems em d e c xs is

theorem run_checkKey_array {P : Program} (w : World) (em : Bool) (d : Nat) {t e : TypeId} {n : Nat} {i : TypeInfo} (xs : Array Value) (hu : P.underlying t = some (.array n e)) (hi : P.info? e = some i) :
    (Instr.checkKey em (d + 1) t (.agg xs)).run P w = (checkItems em d e (P.cellsOf e) xs (List.range' 0 n)).run P w := by
  simp only [Instr.checkKey, Sem.run_bind, run_underlying hu, Result.andThen_ok]
  simp only [Std.Legacy.Range.forIn_eq_forIn_range', Std.Legacy.Range.size, Nat.sub_zero, Nat.add_one_sub_one, Nat.div_one]
  generalize List.range' 0 n = is
  induction is generalizing w with
  | nil => simp [checkItems]
  | cons j is ih =>
    simp only [List.forIn_cons, checkItems, Sem.run_bind, run_sizeOf _ hi, Result.andThen_ok]
    generalize (part e xs (j * P.cellsOf e)).run P w = r1
    cases r1 with
    | ok a w1 =>
      simp only [Result.andThen_ok]
      generalize (Instr.checkKey em d e a).run P w1 = r2
      cases r2 with
      | ok b w2 => simp only [Result.andThen_ok, Sem.run_pure]; exact ih w2
      | halt x w2 => simp [Result.andThen]
    | halt x w1 => simp [Result.andThen]

theorem eqFs_ok {P : Program} {tys : T TI} (HT : TysR P tys) {d : Nat} {ih : TI → V → V → (Bool → Out) → Out} (HI : IhSpec P d ih) {xs ys : List V} {k : Bool → Out} {r : Rz} :
    ∀ (fs : List (Nat × Nat × Nat × Bool)), eqFs tys ih fs xs ys k = .ok r →
    ∃ b, k b = .ok r ∧ ∀ gs : List Field, gs.map (fun f => (f.offset, f.type, P.cellsOf f.type, f.name != "_")) = fs →
      ∀ β us vs, concL β xs = some us → concL β ys = some vs → ∀ D w, d ≤ D → (Op.eqFields D us.toArray vs.toArray gs).run P w = .ok b w ∧
        (b = true → ∀ em, (checkFields em D us.toArray gs).run P w = .ok () w)
  | [], h => ⟨true, h, fun gs hg β us vs hu hv D w hD => by
      cases gs with
      | nil => simp [Op.eqFields, checkFields]
      | cons => simp at hg⟩
  | f :: fs, h => by
    have h : om (tys.get f.2.1) (fun ti => need f.2.2.2 (partV ti xs f.1 fun a => partV ti ys f.1 fun b => ih ti a b fun r => Bool.rec (k false) (eqFs tys ih fs xs ys k) r)) = .ok r := h
    obtain ⟨ti, hti, h⟩ := om_ok h
    obtain ⟨hname, h⟩ := need_ok h
    obtain ⟨a, h, ha⟩ := partV_ok h
    obtain ⟨b, h, hb⟩ := partV_ok h
    obtain ⟨e, h, he, hke⟩ := HI _ _ _ _ _ h
    have T := HT _ _ hti
    have key : ∀ (g : Field) (gs : List Field), (g.offset, g.type, P.cellsOf g.type, g.name != "_") = f → ∀ β us vs, concL β xs = some us → concL β ys = some vs → ∀ D w, d ≤ D →
        (Op.eqFields D us.toArray vs.toArray (g :: gs)).run P w = (if (!e) = true then (pure false : Sem Bool) else Op.eqFields D us.toArray vs.toArray gs).run P w ∧
        (e = true → ∀ em, (checkFields em D us.toArray (g :: gs)).run P w = (checkFields em D us.toArray gs).run P w) := by
      intro g gs hg β us vs hu hv D w hD
      subst hg
      simp only [bne_iff_ne, ne_eq] at hname
      obtain ⟨va, hva, hra⟩ := ha P g.type T β us hu
      obtain ⟨vb, hvb, hrb⟩ := hb P g.type T β vs hv
      have := he g.type T β va vb hva hvb D w hD
      refine ⟨?_, fun hee em => ?_⟩
      · simp only [Op.eqFields, ne_eq, hname, not_false_eq_true, if_true, Sem.run_bind, hra, hrb, this, Result.andThen_ok]
      · have hk := hke hee g.type T β va vb hva hvb D w em hD
        simp only [checkFields, ne_eq, hname, not_false_eq_true, if_true, Sem.run_bind, hra, hk, Result.andThen_ok]
    rcases rec_ok h with ⟨rfl, h⟩ | ⟨rfl, h⟩
    · obtain ⟨b', h, hb'⟩ := eqFs_ok HT HI fs h
      refine ⟨b', h, fun gs hg β us vs hu hv D w hD => ?_⟩
      cases gs with
      | nil => simp at hg
      | cons g gs =>
        simp only [List.map_cons, List.cons.injEq] at hg
        obtain ⟨k1, k2⟩ := key g gs hg.1 β us vs hu hv D w hD
        obtain ⟨i1, i2⟩ := hb' gs hg.2 β us vs hu hv D w hD
        refine ⟨by rw [k1]; simpa using i1, fun e em => ?_⟩
        rw [k2 rfl em, i2 e em]
    · refine ⟨false, h, fun gs hg β us vs hu hv D w hD => ?_⟩
      cases gs with
      | nil => simp at hg
      | cons g gs =>
        simp only [List.map_cons, List.cons.injEq] at hg
        obtain ⟨k1, k2⟩ := key g gs hg.1 β us vs hu hv D w hD
        exact ⟨by rw [k1]; simp, fun e => by cases e⟩

theorem eqAs_ok {P : Program} {te : TI} {e : Nat} (T : TIok P e te) {d : Nat} {ih : TI → V → V → (Bool → Out) → Out} (HI : IhSpec P d ih) {xs ys : List V} {k : Bool → Out} {r : Rz} :
    ∀ (len i : Nat), (Nat.rec (motive := fun _ => Nat → Out) (fun _ => k true)
      (fun _ go i => partV te xs (Nat.mul i te.size) fun a => partV te ys (Nat.mul i te.size) fun b => ih te a b fun r => Bool.rec (k false) (go (Nat.succ i)) r) len i : Out) = .ok r →
    ∃ b, k b = .ok r ∧ ∀ β us vs, concL β xs = some us → concL β ys = some vs → ∀ D w, d ≤ D → (Op.eqItems D e (P.cellsOf e) us.toArray vs.toArray (List.range' i len)).run P w = .ok b w ∧
      (b = true → ∀ em, (checkItems em D e (P.cellsOf e) us.toArray (List.range' i len)).run P w = .ok () w)
  | 0, i, h => ⟨true, h, fun β us vs hu hv D w hD => by simp [Op.eqItems, checkItems]⟩
  | len + 1, i, h => by
    obtain ⟨a, h, ha⟩ := partV_ok h
    obtain ⟨b, h, hb⟩ := partV_ok h
    obtain ⟨q, h, he, hke⟩ := HI _ _ _ _ _ h
    have key : ∀ β us vs, concL β xs = some us → concL β ys = some vs → ∀ D w, d ≤ D →
        (Op.eqItems D e (P.cellsOf e) us.toArray vs.toArray (List.range' i (len + 1))).run P w =
          (if (!q) = true then (pure false : Sem Bool) else Op.eqItems D e (P.cellsOf e) us.toArray vs.toArray (List.range' (i + 1) len)).run P w ∧
        (q = true → ∀ em, (checkItems em D e (P.cellsOf e) us.toArray (List.range' i (len + 1))).run P w = (checkItems em D e (P.cellsOf e) us.toArray (List.range' (i + 1) len)).run P w) := by
      intro β us vs hu hv D w hD
      obtain ⟨va, hva, hra⟩ := ha P e T β us hu
      obtain ⟨vb, hvb, hrb⟩ := hb P e T β vs hv
      have := he e T β va vb hva hvb D w hD
      rw [← T.cells] at hra hrb
      refine ⟨?_, fun hq em => ?_⟩
      · simp only [List.range'_succ, Op.eqItems, Sem.run_bind]
        rw [show i * P.cellsOf e = Nat.mul i (P.cellsOf e) from rfl, hra]
        simp only [Result.andThen_ok]
        rw [hrb]
        simp only [Result.andThen_ok, this]
      · have hk := hke hq e T β va vb hva hvb D w em hD
        simp only [List.range'_succ, checkItems, Sem.run_bind]
        rw [show i * P.cellsOf e = Nat.mul i (P.cellsOf e) from rfl, hra]
        simp only [Result.andThen_ok, hk]
    rcases rec_ok h with ⟨rfl, h⟩ | ⟨rfl, h⟩
    · obtain ⟨b', h, hb'⟩ := eqAs_ok T HI len (i + 1) h
      refine ⟨b', h, fun β us vs hu hv D w hD => ?_⟩
      obtain ⟨k1, k2⟩ := key β us vs hu hv D w hD
      obtain ⟨i1, i2⟩ := hb' β us vs hu hv D w hD
      exact ⟨by rw [k1]; simpa using i1, fun e em => by rw [k2 rfl em, i2 e em]⟩
    · refine ⟨false, h, fun β us vs hu hv D w hD => ?_⟩
      obtain ⟨k1, k2⟩ := key β us vs hu hv D w hD
      exact ⟨by rw [k1]; simp, fun e => by cases e⟩

theorem eqT_ok {P : Program} {tys : T TI} (HT : TysR P tys) : ∀ d, IhSpec P d (eqT tys d)
  | 0, ti, x, y, k, r, h => (bad_ne h).elim
  | d + 1, ti, x, y, k, r, h => by
    have IH := eqT_ok HT d
    replace h : (match ti.kind with
      | .struct fs => aggOf x fun xs => aggOf y fun ys => eqFs tys (eqT tys d) fs xs ys k
      | .array len e => aggOf x fun xs => aggOf y fun ys => om (tys.get e) fun te => eqAs te (eqT tys d) len xs ys k
      | .int _ => eqInt x y k
      | .bool => eqBool x y k
      | .string => eqStr x y k
      | _ => bad 10) = .ok r := h
    split at h
    · rename_i fs hk
      replace h := aggOf_ok h
      obtain ⟨xs, rfl, h⟩ := h
      replace h := aggOf_ok h
      obtain ⟨ys, rfl, h⟩ := h
      obtain ⟨b, h, hb⟩ := eqFs_ok HT IH fs h
      refine ⟨b, h, fun t T β vx vy hx hy D w hD => ?_, fun e t T β vx vy hx hy D w em hD => ?_⟩
      · obtain ⟨us, hu, rfl⟩ := conc_agg hx
        obtain ⟨vs, hv, rfl⟩ := conc_agg hy
        obtain ⟨D, rfl, hD'⟩ := depth1 hD
        obtain ⟨gs, hgs, hm⟩ := T.struct hk
        have hf : P.fieldsOf t = gs := by simp [Program.fieldsOf, hgs]
        have hst := (T.guard (by simp [isAggK, hk])).2
        rw [run_equalIn_struct w D t _ _ (by rw [hf]; exact hgs) hst, hf]
        exact (hb gs.toList hm β us vs hu hv D w hD').1
      · obtain ⟨us, hu, rfl⟩ := conc_agg hx
        obtain ⟨vs, hv, rfl⟩ := conc_agg hy
        obtain ⟨D, rfl, hD'⟩ := depth1 hD
        obtain ⟨gs, hgs, hm⟩ := T.struct hk
        rw [run_checkKey_struct w em D _ hgs]
        exact (hb gs.toList hm β us vs hu hv D w hD').2 e em
    · rename_i len e hk
      replace h := aggOf_ok h
      obtain ⟨xs, rfl, h⟩ := h
      replace h := aggOf_ok h
      obtain ⟨ys, rfl, h⟩ := h
      obtain ⟨te, hte, h⟩ := om_ok h
      have Te := HT _ _ hte
      obtain ⟨b, h, hb⟩ := eqAs_ok Te IH len 0 h
      obtain ⟨i, hi, _⟩ := Te.info
      refine ⟨b, h, fun t T β vx vy hx hy D w hD => ?_, fun e' t T β vx vy hx hy D w em hD => ?_⟩
      · obtain ⟨us, hu, rfl⟩ := conc_agg hx
        obtain ⟨vs, hv, rfl⟩ := conc_agg hy
        obtain ⟨D, rfl, hD'⟩ := depth1 hD
        rw [run_equalIn_array w D _ _ (T.array hk) hi, List.range_eq_range']
        exact (hb β us vs hu hv D w hD').1
      · obtain ⟨us, hu, rfl⟩ := conc_agg hx
        obtain ⟨vs, hv, rfl⟩ := conc_agg hy
        obtain ⟨D, rfl, hD'⟩ := depth1 hD
        rw [run_checkKey_array w em D _ (T.array hk) hi]
        exact (hb β us vs hu hv D w hD').2 e' em
    · obtain ⟨b, h, hb⟩ := eqInt_ok (kk := _) d h
      exact ⟨b, h, (hb P ti (by assumption)).1, fun _ => (hb P ti (by assumption)).2⟩
    · obtain ⟨b, h, hb⟩ := eqBool_ok d h
      exact ⟨b, h, (hb P ti (by assumption)).1, fun _ => (hb P ti (by assumption)).2⟩
    · obtain ⟨b, h, hb⟩ := eqStr_ok d h
      exact ⟨b, h, (hb P ti (by assumption)).1, fun _ => (hb P ti (by assumption)).2⟩
    · exact (bad_ne h).elim

end Go.Mir
