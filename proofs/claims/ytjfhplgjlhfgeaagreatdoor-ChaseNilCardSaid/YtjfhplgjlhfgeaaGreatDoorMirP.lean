/- The small machine against the model: values. No statement of the program stands here. -/
import Derived.Test.YtjfhplgjlhfgeaaGreatDoorMirS
import Derived.Laws.StructEq
namespace Go.Mir
open Go Go.RowKit

def KindR (P : Program) : TK → TypeDesc → Prop
  | .bool, .bool => True
  | .int k, .int k' => k = k'
  | .float k, .float k' => k = k'
  | .string, .string => True
  | .ptr e, .pointer e' => e = e'
  | .slice e, .slice e' => e = e'
  | .array n e, .array n' e' => n = n' ∧ e = e'
  | .map k e, .map k' e' => k = k' ∧ e = e'
  | .struct fs, .struct gs => gs.toList.map (fun f => (f.offset, f.type, P.cellsOf f.type, f.name != "_")) = fs
  | .func, .func .. => True
  | .iface, .interface _ => True
  | _, _ => False

/-- what the machine knows of a type is so -/
structure TIok (P : Program) (t : Nat) (ti : TI) : Prop where
  info : ∃ i, P.info? t = some i ∧ i.size = ti.size ∧ i.bytes = ti.bytes ∧ ∃ z, i.zero = some z ∧ concL (fun _ => none) ti.zero = some z.cells.toList ∧
    (isAggK ti.kind = true → ∃ cs, z = .agg cs) ∧ (isAggK ti.kind = false → z.cells = #[z]) ∧ ti.zero.length = ti.size
  und : ∃ d, P.underlying t = some d ∧ KindR P ti.kind d
  guard : isAggK ti.kind = true → P.eqGuardType P.depth t = false ∧ P.stoodInHeld t = false
  small : ti.bytes ≤ 65536

def TysR (P : Program) (tys : T TI) : Prop := ∀ t ti, tys.get t = some ti → TIok P t ti

def Agree (β : Beta) (regs : T V) (ρ : Operand → Value) : Operand → Prop
  | .tmp t => ∀ v, regs.get t = some v → conc β v = some (ρ (.tmp t))
  | .const c => ρ (.const c) = c
  | .func f => ρ (.func f) = .func (.func f) #[] #[]
  | .global _ => True

theorem ev_ok {regs : T V} {x : Operand} {k : V → Out} {r : V} (h : ev regs x k = .ok r) :
    ∃ v, k v = .ok r ∧ ∀ β ρ, Agree β regs ρ x → conc β v = some (ρ x) := by
  cases x with
  | tmp t => obtain ⟨v, hv, h⟩ := om_ok h; exact ⟨v, h, fun β ρ a => a v hv⟩
  | const c => obtain ⟨v, hv, h⟩ := cv_ok h; exact ⟨v, h, fun β ρ a => by rw [hv, a]⟩
  | global g => exact (bad_ne h).elim
  | func f => exact ⟨_, h, fun β ρ a => by rw [a]; simp [conc, concL]⟩

theorem evL_ok {regs : T V} {r : V} : ∀ {xs : List Operand} {k : List V → Out}, evL regs xs k = .ok r →
    ∃ vs, k vs = .ok r ∧ ∀ β ρ, (∀ x ∈ xs, Agree β regs ρ x) → concL β vs = some (xs.map ρ)
  | [], k, h => ⟨[], h, fun β ρ _ => rfl⟩
  | x :: xs, k, h => by
    obtain ⟨v, h, hv⟩ := ev_ok (k := fun v => evL regs xs fun vs => k (v :: vs)) h
    obtain ⟨vs, h, hvs⟩ := evL_ok h
    exact ⟨v :: vs, h, fun β ρ a => by simp [concL, hv β ρ (a x (by simp)), hvs β ρ fun y hy => a y (by simp [hy])]⟩

/- whole numbers -/
theorem kno_inj {a b : IntKind} (h : sameKind a b = true) : a = b := by
  cases a <;> cases b <;> first | rfl | (exact absurd h (by decide))

theorem ilt_eq (a b : Int) : ilt a b = decide (a < b) := by
  cases a with
  | ofNat m => cases b with
    | ofNat n =>
      show Nat.ble (m+1) n = _
      rw [Bool.eq_iff_iff]
      simp only [Nat.ble_eq, decide_eq_true_eq, Int.ofNat_eq_natCast]
      omega
    | negSucc n => show false = _; exact (decide_eq_false (by simp only [Int.ofNat_eq_natCast]; omega)).symm
  | negSucc m => cases b with
    | ofNat n => show true = _; exact (decide_eq_true (by simp only [Int.ofNat_eq_natCast]; omega)).symm
    | negSucc n =>
      show Nat.ble (n+1) m = _
      rw [Bool.eq_iff_iff]
      simp only [Nat.ble_eq, decide_eq_true_eq]
      omega

theorem ieq_eq (a b : Int) : ieq a b = (a == b) := by
  cases a with
  | ofNat m => cases b with
    | ofNat n =>
      show Nat.beq m n = _
      rw [Bool.eq_iff_iff]
      simp only [Nat.beq_eq, beq_iff_eq, Int.ofNat_eq_natCast]; omega
    | negSucc n => rfl
  | negSucc m => cases b with
    | ofNat n => rfl
    | negSucc n =>
      show Nat.beq m n = _
      rw [Bool.eq_iff_iff]
      simp [Nat.beq_eq]

theorem genI_ok {s : Sem Value} {k : V → Out} {r : V} (h : genI s k = .ok r) : ∃ kk z, s = .pure (.int kk z) ∧ k (.int kk z) = .ok r := by
  unfold genI at h
  split at h
  · rw [fInt_eq] at h; exact ⟨_, _, rfl, h⟩
  · exact (bad_ne h).elim

theorem wrap64 (m : Nat) (h : m ≤ most64) : IntKind.i64.wrap (m : Int) = m := by
  have h1 : (IntKind.i64.bits : Nat) = 64 := rfl
  have : (m : Int) % (2 ^ 64 : Int) = m := Int.emod_eq_of_lt (by omega) (by unfold most64 at h; omega)
  unfold IntKind.wrap
  simp only [h1, this]
  rw [if_neg]
  simp [IntKind.signed]
  unfold most64 at h; omega

theorem binOp_int (op : BinOp) (t : Nat) (kx ky : IntKind) (a b : Int) : Go.binOp op t (.int kx a) (.int ky b) = Go.binOp op 0 (.int kx a) (.int ky b) := by
  cases op <;> rfl

def BinSpec (P : Program) (op : BinOp) (t : Nat) (v : V) (β : Beta) (x y : Value) : Prop :=
  ∃ val, conc β v = some val ∧ ∀ w, (Go.binOp op t x y).run P w = .ok val w

theorem gen_ok {P : Program} {op : BinOp} {kx ky : IntKind} {a b : Int} {k : V → Out} {r : V} (h : gen op kx a ky b k = .ok r) (t : Nat) :
    ∃ v, k v = .ok r ∧ ∀ β, BinSpec P op t v β (.int kx a) (.int ky b) := by
  obtain ⟨kk, z, hs, hk⟩ := genI_ok h
  exact ⟨_, hk, fun β => ⟨_, rfl, fun w => by rw [binOp_int, hs]; rfl⟩⟩

theorem kB_eq (k : V → Out) (b : Bool) : kB k b = k (.bool b) := fB_eq b _

theorem intBin_ok {P : Program} {op : BinOp} {kx ky : IntKind} {a b : Int} {k : V → Out} {r : V} (h : intBin op kx a ky b k = .ok r) (t : Nat) :
    ∃ v, k v = .ok r ∧ ∀ β, BinSpec P op t v β (.int kx a) (.int ky b) := by
  cases op with
  | lss =>
    replace h := need_ok h; obtain ⟨hk, h⟩ := h
    obtain rfl := kno_inj hk
    rw [kB_eq] at h
    exact ⟨_, h, fun β => ⟨_, rfl, fun w => by simp [Go.binOp, Op.intCmp, ilt_eq]⟩⟩
  | gtr =>
    replace h := need_ok h; obtain ⟨hk, h⟩ := h
    obtain rfl := kno_inj hk
    rw [kB_eq] at h
    exact ⟨_, h, fun β => ⟨_, rfl, fun w => by simp [Go.binOp, Op.intCmp, ilt_eq]⟩⟩
  | leq =>
    replace h := need_ok h; obtain ⟨hk, h⟩ := h
    obtain rfl := kno_inj hk
    rw [kB_eq] at h
    refine ⟨_, h, fun β => ⟨_, rfl, fun w => ?_⟩⟩
    have : decide (a ≤ b) = !decide (b < a) := by rw [Bool.eq_iff_iff]; simp
    simp [Go.binOp, Op.intCmp, ilt_eq, this]
  | geq =>
    replace h := need_ok h; obtain ⟨hk, h⟩ := h
    obtain rfl := kno_inj hk
    rw [kB_eq] at h
    refine ⟨_, h, fun β => ⟨_, rfl, fun w => ?_⟩⟩
    have : decide (a ≥ b) = !decide (a < b) := by rw [Bool.eq_iff_iff]; simp
    simp [Go.binOp, Op.intCmp, ilt_eq, this]
  | eql =>
    replace h := need_ok h; obtain ⟨hk, h⟩ := h
    obtain rfl := kno_inj hk
    rw [kB_eq] at h
    exact ⟨_, h, fun β => ⟨_, rfl, fun w => by simp [Go.binOp, Op.intCmp, ieq_eq]⟩⟩
  | neq =>
    replace h := need_ok h; obtain ⟨hk, h⟩ := h
    obtain rfl := kno_inj hk
    rw [kB_eq] at h
    exact ⟨_, h, fun β => ⟨_, rfl, fun w => by simp [Go.binOp, Op.intCmp, ieq_eq, bne]⟩⟩
  | add =>
    have h : addI kx a ky b k = .ok r := h
    unfold addI at h
    split at h
    · rename_i m n _
      replace h := need_ok h; obtain ⟨hk, h⟩ := h
      obtain rfl := kno_inj hk
      rw [fNat_eq] at h
      rcases rec_ok h with ⟨hb, h⟩ | ⟨_, h⟩
      · refine ⟨_, h, fun β => ⟨_, rfl, fun w => ?_⟩⟩
        have := wrap64 (m + n) (Nat.le_of_ble_eq_true hb)
        simp only [Go.binOp, Op.intArith, ne_eq, not_true_eq_false, if_false, Sem.run_pure]
        have e : (Int.ofNat m + Int.ofNat n) = ((m + n : Nat) : Int) := rfl
        rw [e, this]; rfl
      · exact gen_ok h t
    · exact gen_ok h t
  | sub =>
    have h : subI kx a ky b k = .ok r := h
    unfold subI at h
    split at h
    · rename_i m n _
      replace h := need_ok h; obtain ⟨hk, h⟩ := h
      obtain rfl := kno_inj hk
      rcases rec_ok h with ⟨hb, h⟩ | ⟨_, h⟩
      · rw [fNat_eq] at h
        rcases rec_ok h with ⟨hc, h⟩ | ⟨_, h⟩
        · refine ⟨_, h, fun β => ⟨_, rfl, fun w => ?_⟩⟩
          have hle := Nat.le_of_ble_eq_true hb
          have := wrap64 (m - n) (Nat.le_of_ble_eq_true hc)
          simp only [Go.binOp, Op.intArith, ne_eq, not_true_eq_false, if_false, Sem.run_pure]
          have e : (Int.ofNat m - Int.ofNat n) = ((m - n : Nat) : Int) := by
            simp only [Int.ofNat_eq_natCast]; omega
          rw [e, this]; rfl
        · exact gen_ok h t
      · exact gen_ok h t
    · exact gen_ok h t
  | _ => exact gen_ok h t

end Go.Mir
