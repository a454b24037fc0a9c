/- The small machine against the model: the operations that make a value. No statement of the program stands here. -/
import Derived.Test.YtnclpappnmoimaaGreatDoorMirT
namespace Go.Mir
open Go Go.RowKit

def Agrees (β : Beta) (regs : T V) (ρ : Operand → Value) (op : Op) : Prop := ∀ x ∈ op.operands.toList, Agree β regs ρ x

/-- what 'v' is for a pure operation -/
def PureSpec (P : Program) (h : T O) (regs : T V) (op : Op) (v : V) : Prop :=
  ∀ W0 β n w ρ, HR W0 β h n w → Agrees β regs ρ op → ∃ val, conc β v = some val ∧ ∀ o : Oper, o.op = op → (execOp ρ o).run P w = .ok (.value val) w

theorem ixOf_ok {i : V} {k : Nat → Out} {r : Rz} (h : ixOf i k = .ok r) : ∃ kk m, i = .int kk (.ofNat m) ∧ k m = .ok r := by
  unfold ixOf at h
  split at h
  · exact ⟨_, _, rfl, h⟩
  · exact (bad_ne h).elim

theorem conc_ptr {β : Beta} {id off : Nat} {v : Value} (h : conc β (.ptr id off) = some v) : ∃ b, β id = some b ∧ v = .pointer (some ⟨b.blk, b.off + off, none⟩) := by
  simp only [conc, Option.map_eq_some_iff] at h
  obtain ⟨b, hb, rfl⟩ := h; exact ⟨b, hb, rfl⟩

theorem conc_slice {β : Beta} {id off len : Nat} {ex : Bool} {k lo : Nat} {v : Value} (h : conc β (.slice id off len ex k lo) = some v) :
    ∃ b, β id = some b ∧ lo ≤ capOf b ex k ∧ v = .slice (some ⟨b.blk, b.off + off, none⟩) len (capOf b ex k) := by
  simp only [conc, Option.bind_eq_some_iff] at h
  replace h := h; obtain ⟨b, hb, h⟩ := h
  split at h
  · cases h; exact ⟨b, hb, by assumption, rfl⟩
  · cases h

theorem conc_map {β : Beta} {id : Nat} {v : Value} (h : conc β (.map id) = some v) : ∃ b, β id = some b ∧ v = .map (some b.blk) := by
  simp only [conc, Option.map_eq_some_iff] at h
  obtain ⟨b, hb, rfl⟩ := h; exact ⟨b, hb, rfl⟩

theorem conc_tuple {β : Beta} {l : List V} {v : Value} (h : conc β (.tuple l) = some v) : ∃ vs, concL β l = some vs ∧ v = .tuple vs.toArray := by
  simp only [conc, Option.map_eq_some_iff] at h
  obtain ⟨vs, hv, rfl⟩ := h
  exact ⟨vs, hv, rfl⟩

theorem conc_base {β : Beta} {x v : Value} (h : conc β (.base x) = some v) : v = x := by
  simp only [conc] at h
  split at h
  · cases h; rfl
  · cases h

/-- an operation of one operand -/
theorem pure1 {P : Program} {h : T O} {regs : T V} {op : Op} {x : Operand} {k : V → Out} {r : Rz} {f : Value → Sem Value}
    (hop : x ∈ op.operands.toList) (hx : ∀ (ρ : Operand → Value) (o : Oper), o.op = op → ∀ w, (execOp ρ o).run P w = ((f (ρ x)).run P w).andThen fun v w => .ok (.value v) w)
    {K : V → Out} (e : ev regs x K = .ok r)
    (hK : ∀ a, K a = .ok r → ∃ v, k v = .ok r ∧ ∀ W0 β n w, HR W0 β h n w → ∀ va, conc β a = some va → ∃ val, conc β v = some val ∧ (f va).run P w = .ok val w) :
    ∃ v, k v = .ok r ∧ PureSpec P h regs op v := by
  obtain ⟨a, e, ha⟩ := ev_ok e
  obtain ⟨v, hv, hs⟩ := hK a e
  refine ⟨v, hv, fun W0 β n w ρ H A => ?_⟩
  obtain ⟨val, h1, h2⟩ := hs W0 β n w H (ρ x) (ha β ρ (A x hop))
  exact ⟨val, h1, fun o ho => by rw [hx ρ o ho w, h2]; rfl⟩

/-- an operation of two operands -/
theorem pure2 {P : Program} {h : T O} {regs : T V} {op : Op} {x y : Operand} {k : V → Out} {r : Rz} {f : Value → Value → Sem Value}
    (hop : x ∈ op.operands.toList) (hop2 : y ∈ op.operands.toList) (hx : ∀ (ρ : Operand → Value) (o : Oper), o.op = op → ∀ w, (execOp ρ o).run P w = ((f (ρ x) (ρ y)).run P w).andThen fun v w => .ok (.value v) w)
    {K : V → V → Out} (e : (ev regs x fun a => ev regs y fun b => K a b) = .ok r)
    (hK : ∀ a b, K a b = .ok r → ∃ v, k v = .ok r ∧ ∀ W0 β n w, HR W0 β h n w → ∀ va vb, conc β a = some va → conc β b = some vb → ∃ val, conc β v = some val ∧ (f va vb).run P w = .ok val w) :
    ∃ v, k v = .ok r ∧ PureSpec P h regs op v := by
  obtain ⟨a, e, ha⟩ := ev_ok e
  obtain ⟨b, e, hb⟩ := ev_ok e
  obtain ⟨v, hv, hs⟩ := hK a b e
  refine ⟨v, hv, fun W0 β n w ρ H A => ?_⟩
  obtain ⟨val, h1, h2⟩ := hs W0 β n w H (ρ x) (ρ y) (ha β ρ (A x hop)) (hb β ρ (A y hop2))
  exact ⟨val, h1, fun o ho => by rw [hx ρ o ho w, h2]; rfl⟩

section
variable {P : Program} {tys : T TI} (HT : TysR P tys) {k : V → Out} {r : Rz}

theorem unK_ok {op : UnOp} {a : V} (h : unK op k a = .ok r) : ∃ v, k v = .ok r ∧ ∀ β va, conc β a = some va → ∃ val, conc β v = some val ∧ ∀ w, (Op.unary op va).run P w = .ok val w := by
  unfold unK at h
  split at h
  · split at h
    · rw [kB_eq] at h
      refine ⟨_, h, fun β va ha => ⟨_, rfl, fun w => ?_⟩⟩
      simp only [conc, Option.some.injEq] at ha; subst ha; rfl
    · exact (bad_ne h).elim
  · replace h := genI_ok h; obtain ⟨kk, z, hs, h⟩ := h
    refine ⟨_, h, fun β va ha => ⟨_, rfl, fun w => ?_⟩⟩
    simp only [conc, Option.some.injEq] at ha; subst ha; rw [hs]; rfl
  · exact (bad_ne h).elim

theorem nilCheckK_ok {a : V} (h : nilCheckK k a = .ok r) : k a = .ok r ∧ ∀ β va, conc β a = some va → (∃ p, va = .pointer (some p)) ∨ (∃ f u v, va = .func (.func f) u v) ∨ (∃ f u v, va = .func (.yield f) u v) := by
  unfold nilCheckK at h
  split at h
  · refine ⟨h, fun β va ha => .inl ?_⟩
    obtain ⟨b, _, rfl⟩ := conc_ptr ha; exact ⟨_, rfl⟩
  · refine ⟨h, fun β va ha => .inr (.inl ?_)⟩
    simp only [conc, Option.bind_eq_some_iff, Option.map_eq_some_iff] at ha
    obtain ⟨us, _, vs, _, rfl⟩ := ha; exact ⟨_, _, _, rfl⟩
  · refine ⟨h, fun β va ha => .inr (.inr ?_)⟩
    simp only [conc, Option.map_eq_some_iff] at ha
    obtain ⟨b, _, rfl⟩ := ha; exact ⟨_, _, _, rfl⟩
  · exact (bad_ne h).elim

theorem extractK_ok {i : Nat} {a : V} (h : extractK i k a = .ok r) : ∃ v, k v = .ok r ∧ ∀ β va, conc β a = some va → ∃ val, conc β v = some val ∧ ∀ w, (Instr.extract va i).run P w = .ok val w := by
  unfold extractK at h
  split at h
  · replace h := om_ok h; obtain ⟨v, hv, h⟩ := h
    rw [nth_eq] at hv
    refine ⟨v, h, fun β va ha => ?_⟩
    obtain ⟨vs, hvs, rfl⟩ := conc_tuple ha
    obtain ⟨y, hy, hc⟩ := concL_get i hvs hv
    exact ⟨y, hc, fun w => by simp [Instr.extract, hy]⟩
  · exact (bad_ne h).elim

theorem structOf_ok {t f : Nat} {kk : Nat × Nat × Nat × Bool → Out} (h : structOf tys t f kk = .ok r) : ∃ ti fs p, tys.get t = some ti ∧ ti.kind = .struct fs ∧ fs[f]? = some p ∧ kk p = .ok r := by
  replace h := om_ok h; obtain ⟨ti, hti, h⟩ := h
  split at h
  · replace h := om_ok h; obtain ⟨p, hp, h⟩ := h
    rw [nth_eq] at hp
    exact ⟨ti, _, p, hti, by assumption, hp, h⟩
  · exact (bad_ne h).elim

include HT in
theorem field_of {t f : Nat} {ti : TI} {fs : List (Nat × Nat × Nat × Bool)} {p : Nat × Nat × Nat × Bool} (hti : tys.get t = some ti) (hk : ti.kind = .struct fs) (hp : fs[f]? = some p) :
    ∃ gs g, P.underlying t = some (.struct gs) ∧ gs[f]? = some g ∧ g.offset = p.1 ∧ g.type = p.2.1 ∧ P.cellsOf g.type = p.2.2.1 := by
  obtain ⟨gs, hgs, hm⟩ := (HT _ _ hti).struct hk
  rw [← hm, List.getElem?_map, Option.map_eq_some_iff] at hp
  obtain ⟨g, hg, rfl⟩ := hp
  exact ⟨gs, g, hgs, by simpa using hg, rfl, rfl, rfl⟩

include HT in
theorem fieldAddrK_ok {t f : Nat} {a : V} (h : fieldAddrK tys t f k a = .ok r) : ∃ v, k v = .ok r ∧ ∀ β va, conc β a = some va → ∃ val, conc β v = some val ∧ ∀ w, (Instr.fieldAt t va f).run P w = .ok val w := by
  unfold fieldAddrK at h
  split at h
  · rename_i id off
    replace h := structOf_ok h; obtain ⟨ti, fs, p, hti, hk, hp, h⟩ := h
    replace h := need_ok h; obtain ⟨hz, h⟩ := h
    rw [fNat_eq] at h
    obtain ⟨gs, g, hgs, hg, ho, ht, hc⟩ := field_of HT hti hk hp
    refine ⟨_, h, fun β va ha => ?_⟩
    obtain ⟨b, hb, rfl⟩ := conc_ptr ha
    refine ⟨.pointer (some ⟨b.blk, b.off + (off + p.1), none⟩), by simp [conc, hb], fun w => ?_⟩
    have hsz : (sizeOf g.type).run P w = .ok p.2.2.1 w := by
      have : p.2.2.1 ≠ 0 := fun e => by rw [e] at hz; cases hz
      cases hi : P.info? g.type with
      | none => simp [Program.cellsOf, hi] at hc; exact (this hc.symm).elim
      | some i => rw [run_sizeOf w hi, hc]
    have h0 : p.2.2.1 ≠ 0 := fun e => by rw [e] at hz; cases hz
    simp only [Instr.fieldAt, Sem.run_bind, run_underlying hgs, Result.andThen_ok, hg, Instr.sureAddr, Sem.run_pure, fieldPlace, hsz, h0, if_false, Sem.run_ite, add_none, ho, Nat.add_assoc]
  · exact (bad_ne h).elim

include HT in
theorem fieldK_ok {t f : Nat} {a : V} (h : fieldK tys t f k a = .ok r) : ∃ v, k v = .ok r ∧ ∀ β va, conc β a = some va → ∃ val, conc β v = some val ∧ ∀ w, (Instr.field t va f).run P w = .ok val w := by
  unfold fieldK at h
  split at h
  · replace h := structOf_ok h; obtain ⟨ti, fs, p, hti, hk, hp, h⟩ := h
    replace h := om_ok h; obtain ⟨te, hte, h⟩ := h
    obtain ⟨v, h, hv⟩ := partV_ok h
    obtain ⟨gs, g, hgs, hg, ho, ht, hc⟩ := field_of HT hti hk hp
    refine ⟨v, h, fun β va ha => ?_⟩
    obtain ⟨us, hu, rfl⟩ := conc_agg ha
    obtain ⟨val, h1, h2⟩ := hv P _ (HT _ _ hte) β us hu
    refine ⟨val, h1, fun w => ?_⟩
    simp only [Instr.field, Sem.run_bind, run_underlying hgs, Result.andThen_ok, hg, asAgg, Sem.run_pure, ht, ho, h2]
  · exact (bad_ne h).elim

theorem ixAddr_ok {e id off len i : Nat} (h : ixAddr tys e id off len i k = .ok r) : ∃ te, tys.get e = some te ∧ i < len ∧ k (.ptr id (off + i * te.size)) = .ok r := by
  replace h := om_ok h; obtain ⟨te, hte, h⟩ := h
  replace h := need_ok h; obtain ⟨hl, h⟩ := h
  rw [fNat_eq] at h
  exact ⟨te, hte, Nat.le_of_ble_eq_true hl, h⟩

include HT in
theorem indexAddrK_ok {t : Nat} {a i : V} (h : indexAddrK tys t a i k = .ok r) : ∃ v, k v = .ok r ∧ ∀ β va vi, conc β a = some va → conc β i = some vi → ∃ val, conc β v = some val ∧ ∀ w, (Instr.indexAt t va vi).run P w = .ok val w := by
  replace h := ixOf_ok h; obtain ⟨kk, m, rfl, h⟩ := h
  replace h := om_ok h; obtain ⟨ti, hti, h⟩ := h
  have T := HT _ _ hti
  split at h
  · rename_i len e hk
    split at h
    · rename_i id off
      replace h := ixAddr_ok h; obtain ⟨te, hte, hm, h⟩ := h
      refine ⟨_, h, fun β va vi ha hi => ?_⟩
      obtain ⟨b, hb, rfl⟩ := conc_ptr ha
      simp only [conc, Option.some.injEq] at hi; subst hi
      refine ⟨.pointer (some ⟨b.blk, b.off + (off + m * te.size), none⟩), by simp [conc, hb], fun w => ?_⟩
      have hc : (0 : Int) ≤ (m : Int) ∧ (m : Int) < (len : Int) := ⟨by omega, by omega⟩
      simp only [Instr.indexAt, asIntOf, Sem.run_bind, Sem.run_pure, Result.andThen_ok, run_underlying (T.array hk), Instr.sureAddr, Sem.run_ite, hc, and_self, if_true, (HT _ _ hte).sizeOf, add_none, Int.toNat_natCast, Nat.add_assoc, Int.ofNat_eq_natCast]
    · exact (bad_ne h).elim
  · rename_i e hk
    split at h
    · rename_i id off len ex k1 lo
      replace h := ixAddr_ok h; obtain ⟨te, hte, hm, h⟩ := h
      refine ⟨_, h, fun β va vi ha hi => ?_⟩
      obtain ⟨b, hb, hlo, rfl⟩ := conc_slice ha
      simp only [conc, Option.some.injEq] at hi; subst hi
      refine ⟨.pointer (some ⟨b.blk, b.off + (off + m * te.size), none⟩), by simp [conc, hb], fun w => ?_⟩
      have hc : (0 : Int) ≤ (m : Int) ∧ (m : Int) < (len : Int) := ⟨by omega, by omega⟩
      simp only [Instr.indexAt, asIntOf, Sem.run_bind, Sem.run_pure, Result.andThen_ok, run_underlying (T.slice hk), Instr.sureAddr, Sem.run_ite, hc, and_self, if_true, (HT _ _ hte).sizeOf, add_none, Int.toNat_natCast, Nat.add_assoc, Int.ofNat_eq_natCast]
    · exact (bad_ne h).elim
  · exact (bad_ne h).elim

theorem getElem?_map_ofNat (l : List Nat) (i : Nat) : (bytesOf l)[i]? = (l[i]?).map UInt8.ofNat := by
  by_cases h : i < l.length
  · rw [ByteArray.getElem?_lt' _ _ (by rw [bytesOf_size]; exact h), List.getElem?_eq_getElem h]
    show some ((bytesOf l).data[i]'_) = _
    simp [bytesOf]
  · rw [ByteArray.getElem?_ge' _ _ (by rw [bytesOf_size]; exact h), List.getElem?_eq_none (by omega)]; rfl

include HT in
theorem indexK_ok {t : Nat} {a i : V} (h : indexK tys t a i k = .ok r) : ∃ v, k v = .ok r ∧ ∀ β va vi, conc β a = some va → conc β i = some vi → ∃ val, conc β v = some val ∧ ∀ w, (Instr.index t va vi).run P w = .ok val w := by
  replace h := ixOf_ok h; obtain ⟨kk, m, rfl, h⟩ := h
  replace h := om_ok h; obtain ⟨ti, hti, h⟩ := h
  have T := HT _ _ hti
  split at h
  · rename_i len e hk
    replace h := aggOf_ok h
    replace h := h; obtain ⟨cs, rfl, h⟩ := h
    replace h := om_ok h; obtain ⟨te, hte, h⟩ := h
    replace h := need_ok h; obtain ⟨hm, h⟩ := h
    have hm : m < len := Nat.le_of_ble_eq_true hm
    obtain ⟨v, h, hv⟩ := partV_ok h
    refine ⟨v, h, fun β va vi ha hi => ?_⟩
    obtain ⟨us, hu, rfl⟩ := conc_agg ha
    simp only [conc, Option.some.injEq] at hi; subst hi
    obtain ⟨val, h1, h2⟩ := hv P _ (HT _ _ hte) β us hu
    refine ⟨val, h1, fun w => ?_⟩
    have hc : (0 : Int) ≤ (m : Int) ∧ (m : Int) < (len : Int) := ⟨by simp, by omega⟩
    simp only [Instr.index, asIntOf, Sem.run_bind, Sem.run_pure, Result.andThen_ok, run_underlying (T.array hk), Sem.run_ite, Int.ofNat_eq_natCast, hc, and_self, if_true, (HT _ _ hte).sizeOf, Int.toNat_natCast]
    exact h2 w
  · rename_i hk
    split at h
    · rename_i l
      replace h := om_ok h; obtain ⟨x, hx, h⟩ := h
      rw [nth_eq] at hx
      refine ⟨_, h, fun β va vi ha hi => ⟨_, rfl, fun w => ?_⟩⟩
      obtain ⟨hl, rfl⟩ := conc_str ha
      simp only [conc, Option.some.injEq] at hi; subst hi
      have hx256 : x < 256 := by
        have := List.mem_of_getElem? hx
        simp only [allB, List.all_eq_true, decide_eq_true_eq] at hl
        exact hl x this
      have hg : (if (0 : Int) ≤ (m : Int) then (bytesOf l)[(m : Int).toNat]? else none) = some (UInt8.ofNat x) := by
        rw [if_pos (by omega), Int.toNat_natCast, getElem?_map_ofNat, hx]; rfl
      simp only [Instr.index, asIntOf, Sem.run_bind, Sem.run_pure, Result.andThen_ok, run_underlying (T.string hk), Int.ofNat_eq_natCast, hg]
      simp [Nat.mod_eq_of_lt hx256]
    · exact (bad_ne h).elim
  · exact (bad_ne h).elim

end

end Go.Mir
