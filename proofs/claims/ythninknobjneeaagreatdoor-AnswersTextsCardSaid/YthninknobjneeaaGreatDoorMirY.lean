/- The small machine against the model: maps read, structs built, and all the operations that make a value. No statement of the program stands here. -/
import Derived.Test.YthninknobjneeaaGreatDoorMirU
import Derived.Laws.BytesString
namespace Go.Mir
open Go Go.RowKit

theorem boundN_ok {x : Option V} {d : Nat} {k : Nat → Out} {r : Rz} (h : boundN x d k = .ok r) :
    ∃ n, k n = .ok r ∧ ((x = none ∧ n = d) ∨ ∃ kk, x = some (.int kk (.ofNat n))) := by
  unfold boundN at h
  split at h
  · exact ⟨d, h, .inl ⟨rfl, rfl⟩⟩
  · exact ⟨_, h, .inr ⟨_, rfl⟩⟩
  · exact (bad_ne h).elim

def concO (β : Beta) (x : Option V) (y : Option Value) : Prop :=
  match x, y with
  | none, none => True
  | some x, some y => conc β x = some y
  | _, _ => False

section
variable {P : Program} {w : World}

theorem run_bound (kk : IntKind) (n y : Nat) (c : BoundsCode) (h : n ≤ y) : (Instr.sliceBound (.int kk (.ofNat n)) y c).run P w = .ok n w := by
  have hc : (0 : Int) ≤ (n : Int) ∧ (n : Int) ≤ (y : Int) := ⟨by omega, by omega⟩
  simp only [Instr.sliceBound, asIntOf, Sem.run_bind, Sem.run_pure, Result.andThen_ok, Sem.run_ite, Int.ofNat_eq_natCast, hc, and_self, if_true, Int.toNat_natCast]

/-- the three bounds of a slice, where they are in order -/
theorem run_bounds {β : Beta} {lo hi mx : Option V} {lo' hi' mx' : Option Value} (hlo : concO β lo lo') (hhi : concO β hi hi') (hmx : concO β mx mx')
    {isS : Bool} {len cap a b m : Nat} (ha : (lo = none ∧ a = 0) ∨ ∃ kk, lo = some (.int kk (.ofNat a))) (hb : (hi = none ∧ b = len) ∨ ∃ kk, hi = some (.int kk (.ofNat b)))
    (hm : (mx = none ∧ m = cap) ∨ ∃ kk, mx = some (.int kk (.ofNat m))) (hms : mx ≠ none → hi ≠ none) (h1 : a ≤ b) (h2 : b ≤ m) (h3 : m ≤ cap) :
    (Instr.sliceBounds isS len cap lo' hi' mx').run P w = .ok (a, b, m) w := by
  have el : (lo' = none ∧ a = 0) ∨ ∃ kk, lo' = some (.int kk (.ofNat a)) := by
    rcases ha with ⟨rfl, rfl⟩ | ⟨kk, rfl⟩
    · cases lo' with
      | none => exact .inl ⟨rfl, rfl⟩
      | some => exact hlo.elim
    · cases lo' with
      | none => exact hlo.elim
      | some y => simp only [concO, conc, Option.some.injEq] at hlo; exact .inr ⟨kk, by rw [hlo]⟩
  have eh : (hi' = none ∧ b = len) ∨ ∃ kk, hi' = some (.int kk (.ofNat b)) := by
    rcases hb with ⟨rfl, rfl⟩ | ⟨kk, rfl⟩
    · cases hi' with
      | none => exact .inl ⟨rfl, rfl⟩
      | some => exact hhi.elim
    · cases hi' with
      | none => exact hhi.elim
      | some y => simp only [concO, conc, Option.some.injEq] at hhi; exact .inr ⟨kk, by rw [hhi]⟩
  have em : (mx' = none ∧ m = cap) ∨ ∃ kk, mx' = some (.int kk (.ofNat m)) := by
    rcases hm with ⟨rfl, rfl⟩ | ⟨kk, rfl⟩
    · cases mx' with
      | none => exact .inl ⟨rfl, rfl⟩
      | some => exact hmx.elim
    · cases mx' with
      | none => exact hmx.elim
      | some y => simp only [concO, conc, Option.some.injEq] at hmx; exact .inr ⟨kk, by rw [hmx]⟩
  have hmh : mx' ≠ none → hi' ≠ none := by
    intro e1 e2
    subst e2
    have : hi = none := by
      cases hi with
      | none => rfl
      | some => exact hhi.elim
    have : mx ≠ none := by
      intro e; subst e
      cases mx' with
      | none => exact e1 rfl
      | some => exact hmx.elim
    exact hms this (by assumption)
  rcases em with ⟨rfl, rfl⟩ | ⟨km, rfl⟩ <;> rcases eh with ⟨rfl, rfl⟩ | ⟨kh, rfl⟩ <;> rcases el with ⟨rfl, rfl⟩ | ⟨kl, rfl⟩ <;>
    first
      | (simp only [Instr.sliceBounds, Sem.run_bind, Sem.run_pure, Result.andThen_ok, run_bound _ _ _ _ h1, run_bound _ _ _ _ h2, run_bound _ _ _ _ h3]; done)
      | (exact absurd rfl (hmh (by simp)))

end

section
variable {P : Program} {tys : T TI} (HT : TysR P tys) {k : V → Out} {r : Rz}

theorem allB_sub {l : List Nat} (h : allB l = true) (a b : Nat) : allB ((l.drop a).take b) = true := by
  simp only [allB, List.all_eq_true, decide_eq_true_eq] at *
  intro x hx
  exact h x (List.mem_of_mem_drop (List.mem_of_mem_take hx))

theorem bytesOf_extract (l : List Nat) (a b : Nat) : (bytesOf l).extract a b = bytesOf ((l.drop a).take (b - a)) := by
  apply ByteArray.ext
  apply Array.ext'
  simp [bytesOf, List.extract_eq_take_drop, List.map_take, List.map_drop]

theorem concO_none {β : Beta} {x : Option Value} (h : concO β none x) : x = none := by
  cases x with
  | none => rfl
  | some => exact h.elim

theorem sliceStr_ok {x : V} {lo hi mx : Option V} (h : sliceStr x lo hi mx k = .ok r) :
    ∃ v, k v = .ok r ∧ ∀ β vx lo' hi' mx', conc β x = some vx → concO β lo lo' → concO β hi hi' → concO β mx mx' →
      ∃ val, conc β v = some val ∧ ∀ t, P.underlying t = some .string → ∀ w, (Instr.sliceAt t vx lo' hi' mx').run P w = .ok val w := by
  unfold sliceStr at h
  cases x <;> try exact (bad_ne h).elim
  rename_i l
  cases mx <;> try exact (bad_ne h).elim
  replace h := boundN_ok h; obtain ⟨a, h, ha⟩ := h
  rw [fNat_eq] at h
  replace h := boundN_ok h; obtain ⟨b, h, hb⟩ := h
  replace h := need_ok h; obtain ⟨hc, h⟩ := h
  rw [fL_eq] at h
  replace h : k (.str ((l.drop a).take (b - a))) = .ok r := h
  have hc := Bool.and_eq_true_iff.1 hc
  have h1 : a ≤ b := Nat.le_of_ble_eq_true hc.1
  have h2 : b ≤ l.length := Nat.le_of_ble_eq_true hc.2
  refine ⟨_, h, fun β vx lo' hi' mx' hx hlo hhi hmx => ?_⟩
  obtain ⟨hl, rfl⟩ := conc_str hx
  obtain rfl := concO_none hmx
  refine ⟨.string (bytesOf ((l.drop a).take (b - a))), ?_, fun t hu w => ?_⟩
  · have := allB_sub hl a (b - a)
    simp only [conc]
    rw [if_pos this]
  · have hb' : (hi = none ∧ b = (bytesOf l).size) ∨ ∃ kk, hi = some (.int kk (.ofNat b)) := by rw [bytesOf_size]; exact hb
    have := run_bounds (P := P) (w := w) (isS := false) (len := (bytesOf l).size) (cap := (bytesOf l).size) (m := (bytesOf l).size) hlo hhi (show concO β none none from trivial) ha hb' (.inl ⟨rfl, rfl⟩) (by simp) h1 (by rw [bytesOf_size]; exact h2) (Nat.le_refl _)
    simp [Instr.sliceAt, run_underlying hu, Instr.slice, this, bytesOf_extract]

theorem offTo_eq (m a off esz : Nat) : offTo m a off esz = if m = a then off else off + a * esz := by
  unfold offTo
  by_cases e : m = a
  · have : Nat.beq m a = true := by rw [e]; simp
    rw [this, if_pos e]
  · have : Nat.beq m a = false := by
      cases hb : Nat.beq m a with
      | false => rfl
      | true => exact (e (Nat.eq_of_beq_eq_true hb)).elim
    rw [this, if_neg e]; rfl

include HT in
theorem sliceSl_ok {e : Nat} {x : V} {lo hi mx : Option V} (hms : mx ≠ none → hi ≠ none) (h : sliceSl tys e x lo hi mx k = .ok r) :
    ∃ v, k v = .ok r ∧ ∀ β vx lo' hi' mx', conc β x = some vx → concO β lo lo' → concO β hi hi' → concO β mx mx' →
      ∃ val, conc β v = some val ∧ ∀ t, P.underlying t = some (.slice e) → ∀ w, (Instr.sliceAt t vx lo' hi' mx').run P w = .ok val w := by
  unfold sliceSl at h
  cases x <;> try exact (bad_ne h).elim
  case slice id off len ex kk low =>
    replace h := om_ok h; obtain ⟨te, hte, h⟩ := h
    replace h := boundN_ok h; obtain ⟨a, h, ha⟩ := h
    replace h := boundN_ok h; obtain ⟨b, h, hb⟩ := h
    cases mx with
    | none =>
      replace h := need_ok h; obtain ⟨hc, h⟩ := h
      have hc := Bool.and_eq_true_iff.1 hc
      have h1 : a ≤ b := Nat.le_of_ble_eq_true hc.1
      have h2 : b ≤ low := Nat.le_of_ble_eq_true hc.2
      unfold sliceSl2 at h
      rw [fNat_eq, fNat_eq] at h
      have hv : ∃ v, k v = .ok r ∧ ∀ β bb, β id = some bb → low ≤ capOf bb ex kk → conc β v = some (.slice (some ⟨bb.blk, bb.off + (if capOf bb ex kk = a then off else off + a * te.size), none⟩) (b - a) (capOf bb ex kk - a)) := by
        cases ex with
        | true =>
          replace h : fNat (offTo kk a off te.size) (fun off => fNat (Nat.sub kk a) (fun kk => k (.slice id off (b - a) true kk (low - a)))) = .ok r := h
          rw [fNat_eq, fNat_eq] at h
          refine ⟨_, h, fun β bb hbb hle => ?_⟩
          simp only [capOf, if_true] at hle ⊢
          simp only [conc, hbb, Option.bind_some, capOf, if_true, offTo_eq]
          rw [if_pos (show low - a ≤ Nat.sub kk a from Nat.sub_le_sub_right hle a)]
          rfl
        | false =>
          replace h : (Bool.rec (need (Nat.beq b a) (k (.tail id off a te.size kk))) (fNat (Nat.add off (Nat.mul a te.size)) fun off => fNat (Nat.add kk a) fun kk => k (.slice id off (b - a) false kk (low - a))) (or (Nat.beq a 0) (Nat.ble (Nat.succ a) low)) : Out) = .ok r := h
          rcases rec_ok h with ⟨hq, h⟩ | ⟨hq, h⟩
          · rw [fNat_eq, fNat_eq] at h
            refine ⟨_, h, fun β bb hbb hle => ?_⟩
            simp only [capOf, Bool.false_eq_true, if_false] at hle ⊢
            simp only [conc, hbb, Option.bind_some, capOf, Bool.false_eq_true, if_false]
            have e1 : bb.room - Nat.add kk a = bb.room - kk - a := by show bb.room - (kk + a) = _; omega
            rw [e1, if_pos (by omega)]
            rcases Bool.or_eq_true_iff.1 hq with hq | hq
            · have : a = 0 := Nat.eq_of_beq_eq_true hq
              subst this
              have e2 : Nat.add off (Nat.mul 0 te.size) = off := by show off + 0 * te.size = off; simp
              rw [e2]
              split <;> simp
            · have : a < low := Nat.le_of_ble_eq_true hq
              rw [if_neg (show ¬ bb.room - kk = a by omega)]; rfl
          · replace h := need_ok h; obtain ⟨hb0, h⟩ := h
            have : b = a := Nat.eq_of_beq_eq_true hb0
            subst this
            refine ⟨_, h, fun β bb hbb hle => ?_⟩
            simp only [capOf, Bool.false_eq_true, if_false] at hle ⊢
            simp [conc, hbb]
      obtain ⟨v, h, hcap⟩ := hv
      refine ⟨_, h, fun β vx lo' hi' mx' hx hlo hhi hmx => ?_⟩
      obtain ⟨bb, hbb, hle, rfl⟩ := conc_slice hx
      obtain rfl := concO_none hmx
      refine ⟨_, hcap β bb hbb hle, fun t hu w => ?_⟩
      · have := run_bounds (P := P) (w := w) (isS := true) (len := len) (cap := capOf bb ex kk) (m := capOf bb ex kk) hlo hhi (show concO β none none from trivial) ha hb (.inl ⟨rfl, rfl⟩) (by simp) h1 (by omega) (Nat.le_refl _)
        simp only [Instr.sliceAt, Sem.run_bind, run_underlying hu, Result.andThen_ok, Instr.slice, this, (HT _ _ hte).sizeOf, Sem.run_pure]
        congr 2
        split
        · rfl
        · simp [add_none, Nat.add_assoc]
    | some mx =>
      replace h := boundN_ok h; obtain ⟨m, h, hm⟩ := h
      replace h := need_ok h; obtain ⟨hc, h⟩ := h
      have hc := Bool.and_eq_true_iff.1 hc
      have hc2 := Bool.and_eq_true_iff.1 hc.2
      have h1 : a ≤ b := Nat.le_of_ble_eq_true hc.1
      have h2 : b ≤ m := Nat.le_of_ble_eq_true hc2.1
      have h3 : m ≤ low := Nat.le_of_ble_eq_true hc2.2
      unfold sliceSl3 at h
      rw [fNat_eq, fNat_eq, fNat_eq] at h
      have hm' : (some mx = none ∧ m = 0) ∨ ∃ kk, some mx = some (.int kk (.ofNat m)) := hm
      refine ⟨_, h, fun β vx lo' hi' mx' hx hlo hhi hmx => ?_⟩
      obtain ⟨bb, hbb, hle, rfl⟩ := conc_slice hx
      refine ⟨.slice (some ⟨bb.blk, bb.off + offTo m a off te.size, none⟩) (b - a) (m - a), ?_, fun t hu w => ?_⟩
      · simp only [conc, hbb, Option.bind_some, capOf, if_true]
        simp
      · have := run_bounds (P := P) (w := w) (isS := true) (len := len) (cap := capOf bb ex kk) (m := m) hlo hhi hmx ha hb (by
          rcases hm' with ⟨e, _⟩ | e
          · cases e
          · exact .inr e) hms h1 h2 (by omega)
        simp only [Instr.sliceAt, Sem.run_bind, run_underlying hu, Result.andThen_ok, Instr.slice, this, (HT _ _ hte).sizeOf, Sem.run_pure]
        congr 2
        rw [offTo_eq]
        split
        · rfl
        · simp [add_none, Nat.add_assoc]
  case base v =>
    cases v <;> try exact (bad_ne h).elim
    rename_i ad z1 z2
    cases ad <;> try exact (bad_ne h).elim
    replace h := om_ok h; obtain ⟨te, hte, h⟩ := h
    replace h := boundN_ok h; obtain ⟨a, h, ha⟩ := h
    replace h := boundN_ok h; obtain ⟨b, h, hb⟩ := h
    replace h := boundN_ok h; obtain ⟨m, h, hm⟩ := h
    replace h := need_ok h; obtain ⟨hc, h⟩ := h
    simp only [Bool.and_eq_true, Nat.beq_eq] at hc
    obtain ⟨rfl, rfl, rfl, rfl, rfl⟩ := hc
    refine ⟨_, h, fun β vx lo' hi' mx' hx hlo hhi hmx => ?_⟩
    have hx0 := hx
    obtain rfl := conc_base hx
    refine ⟨_, hx0, fun t hu w => ?_⟩
    have := run_bounds (P := P) (w := w) (isS := true) (len := 0) (cap := 0) (m := 0) hlo hhi hmx ha hb hm hms (Nat.le_refl 0) (Nat.le_refl 0) (Nat.le_refl 0)
    simp [Instr.sliceAt, run_underlying hu, Instr.slice, this, (HT _ _ hte).sizeOf]

include HT in
theorem sliceAr_ok {m0 e : Nat} {x : V} {lo hi mx : Option V} (h : sliceAr tys m0 e x lo hi mx k = .ok r) :
    ∃ v, k v = .ok r ∧ ∀ β vx lo' hi' mx', conc β x = some vx → concO β lo lo' → concO β hi hi' → concO β mx mx' →
      ∃ val, conc β v = some val ∧ ∀ t, P.underlying t = some (.array m0 e) → ∀ w, (Instr.sliceAt t vx lo' hi' mx').run P w = .ok val w := by
  unfold sliceAr at h
  cases x <;> try exact (bad_ne h).elim
  rename_i id off
  cases mx <;> try exact (bad_ne h).elim
  replace h := om_ok h; obtain ⟨te, hte, h⟩ := h
  replace h := boundN_ok h; obtain ⟨a, h, ha⟩ := h
  replace h := boundN_ok h; obtain ⟨b, h, hb⟩ := h
  replace h := need_ok h; obtain ⟨hc, h⟩ := h
  have hc := Bool.and_eq_true_iff.1 hc
  have h1 : a ≤ b := Nat.le_of_ble_eq_true hc.1
  have h2 : b ≤ m0 := Nat.le_of_ble_eq_true hc.2
  unfold sliceSl3 at h
  rw [fNat_eq, fNat_eq, fNat_eq] at h
  refine ⟨_, h, fun β vx lo' hi' mx' hx hlo hhi hmx => ?_⟩
  obtain ⟨bb, hbb, rfl⟩ := conc_ptr hx
  obtain rfl := concO_none hmx
  refine ⟨.slice (some ⟨bb.blk, bb.off + offTo m0 a off te.size, none⟩) (b - a) (m0 - a), ?_, fun t hu w => ?_⟩
  · simp only [conc, hbb, Option.bind_some, capOf, if_true]
    simp
  · have := run_bounds (P := P) (w := w) (isS := false) (len := m0) (cap := m0) (m := m0) hlo hhi (show concO β none none from trivial) ha hb (.inl ⟨rfl, rfl⟩) (by simp) h1 h2 (Nat.le_refl _)
    simp only [Instr.sliceAt, Sem.run_bind, run_underlying hu, Result.andThen_ok, Instr.sureAddr, this, (HT _ _ hte).sizeOf, Sem.run_pure]
    congr 2
    rw [offTo_eq]
    split
    · rfl
    · simp [add_none, Nat.add_assoc]

include HT in
theorem sliceK_ok {t : Nat} {x : V} {lo hi mx : Option V} (hms : mx ≠ none → hi ≠ none) (h : sliceK tys t x lo hi mx k = .ok r) :
    ∃ v, k v = .ok r ∧ ∀ β vx lo' hi' mx', conc β x = some vx → concO β lo lo' → concO β hi hi' → concO β mx mx' →
      ∃ val, conc β v = some val ∧ ∀ w, (Instr.sliceAt t vx lo' hi' mx').run P w = .ok val w := by
  replace h := om_ok h; obtain ⟨ti, hti, h⟩ := h
  have T := HT _ _ hti
  split at h
  · rename_i hk
    obtain ⟨v, h, hv⟩ := sliceStr_ok (P := P) h
    exact ⟨v, h, fun β vx lo' hi' mx' a b c d => let ⟨val, e, f⟩ := hv β vx lo' hi' mx' a b c d; ⟨val, e, f t (T.string hk)⟩⟩
  · rename_i e hk
    obtain ⟨v, h, hv⟩ := sliceSl_ok HT hms h
    exact ⟨v, h, fun β vx lo' hi' mx' a b c d => let ⟨val, e, f⟩ := hv β vx lo' hi' mx' a b c d; ⟨val, e, f t (T.slice hk)⟩⟩
  · rename_i n e hk
    obtain ⟨v, h, hv⟩ := sliceAr_ok HT h
    exact ⟨v, h, fun β vx lo' hi' mx' a b c d => let ⟨val, e, f⟩ := hv β vx lo' hi' mx' a b c d; ⟨val, e, f t (T.array hk)⟩⟩
  · exact (bad_ne h).elim

/- lengths -/
theorem kN_eq (k : V → Out) (n : Nat) : kN k n = k (.int .i64 (.ofNat n)) := fNat_eq n _

theorem goInt_eq (n : Nat) : goInt (n : Int) = .int .i64 (Int.ofNat n) := rfl

theorem oMap_ok {o : O} {kk : List (V × V × Nat) → Nat → Out} (h : oMap o kk = .ok r) : ∃ es c, o = .map es c ∧ kk es c = .ok r := by
  cases o <;> first | exact ⟨_, _, rfl, h⟩ | exact (bad_ne h).elim

theorem EntsR.len {β : Beta} : ∀ {es : List (V × V × Nat)} {ms : List MapEntry}, EntsR β es ms → es.length = ms.length
  | [], [], _ => rfl
  | _ :: _, _ :: _, h => by simp [EntsR.len h.2.2.2]
  | [], _ :: _, h => h.elim
  | _ :: _, [], h => h.elim

include HT in
theorem lenV_ok {h : T O} {t : Nat} {x : V} (e : lenV tys h t x k = .ok r) :
    ∃ v, k v = .ok r ∧ ∀ W0 β n w, HR W0 β h n w → ∀ vx, conc β x = some vx → ∃ val, conc β v = some val ∧ ∀ ty, (Builtin.len_ #[t] ty #[vx]).run P w = .ok val w := by
  replace e := om_ok e; obtain ⟨ti, hti, e⟩ := e
  have T := HT _ _ hti
  split at e
  · rename_i hk
    cases x <;> try exact (bad_ne e).elim
    rename_i l
    replace e : kN k l.length = .ok r := e
    rw [kN_eq] at e
    refine ⟨_, e, fun W0 β n w H vx hx => ⟨_, rfl, fun ty => ?_⟩⟩
    obtain ⟨hl, rfl⟩ := conc_str hx
    rw [run_len_string w t ty _ (T.string hk), bytesOf_size]; rfl
  · rename_i el hk
    unfold lenSl at e
    cases x <;> try exact (bad_ne e).elim
    case tail id off a esz kk =>
      replace e : kN k 0 = .ok r := e
      rw [kN_eq] at e
      refine ⟨_, e, fun W0 β n w H vx hx => ⟨_, rfl, fun ty => ?_⟩⟩
      simp only [conc, Option.map_eq_some_iff] at hx
      obtain ⟨b, hb, rfl⟩ := hx
      simp [Builtin.len_, run_underlying (T.slice hk), goInt]
    case slice id off len ex kk lo =>
      replace e : kN k len = .ok r := e
      rw [kN_eq] at e
      refine ⟨_, e, fun W0 β n w H vx hx => ⟨_, rfl, fun ty => ?_⟩⟩
      obtain ⟨b, hb, _, rfl⟩ := conc_slice hx
      simp [Builtin.len_, run_underlying (T.slice hk), goInt]
    case base v =>
      cases v <;> try exact (bad_ne e).elim
      rename_i ad z1 z2
      replace e : kN k z1 = .ok r := e
      rw [kN_eq] at e
      refine ⟨_, e, fun W0 β n w H vx hx => ⟨_, rfl, fun ty => ?_⟩⟩
      obtain rfl := conc_base hx
      simp [Builtin.len_, run_underlying (T.slice hk), goInt]
  · rename_i kt et hk
    unfold lenMap at e
    cases x <;> try exact (bad_ne e).elim
    case map id =>
      replace e := om_ok e; obtain ⟨o, ho, e⟩ := e
      replace e := oMap_ok e; obtain ⟨es, c, rfl, e⟩ := e
      rw [kN_eq] at e
      refine ⟨_, e, fun W0 β n w H vx hx => ⟨_, rfl, fun ty => ?_⟩⟩
      obtain ⟨b, hb, rfl⟩ := conc_map hx
      obtain ⟨ms, hms, hE⟩ := H.obj id _ b ho hb
      have : (getObj b.blk).run P w = .ok (.map ms c) w := by simp [getObj, Sem.run, hms]
      have hl := hE.len
      simp only [Array.length_toList] at hl
      simp [Builtin.len_, run_underlying (T.map hk), goInt, this, hl]
    case base v =>
      cases v <;> try exact (bad_ne e).elim
      rename_i ad
      cases ad <;> try exact (bad_ne e).elim
      replace e : kN k 0 = .ok r := e
      rw [kN_eq] at e
      refine ⟨_, e, fun W0 β n w H vx hx => ⟨_, rfl, fun ty => ?_⟩⟩
      obtain rfl := conc_base hx
      simp [Builtin.len_, run_underlying (T.map hk), goInt]
  · exact (bad_ne e).elim

end

end Go.Mir
namespace Go.Mir
open Go Go.RowKit

section
variable {P : Program} {tys : T TI} (HT : TysR P tys) {k : V → Out} {r : Rz}

theorem wrapK_eq (kk : IntKind) (z : Int) (k : V → Out) : wrapK kk z k = k (.int kk (kk.wrap z)) := fInt_eq _ _

theorem wrap8 (m : Nat) (h : m ≤ 255) : IntKind.u8.wrap (m : Int) = m := by
  have h1 : (IntKind.u8.bits : Nat) = 8 := rfl
  have : (m : Int) % (2 ^ 8 : Int) = m := Int.emod_eq_of_lt (by omega) (by omega)
  unfold IntKind.wrap
  simp only [h1, this]
  rw [if_neg]
  simp [IntKind.signed]

theorem convInt_ok {kk : IntKind} {z : Int} (h : convInt kk z k = .ok r) : k (.int kk (kk.wrap z)) = .ok r := by
  unfold convInt at h
  split at h
  · rename_i n
    rcases rec_ok h with ⟨hb, h⟩ | ⟨_, h⟩
    · have := wrap64 n (Nat.le_of_ble_eq_true hb)
      have e : IntKind.i64.wrap (Int.ofNat n) = Int.ofNat n := this
      rw [e]; exact h
    · rw [wrapK_eq] at h; exact h
  · rename_i n
    rcases rec_ok h with ⟨hb, h⟩ | ⟨_, h⟩
    · have := wrap8 n (Nat.le_of_ble_eq_true hb)
      have e : IntKind.u8.wrap (Int.ofNat n) = Int.ofNat n := this
      rw [e]; exact h
    · rw [wrapK_eq] at h; exact h
  · rw [wrapK_eq] at h; exact h

theorem natsOf_ok : ∀ {l : List V} {kk : List Nat → Out}, natsOf l kk = .ok r → ∃ ns : List Nat, kk ns = .ok r ∧ l = ns.map (fun n => V.int .u8 (.ofNat n)) ∧ allB ns = true
  | [], kk, h => ⟨[], h, rfl, rfl⟩
  | v :: l, kk, h => by
    replace h : (match v with | .int .u8 (.ofNat n) => need (Nat.ble n 255) (natsOf l fun l => kk (n :: l)) | _ => bad 41) = .ok r := h
    split at h
    · rename_i n
      replace h := need_ok h; obtain ⟨hn, h⟩ := h
      replace h := natsOf_ok h; obtain ⟨ns, h, rfl, hl⟩ := h
      have : n ≤ 255 := Nat.le_of_ble_eq_true hn
      exact ⟨n :: ns, h, rfl, by simp only [allB, List.all_cons, Bool.and_eq_true, decide_eq_true_eq] at *; exact ⟨by omega, hl⟩⟩
    · exact (bad_ne h).elim

theorem isU8_ok {e : Nat} (HT : TysR P tys) (h : isU8 tys e = true) : P.underlying e = some (.int .u8) := by
  unfold isU8 at h
  split at h
  · rename_i ti hti
    split at h
    · rename_i hk; exact (HT _ _ hti).int hk
    · cases h
  · cases h

theorem concL_ints {β : Beta} : ∀ {ns : List Nat} {vs : List Value}, concL β (ns.map fun n => V.int .u8 (.ofNat n)) = some vs → vs = ns.map fun n => Value.int .u8 (.ofNat n)
  | [], vs, h => by simp [concL] at h; simp [h]
  | n :: ns, vs, h => by
    simp only [List.map_cons, concL, conc, Option.bind_some, Option.map_eq_some_iff] at h
    obtain ⟨z, hz, rfl⟩ := h
    rw [concL_ints hz]; rfl

theorem fold_push : ∀ (ns : List Nat) (s : ByteArray), (ns.map (fun n : Nat => (Int.ofNat n))).foldl (fun r n => r.push (UInt8.ofNat n.toNat)) s = s ++ bytesOf ns
  | [], s => by
    apply ByteArray.ext; simp [bytesOf]
  | n :: ns, s => by
    simp only [List.map_cons, List.foldl_cons]
    rw [fold_push ns]
    apply ByteArray.ext
    apply Array.ext'
    simp [bytesOf]

include HT in
theorem convStr_ok {h : T O} {src dst : Nat} {ti : TI} (hti : tys.get src = some ti) {x : V} (e : convStr tys h ti.kind x k = .ok r) (hd : P.underlying dst = some .string) :
    ∃ v, k v = .ok r ∧ ∀ W0 β n w, HR W0 β h n w → ∀ vx, conc β x = some vx → ∃ val, conc β v = some val ∧ (convert src dst vx).run P w = .ok val w := by
  have T := HT _ _ hti
  unfold convStr at e
  cases hk : ti.kind <;> rw [hk] at e <;> try exact (bad_ne e).elim
  case string =>
    cases x <;> try exact (bad_ne e).elim
    rename_i l
    refine ⟨_, e, fun W0 β n w H vx hx => ⟨vx, hx, ?_⟩⟩
    obtain ⟨hl, rfl⟩ := conc_str hx
    simp [convert, run_underlying (T.string hk), run_underlying hd]
  case slice el =>
    cases x <;> try exact (bad_ne e).elim
    case slice id off len ex kk lo =>
      replace e := need_ok e; obtain ⟨hu8, e⟩ := e
      have hu8 := isU8_ok HT hu8
      replace e := cellsAt_ok e; obtain ⟨l, e, hl, hcells⟩ := e
      replace e := natsOf_ok e; obtain ⟨ns, e, rfl, hns⟩ := e
      refine ⟨_, e, fun W0 β n w H vx hx => ?_⟩
      obtain ⟨b, hb, _, rfl⟩ := conc_slice hx
      obtain ⟨vs, hvs, hlen, hcell⟩ := hcells W0 β n w H b hb
      have hv := concL_ints hvs
      refine ⟨.string (bytesOf ns), by simp [conc, hns], ?_⟩
      rw [run_convert_bytes_string w src dst el _ _ _ (T.slice hk) hu8 hd]
      have hload := run_loadCells_list (P := P) w ⟨b.blk, b.off + off, none⟩ vs (fun j v hj => by rw [add_none]; exact hcell j v hj)
      rw [hlen] at hload
      have hload2 : (loadCells ⟨b.blk, b.off + off, none⟩ len).run P w = .ok ((ns.map (fun n : Nat => (Int.ofNat n))).map (Value.int .u8)).toArray w := by
        rw [hload, hv, List.map_map]; rfl
      rw [run_bytesToString w _ len _ _ hload2, fold_push]
      congr 2
    case base v =>
      cases v <;> try exact (bad_ne e).elim
      rename_i ad z1 z2
      cases ad <;> try exact (bad_ne e).elim
      replace e := need_ok e; obtain ⟨hu8, e⟩ := e
      have hu8 := isU8_ok HT hu8
      refine ⟨_, e, fun W0 β n w H vx hx => ?_⟩
      obtain rfl := conc_base hx
      refine ⟨.string .empty, ?_, ?_⟩
      · have : allB [] = true := rfl
        simp only [conc, this, if_true]; rfl
      · rw [run_convert_bytes_string w src dst el _ _ _ (T.slice hk) hu8 hd]
        simp [Conv.bytesToString]

include HT in
theorem convK_ok {h : T O} {src dst : Nat} {x : V} (e : convK tys h src dst x k = .ok r) :
    ∃ v, k v = .ok r ∧ ∀ W0 β n w, HR W0 β h n w → ∀ vx, conc β x = some vx → ∃ val, conc β v = some val ∧ (convert src dst vx).run P w = .ok val w := by
  replace e := om_ok e; obtain ⟨ts, hts, e⟩ := e
  replace e := om_ok e; obtain ⟨td, htd, e⟩ := e
  have Ts := HT _ _ hts
  have Td := HT _ _ htd
  obtain ⟨ds, hds, _⟩ := Ts.und
  split at e
  · rename_i kk hk
    cases x <;> try exact (bad_ne e).elim
    rename_i k0 z
    replace e := convInt_ok e
    refine ⟨_, e, fun W0 β n w H vx hx => ⟨_, rfl, ?_⟩⟩
    simp only [conc, Option.some.injEq] at hx; subst hx
    simp [convert, run_underlying hds, run_underlying (Td.int hk), Conv.intToInt]
  · rename_i kk hk
    cases x <;> try exact (bad_ne e).elim
    rename_i k0 z
    replace e : fNat (kk.nearest z) (fun b => k (.base (.float kk b))) = .ok r := e
    rw [fNat_eq] at e
    refine ⟨_, e, fun W0 β n w H vx hx => ⟨_, rfl, ?_⟩⟩
    simp only [conc, Option.some.injEq] at hx; subst hx
    simp [convert, run_underlying hds, run_underlying (Td.float hk), Conv.intToFloat]
  · rename_i hk
    exact convStr_ok HT hts e (Td.string hk)
  · exact (bad_ne e).elim

/- loads -/
include HT in
theorem loadK_ok {h : T O} {t : Nat} {a : V} (e : loadK tys h t a k = .ok r) :
    ∃ v, k v = .ok r ∧ ∀ W0 β n w, HR W0 β h n w → ∀ va, conc β a = some va → ∃ ad, va = .pointer (some ad) ∧ ∃ val, conc β v = some val ∧ (loadVar t ad).run P w = .ok val w := by
  unfold loadK at e
  cases a <;> try exact (bad_ne e).elim
  rename_i id off
  replace e := om_ok e; obtain ⟨ti, hti, e⟩ := e
  have T := HT _ _ hti
  rcases rec_ok e with ⟨hk, e⟩ | ⟨hk, e⟩
  · replace e := cellsAt_ok e; obtain ⟨l, e, hl, hcells⟩ := e
    refine ⟨_, e, fun W0 β n w H va ha => ?_⟩
    obtain ⟨b, hb, rfl⟩ := conc_ptr ha
    obtain ⟨vs, hvs, hlen, hcell⟩ := hcells W0 β n w H b hb
    refine ⟨_, rfl, .agg vs.toArray, by simp [conc, hvs], ?_⟩
    have hload := run_loadCells_list (P := P) w ⟨b.blk, b.off + off, none⟩ vs (fun j v hj => by rw [add_none]; exact hcell j v hj)
    rw [hlen] at hload
    simp [loadVar, T.isAgg, hk, T.sizeOf, hload]
  · replace e := cellAt_ok e; obtain ⟨v, e, hcell⟩ := e
    refine ⟨v, e, fun W0 β n w H va ha => ?_⟩
    obtain ⟨b, hb, rfl⟩ := conc_ptr ha
    obtain ⟨x, hx, hc⟩ := hcell W0 β n w H b hb
    exact ⟨_, rfl, x, hc, by simp [loadVar, T.isAgg, hk, hx]⟩

end

end Go.Mir
namespace Go.Mir
open Go Go.RowKit

section
variable {P : Program} {tys : T TI} (HT : TysR P tys) {r : Rz}

theorem sameNow_run {kt : TypeId} {d : TypeDesc} (hu : P.underlying kt = some d) {x y : Value} {c : Bool} (h : Instr.sameNow d x y = some c) (w : World) :
    (Op.equal kt x y).run P w = .ok c w := by
  unfold Instr.sameNow at h
  split at h
  · split at h
    · rename_i k a k' b hk
      subst hk; cases h
      exact run_equalIn_int w 9999 kt _ _ a b hu
    · cases h
  · cases h
    show (Op.equalIn (9999 + 1) kt _ _).run P w = _
    rw [run_equalIn_string w 9999 kt _ _ hu, beq_toListBytes]
  · cases h
    exact run_equalIn_bool' w 9999 kt _ _ hu
  · cases h

theorem findNow_run {kt : TypeId} {d : TypeDesc} (hu : P.underlying kt = some d) {x : Value} (w : World) : ∀ (ms : List MapEntry) (i : Nat) (res : Option (Nat × Value)),
    Instr.findNow d x ms i = some res → (Instr.findAsking kt x ms i).run P w = .ok res w
  | [], i, res, h => by simp only [Instr.findNow, Option.some.injEq] at h; subst h; rfl
  | m :: ms, i, res, h => by
    simp only [Instr.findNow] at h
    split at h
    · rename_i hs
      cases h
      simp [Instr.findAsking, sameNow_run hu hs]
    · rename_i hs
      have := findNow_run hu w ms (i + 1) res h
      simp [Instr.findAsking, sameNow_run hu hs, this]
    · cases h

theorem findKey_run {kt : TypeId} {d : TypeDesc} (hu : P.underlying kt = some d) {x : Value} (w : World) (ms : List MapEntry) {res : Option (Nat × Value)}
    (h : (Instr.findAsking kt x ms 0).run P w = .ok res w) : (Instr.findKey kt x ms).run P w = .ok res w := by
  simp only [Instr.findKey, Sem.run_bind, run_underlying hu, Result.andThen_ok]
  cases hn : Instr.findNow d x ms 0 with
  | none => exact h
  | some r' =>
    have := findNow_run hu w ms 0 r' hn
    rw [this] at h
    cases h; rfl

include HT in
theorem keyEq_ok {tk : TI} {x y : V} {kb : Bool → Out} (h : keyEq tys tk x y kb = .ok r) : ∃ b, kb b = .ok r ∧ EqSpec P 20 tk x y b ∧ (b = true → KeySpec P 20 tk x y) := by
  unfold keyEq at h
  split at h
  · replace h := need_ok h; obtain ⟨_, h⟩ := h
    exact eqT_ok HT 20 _ _ _ _ _ h
  · exact eqT_ok HT 20 _ _ _ _ _ h

/-- what the search for a key tells -/
def FindSpec (P : Program) (tk : TI) (x : V) (es : List (V × V × Nat)) (i0 : Nat) (res : Option (Nat × (V × V × Nat))) : Prop :=
  ∀ kt, TIok P kt tk → ∀ β vx, conc β x = some vx → ∀ ms, EntsR β es ms → ∀ w,
    match res with
    | none => (Instr.findAsking kt vx ms i0).run P w = .ok none w
    | some (i, e) => ∃ m, ms[i - i0]? = some m ∧ i0 ≤ i ∧ es[i - i0]? = some e ∧ (Instr.findAsking kt vx ms i0).run P w = .ok (some (i, m.val)) w ∧
        conc β e.1 = some m.key ∧ conc β e.2.1 = some m.val ∧ m.born = e.2.2

include HT in
theorem find_go {tk : TI} {x : V} {kn : Out} {kf : Nat → V × V × Nat → Out} : ∀ (es : List (V × V × Nat)) (i0 : Nat),
    (List.rec (motive := fun _ => Nat → Out) (fun _ => kn) (fun e _ ih i => keyEq tys tk x e.1 fun r => Bool.rec (ih (Nat.succ i)) (kf i e) r) es i0 : Out) = .ok r →
    ∃ res, (match res with | none => kn | some (i, e) => kf i e) = .ok r ∧ FindSpec P tk x es i0 res
  | [], i0, h => ⟨none, h, fun kt T β vx hx ms hms w => by
      cases ms with
      | nil => rfl
      | cons => exact hms.elim⟩
  | e :: es, i0, h => by
    replace h := keyEq_ok HT h; obtain ⟨b, h, hb, _⟩ := h
    rcases rec_ok h with ⟨rfl, h⟩ | ⟨rfl, h⟩
    · refine ⟨some (i0, e), h, fun kt T β vx hx ms hms w => ?_⟩
      cases ms with
      | nil => exact hms.elim
      | cons m ms =>
        obtain ⟨h1, h2, h3, _⟩ := hms
        have heq : (Op.equal kt vx m.key).run P w = .ok true w := hb kt T β vx _ hx h1 10000 w (by omega)
        exact ⟨m, by simp, Nat.le_refl _, by simp, by simp [Instr.findAsking, heq], h1, h2, h3⟩
    · obtain ⟨res, h, hs⟩ := find_go es (i0 + 1) h
      refine ⟨res, h, fun kt T β vx hx ms hms w => ?_⟩
      cases ms with
      | nil => exact hms.elim
      | cons m ms =>
        obtain ⟨h1, h2, h3, h4⟩ := hms
        have heq : (Op.equal kt vx m.key).run P w = .ok false w := hb kt T β vx _ hx h1 10000 w (by omega)
        have := hs kt T β vx hx ms h4 w
        cases res with
        | none =>
          have : (Instr.findAsking kt vx ms (i0 + 1)).run P w = .ok none w := this
          show (Instr.findAsking kt vx (m :: ms) i0).run P w = .ok none w
          simp [Instr.findAsking, heq, this]
        | some p =>
          obtain ⟨i, e'⟩ := p
          obtain ⟨m', a1, a2, a3, a4, a5⟩ := this
          have e1 : i - i0 = (i - (i0 + 1)) + 1 := by omega
          refine ⟨m', by rw [e1]; simpa using a1, by omega, by rw [e1]; simpa using a3, by simp [Instr.findAsking, heq, a4], a5⟩

include HT in
theorem find_ok {tk : TI} {x : V} {es : List (V × V × Nat)} {kn : Out} {kf : Nat → V × V × Nat → Out} (h : find tys tk x es kn kf = .ok r) :
    ∃ res, (match res with | none => kn | some (i, e) => kf i e) = .ok r ∧ FindSpec P tk x es 0 res := find_go HT es 0 h

theorem one_ok {l : List V} {k : V → Out} (h : one l k = .ok r) : ∃ v, l = [v] ∧ k v = .ok r := by
  unfold one at h
  split at h
  · exact ⟨_, rfl, h⟩
  · exact (bad_ne h).elim

theorem zeroV_ok {te : TI} {k : V → Out} (h : zeroV te k = .ok r) : ∃ v, k v = .ok r ∧ ∀ P t, TIok P t te → ∃ z, (∀ w, (zeroValue t).run P w = .ok z w) ∧ ∀ β, conc β v = some z := by
  rcases rec_ok h with ⟨ha, h⟩ | ⟨ha, h⟩
  · refine ⟨_, h, fun P t T => ?_⟩
    obtain ⟨z, hz, hc, hagg, _, _⟩ := T.zero default
    obtain ⟨cs, rfl⟩ := hagg ha
    refine ⟨.agg cs, fun w => ?_, fun β => ?_⟩
    · obtain ⟨z', hz', _⟩ := T.zero w
      have : z' = .agg cs := by
        have h1 : (zeroValue t).run P w = .ok z' w := hz'
        obtain ⟨i, hi, _, _, zz, hzz, _⟩ := T.info
        simp [zeroValue, run_typeInfo _ hi, hzz] at h1 hz
        rw [← h1, hz]
      rw [hz', this]
    · have := hc β
      simp only [Value.cells] at this
      simp [conc, this]
  · replace h := one_ok h; obtain ⟨v, hv, h⟩ := h
    refine ⟨_, h, fun P t T => ?_⟩
    obtain ⟨z, hz, hc, _, hone, _⟩ := T.zero default
    have hcells := hone ha
    refine ⟨z, fun w => ?_, fun β => ?_⟩
    · obtain ⟨z', hz', _⟩ := T.zero w
      have : z' = z := by
        obtain ⟨i, hi, _, _, zz, hzz, _⟩ := T.info
        simp [zeroValue, run_typeInfo _ hi, hzz] at hz' hz
        rw [← hz', hz]
      rw [hz', this]
    · have := hc β
      rw [hv, hcells] at this
      simp only [concL, Option.bind_eq_some_iff, Option.map_eq_some_iff] at this
      obtain ⟨a, ha, b, hb, he⟩ := this
      simp at hb; subst hb
      simp at he; subst he
      exact ha

theorem mapTy_ok {t : Nat} {kk : TI → TI → Out} (h : mapTy tys t kk = .ok r) : ∃ ti kt et tk te, tys.get t = some ti ∧ ti.kind = .map kt et ∧ tys.get kt = some tk ∧ tys.get et = some te ∧ kk tk te = .ok r := by
  replace h := om_ok h; obtain ⟨ti, hti, h⟩ := h
  split at h
  · rename_i kt et hk
    replace h := om_ok h; obtain ⟨tk, htk, h⟩ := h
    replace h := om_ok h; obtain ⟨te, hte, h⟩ := h
    exact ⟨ti, kt, et, tk, te, hti, hk, htk, hte, h⟩
  · exact (bad_ne h).elim

theorem run_getMap {W0 : World} {β : Beta} {h : T O} {n : Nat} {w : World} (H : HR W0 β h n w) {id : Nat} {b : Blk} {es : List (V × V × Nat)} {c : Nat} (ho : h.get id = some (.map es c)) (hb : β id = some b) :
    ∃ ms, (getObj b.blk).run P w = .ok (.map ms c) w ∧ w.heap[b.blk]? = some (.map ms c) ∧ EntsR β es ms.toList := by
  obtain ⟨ms, hms, hE⟩ := H.obj id _ b ho hb
  exact ⟨ms, by simp [getObj, Sem.run, hms], hms, hE⟩

include HT in
theorem lookupK_ok {h : T O} {t : Nat} {m x : V} {ok : Bool} {k : V → Out} (e : lookupK tys h t m x ok k = .ok r) :
    ∃ v, k v = .ok r ∧ ∀ W0 β n w, HR W0 β h n w → ∀ vm vx, conc β m = some vm → conc β x = some vx → ∃ val, conc β v = some val ∧ (Instr.lookup t vm vx ok).run P w = .ok val w := by
  replace e := mapTy_ok e; obtain ⟨ti, kt, et, tk, te, hti, hk, htk, hte, e⟩ := e
  have Tk := HT _ _ htk
  have Te := HT _ _ hte
  have hu := (HT _ _ hti).map hk
  obtain ⟨dk, hdk, _⟩ := Tk.und
  replace e := need_ok e; obtain ⟨_, e⟩ := e
  -- the value told
  have out : ∀ {v : V} {b : Bool}, (Bool.rec (k v) (k (.tuple [v, .bool b])) ok : Out) = .ok r → ∃ u, k u = .ok r ∧
      ∀ β val, conc β v = some val → conc β u = some (if ok then .tuple #[val, .bool b] else val) := by
    intro v b e
    rcases rec_ok e with ⟨rfl, e⟩ | ⟨rfl, e⟩
    · exact ⟨_, e, fun β val hv => by simp [conc, concL, hv]⟩
    · exact ⟨_, e, fun β val hv => by simp [hv]⟩
  cases m <;> try exact (bad_ne e).elim
  case map id =>
    replace e := om_ok e; obtain ⟨o, ho, e⟩ := e
    replace e := oMap_ok e; obtain ⟨es, c, rfl, e⟩ := e
    replace e := keyEq_ok HT e; obtain ⟨b, e, _, hkey⟩ := e
    replace e := need_ok e; obtain ⟨hb, e⟩ := e
    have hkey := hkey hb
    replace e := find_ok HT e; obtain ⟨res, e, hres⟩ := e
    cases res with
    | none =>
      replace e := zeroV_ok e; obtain ⟨v, e, hz⟩ := e
      obtain ⟨u, hku, hu2⟩ := out e
      refine ⟨u, hku, fun W0 β n w H vm vx hm hx => ?_⟩
      obtain ⟨b, hb, rfl⟩ := conc_map hm
      obtain ⟨ms, hget, _, hE⟩ := run_getMap (P := P) H ho hb
      obtain ⟨z, hzr, hzc⟩ := hz P et Te
      have hck := fun em => hkey kt Tk β vx vx hx hx 10000 w em (by omega)
      have hf := findKey_run (P := P) hdk w ms.toList (hres kt Tk β vx hx ms.toList hE w)
      refine ⟨_, hu2 β z (hzc β), ?_⟩
      simp only [Instr.lookup, Sem.run_bind, run_underlying hu, Result.andThen_ok, hget, Sem.run_pure, hck, hf, hzr]
    | some p =>
      obtain ⟨i, en⟩ := p
      obtain ⟨u, hku, hu2⟩ := out e
      refine ⟨u, hku, fun W0 β n w H vm vx hm hx => ?_⟩
      obtain ⟨b, hb, rfl⟩ := conc_map hm
      obtain ⟨ms, hget, _, hE⟩ := run_getMap (P := P) H ho hb
      have hck := fun em => hkey kt Tk β vx vx hx hx 10000 w em (by omega)
      obtain ⟨m, _, _, _, hfa, _, hval, _⟩ := hres kt Tk β vx hx ms.toList hE w
      have hf := findKey_run (P := P) hdk w ms.toList hfa
      refine ⟨_, hu2 β _ hval, ?_⟩
      simp only [Instr.lookup, Sem.run_bind, run_underlying hu, Result.andThen_ok, hget, Sem.run_pure, hck, hf]
  case base v =>
    cases v <;> try exact (bad_ne e).elim
    rename_i ad
    cases ad <;> try exact (bad_ne e).elim
    replace e := keyEq_ok HT e; obtain ⟨b, e, _, hkey⟩ := e
    replace e := need_ok e; obtain ⟨hb, e⟩ := e
    have hkey := hkey hb
    replace e := zeroV_ok e; obtain ⟨v, e, hz⟩ := e
    obtain ⟨u, hku, hu2⟩ := out e
    refine ⟨u, hku, fun W0 β n w H vm vx hm hx => ?_⟩
    obtain rfl := conc_base hm
    obtain ⟨z, hzr, hzc⟩ := hz P et Te
    have hck := fun em => hkey kt Tk β vx vx hx hx 10000 w em (by omega)
    have hf : (Instr.findKey kt vx []).run P w = .ok none w := findKey_run (P := P) hdk w [] rfl
    refine ⟨_, hu2 β z (hzc β), ?_⟩
    simp only [Instr.lookup, Sem.run_bind, run_underlying hu, Result.andThen_ok, Sem.run_pure, hck, hf, hzr]

end

end Go.Mir
