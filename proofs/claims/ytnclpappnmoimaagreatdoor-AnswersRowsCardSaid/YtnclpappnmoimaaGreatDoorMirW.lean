/- The small machine against the model: slices, lengths, conversions, loads. No statement of the program stands here. -/
import Derived.Test.YtnclpappnmoimaaGreatDoorMirU
import Derived.Laws.BytesString
namespace Go.Mir
open Go Go.RowKit

theorem boundN_ok {x : Option V} {d : Nat} {k : Nat → Out} {r : Rz} (h : boundN x d k = .ok r) :
    ∃ n, k n = .ok r ∧ ((x = none ∧ n = d) ∨ ∃ kk, x = some (.int kk (.ofNat n))) := by
  unfold boundN at h
  split at h
  · exact ⟨d, h, .inl ⟨rfl, rfl⟩⟩
  · exact ⟨_, h, .inr ⟨_, rfl⟩⟩
  · exact (bad_ne h).elim

def concO (β : Beta) (x : Option V) (y : Option Value) : Prop :=
  match x, y with
  | none, none => True
  | some x, some y => conc β x = some y
  | _, _ => False

section
variable {P : Program} {w : World}

theorem run_bound (kk : IntKind) (n y : Nat) (c : BoundsCode) (h : n ≤ y) : (Instr.sliceBound (.int kk (.ofNat n)) y c).run P w = .ok n w := by
  have hc : (0 : Int) ≤ (n : Int) ∧ (n : Int) ≤ (y : Int) := ⟨by omega, by omega⟩
  simp only [Instr.sliceBound, asIntOf, Sem.run_bind, Sem.run_pure, Result.andThen_ok, Sem.run_ite, Int.ofNat_eq_natCast, hc, and_self, if_true, Int.toNat_natCast]

/-- the three bounds of a slice, where they are in order -/
theorem run_bounds {β : Beta} {lo hi mx : Option V} {lo' hi' mx' : Option Value} (hlo : concO β lo lo') (hhi : concO β hi hi') (hmx : concO β mx mx')
    {isS : Bool} {len cap a b m : Nat} (ha : (lo = none ∧ a = 0) ∨ ∃ kk, lo = some (.int kk (.ofNat a))) (hb : (hi = none ∧ b = len) ∨ ∃ kk, hi = some (.int kk (.ofNat b)))
    (hm : (mx = none ∧ m = cap) ∨ ∃ kk, mx = some (.int kk (.ofNat m))) (hms : mx ≠ none → hi ≠ none) (h1 : a ≤ b) (h2 : b ≤ m) (h3 : m ≤ cap) :
    (Instr.sliceBounds isS len cap lo' hi' mx').run P w = .ok (a, b, m) w := by
  have el : (lo' = none ∧ a = 0) ∨ ∃ kk, lo' = some (.int kk (.ofNat a)) := by
    rcases ha with ⟨rfl, rfl⟩ | ⟨kk, rfl⟩
    · cases lo' with
      | none => exact .inl ⟨rfl, rfl⟩
      | some => exact hlo.elim
    · cases lo' with
      | none => exact hlo.elim
      | some y => simp only [concO, conc, Option.some.injEq] at hlo; exact .inr ⟨kk, by rw [hlo]⟩
  have eh : (hi' = none ∧ b = len) ∨ ∃ kk, hi' = some (.int kk (.ofNat b)) := by
    rcases hb with ⟨rfl, rfl⟩ | ⟨kk, rfl⟩
    · cases hi' with
      | none => exact .inl ⟨rfl, rfl⟩
      | some => exact hhi.elim
    · cases hi' with
      | none => exact hhi.elim
      | some y => simp only [concO, conc, Option.some.injEq] at hhi; exact .inr ⟨kk, by rw [hhi]⟩
  have em : (mx' = none ∧ m = cap) ∨ ∃ kk, mx' = some (.int kk (.ofNat m)) := by
    rcases hm with ⟨rfl, rfl⟩ | ⟨kk, rfl⟩
    · cases mx' with
      | none => exact .inl ⟨rfl, rfl⟩
      | some => exact hmx.elim
    · cases mx' with
      | none => exact hmx.elim
      | some y => simp only [concO, conc, Option.some.injEq] at hmx; exact .inr ⟨kk, by rw [hmx]⟩
  have hmh : mx' ≠ none → hi' ≠ none := by
    intro e1 e2
    subst e2
    have : hi = none := by
      cases hi with
      | none => rfl
      | some => exact hhi.elim
    have : mx ≠ none := by
      intro e; subst e
      cases mx' with
      | none => exact e1 rfl
      | some => exact hmx.elim
    exact hms this (by assumption)
  rcases em with ⟨rfl, rfl⟩ | ⟨km, rfl⟩ <;> rcases eh with ⟨rfl, rfl⟩ | ⟨kh, rfl⟩ <;> rcases el with ⟨rfl, rfl⟩ | ⟨kl, rfl⟩ <;>
    first
      | (simp only [Instr.sliceBounds, Sem.run_bind, Sem.run_pure, Result.andThen_ok, run_bound _ _ _ _ h1, run_bound _ _ _ _ h2, run_bound _ _ _ _ h3]; done)
      | (exact absurd rfl (hmh (by simp)))

end

section
variable {P : Program} {tys : T TI} (HT : TysR P tys) {k : V → Out} {r : Rz}

theorem allB_sub {l : List Nat} (h : allB l = true) (a b : Nat) : allB ((l.drop a).take b) = true := by
  simp only [allB, List.all_eq_true, decide_eq_true_eq] at *
  intro x hx
  exact h x (List.mem_of_mem_drop (List.mem_of_mem_take hx))

theorem bytesOf_extract (l : List Nat) (a b : Nat) : (bytesOf l).extract a b = bytesOf ((l.drop a).take (b - a)) := by
  apply ByteArray.ext
  apply Array.ext'
  simp [bytesOf, List.extract_eq_take_drop, List.map_take, List.map_drop]

theorem concO_none {β : Beta} {x : Option Value} (h : concO β none x) : x = none := by
  cases x with
  | none => rfl
  | some => exact h.elim

theorem sliceStr_ok {x : V} {lo hi mx : Option V} (h : sliceStr x lo hi mx k = .ok r) :
    ∃ v, k v = .ok r ∧ ∀ β vx lo' hi' mx', conc β x = some vx → concO β lo lo' → concO β hi hi' → concO β mx mx' →
      ∃ val, conc β v = some val ∧ ∀ t, P.underlying t = some .string → ∀ w, (Instr.sliceAt t vx lo' hi' mx').run P w = .ok val w := by
  unfold sliceStr at h
  cases x <;> try exact (bad_ne h).elim
  rename_i l
  cases mx <;> try exact (bad_ne h).elim
  replace h := boundN_ok h; obtain ⟨a, h, ha⟩ := h
  rw [fNat_eq] at h
  replace h := boundN_ok h; obtain ⟨b, h, hb⟩ := h
  replace h := need_ok h; obtain ⟨hc, h⟩ := h
  rw [fL_eq] at h
  replace h : k (.str ((l.drop a).take (b - a))) = .ok r := h
  have hc := Bool.and_eq_true_iff.1 hc
  have h1 : a ≤ b := Nat.le_of_ble_eq_true hc.1
  have h2 : b ≤ l.length := Nat.le_of_ble_eq_true hc.2
  refine ⟨_, h, fun β vx lo' hi' mx' hx hlo hhi hmx => ?_⟩
  obtain ⟨hl, rfl⟩ := conc_str hx
  obtain rfl := concO_none hmx
  refine ⟨.string (bytesOf ((l.drop a).take (b - a))), ?_, fun t hu w => ?_⟩
  · have := allB_sub hl a (b - a)
    simp only [conc]
    rw [if_pos this]
  · have hb' : (hi = none ∧ b = (bytesOf l).size) ∨ ∃ kk, hi = some (.int kk (.ofNat b)) := by rw [bytesOf_size]; exact hb
    have := run_bounds (P := P) (w := w) (isS := false) (len := (bytesOf l).size) (cap := (bytesOf l).size) (m := (bytesOf l).size) hlo hhi (show concO β none none from trivial) ha hb' (.inl ⟨rfl, rfl⟩) (by simp) h1 (by rw [bytesOf_size]; exact h2) (Nat.le_refl _)
    simp [Instr.sliceAt, run_underlying hu, Instr.slice, this, bytesOf_extract]

theorem offTo_eq (m a off esz : Nat) : offTo m a off esz = if m = a then off else off + a * esz := by
  unfold offTo
  by_cases e : m = a
  · have : Nat.beq m a = true := by rw [e]; simp
    rw [this, if_pos e]
  · have : Nat.beq m a = false := by
      cases hb : Nat.beq m a with
      | false => rfl
      | true => exact (e (Nat.eq_of_beq_eq_true hb)).elim
    rw [this, if_neg e]; rfl

include HT in
theorem sliceSl_ok {e : Nat} {x : V} {lo hi mx : Option V} (hms : mx ≠ none → hi ≠ none) (h : sliceSl tys e x lo hi mx k = .ok r) :
    ∃ v, k v = .ok r ∧ ∀ β vx lo' hi' mx', conc β x = some vx → concO β lo lo' → concO β hi hi' → concO β mx mx' →
      ∃ val, conc β v = some val ∧ ∀ t, P.underlying t = some (.slice e) → ∀ w, (Instr.sliceAt t vx lo' hi' mx').run P w = .ok val w := by
  unfold sliceSl at h
  cases x <;> try exact (bad_ne h).elim
  case slice id off len ex kk low =>
    replace h := om_ok h; obtain ⟨te, hte, h⟩ := h
    replace h := boundN_ok h; obtain ⟨a, h, ha⟩ := h
    replace h := boundN_ok h; obtain ⟨b, h, hb⟩ := h
    cases mx with
    | none =>
      replace h := need_ok h; obtain ⟨hc, h⟩ := h
      have hc := Bool.and_eq_true_iff.1 hc
      have h1 : a ≤ b := Nat.le_of_ble_eq_true hc.1
      have h2 : b ≤ low := Nat.le_of_ble_eq_true hc.2
      unfold sliceSl2 at h
      rw [fNat_eq, fNat_eq] at h
      have hv : ∃ v, k v = .ok r ∧ ∀ β bb, β id = some bb → low ≤ capOf bb ex kk → conc β v = some (.slice (some ⟨bb.blk, bb.off + (if capOf bb ex kk = a then off else off + a * te.size), none⟩) (b - a) (capOf bb ex kk - a)) := by
        cases ex with
        | true =>
          replace h : fNat (offTo kk a off te.size) (fun off => fNat (Nat.sub kk a) (fun kk => k (.slice id off (b - a) true kk (low - a)))) = .ok r := h
          rw [fNat_eq, fNat_eq] at h
          refine ⟨_, h, fun β bb hbb hle => ?_⟩
          simp only [capOf, if_true] at hle ⊢
          simp only [conc, hbb, Option.bind_some, capOf, if_true, offTo_eq]
          rw [if_pos (show low - a ≤ Nat.sub kk a from Nat.sub_le_sub_right hle a)]
          rfl
        | false =>
          replace h : (Bool.rec (need (Nat.beq b a) (k (.tail id off a te.size kk))) (fNat (Nat.add off (Nat.mul a te.size)) fun off => fNat (Nat.add kk a) fun kk => k (.slice id off (b - a) false kk (low - a))) (or (Nat.beq a 0) (Nat.ble (Nat.succ a) low)) : Out) = .ok r := h
          rcases rec_ok h with ⟨hq, h⟩ | ⟨hq, h⟩
          · rw [fNat_eq, fNat_eq] at h
            refine ⟨_, h, fun β bb hbb hle => ?_⟩
            simp only [capOf, Bool.false_eq_true, if_false] at hle ⊢
            simp only [conc, hbb, Option.bind_some, capOf, Bool.false_eq_true, if_false]
            have e1 : bb.room - Nat.add kk a = bb.room - kk - a := by show bb.room - (kk + a) = _; omega
            rw [e1, if_pos (by omega)]
            rcases Bool.or_eq_true_iff.1 hq with hq | hq
            · have : a = 0 := Nat.eq_of_beq_eq_true hq
              subst this
              have e2 : Nat.add off (Nat.mul 0 te.size) = off := by show off + 0 * te.size = off; simp
              rw [e2]
              split <;> simp
            · have : a < low := Nat.le_of_ble_eq_true hq
              rw [if_neg (show ¬ bb.room - kk = a by omega)]; rfl
          · replace h := need_ok h; obtain ⟨hb0, h⟩ := h
            have : b = a := Nat.eq_of_beq_eq_true hb0
            subst this
            refine ⟨_, h, fun β bb hbb hle => ?_⟩
            simp only [capOf, Bool.false_eq_true, if_false] at hle ⊢
            simp [conc, hbb]
      obtain ⟨v, h, hcap⟩ := hv
      refine ⟨_, h, fun β vx lo' hi' mx' hx hlo hhi hmx => ?_⟩
      obtain ⟨bb, hbb, hle, rfl⟩ := conc_slice hx
      obtain rfl := concO_none hmx
      refine ⟨_, hcap β bb hbb hle, fun t hu w => ?_⟩
      · have := run_bounds (P := P) (w := w) (isS := true) (len := len) (cap := capOf bb ex kk) (m := capOf bb ex kk) hlo hhi (show concO β none none from trivial) ha hb (.inl ⟨rfl, rfl⟩) (by simp) h1 (by omega) (Nat.le_refl _)
        simp only [Instr.sliceAt, Sem.run_bind, run_underlying hu, Result.andThen_ok, Instr.slice, this, (HT _ _ hte).sizeOf, Sem.run_pure]
        congr 2
        split
        · rfl
        · simp [add_none, Nat.add_assoc]
    | some mx =>
      replace h := boundN_ok h; obtain ⟨m, h, hm⟩ := h
      replace h := need_ok h; obtain ⟨hc, h⟩ := h
      have hc := Bool.and_eq_true_iff.1 hc
      have hc2 := Bool.and_eq_true_iff.1 hc.2
      have h1 : a ≤ b := Nat.le_of_ble_eq_true hc.1
      have h2 : b ≤ m := Nat.le_of_ble_eq_true hc2.1
      have h3 : m ≤ low := Nat.le_of_ble_eq_true hc2.2
      unfold sliceSl3 at h
      rw [fNat_eq, fNat_eq, fNat_eq] at h
      have hm' : (some mx = none ∧ m = 0) ∨ ∃ kk, some mx = some (.int kk (.ofNat m)) := hm
      refine ⟨_, h, fun β vx lo' hi' mx' hx hlo hhi hmx => ?_⟩
      obtain ⟨bb, hbb, hle, rfl⟩ := conc_slice hx
      refine ⟨.slice (some ⟨bb.blk, bb.off + offTo m a off te.size, none⟩) (b - a) (m - a), ?_, fun t hu w => ?_⟩
      · simp only [conc, hbb, Option.bind_some, capOf, if_true]
        simp
      · have := run_bounds (P := P) (w := w) (isS := true) (len := len) (cap := capOf bb ex kk) (m := m) hlo hhi hmx ha hb (by
          rcases hm' with ⟨e, _⟩ | e
          · cases e
          · exact .inr e) hms h1 h2 (by omega)
        simp only [Instr.sliceAt, Sem.run_bind, run_underlying hu, Result.andThen_ok, Instr.slice, this, (HT _ _ hte).sizeOf, Sem.run_pure]
        congr 2
        rw [offTo_eq]
        split
        · rfl
        · simp [add_none, Nat.add_assoc]
  case base v =>
    cases v <;> try exact (bad_ne h).elim
    rename_i ad z1 z2
    cases ad <;> try exact (bad_ne h).elim
    replace h := om_ok h; obtain ⟨te, hte, h⟩ := h
    replace h := boundN_ok h; obtain ⟨a, h, ha⟩ := h
    replace h := boundN_ok h; obtain ⟨b, h, hb⟩ := h
    replace h := boundN_ok h; obtain ⟨m, h, hm⟩ := h
    replace h := need_ok h; obtain ⟨hc, h⟩ := h
    simp only [Bool.and_eq_true, Nat.beq_eq] at hc
    obtain ⟨rfl, rfl, rfl, rfl, rfl⟩ := hc
    refine ⟨_, h, fun β vx lo' hi' mx' hx hlo hhi hmx => ?_⟩
    have hx0 := hx
    obtain rfl := conc_base hx
    refine ⟨_, hx0, fun t hu w => ?_⟩
    have := run_bounds (P := P) (w := w) (isS := true) (len := 0) (cap := 0) (m := 0) hlo hhi hmx ha hb hm hms (Nat.le_refl 0) (Nat.le_refl 0) (Nat.le_refl 0)
    simp [Instr.sliceAt, run_underlying hu, Instr.slice, this, (HT _ _ hte).sizeOf]

include HT in
theorem sliceAr_ok {m0 e : Nat} {x : V} {lo hi mx : Option V} (h : sliceAr tys m0 e x lo hi mx k = .ok r) :
    ∃ v, k v = .ok r ∧ ∀ β vx lo' hi' mx', conc β x = some vx → concO β lo lo' → concO β hi hi' → concO β mx mx' →
      ∃ val, conc β v = some val ∧ ∀ t, P.underlying t = some (.array m0 e) → ∀ w, (Instr.sliceAt t vx lo' hi' mx').run P w = .ok val w := by
  unfold sliceAr at h
  cases x <;> try exact (bad_ne h).elim
  rename_i id off
  cases mx <;> try exact (bad_ne h).elim
  replace h := om_ok h; obtain ⟨te, hte, h⟩ := h
  replace h := boundN_ok h; obtain ⟨a, h, ha⟩ := h
  replace h := boundN_ok h; obtain ⟨b, h, hb⟩ := h
  replace h := need_ok h; obtain ⟨hc, h⟩ := h
  have hc := Bool.and_eq_true_iff.1 hc
  have h1 : a ≤ b := Nat.le_of_ble_eq_true hc.1
  have h2 : b ≤ m0 := Nat.le_of_ble_eq_true hc.2
  unfold sliceSl3 at h
  rw [fNat_eq, fNat_eq, fNat_eq] at h
  refine ⟨_, h, fun β vx lo' hi' mx' hx hlo hhi hmx => ?_⟩
  obtain ⟨bb, hbb, rfl⟩ := conc_ptr hx
  obtain rfl := concO_none hmx
  refine ⟨.slice (some ⟨bb.blk, bb.off + offTo m0 a off te.size, none⟩) (b - a) (m0 - a), ?_, fun t hu w => ?_⟩
  · simp only [conc, hbb, Option.bind_some, capOf, if_true]
    simp
  · have := run_bounds (P := P) (w := w) (isS := false) (len := m0) (cap := m0) (m := m0) hlo hhi (show concO β none none from trivial) ha hb (.inl ⟨rfl, rfl⟩) (by simp) h1 h2 (Nat.le_refl _)
    simp only [Instr.sliceAt, Sem.run_bind, run_underlying hu, Result.andThen_ok, Instr.sureAddr, this, (HT _ _ hte).sizeOf, Sem.run_pure]
    congr 2
    rw [offTo_eq]
    split
    · rfl
    · simp [add_none, Nat.add_assoc]

include HT in
theorem sliceK_ok {t : Nat} {x : V} {lo hi mx : Option V} (hms : mx ≠ none → hi ≠ none) (h : sliceK tys t x lo hi mx k = .ok r) :
    ∃ v, k v = .ok r ∧ ∀ β vx lo' hi' mx', conc β x = some vx → concO β lo lo' → concO β hi hi' → concO β mx mx' →
      ∃ val, conc β v = some val ∧ ∀ w, (Instr.sliceAt t vx lo' hi' mx').run P w = .ok val w := by
  replace h := om_ok h; obtain ⟨ti, hti, h⟩ := h
  have T := HT _ _ hti
  split at h
  · rename_i hk
    obtain ⟨v, h, hv⟩ := sliceStr_ok (P := P) h
    exact ⟨v, h, fun β vx lo' hi' mx' a b c d => let ⟨val, e, f⟩ := hv β vx lo' hi' mx' a b c d; ⟨val, e, f t (T.string hk)⟩⟩
  · rename_i e hk
    obtain ⟨v, h, hv⟩ := sliceSl_ok HT hms h
    exact ⟨v, h, fun β vx lo' hi' mx' a b c d => let ⟨val, e, f⟩ := hv β vx lo' hi' mx' a b c d; ⟨val, e, f t (T.slice hk)⟩⟩
  · rename_i n e hk
    obtain ⟨v, h, hv⟩ := sliceAr_ok HT h
    exact ⟨v, h, fun β vx lo' hi' mx' a b c d => let ⟨val, e, f⟩ := hv β vx lo' hi' mx' a b c d; ⟨val, e, f t (T.array hk)⟩⟩
  · exact (bad_ne h).elim

/- lengths -/
theorem kN_eq (k : V → Out) (n : Nat) : kN k n = k (.int .i64 (.ofNat n)) := fNat_eq n _

theorem goInt_eq (n : Nat) : goInt (n : Int) = .int .i64 (Int.ofNat n) := rfl

theorem oMap_ok {o : O} {kk : List (V × V × Nat) → Nat → Out} (h : oMap o kk = .ok r) : ∃ es c, o = .map es c ∧ kk es c = .ok r := by
  cases o <;> first | exact ⟨_, _, rfl, h⟩ | exact (bad_ne h).elim

theorem EntsR.len {β : Beta} : ∀ {es : List (V × V × Nat)} {ms : List MapEntry}, EntsR β es ms → es.length = ms.length
  | [], [], _ => rfl
  | _ :: _, _ :: _, h => by simp [EntsR.len h.2.2.2]
  | [], _ :: _, h => h.elim
  | _ :: _, [], h => h.elim

include HT in
theorem lenV_ok {h : T O} {t : Nat} {x : V} (e : lenV tys h t x k = .ok r) :
    ∃ v, k v = .ok r ∧ ∀ W0 β n w, HR W0 β h n w → ∀ vx, conc β x = some vx → ∃ val, conc β v = some val ∧ ∀ ty, (Builtin.len_ #[t] ty #[vx]).run P w = .ok val w := by
  replace e := om_ok e; obtain ⟨ti, hti, e⟩ := e
  have T := HT _ _ hti
  split at e
  · rename_i hk
    cases x <;> try exact (bad_ne e).elim
    rename_i l
    replace e : kN k l.length = .ok r := e
    rw [kN_eq] at e
    refine ⟨_, e, fun W0 β n w H vx hx => ⟨_, rfl, fun ty => ?_⟩⟩
    obtain ⟨hl, rfl⟩ := conc_str hx
    rw [run_len_string w t ty _ (T.string hk), bytesOf_size]; rfl
  · rename_i el hk
    unfold lenSl at e
    cases x <;> try exact (bad_ne e).elim
    case tail id off a esz kk =>
      replace e : kN k 0 = .ok r := e
      rw [kN_eq] at e
      refine ⟨_, e, fun W0 β n w H vx hx => ⟨_, rfl, fun ty => ?_⟩⟩
      simp only [conc, Option.map_eq_some_iff] at hx
      obtain ⟨b, hb, rfl⟩ := hx
      simp [Builtin.len_, run_underlying (T.slice hk), goInt]
    case slice id off len ex kk lo =>
      replace e : kN k len = .ok r := e
      rw [kN_eq] at e
      refine ⟨_, e, fun W0 β n w H vx hx => ⟨_, rfl, fun ty => ?_⟩⟩
      obtain ⟨b, hb, _, rfl⟩ := conc_slice hx
      simp [Builtin.len_, run_underlying (T.slice hk), goInt]
    case base v =>
      cases v <;> try exact (bad_ne e).elim
      rename_i ad z1 z2
      replace e : kN k z1 = .ok r := e
      rw [kN_eq] at e
      refine ⟨_, e, fun W0 β n w H vx hx => ⟨_, rfl, fun ty => ?_⟩⟩
      obtain rfl := conc_base hx
      simp [Builtin.len_, run_underlying (T.slice hk), goInt]
  · rename_i kt et hk
    unfold lenMap at e
    cases x <;> try exact (bad_ne e).elim
    case map id =>
      replace e := om_ok e; obtain ⟨o, ho, e⟩ := e
      replace e := oMap_ok e; obtain ⟨es, c, rfl, e⟩ := e
      rw [kN_eq] at e
      refine ⟨_, e, fun W0 β n w H vx hx => ⟨_, rfl, fun ty => ?_⟩⟩
      obtain ⟨b, hb, rfl⟩ := conc_map hx
      obtain ⟨ms, hms, hE⟩ := H.obj id _ b ho hb
      have : (getObj b.blk).run P w = .ok (.map ms c) w := by simp [getObj, Sem.run, hms]
      have hl := hE.len
      simp only [Array.length_toList] at hl
      simp [Builtin.len_, run_underlying (T.map hk), goInt, this, hl]
    case base v =>
      cases v <;> try exact (bad_ne e).elim
      rename_i ad
      cases ad <;> try exact (bad_ne e).elim
      replace e : kN k 0 = .ok r := e
      rw [kN_eq] at e
      refine ⟨_, e, fun W0 β n w H vx hx => ⟨_, rfl, fun ty => ?_⟩⟩
      obtain rfl := conc_base hx
      simp [Builtin.len_, run_underlying (T.map hk), goInt]
  · exact (bad_ne e).elim

end

end Go.Mir
