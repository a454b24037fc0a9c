/- The small machine against the model: conversions, loads, maps read, structs built. No statement of the program stands here. -/
import Derived.Test.YtjfhplgjlhfgeaaGreatDoorMirW
namespace Go.Mir
open Go Go.RowKit

section
variable {P : Program} {tys : T TI} (HT : TysR P tys) {k : V → Out} {r : V}

theorem wrapK_eq (kk : IntKind) (z : Int) (k : V → Out) : wrapK kk z k = k (.int kk (kk.wrap z)) := fInt_eq _ _

theorem wrap8 (m : Nat) (h : m ≤ 255) : IntKind.u8.wrap (m : Int) = m := by
  have h1 : (IntKind.u8.bits : Nat) = 8 := rfl
  have : (m : Int) % (2 ^ 8 : Int) = m := Int.emod_eq_of_lt (by omega) (by omega)
  unfold IntKind.wrap
  simp only [h1, this]
  rw [if_neg]
  simp [IntKind.signed]

theorem convInt_ok {kk : IntKind} {z : Int} (h : convInt kk z k = .ok r) : k (.int kk (kk.wrap z)) = .ok r := by
  unfold convInt at h
  split at h
  · rename_i n
    rcases rec_ok h with ⟨hb, h⟩ | ⟨_, h⟩
    · have := wrap64 n (Nat.le_of_ble_eq_true hb)
      have e : IntKind.i64.wrap (Int.ofNat n) = Int.ofNat n := this
      rw [e]; exact h
    · rw [wrapK_eq] at h; exact h
  · rename_i n
    rcases rec_ok h with ⟨hb, h⟩ | ⟨_, h⟩
    · have := wrap8 n (Nat.le_of_ble_eq_true hb)
      have e : IntKind.u8.wrap (Int.ofNat n) = Int.ofNat n := this
      rw [e]; exact h
    · rw [wrapK_eq] at h; exact h
  · rw [wrapK_eq] at h; exact h

theorem natsOf_ok : ∀ {l : List V} {kk : List Nat → Out}, natsOf l kk = .ok r → ∃ ns : List Nat, kk ns = .ok r ∧ l = ns.map (fun n => V.int .u8 (.ofNat n)) ∧ allB ns = true
  | [], kk, h => ⟨[], h, rfl, rfl⟩
  | v :: l, kk, h => by
    replace h : (match v with | .int .u8 (.ofNat n) => need (Nat.ble n 255) (natsOf l fun l => kk (n :: l)) | _ => bad 41) = .ok r := h
    split at h
    · rename_i n
      replace h := need_ok h; obtain ⟨hn, h⟩ := h
      replace h := natsOf_ok h; obtain ⟨ns, h, rfl, hl⟩ := h
      have : n ≤ 255 := Nat.le_of_ble_eq_true hn
      exact ⟨n :: ns, h, rfl, by simp only [allB, List.all_cons, Bool.and_eq_true, decide_eq_true_eq] at *; exact ⟨by omega, hl⟩⟩
    · exact (bad_ne h).elim

theorem isU8_ok {e : Nat} (HT : TysR P tys) (h : isU8 tys e = true) : P.underlying e = some (.int .u8) := by
  unfold isU8 at h
  split at h
  · rename_i ti hti
    split at h
    · rename_i hk; exact (HT _ _ hti).int hk
    · cases h
  · cases h

theorem concL_ints {β : Beta} : ∀ {ns : List Nat} {vs : List Value}, concL β (ns.map fun n => V.int .u8 (.ofNat n)) = some vs → vs = ns.map fun n => Value.int .u8 (.ofNat n)
  | [], vs, h => by simp [concL] at h; simp [h]
  | n :: ns, vs, h => by
    simp only [List.map_cons, concL, conc, Option.bind_some, Option.map_eq_some_iff] at h
    obtain ⟨z, hz, rfl⟩ := h
    rw [concL_ints hz]; rfl

theorem fold_push : ∀ (ns : List Nat) (s : ByteArray), (ns.map (fun n : Nat => (Int.ofNat n))).foldl (fun r n => r.push (UInt8.ofNat n.toNat)) s = s ++ bytesOf ns
  | [], s => by
    apply ByteArray.ext; simp [bytesOf]
  | n :: ns, s => by
    simp only [List.map_cons, List.foldl_cons]
    rw [fold_push ns]
    apply ByteArray.ext
    apply Array.ext'
    simp [bytesOf]

include HT in
theorem convStr_ok {h : T O} {src dst : Nat} {ti : TI} (hti : tys.get src = some ti) {x : V} (e : convStr tys h ti.kind x k = .ok r) (hd : P.underlying dst = some .string) :
    ∃ v, k v = .ok r ∧ ∀ W0 β n w, HR W0 β h n w → ∀ vx, conc β x = some vx → ∃ val, conc β v = some val ∧ (convert src dst vx).run P w = .ok val w := by
  have T := HT _ _ hti
  unfold convStr at e
  cases hk : ti.kind <;> rw [hk] at e <;> try exact (bad_ne e).elim
  case string =>
    cases x <;> try exact (bad_ne e).elim
    rename_i l
    refine ⟨_, e, fun W0 β n w H vx hx => ⟨vx, hx, ?_⟩⟩
    obtain ⟨hl, rfl⟩ := conc_str hx
    simp [convert, run_underlying (T.string hk), run_underlying hd]
  case slice el =>
    cases x <;> try exact (bad_ne e).elim
    case slice id off len ex kk lo =>
      replace e := need_ok e; obtain ⟨hu8, e⟩ := e
      have hu8 := isU8_ok HT hu8
      replace e := cellsAt_ok e; obtain ⟨l, e, hl, hcells⟩ := e
      replace e := natsOf_ok e; obtain ⟨ns, e, rfl, hns⟩ := e
      refine ⟨_, e, fun W0 β n w H vx hx => ?_⟩
      obtain ⟨b, hb, _, rfl⟩ := conc_slice hx
      obtain ⟨vs, hvs, hlen, hcell⟩ := hcells W0 β n w H b hb
      have hv := concL_ints hvs
      refine ⟨.string (bytesOf ns), by simp [conc, hns], ?_⟩
      rw [run_convert_bytes_string w src dst el _ _ _ (T.slice hk) hu8 hd]
      have hload := run_loadCells_list (P := P) w ⟨b.blk, b.off + off, none⟩ vs (fun j v hj => by rw [add_none]; exact hcell j v hj)
      rw [hlen] at hload
      have hload2 : (loadCells ⟨b.blk, b.off + off, none⟩ len).run P w = .ok ((ns.map (fun n : Nat => (Int.ofNat n))).map (Value.int .u8)).toArray w := by
        rw [hload, hv, List.map_map]; rfl
      rw [run_bytesToString w _ len _ _ hload2, fold_push]
      congr 2
    case base v =>
      cases v <;> try exact (bad_ne e).elim
      rename_i ad z1 z2
      cases ad <;> try exact (bad_ne e).elim
      replace e := need_ok e; obtain ⟨hu8, e⟩ := e
      have hu8 := isU8_ok HT hu8
      refine ⟨_, e, fun W0 β n w H vx hx => ?_⟩
      obtain rfl := conc_base hx
      refine ⟨.string .empty, ?_, ?_⟩
      · have : allB [] = true := rfl
        simp only [conc, this, if_true]; rfl
      · rw [run_convert_bytes_string w src dst el _ _ _ (T.slice hk) hu8 hd]
        simp [Conv.bytesToString]

include HT in
theorem convK_ok {h : T O} {src dst : Nat} {x : V} (e : convK tys h src dst x k = .ok r) :
    ∃ v, k v = .ok r ∧ ∀ W0 β n w, HR W0 β h n w → ∀ vx, conc β x = some vx → ∃ val, conc β v = some val ∧ (convert src dst vx).run P w = .ok val w := by
  replace e := om_ok e; obtain ⟨ts, hts, e⟩ := e
  replace e := om_ok e; obtain ⟨td, htd, e⟩ := e
  have Ts := HT _ _ hts
  have Td := HT _ _ htd
  obtain ⟨ds, hds, _⟩ := Ts.und
  split at e
  · rename_i kk hk
    cases x <;> try exact (bad_ne e).elim
    rename_i k0 z
    replace e := convInt_ok e
    refine ⟨_, e, fun W0 β n w H vx hx => ⟨_, rfl, ?_⟩⟩
    simp only [conc, Option.some.injEq] at hx; subst hx
    simp [convert, run_underlying hds, run_underlying (Td.int hk), Conv.intToInt]
  · rename_i kk hk
    cases x <;> try exact (bad_ne e).elim
    rename_i k0 z
    replace e : fNat (kk.nearest z) (fun b => k (.base (.float kk b))) = .ok r := e
    rw [fNat_eq] at e
    refine ⟨_, e, fun W0 β n w H vx hx => ⟨_, rfl, ?_⟩⟩
    simp only [conc, Option.some.injEq] at hx; subst hx
    simp [convert, run_underlying hds, run_underlying (Td.float hk), Conv.intToFloat]
  · rename_i hk
    exact convStr_ok HT hts e (Td.string hk)
  · exact (bad_ne e).elim

/- loads -/
include HT in
theorem loadK_ok {h : T O} {t : Nat} {a : V} (e : loadK tys h t a k = .ok r) :
    ∃ v, k v = .ok r ∧ ∀ W0 β n w, HR W0 β h n w → ∀ va, conc β a = some va → ∃ ad, va = .pointer (some ad) ∧ ∃ val, conc β v = some val ∧ (loadVar t ad).run P w = .ok val w := by
  unfold loadK at e
  cases a <;> try exact (bad_ne e).elim
  rename_i id off
  replace e := om_ok e; obtain ⟨ti, hti, e⟩ := e
  have T := HT _ _ hti
  rcases rec_ok e with ⟨hk, e⟩ | ⟨hk, e⟩
  · replace e := cellsAt_ok e; obtain ⟨l, e, hl, hcells⟩ := e
    refine ⟨_, e, fun W0 β n w H va ha => ?_⟩
    obtain ⟨b, hb, rfl⟩ := conc_ptr ha
    obtain ⟨vs, hvs, hlen, hcell⟩ := hcells W0 β n w H b hb
    refine ⟨_, rfl, .agg vs.toArray, by simp [conc, hvs], ?_⟩
    have hload := run_loadCells_list (P := P) w ⟨b.blk, b.off + off, none⟩ vs (fun j v hj => by rw [add_none]; exact hcell j v hj)
    rw [hlen] at hload
    simp [loadVar, T.isAgg, hk, T.sizeOf, hload]
  · replace e := cellAt_ok e; obtain ⟨v, e, hcell⟩ := e
    refine ⟨v, e, fun W0 β n w H va ha => ?_⟩
    obtain ⟨b, hb, rfl⟩ := conc_ptr ha
    obtain ⟨x, hx, hc⟩ := hcell W0 β n w H b hb
    exact ⟨_, rfl, x, hc, by simp [loadVar, T.isAgg, hk, hx]⟩

end

end Go.Mir
