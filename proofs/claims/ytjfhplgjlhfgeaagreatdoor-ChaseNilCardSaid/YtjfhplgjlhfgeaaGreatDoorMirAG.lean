/- The small machine against the model: the map operations. No statement of the program stands here. -/
import Derived.Test.YtjfhplgjlhfgeaaGreatDoorMirAF
namespace Go.Mir
open Go Go.RowKit

theorem mapObj_ok {h : T O} {m : V} {k : Nat → List (V × V × Nat) → Nat → Out} {r : V} (e : mapObj h m k = .ok r) : ∃ id es c, m = .map id ∧ h.get id = some (.map es c) ∧ k id es c = .ok r := by
  unfold mapObj at e
  cases m <;> try exact (bad_ne e).elim
  replace e := om_ok e; obtain ⟨o, ho, e⟩ := e
  replace e := oMap_ok e; obtain ⟨es, c, rfl, e⟩ := e
  exact ⟨_, es, c, rfl, ho, e⟩

section
variable {P : Program} {tys : T TI} (HT : TysR P tys)

/-- what is put under a key -/
def PutSpec (P : Program) (h : T O) (t : Nat) (m x : V) (f : V → V) (z : V) (h' : T O) (v : V) (b : Nat) : Prop :=
  ∀ W0 β n w, HR W0 β h n w → ∀ vm vx vz, conc β m = some vm → conc β x = some vx → conc β z = some vz →
    ∃ kt et blk ms clock, P.underlying t = some (.map kt et) ∧ vm = .map (some blk) ∧ (getObj blk).run P w = .ok (.map ms clock) w ∧ (∀ em, (Instr.checkKey em 10000 kt vx).run P w = .ok () w) ∧
      ((v = z ∧ b = clock ∧ (Instr.findKey kt vx ms.toList).run P w = .ok none w ∧
        (∀ vf, conc β (f z) = some vf → ∃ w', (setObj blk (.map (ms.push { key := vx, val := vf, born := clock }) (clock + 1))).run P w = .ok () w' ∧ HR W0 β h' n w' ∧ More β h n β h' n)) ∨
       (∃ i e, ms[i]? = some e ∧ (Instr.findKey kt vx ms.toList).run P w = .ok (some (i, e.val)) w ∧ e.key = vx ∧ conc β v = some e.val ∧ e.born = b ∧ (Instr.keyThatStays e.key vx).run P w = .ok vx w ∧
        (∀ vf, conc β (f v) = some vf → ∃ w', (setObj blk (.map (ms.modify i fun e => { e with key := vx, val := vf }) clock)).run P w = .ok () w' ∧ HR W0 β h' n w' ∧ More β h n β h' n)))

include HT in
theorem mapPut_ok {h : T O} {t : Nat} {m x : V} {f : V → V} {z : V} {k : T O → V → Nat → Out} {r : V} (e : mapPut tys h t m x f z k = .ok r) :
    ∃ h' v b, k h' v b = .ok r ∧ PutSpec P h t m x f z h' v b := by
  replace e := mapTy_ok e; obtain ⟨ti, kt, et, tk, te, hti, hk, htk, hte, e⟩ := e
  have Tk := HT _ _ htk
  have hu := (HT _ _ hti).map hk
  obtain ⟨dk, hdk, _⟩ := Tk.und
  replace e := need_ok e; obtain ⟨hko, e⟩ := e
  replace e := keyEq_ok HT e; obtain ⟨b, e, _, hkey⟩ := e
  replace e := need_ok e; obtain ⟨hb, e⟩ := e
  have hkey := hkey hb
  replace e := mapObj_ok e; obtain ⟨id, es, clock, rfl, ho, e⟩ := e
  replace e := find_ok HT e; obtain ⟨res, e, hres⟩ := e
  cases res with
  | none =>
    replace e : spine (es ++ [(x, f z, clock)]) (fun es => fNat (Nat.succ clock) fun c => setMap h id es c fun h => k h z clock) = .ok r := e
    rw [spine_eq, fNat_eq] at e
    replace e := setMap_ok (P := P) ho e; obtain ⟨h', e, hset⟩ := e
    refine ⟨h', z, clock, e, fun W0 β n w H vm vx vz hm hx hz => ?_⟩
    obtain ⟨bb, hbb, rfl⟩ := conc_map hm
    obtain ⟨ms, hget, _, hE⟩ := run_getMap (P := P) H ho hbb
    have hck := fun em => hkey kt Tk β vx vx hx hx 10000 w em (by omega)
    have hf := findKey_run (P := P) hdk w ms.toList (hres kt Tk β vx hx ms.toList hE w)
    refine ⟨kt, et, bb.blk, ms, clock, hu, rfl, hget, hck, .inl ⟨rfl, rfl, hf, fun vf hvf => ?_⟩⟩
    exact hset W0 β n w H bb hbb _ (by
      rw [Array.toList_push]
      exact hE.push (e := (x, f z, clock)) hx hvf rfl)
  | some p =>
    obtain ⟨i, en⟩ := p
    replace e : need (sameV en.1 x) (modE (fun e => (x, f e.2.1, e.2.2)) es i fun es => setMap h id es clock fun h => k h en.2.1 en.2.2) = .ok r := e
    replace e := need_ok e; obtain ⟨hs, e⟩ := e
    have hs := sameV_eq hs
    rw [modE_eq] at e
    replace e := setMap_ok (P := P) ho e; obtain ⟨h', e, hset⟩ := e
    refine ⟨h', _, _, e, fun W0 β n w H vm vx vz hm hx hz => ?_⟩
    obtain ⟨bb, hbb, rfl⟩ := conc_map hm
    obtain ⟨ms, hget, _, hE⟩ := run_getMap (P := P) H ho hbb
    have hck := fun em => hkey kt Tk β vx vx hx hx 10000 w em (by omega)
    obtain ⟨mm, h1, _, h2, hfa, h3, h4, h5⟩ := hres kt Tk β vx hx ms.toList hE w
    have hf := findKey_run (P := P) hdk w ms.toList hfa
    have hkv : mm.key = vx := by rw [hs, hx] at h3; exact (Option.some.inj h3).symm
    refine ⟨kt, et, bb.blk, ms, clock, hu, rfl, hget, hck, .inr ⟨i, mm, by simpa using h1, hf, hkv, h4, h5, by rw [hkv]; exact key_stays hko hx w, fun vf hvf => ?_⟩⟩
    exact hset W0 β n w H bb hbb _ (by
      rw [Array.toList_modify, modify_eq]
      refine hE.mod i fun e' m' he' hm' => ?_
      have e1 : e' = en := by
        have : es[i - 0]? = some en := h2
        rw [Nat.sub_zero, he'] at this; exact Option.some.inj this
      have e2 : m' = mm := by
        have : ms.toList[i - 0]? = some mm := h1
        rw [Nat.sub_zero, hm'] at this; exact Option.some.inj this
      subst e1; subst e2
      exact ⟨hx, hvf, h5⟩)

end

end Go.Mir
