/- The small machine against the model: writing memory. No statement of the program stands here. -/
import Derived.Test.YtjfhplgjlhfgeaaGreatDoorMirAB
namespace Go.Mir
open Go Go.RowKit

theorem putL_go {k : T V → Out} {r : V} : ∀ (l : List V) (i : Nat) (t : T V), putL t i l k = .ok r →
    ∃ t', k t' = .ok r ∧ ∀ j, t'.get j = if i ≤ j ∧ j < i + l.length then l[j - i]? else t.get j
  | [], i, t, h => ⟨t, h, fun j => by
      have : ¬ (i ≤ j ∧ j < i + ([] : List V).length) := by simp only [List.length_nil]; omega
      rw [if_neg this]⟩
  | v :: l, i, t, h => by
    replace h : T.setK t i (some v) (bad 100) (fun t => fNat (Nat.succ i) fun i => putL t i l k) = .ok r := h
    replace h := setK_ok h; obtain ⟨t1, h, hg1⟩ := h
    rw [fNat_eq] at h
    obtain ⟨t2, h, hg2⟩ := putL_go l (i + 1) t1 h
    refine ⟨t2, h, fun j => ?_⟩
    rw [hg2, hg1]
    simp only [List.length_cons]
    by_cases h1 : i + 1 ≤ j ∧ j < i + 1 + l.length
    · rw [if_pos h1, if_pos (by omega)]
      have : j - i = (j - (i + 1)) + 1 := by omega
      rw [this]; simp
    · rw [if_neg h1]
      by_cases h2 : j = i
      · subst h2; rw [if_pos rfl, if_pos (by omega)]; simp
      · rw [if_neg h2, if_neg (by omega)]

theorem allOne_ok {β : Beta} : ∀ {l : List V} {us : List Value}, allOne l = true → concL β l = some us → ∀ u ∈ us, u.oneCell' = true
  | [], us, _, h, u, hu => by simp [concL] at h; subst h; cases hu
  | v :: l, us, ha, h, u, hu => by
    replace ha : and (oneV v) (allOne l) = true := ha
    have ha := Bool.and_eq_true_iff.1 ha
    simp only [concL, Option.bind_eq_some_iff, Option.map_eq_some_iff] at h
    obtain ⟨x, hx, z, hz, rfl⟩ := h
    cases hu with
    | head =>
      cases v with
      | agg => cases ha.1
      | tuple => cases ha.1
      | base w => simp only [conc] at hx; split at hx <;> simp_all
      | _ => cases u <;> first | rfl | (simp [conc] at hx; done) | (simp only [conc, Option.map_eq_some_iff, Option.bind_eq_some_iff] at hx; (try split at hx); (try cases hx); simp_all; done)
    | tail _ hu => exact allOne_ok ha.2 hz u hu

theorem setCells_at {b : Nat} {elem : TypeId} {frz : Nat × Nat} : ∀ (us : List Value) (o : Nat) (w : World) (c : Array Value), w.heap[b]? = some (.cells c elem frz) →
    ∃ c', (w.setCells b o us).heap[b]? = some (.cells c' elem frz) ∧ c'.size = c.size ∧ ∀ j : Nat, c'[j]? = if o ≤ j ∧ j < o + us.length ∧ j < c.size then us[j - o]? else c[j]?
  | [], o, w, c, h => ⟨c, h, rfl, fun j => by
      have : ¬ (o ≤ j ∧ j < o + ([] : List Value).length ∧ j < c.size) := by simp only [List.length_nil]; omega
      rw [if_neg this]⟩
  | u :: us, o, w, c, h => by
    have h1 : (w.setCell ⟨b, o, none⟩ u).heap[b]? = some (.cells (c.setIfInBounds o u) elem frz) := by
      simp [World.setCell, Array.getElem?_modify, h]
    obtain ⟨c', h2, h3, h4⟩ := setCells_at us (o + 1) _ _ h1
    refine ⟨c', h2, by simpa using h3, fun j => ?_⟩
    rw [h4]
    simp only [List.length_cons, Array.size_setIfInBounds, Array.getElem?_setIfInBounds]
    by_cases e1 : o + 1 ≤ j ∧ j < o + 1 + us.length ∧ j < c.size
    · rw [if_pos e1, if_pos (by omega)]
      have : j - o = (j - (o + 1)) + 1 := by omega
      rw [this]; simp
    · rw [if_neg e1]
      by_cases e2 : o = j
      · subst e2
        by_cases e3 : o < c.size
        · rw [if_pos rfl, if_pos e3, if_pos (by omega)]; simp
        · rw [if_pos rfl, if_neg e3, if_neg (by omega), Array.getElem?_eq_none (by omega)]
      · rw [if_neg e2, if_neg (by omega)]

theorem setCells_other {b k : Nat} (hk : k ≠ b) : ∀ (us : List Value) (o : Nat) (w : World), (w.setCells b o us).heap[k]? = w.heap[k]?
  | [], _, _ => rfl
  | u :: us, o, w => by
    rw [World.setCells, setCells_other hk us (o + 1)]
    exact Below.heap_setCell w ⟨b, o, none⟩ u k hk

theorem setCells_size {b : Nat} : ∀ (us : List Value) (o : Nat) (w : World), (w.setCells b o us).heap.size = w.heap.size
  | [], _, _ => rfl
  | u :: us, o, w => by rw [World.setCells, setCells_size us (o + 1), World.size_setCell]

theorem setCells_below {B b : Nat} (hb : B ≤ b) : ∀ (us : List Value) (o : Nat) (w : World), Below B w (w.setCells b o us)
  | [], _, w => Below.refl B w
  | u :: us, o, w => ((Below.refl B w).setCell (p := ⟨b, o, none⟩) hb u).trans (setCells_below hb us (o + 1) _)

theorem oCells_ok {o : O} {kk : T V → Nat → Nat → Out} {r : V} (h : oCells o kk = .ok r) : ∃ t n e, o = .cells t n e ∧ kk t n e = .ok r := by
  cases o <;> first | exact ⟨_, _, _, rfl, h⟩ | exact (bad_ne h).elim

theorem storeN_ok {P : Program} {h : T O} {id off : Nat} {vs : List V} {k : T O → Out} {r : V} (e : storeN h id off vs k = .ok r) :
    ∃ h', k h' = .ok r ∧ ∀ W0 β n w, HR W0 β h n w → ∀ b, β id = some b → ∀ us, concL β vs = some us →
      (storeCells ⟨b.blk, b.off + off, none⟩ us).run P w = .ok () (w.setCells b.blk (b.off + off) us) ∧ HR W0 β h' n (w.setCells b.blk (b.off + off) us) ∧ More β h n β h' n := by
  replace e := om_ok e; obtain ⟨o, ho, e⟩ := e
  replace e := oCells_ok e; obtain ⟨t, m, esz, rfl, e⟩ := e
  replace e := need_ok e; obtain ⟨hc, e⟩ := e
  have hc := Bool.and_eq_true_iff.1 hc
  have hle : off + vs.length ≤ m := Nat.le_of_ble_eq_true hc.2
  replace e := putL_go _ _ _ e; obtain ⟨t', e, ht⟩ := e
  replace e := setK_ok e; obtain ⟨h', e, hg⟩ := e
  refine ⟨h', e, fun W0 β n w H b hb us hus => ?_⟩
  obtain ⟨c, elem, frz, h1, h2, h3, h4, h5⟩ := H.obj id _ b ho hb
  have hlen := concL_len hus
  have hlt : b.off + off + us.length ≤ c.size := by omega
  obtain ⟨c', hc1, hc2, hc3⟩ := setCells_at us (b.off + off) w c h1
  refine ⟨?_, ?_, ext_put hb hg⟩
  · have := run_storeCells_cells (P := P) b.blk (b.off + off) us 0 w (fun j hj => by
        simp only [World.cell?, h1, Nat.add_zero]
        rw [Array.getElem?_eq_getElem (by omega)]; rfl) (fun j hj => by
        have := h4 (b.off + off + j) (by omega) (by omega)
        simp only [World.frozen?, h1, Nat.add_zero]
        simp only [Bool.and_eq_false_iff, decide_eq_false_iff_not]
        omega) (allOne_ok hc.1 hus)
    simpa using this
  · refine H.put ho hb hg (fun k hk => setCells_other hk us _ w) (setCells_size us _ w) (setCells_below (H.dom id b hb).2.1 us _ w) ?_
    refine ⟨c', elem, frz, hc1, h2, by omega, h4, fun i v hi hv => ?_⟩
    rw [ht] at hv
    rw [hc3]
    by_cases hin : off ≤ i ∧ i < off + vs.length
    · rw [if_pos hin] at hv
      obtain ⟨y, hy, hcy⟩ := concL_get _ hus hv
      refine ⟨y, ?_, hcy⟩
      rw [if_pos (by omega), show b.off + i - (b.off + off) = i - off by omega]
      exact hy
    · rw [if_neg hin] at hv
      rw [if_neg (by omega)]
      exact h5 i v hi hv

theorem storeK_ok {P : Program} {tys : T TI} (HT : TysR P tys) {h : T O} {t : Nat} {a v : V} {k : T O → Out} {r : V} (e : storeK tys h t a v k = .ok r) :
    ∃ h', k h' = .ok r ∧ ∀ W0 β n w, HR W0 β h n w → ∀ va vv, conc β a = some va → conc β v = some vv →
      ∃ w', (Instr.storeAt t va vv).run P w = .ok () w' ∧ HR W0 β h' n w' ∧ More β h n β h' n := by
  unfold storeK at e
  cases a <;> try exact (bad_ne e).elim
  rename_i id off
  replace e := om_ok e; obtain ⟨ti, hti, e⟩ := e
  have T := HT _ _ hti
  replace e := need_ok e; obtain ⟨hs, e⟩ := e
  have hs : (cellsOf v).length = ti.size := Nat.eq_of_beq_eq_true hs
  replace e := storeN_ok (P := P) e; obtain ⟨h', e, hst⟩ := e
  refine ⟨h', e, fun W0 β n w H va vv ha hv => ?_⟩
  obtain ⟨b, hb, rfl⟩ := conc_ptr ha
  obtain ⟨h1, h2⟩ := conc_cells hv
  obtain ⟨h3, h4, h5⟩ := hst W0 β n w H b hb _ h1
  refine ⟨_, ?_, h4, h5⟩
  simp only [Instr.storeAt, Instr.sureAddr, Sem.run_bind, Sem.run_pure, Result.andThen_ok, storeVar, T.sizeOf]
  rw [if_neg (by omega)]
  simp only [h3]

end Go.Mir
