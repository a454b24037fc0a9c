/- The small machine against the model: an entry of a map, written. No statement of the program stands here. -/
import Derived.Test.YtjfhplgjlhfgeaaGreatDoorMirAH
namespace Go.Mir
open Go Go.RowKit

theorem findBorn_go {kn : Out} {k : Nat → Out} {r : V} {b : Nat} : ∀ (es : List (V × V × Nat)) (i0 : Nat),
    (List.rec (motive := fun _ => Nat → Out) (fun _ => kn) (fun e _ ih i => Bool.rec (ih (Nat.succ i)) (k i) (Nat.beq e.2.2 b)) es i0 : Out) = .ok r →
    kn = .ok r ∨ ∃ i, i0 ≤ i ∧ k i = .ok r ∧ ∀ β ms, EntsR β es ms → ms.findIdx? (fun e => (e.born : Int) == (b : Int)) = some (i - i0)
  | [], i0, h => .inl h
  | e :: es, i0, h => by
    rcases rec_ok h with ⟨hb, h⟩ | ⟨hb, h⟩
    · refine .inr ⟨i0, Nat.le_refl _, h, fun β ms hE => ?_⟩
      cases ms with
      | nil => exact hE.elim
      | cons m ms =>
        have : m.born = b := by rw [hE.2.2.1]; exact Nat.eq_of_beq_eq_true hb
        simp [List.findIdx?_cons, this]
    · rcases findBorn_go es (i0 + 1) h with h | ⟨i, hi, h, hf⟩
      · exact .inl h
      · refine .inr ⟨i, by omega, h, fun β ms hE => ?_⟩
        cases ms with
        | nil => exact hE.elim
        | cons m ms =>
          have hne : ¬ m.born = b := by
            rw [hE.2.2.1]; intro e; rw [e] at hb; simp at hb
          have hne' : ((m.born : Int) == (b : Int)) = false := by
            simp only [beq_eq_false_iff_ne, ne_eq]; omega
          simp only [List.findIdx?_cons, hne', Bool.false_eq_true, if_false, hf β ms hE.2.2.2, Option.map_some]
          congr 1; omega

theorem entryPut_ok {P : Program} {h : T O} {m b x : V} {k : T O → Out} {r : V} (e : entryPut h m b x k = .ok r) :
    ∃ h', k h' = .ok r ∧ ∀ W0 β n w, HR W0 β h n w → ∀ t vm vb vx, conc β m = some vm → conc β b = some vb → conc β x = some vx →
      ∃ w', (Instr.entryStore t vm vb vx).run P w = .ok () w' ∧ HR W0 β h' n w' ∧ More β h n β h' n := by
  replace e := mapObj_ok e; obtain ⟨id, es, clock, rfl, ho, e⟩ := e
  replace e := ixOf_ok e; obtain ⟨kk, q, rfl, e⟩ := e
  rcases findBorn_go es 0 e with e | ⟨i, _, e, hf⟩
  · exact (bad_ne e).elim
  · rw [modE_eq] at e
    replace e := setMap_ok (P := P) ho e; obtain ⟨h', e, hset⟩ := e
    refine ⟨h', e, fun W0 β n w H t vm vb vx hm hb hx => ?_⟩
    obtain ⟨bb, hbb, rfl⟩ := conc_map hm
    simp only [conc, Option.some.injEq] at hb; subst hb
    obtain ⟨ms, hget, _, hE⟩ := run_getMap (P := P) H ho hbb
    obtain ⟨w', h1, h2, h3⟩ := hset W0 β n w H bb hbb (ms.modify i fun e => { e with val := vx }) (by
      rw [Array.toList_modify, modify_eq]
      exact hE.mod i fun e' m' he' hm' => by
        have : ∀ {es : List (V × V × Nat)} {ms : List MapEntry} (i : Nat), EntsR β es ms → ∀ e m, es[i]? = some e → ms[i]? = some m → conc β e.1 = some m.key ∧ m.born = e.2.2 := by
          intro es
          induction es with
          | nil => intro ms i _ e m h; simp at h
          | cons e0 es ih =>
            intro ms i hE e m h1 h2
            cases ms with
            | nil => exact hE.elim
            | cons m0 ms =>
              cases i with
              | zero => simp at h1 h2; subst h1; subst h2; exact ⟨hE.1, hE.2.2.1⟩
              | succ i => exact ih i hE.2.2.2 e m (by simpa using h1) (by simpa using h2)
        have := this i hE e' m' he' hm'
        exact ⟨this.1, hx, this.2⟩)
    refine ⟨w', ?_, h2, h3⟩
    have hfi := hf β ms.toList hE
    rw [Nat.sub_zero] at hfi
    have hfa : ms.findIdx? (fun e => (e.born : Int) == (q : Int)) = some i := by
      have := hfi; rw [← List.findIdx?_toArray, Array.toArray_toList] at this; exact this
    simp only [Instr.entryStore, Sem.run_bind, Sem.run_pure, Result.andThen_ok, hget, asInt, asIntOf, Int.ofNat_eq_natCast, hfa, h1]

end Go.Mir
