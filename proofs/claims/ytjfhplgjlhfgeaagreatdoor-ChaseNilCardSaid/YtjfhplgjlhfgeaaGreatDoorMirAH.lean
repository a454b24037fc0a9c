/- The small machine against the model: the map operations, as the model has them. No statement of the program stands here. -/
import Derived.Test.YtjfhplgjlhfgeaaGreatDoorMirAG
namespace Go.Mir
open Go Go.RowKit

section
variable {P : Program} {tys : T TI} (HT : TysR P tys)

theorem run_mapUpdate {h : T O} {t : Nat} {m x v : V} {h' : T O} {u : V} {b : Nat} (S : PutSpec P h t m x (fun _ => v) v h' u b) {W0 : World} {β : Beta} {n : Nat} {w : World} (H : HR W0 β h n w)
    {vm vx vv : Value} (hm : conc β m = some vm) (hx : conc β x = some vx) (hv : conc β v = some vv) :
    ∃ w', (Instr.mapUpdate t vm vx vv).run P w = .ok () w' ∧ HR W0 β h' n w' ∧ More β h n β h' n := by
  obtain ⟨kt, et, blk, ms, clock, hu, rfl, hget, hck, hc⟩ := S W0 β n w H vm vx vv hm hx hv
  rcases hc with ⟨_, _, hf, hset⟩ | ⟨i, e, hi, hf, hkey, _, _, hst, hset⟩
  · obtain ⟨w', h1, h2, h3⟩ := hset vv hv
    exact ⟨w', by simp only [Instr.mapUpdate, Sem.run_bind, run_underlying hu, Result.andThen_ok, hget, hck, hf, h1], h2, h3⟩
  · obtain ⟨w', h1, h2, h3⟩ := hset vv hv
    refine ⟨w', ?_, h2, h3⟩
    simp only [Instr.mapUpdate, Sem.run_bind, run_underlying hu, Result.andThen_ok, hget, hck, hf, hi, Option.map_some, Option.getD_some, hst, h1]

theorem run_mapEntry {h : T O} {t : Nat} {m x z : V} {h' : T O} {u : V} {b : Nat} (S : PutSpec P h t m x (fun v => v) z h' u b) {W0 : World} {β : Beta} {n : Nat} {w : World} (H : HR W0 β h n w)
    {vm vx vz : Value} (hm : conc β m = some vm) (hx : conc β x = some vx) (hz : conc β z = some vz) (hzr : ∀ kt et, P.underlying t = some (.map kt et) → (zeroValue et).run P w = .ok vz w) :
    ∃ w' val, (Instr.mapEntry t vm vx).run P w = .ok val w' ∧ conc β (.tuple [u, .int .i64 (.ofNat b)]) = some val ∧ HR W0 β h' n w' ∧ More β h n β h' n := by
  obtain ⟨kt, et, blk, ms, clock, hu, rfl, hget, hck, hc⟩ := S W0 β n w H vm vx vz hm hx hz
  rcases hc with ⟨rfl, rfl, hf, hset⟩ | ⟨i, e, hi, hf, hkey, hv, hborn, hst, hset⟩
  · obtain ⟨w', h1, h2, h3⟩ := hset vz hz
    refine ⟨w', .tuple #[vz, goInt b], ?_, ?_, h2, h3⟩
    · simp only [Instr.mapEntry, Sem.run_bind, run_underlying hu, Result.andThen_ok, hget, hck, hf, hzr kt et hu, h1, Sem.run_pure]
    · simp [conc, concL, hz, goInt]
  · obtain ⟨w', h1, h2, h3⟩ := hset e.val hv
    refine ⟨w', .tuple #[e.val, goInt b], ?_, ?_, h2, h3⟩
    · have hmod : (ms.modify i fun e => { e with key := vx }) = ms.modify i fun e' => { e' with key := vx, val := e.val } := by
        apply Array.ext_getElem?
        intro j
        simp only [Array.getElem?_modify]
        by_cases hij : i = j
        · subst hij; simp [hi]
        · simp [hij]
      simp only [Instr.mapEntry, Sem.run_bind, run_underlying hu, Result.andThen_ok, hget, hck, hf, hi, Option.map_some, Option.getD_some, hst, hmod, h1, Sem.run_pure, hborn]
    · simp [conc, concL, hv, goInt]

end

end Go.Mir
