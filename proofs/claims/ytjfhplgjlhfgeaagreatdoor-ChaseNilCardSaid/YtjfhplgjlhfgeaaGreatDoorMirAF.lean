/- The small machine against the model: maps written, by key. No statement of the program stands here. -/
import Derived.Test.YtjfhplgjlhfgeaaGreatDoorMirAE
namespace Go.Mir
open Go Go.RowKit

/-- a key that is put again stays as it is -/
theorem key_stays {P : Program} {x : V} (hk : keyOk x = true) {β : Beta} {v : Value} (h : conc β x = some v) (w : World) : (Instr.keyThatStays v v).run P w = .ok v w := by
  have hs : Instr.sameBits 10000 v v = true := by
    cases x <;> try (cases hk; done)
    case int k n =>
      simp only [conc, Option.some.injEq] at h; subst h
      simp [Instr.sameBits]
    case str l =>
      obtain ⟨_, rfl⟩ := conc_str h
      simp [Instr.sameBits, beq_toListBytes]
    case agg l =>
      obtain ⟨vs, hvs, rfl⟩ := conc_agg h
      have : ∀ (l : List V) (vs : List Value), (List.rec (motive := fun _ => Bool) true (fun v _ ih => match v with | .int _ _ => ih | .bool _ => ih | .str _ => ih | _ => false) l : Bool) = true →
          concL β l = some vs → (vs.zip vs).all (fun (x, y) => Instr.sameBits 9999 x y) = true := by
        intro l
        induction l with
        | nil => intro vs _ h; simp [concL] at h; subst h; rfl
        | cons a l ih =>
          intro vs hk h
          simp only [concL, Option.bind_eq_some_iff, Option.map_eq_some_iff] at h
          obtain ⟨y, hy, z, hz, rfl⟩ := h
          cases a <;> try (cases hk; done)
          case int k n =>
            simp only [conc, Option.some.injEq] at hy; subst hy
            have := ih z hk hz
            simp only [List.zip_cons_cons, List.all_cons, this, Bool.and_true]
            simp [Instr.sameBits]
          case bool b =>
            simp only [conc, Option.some.injEq] at hy; subst hy
            have := ih z hk hz
            simp only [List.zip_cons_cons, List.all_cons, this, Bool.and_true]
            simp [Instr.sameBits]
          case str s =>
            obtain ⟨_, rfl⟩ := conc_str hy
            have := ih z hk hz
            simp only [List.zip_cons_cons, List.all_cons, this, Bool.and_true]
            simp [Instr.sameBits, beq_toListBytes]
      have := this l vs hk hvs
      show Instr.sameBits (9999 + 1) (.agg vs.toArray) (.agg vs.toArray) = true
      simp only [Instr.sameBits, beq_self_eq_true, Bool.true_and]
      exact this
  simp [Instr.keyThatStays, hs]

end Go.Mir
