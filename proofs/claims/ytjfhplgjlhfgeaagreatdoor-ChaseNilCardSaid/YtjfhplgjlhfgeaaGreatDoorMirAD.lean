/- The small machine against the model: maps written. No statement of the program stands here. -/
import Derived.Test.YtjfhplgjlhfgeaaGreatDoorMirAC
namespace Go.Mir
open Go Go.RowKit

def modLL {α : Type} (f : α → α) : List α → Nat → List α
  | [], _ => []
  | a :: t, 0 => f a :: t
  | a :: t, i + 1 => a :: modLL f t i

theorem modE_eq {β : Type} (f : V × V × Nat → V × V × Nat) : ∀ (l : List (V × V × Nat)) (i : Nat) (k : List (V × V × Nat) → β), modE f l i k = k (modLL f l i)
  | [], _, _ => rfl
  | _ :: _, 0, _ => rfl
  | a :: t, i + 1, k => by
    show modE f t i (fun l => k (a :: l)) = _
    rw [modE_eq f t i]; rfl

theorem modify_eq {α : Type} (f : α → α) : ∀ (l : List α) (i : Nat), l.modify i f = modLL f l i
  | [], i => by cases i <;> rfl
  | a :: t, 0 => by simp [modLL]
  | a :: t, i + 1 => by simp [modLL, modify_eq f t i]

theorem EntsR.mod {β : Beta} {f : V × V × Nat → V × V × Nat} {g : MapEntry → MapEntry} : ∀ {es : List (V × V × Nat)} {ms : List MapEntry} (i : Nat), EntsR β es ms →
    (∀ e m, es[i]? = some e → ms[i]? = some m → conc β (f e).1 = some (g m).key ∧ conc β (f e).2.1 = some (g m).val ∧ (g m).born = (f e).2.2) → EntsR β (modLL f es i) (modLL g ms i)
  | [], [], i, _, _ => by simp [modLL, EntsR]
  | e :: es, m :: ms, 0, h, hf => by
    obtain ⟨a, b, c⟩ := hf e m rfl rfl
    exact ⟨a, b, c, h.2.2.2⟩
  | e :: es, m :: ms, i + 1, h, hf => ⟨h.1, h.2.1, h.2.2.1, EntsR.mod i h.2.2.2 fun e m h1 h2 => hf e m (by simpa using h1) (by simpa using h2)⟩
  | [], _ :: _, _, h, _ => h.elim
  | _ :: _, [], _, h, _ => h.elim

theorem EntsR.push {β : Beta} : ∀ {es : List (V × V × Nat)} {ms : List MapEntry} {e : V × V × Nat} {m : MapEntry}, EntsR β es ms →
    conc β e.1 = some m.key → conc β e.2.1 = some m.val → m.born = e.2.2 → EntsR β (es ++ [e]) (ms ++ [m])
  | [], [], _, _, _, a, b, c => ⟨a, b, c, trivial⟩
  | _ :: _, _ :: _, _, _, h, a, b, c => ⟨h.1, h.2.1, h.2.2.1, EntsR.push h.2.2.2 a b c⟩
  | [], _ :: _, _, _, h, _, _, _ => h.elim
  | _ :: _, [], _, _, h, _, _, _ => h.elim

/-- a map, written anew -/
theorem setMap_ok {P : Program} {h : T O} {id : Nat} {es es0 : List (V × V × Nat)} {c c0 : Nat} {k : T O → Out} {r : V} (ho : h.get id = some (.map es0 c0)) (e : setMap h id es c k = .ok r) :
    ∃ h', k h' = .ok r ∧ ∀ W0 β n w, HR W0 β h n w → ∀ b, β id = some b → ∀ ms : Array MapEntry, EntsR β es ms.toList →
      ∃ w', (setObj b.blk (.map ms c)).run P w = .ok () w' ∧ HR W0 β h' n w' ∧ More β h n β h' n := by
  replace e := setK_ok e; obtain ⟨h', e, hg⟩ := e
  refine ⟨h', e, fun W0 β n w H b hb ms hE => ⟨{ w with heap := w.heap.setIfInBounds b.blk (.map ms c) }, ?_, ?_, ext_put hb hg⟩⟩
  · obtain ⟨ms0, hms, _⟩ := H.obj id _ b ho hb
    simp [setObj, Sem.run, hms]
  · have hd := H.dom id b hb
    refine H.put ho hb hg (fun k hk => ?_) (by simp) ?_ ⟨ms, ?_, hE⟩
    · simp [Ne.symm hk]
    · exact ⟨rfl, rfl, rfl, by simp, fun k hk => by
        have : ¬ b.blk = k := by omega
        simp [this]⟩
    · simp [hd.2.2]

end Go.Mir
