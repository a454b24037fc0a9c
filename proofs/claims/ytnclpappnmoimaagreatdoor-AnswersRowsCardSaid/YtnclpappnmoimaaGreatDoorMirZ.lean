/- The small machine against the model: structs built, and all the operations that make a value. No statement of the program stands here. -/
import Derived.Test.YtnclpappnmoimaaGreatDoorMirY
namespace Go.Mir
open Go Go.RowKit

theorem take_set_succ {α : Type} : ∀ (l : List α) (a : Nat) (v : α), a < l.length → (l.set a v).take (a + 1) = l.take a ++ [v]
  | [], a, v, h => by simp at h
  | x :: l, 0, v, h => by simp
  | x :: l, a + 1, v, h => by
    have := take_set_succ l a v (by simpa using h)
    simpa using this

theorem drop_set_gt {α : Type} : ∀ (l : List α) (a b : Nat) (v : α), a < b → (l.set a v).drop b = l.drop b
  | [], a, b, v, h => by simp
  | x :: l, 0, b + 1, v, h => by simp
  | x :: l, a + 1, b + 1, v, h => by
    have := drop_set_gt l a b v (by omega)
    simpa using this
  | x :: l, a, 0, v, h => by omega

theorem fold_put (l : List Value) : ∀ (o j : Nat) (cs : Array Value), o + j + l.length ≤ cs.size →
    ((l.zipIdx j).foldl (fun cs (x : Value × Nat) => cs.setIfInBounds (o + x.2) x.1) cs).toList = cs.toList.take (o + j) ++ l ++ cs.toList.drop (o + j + l.length) := by
  induction l with
  | nil => intro o j cs _; simp
  | cons v l ih =>
    intro o j cs h
    simp only [List.length_cons] at h
    simp only [List.zipIdx_cons, List.foldl_cons]
    rw [ih o (j + 1) _ (by simp; omega)]
    simp only [Array.toList_setIfInBounds]
    rw [show o + (j + 1) = (o + j) + 1 from rfl, take_set_succ _ _ _ (by simp; omega), drop_set_gt _ _ _ _ (by omega)]
    simp only [List.length_cons, List.append_assoc, List.singleton_append]
    rw [show o + j + 1 + l.length = o + j + (l.length + 1) by omega]

theorem conc_cells {β : Beta} {v : V} {x : Value} (h : conc β v = some x) : concL β (cellsOf v) = some x.cells.toList ∧ (cellsOf v).length = x.cells.size := by
  cases v with
  | agg cs =>
    obtain ⟨vs, hv, rfl⟩ := conc_agg h
    exact ⟨by simpa [cellsOf, Value.cells] using hv, by simp [cellsOf, Value.cells, concL_len hv]⟩
  | base v =>
    have hx := h
    obtain rfl := conc_base h
    have : x.cells = #[x] := by
      cases x <;> first | rfl | (simp [conc, Value.oneCell'] at hx)
    rw [this]
    exact ⟨by simp [cellsOf, concL, hx], rfl⟩
  | _ =>
    have : x.cells = #[x] := by
      cases x <;> first | rfl | (simp [conc] at h; done) | (simp only [conc, Option.map_eq_some_iff, Option.bind_eq_some_iff] at h; (try split at h); (try cases h); simp_all; done)
    rw [this]
    exact ⟨by simp [cellsOf, concL, h], rfl⟩

section
variable {P : Program} {tys : T TI} (HT : TysR P tys) {r : Rz}

theorem allTy_ok {tys : T TI} : ∀ {fs : List (Nat × Nat × Nat × Bool)}, allTy tys fs = true → ∀ p ∈ fs, ∃ te, tys.get p.2.1 = some te
  | [], _, p, hp => by cases hp
  | f :: fs, h, p, hp => by
    replace h : and (Option.rec false (fun _ => true) (tys.get f.2.1)) (allTy tys fs) = true := h
    have h := Bool.and_eq_true_iff.1 h
    cases hp with
    | head =>
      cases hg : tys.get f.2.1 with
      | none => rw [hg] at h; cases h.1
      | some te => exact ⟨te, rfl⟩
    | tail _ hp => exact allTy_ok h.2 p hp

/-- how our places stand to the model's -/
def PlaceR (place : Nat → (Nat → Nat → Out) → Out) (pm : Nat → Option (Nat × Nat)) : Prop :=
  ∀ i go r, place i go = .ok r → ∃ off size, go off size = .ok r ∧ pm i = some (off, size)

theorem fillK_ok {regs : T V} {place : Nat → (Nat → Nat → Out) → Out} {pm : Nat → Option (Nat × Nat)} (hp : PlaceR place pm) {n : Nat} {k : List V → Out} :
    ∀ (parts : List (Nat × Operand)) (cells : List V), fillK regs place n parts cells k = .ok r →
    ∃ l, k l = .ok r ∧ ∀ β ρ cs, (∀ p ∈ parts, Agree β regs ρ p.2) → concL β cells = some cs → cells.length = n →
      ∃ ls, concL β l = some ls ∧ l.length = n ∧ Instr.fill pm cs.toArray (parts.map fun p => (p.1, ρ p.2)) = some ls.toArray
  | [], cells, h => ⟨cells, h, fun β ρ cs _ hc hn => ⟨cs, hc, hn, rfl⟩⟩
  | p :: parts, cells, h => by
    replace h := ev_ok h; obtain ⟨v, h, hv⟩ := h
    replace h := hp _ _ _ h; obtain ⟨off, size, h, hpm⟩ := h
    replace h := need_ok h; obtain ⟨hc, h⟩ := h
    have hc := Bool.and_eq_true_iff.1 hc
    have h1 : (cellsOf v).length = size := Nat.eq_of_beq_eq_true hc.1
    have h2 : off + size ≤ n := Nat.le_of_ble_eq_true hc.2
    unfold putCells at h
    rw [spine_eq] at h
    obtain ⟨l, h, hl⟩ := fillK_ok hp parts _ h
    refine ⟨l, h, fun β ρ cs hA hcs hn => ?_⟩
    have hx := hv β ρ (hA p (by simp))
    obtain ⟨hcc, hcl⟩ := conc_cells hx
    have hcsl := concL_len hcs
    have hnew : concL β (cells.take off ++ cellsOf v ++ cells.drop (Nat.add off (cellsOf v).length)) = some (cs.take off ++ (ρ p.2).cells.toList ++ cs.drop (off + (cellsOf v).length)) :=
      concL_app (concL_app (concL_take off hcs) hcc) (concL_drop _ hcs)
    obtain ⟨ls, h3, h4, h5⟩ := hl β ρ _ (fun q hq => hA q (by simp [hq])) hnew (by
      simp only [List.length_append, List.length_take, List.length_drop]
      show min off cells.length + (cellsOf v).length + (cells.length - (off + (cellsOf v).length)) = n
      omega)
    refine ⟨ls, h3, h4, ?_⟩
    simp only [List.map_cons, Instr.fill, hpm]
    have hs : (ρ p.2).cells.size = size := by omega
    rw [if_neg (by
      simp only [ne_eq, hs, not_true_eq_false, decide_false, Bool.false_or, gt_iff_lt, decide_eq_true_eq, List.size_toArray]
      omega)]
    have hfold : ((ρ p.2).cells.zipIdx.foldl (fun cs (x : Value × Nat) => cs.setIfInBounds (off + x.2) x.1) cs.toArray) = (cs.take off ++ (ρ p.2).cells.toList ++ cs.drop (off + (cellsOf v).length)).toArray := by
      apply Array.ext'
      rw [← Array.foldl_toList, Array.toList_zipIdx]
      have := fold_put (ρ p.2).cells.toList off 0 cs.toArray (by simp; omega)
      rw [this]
      simp [hcl]
    rw [hfold]
    exact h5

theorem plA_ok (esz : Nat) : PlaceR (plA esz) (fun i => some (i * esz, esz)) := fun _i _go _r h => ⟨_, _, h, rfl⟩

theorem run_places (w : World) : ∀ (gs : List Field), (∀ g ∈ gs, ∃ i, P.info? g.type = some i) →
    (gs.mapM (fun f => do pure (f.offset, ← sizeOf f.type) : Field → Sem (Nat × Nat))).run P w = .ok (gs.map fun f => (f.offset, P.cellsOf f.type)) w
  | [], _ => rfl
  | g :: gs, h => by
    obtain ⟨i, hi⟩ := h g (by simp)
    have := run_places w gs (fun x hx => h x (by simp [hx]))
    simp only [List.mapM_cons, Sem.run_bind, run_sizeOf w hi, Result.andThen_ok, Sem.run_pure, this, List.map_cons]

theorem run_placesA (w : World) (gs : Array Field) (h : ∀ g ∈ gs.toList, ∃ i, P.info? g.type = some i) :
    (gs.mapM (fun f => do pure (f.offset, ← sizeOf f.type) : Field → Sem (Nat × Nat))).run P w = .ok ((gs.toList.map fun f => (f.offset, P.cellsOf f.type)).toArray) w := by
  rw [Array.mapM_eq_mapM_toList]
  simp only [Sem.run_map, run_places w gs.toList h, Result.andThen_ok]

include HT in
theorem buildK_ok {regs : T V} {t : Nat} {parts : List (Nat × Operand)} {k : V → Out} (h : buildK tys regs t parts k = .ok r) :
    ∃ v, k v = .ok r ∧ ∀ β ρ, (∀ p ∈ parts, Agree β regs ρ p.2) → ∃ val, conc β v = some val ∧ ∀ w, (Instr.build t (parts.map fun p => (p.1, ρ p.2)).toArray).run P w = .ok val w := by
  replace h := om_ok h; obtain ⟨ti, hti, h⟩ := h
  have T := HT _ _ hti
  split at h
  · rename_i fs hk
    replace h := need_ok h; obtain ⟨hall, h⟩ := h
    obtain ⟨gs, hgs, hm⟩ := T.struct hk
    have hP : PlaceR (plF fs) (fun i => (gs.toList.map (fun f => (f.offset, P.cellsOf f.type))).toArray[i]?) := by
      intro i go r h
      replace h := om_ok h; obtain ⟨p, hp, h⟩ := h
      rw [nth_eq, ← hm, List.getElem?_map, Option.map_eq_some_iff] at hp
      obtain ⟨g, hg, rfl⟩ := hp
      exact ⟨_, _, h, by simp at hg; simp [hg]⟩
    obtain ⟨l, h, hl⟩ := fillK_ok hP parts _ h
    refine ⟨_, h, fun β ρ hA => ?_⟩
    obtain ⟨z, hz, hzc, hzz, _, hzs⟩ := T.zero default
    have hz : ∀ w, (zeroValue t).run P w = .ok z w := by
      obtain ⟨i, hi, _, _, zz, hzz, _⟩ := T.info
      intro w
      simp [zeroValue, run_typeInfo _ hi, hzz] at hz ⊢
      exact hz
    obtain ⟨ls, h1, h2, h3⟩ := hl β ρ z.cells.toList hA (hzc β) (by have := concL_len (hzc β); simp at this; omega)
    refine ⟨.agg ls.toArray, by simp [conc, h1], fun w => ?_⟩
    have hinfo : ∀ g ∈ gs.toList, ∃ i, P.info? g.type = some i := by
      intro g hg
      have hin : (g.offset, g.type, P.cellsOf g.type, g.name != "_") ∈ fs := by rw [← hm]; exact List.mem_map.2 ⟨g, hg, rfl⟩
      have := allTy_ok hall _ hin
      obtain ⟨te, hte⟩ := this
      obtain ⟨i, hi, _⟩ := (HT _ _ hte).info
      exact ⟨i, hi⟩
    simp only [Instr.build, Sem.run_bind, hz, Result.andThen_ok, run_underlying hgs, run_placesA w gs hinfo]
    simp only [Array.toArray_toList] at h3
    rw [h3]
    rfl
  · rename_i n0 e hk
    replace h := om_ok h; obtain ⟨te, hte, h⟩ := h
    obtain ⟨l, h, hl⟩ := fillK_ok (plA_ok te.size) parts _ h
    refine ⟨_, h, fun β ρ hA => ?_⟩
    obtain ⟨z, hz, hzc, hzz, _, hzs⟩ := T.zero default
    have hz : ∀ w, (zeroValue t).run P w = .ok z w := by
      obtain ⟨i, hi, _, _, zz, hzz, _⟩ := T.info
      intro w
      simp [zeroValue, run_typeInfo _ hi, hzz] at hz ⊢
      exact hz
    obtain ⟨ls, h1, h2, h3⟩ := hl β ρ z.cells.toList hA (hzc β) (by have := concL_len (hzc β); simp at this; omega)
    refine ⟨.agg ls.toArray, by simp [conc, h1], fun w => ?_⟩
    simp only [Instr.build, Sem.run_bind, hz, Result.andThen_ok, run_underlying (T.array hk), (HT _ _ hte).sizeOf]
    simp only [Array.toArray_toList] at h3
    rw [h3]
    rfl
  · exact (bad_ne h).elim

end

end Go.Mir
