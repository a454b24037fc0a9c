/- The small machine against the model: all the operations that make a value. No statement of the program stands here. -/
import Derived.Test.YthninknobjneeaaGreatDoorMirY
namespace Go.Mir
open Go Go.RowKit

theorem take_set_succ {α : Type} : ∀ (l : List α) (a : Nat) (v : α), a < l.length → (l.set a v).take (a + 1) = l.take a ++ [v]
  | [], a, v, h => by simp at h
  | x :: l, 0, v, h => by simp
  | x :: l, a + 1, v, h => by
    have := take_set_succ l a v (by simpa using h)
    simpa using this

theorem drop_set_gt {α : Type} : ∀ (l : List α) (a b : Nat) (v : α), a < b → (l.set a v).drop b = l.drop b
  | [], a, b, v, h => by simp
  | x :: l, 0, b + 1, v, h => by simp
  | x :: l, a + 1, b + 1, v, h => by
    have := drop_set_gt l a b v (by omega)
    simpa using this
  | x :: l, a, 0, v, h => by omega

theorem fold_put (l : List Value) : ∀ (o j : Nat) (cs : Array Value), o + j + l.length ≤ cs.size →
    ((l.zipIdx j).foldl (fun cs (x : Value × Nat) => cs.setIfInBounds (o + x.2) x.1) cs).toList = cs.toList.take (o + j) ++ l ++ cs.toList.drop (o + j + l.length) := by
  induction l with
  | nil => intro o j cs _; simp
  | cons v l ih =>
    intro o j cs h
    simp only [List.length_cons] at h
    simp only [List.zipIdx_cons, List.foldl_cons]
    rw [ih o (j + 1) _ (by simp; omega)]
    simp only [Array.toList_setIfInBounds]
    rw [show o + (j + 1) = (o + j) + 1 from rfl, take_set_succ _ _ _ (by simp; omega), drop_set_gt _ _ _ _ (by omega)]
    simp only [List.length_cons, List.append_assoc, List.singleton_append]
    rw [show o + j + 1 + l.length = o + j + (l.length + 1) by omega]

theorem conc_cells {β : Beta} {v : V} {x : Value} (h : conc β v = some x) : concL β (cellsOf v) = some x.cells.toList ∧ (cellsOf v).length = x.cells.size := by
  cases v with
  | agg cs =>
    obtain ⟨vs, hv, rfl⟩ := conc_agg h
    exact ⟨by simpa [cellsOf, Value.cells] using hv, by simp [cellsOf, Value.cells, concL_len hv]⟩
  | base v =>
    have hx := h
    obtain rfl := conc_base h
    have : x.cells = #[x] := by
      cases x <;> first | rfl | (simp [conc, Value.oneCell'] at hx)
    rw [this]
    exact ⟨by simp [cellsOf, concL, hx], rfl⟩
  | _ =>
    have : x.cells = #[x] := by
      cases x <;> first | rfl | (simp [conc] at h; done) | (simp only [conc, Option.map_eq_some_iff, Option.bind_eq_some_iff] at h; (try split at h); (try cases h); simp_all; done)
    rw [this]
    exact ⟨by simp [cellsOf, concL, h], rfl⟩

section
variable {P : Program} {tys : T TI} (HT : TysR P tys) {r : Rz}

theorem allTy_ok {tys : T TI} : ∀ {fs : List (Nat × Nat × Nat × Bool)}, allTy tys fs = true → ∀ p ∈ fs, ∃ te, tys.get p.2.1 = some te
  | [], _, p, hp => by cases hp
  | f :: fs, h, p, hp => by
    replace h : and (Option.rec false (fun _ => true) (tys.get f.2.1)) (allTy tys fs) = true := h
    have h := Bool.and_eq_true_iff.1 h
    cases hp with
    | head =>
      cases hg : tys.get f.2.1 with
      | none => rw [hg] at h; cases h.1
      | some te => exact ⟨te, rfl⟩
    | tail _ hp => exact allTy_ok h.2 p hp

/-- how our places stand to the model's -/
def PlaceR (place : Nat → (Nat → Nat → Out) → Out) (pm : Nat → Option (Nat × Nat)) : Prop :=
  ∀ i go r, place i go = .ok r → ∃ off size, go off size = .ok r ∧ pm i = some (off, size)

theorem fillK_ok {regs : T V} {place : Nat → (Nat → Nat → Out) → Out} {pm : Nat → Option (Nat × Nat)} (hp : PlaceR place pm) {n : Nat} {k : List V → Out} :
    ∀ (parts : List (Nat × Operand)) (cells : List V), fillK regs place n parts cells k = .ok r →
    ∃ l, k l = .ok r ∧ ∀ β ρ cs, (∀ p ∈ parts, Agree β regs ρ p.2) → concL β cells = some cs → cells.length = n →
      ∃ ls, concL β l = some ls ∧ l.length = n ∧ Instr.fill pm cs.toArray (parts.map fun p => (p.1, ρ p.2)) = some ls.toArray
  | [], cells, h => ⟨cells, h, fun β ρ cs _ hc hn => ⟨cs, hc, hn, rfl⟩⟩
  | p :: parts, cells, h => by
    replace h := ev_ok h; obtain ⟨v, h, hv⟩ := h
    replace h := hp _ _ _ h; obtain ⟨off, size, h, hpm⟩ := h
    replace h := need_ok h; obtain ⟨hc, h⟩ := h
    have hc := Bool.and_eq_true_iff.1 hc
    have h1 : (cellsOf v).length = size := Nat.eq_of_beq_eq_true hc.1
    have h2 : off + size ≤ n := Nat.le_of_ble_eq_true hc.2
    unfold putCells at h
    rw [spine_eq] at h
    obtain ⟨l, h, hl⟩ := fillK_ok hp parts _ h
    refine ⟨l, h, fun β ρ cs hA hcs hn => ?_⟩
    have hx := hv β ρ (hA p (by simp))
    obtain ⟨hcc, hcl⟩ := conc_cells hx
    have hcsl := concL_len hcs
    have hnew : concL β (cells.take off ++ cellsOf v ++ cells.drop (Nat.add off (cellsOf v).length)) = some (cs.take off ++ (ρ p.2).cells.toList ++ cs.drop (off + (cellsOf v).length)) :=
      concL_app (concL_app (concL_take off hcs) hcc) (concL_drop _ hcs)
    obtain ⟨ls, h3, h4, h5⟩ := hl β ρ _ (fun q hq => hA q (by simp [hq])) hnew (by
      simp only [List.length_append, List.length_take, List.length_drop]
      show min off cells.length + (cellsOf v).length + (cells.length - (off + (cellsOf v).length)) = n
      omega)
    refine ⟨ls, h3, h4, ?_⟩
    simp only [List.map_cons, Instr.fill, hpm]
    have hs : (ρ p.2).cells.size = size := by omega
    rw [if_neg (by
      simp only [ne_eq, hs, not_true_eq_false, decide_false, Bool.false_or, gt_iff_lt, decide_eq_true_eq, List.size_toArray]
      omega)]
    have hfold : ((ρ p.2).cells.zipIdx.foldl (fun cs (x : Value × Nat) => cs.setIfInBounds (off + x.2) x.1) cs.toArray) = (cs.take off ++ (ρ p.2).cells.toList ++ cs.drop (off + (cellsOf v).length)).toArray := by
      apply Array.ext'
      rw [← Array.foldl_toList, Array.toList_zipIdx]
      have := fold_put (ρ p.2).cells.toList off 0 cs.toArray (by simp; omega)
      rw [this]
      simp [hcl]
    rw [hfold]
    exact h5

theorem plA_ok (esz : Nat) : PlaceR (plA esz) (fun i => some (i * esz, esz)) := fun _i _go _r h => ⟨_, _, h, rfl⟩

theorem run_places (w : World) : ∀ (gs : List Field), (∀ g ∈ gs, ∃ i, P.info? g.type = some i) →
    (gs.mapM (fun f => do pure (f.offset, ← sizeOf f.type) : Field → Sem (Nat × Nat))).run P w = .ok (gs.map fun f => (f.offset, P.cellsOf f.type)) w
  | [], _ => rfl
  | g :: gs, h => by
    obtain ⟨i, hi⟩ := h g (by simp)
    have := run_places w gs (fun x hx => h x (by simp [hx]))
    simp only [List.mapM_cons, Sem.run_bind, run_sizeOf w hi, Result.andThen_ok, Sem.run_pure, this, List.map_cons]

theorem run_placesA (w : World) (gs : Array Field) (h : ∀ g ∈ gs.toList, ∃ i, P.info? g.type = some i) :
    (gs.mapM (fun f => do pure (f.offset, ← sizeOf f.type) : Field → Sem (Nat × Nat))).run P w = .ok ((gs.toList.map fun f => (f.offset, P.cellsOf f.type)).toArray) w := by
  rw [Array.mapM_eq_mapM_toList]
  simp only [Sem.run_map, run_places w gs.toList h, Result.andThen_ok]

include HT in
theorem buildK_ok {regs : T V} {t : Nat} {parts : List (Nat × Operand)} {k : V → Out} (h : buildK tys regs t parts k = .ok r) :
    ∃ v, k v = .ok r ∧ ∀ β ρ, (∀ p ∈ parts, Agree β regs ρ p.2) → ∃ val, conc β v = some val ∧ ∀ w, (Instr.build t (parts.map fun p => (p.1, ρ p.2)).toArray).run P w = .ok val w := by
  replace h := om_ok h; obtain ⟨ti, hti, h⟩ := h
  have T := HT _ _ hti
  split at h
  · rename_i fs hk
    replace h := need_ok h; obtain ⟨hall, h⟩ := h
    obtain ⟨gs, hgs, hm⟩ := T.struct hk
    have hP : PlaceR (plF fs) (fun i => (gs.toList.map (fun f => (f.offset, P.cellsOf f.type))).toArray[i]?) := by
      intro i go r h
      replace h := om_ok h; obtain ⟨p, hp, h⟩ := h
      rw [nth_eq, ← hm, List.getElem?_map, Option.map_eq_some_iff] at hp
      obtain ⟨g, hg, rfl⟩ := hp
      exact ⟨_, _, h, by simp at hg; simp [hg]⟩
    obtain ⟨l, h, hl⟩ := fillK_ok hP parts _ h
    refine ⟨_, h, fun β ρ hA => ?_⟩
    obtain ⟨z, hz, hzc, hzz, _, hzs⟩ := T.zero default
    have hz : ∀ w, (zeroValue t).run P w = .ok z w := by
      obtain ⟨i, hi, _, _, zz, hzz, _⟩ := T.info
      intro w
      simp [zeroValue, run_typeInfo _ hi, hzz] at hz ⊢
      exact hz
    obtain ⟨ls, h1, h2, h3⟩ := hl β ρ z.cells.toList hA (hzc β) (by have := concL_len (hzc β); simp at this; omega)
    refine ⟨.agg ls.toArray, by simp [conc, h1], fun w => ?_⟩
    have hinfo : ∀ g ∈ gs.toList, ∃ i, P.info? g.type = some i := by
      intro g hg
      have hin : (g.offset, g.type, P.cellsOf g.type, g.name != "_") ∈ fs := by rw [← hm]; exact List.mem_map.2 ⟨g, hg, rfl⟩
      have := allTy_ok hall _ hin
      obtain ⟨te, hte⟩ := this
      obtain ⟨i, hi, _⟩ := (HT _ _ hte).info
      exact ⟨i, hi⟩
    simp only [Instr.build, Sem.run_bind, hz, Result.andThen_ok, run_underlying hgs, run_placesA w gs hinfo]
    simp only [Array.toArray_toList] at h3
    rw [h3]
    rfl
  · rename_i n0 e hk
    replace h := om_ok h; obtain ⟨te, hte, h⟩ := h
    obtain ⟨l, h, hl⟩ := fillK_ok (plA_ok te.size) parts _ h
    refine ⟨_, h, fun β ρ hA => ?_⟩
    obtain ⟨z, hz, hzc, hzz, _, hzs⟩ := T.zero default
    have hz : ∀ w, (zeroValue t).run P w = .ok z w := by
      obtain ⟨i, hi, _, _, zz, hzz, _⟩ := T.info
      intro w
      simp [zeroValue, run_typeInfo _ hi, hzz] at hz ⊢
      exact hz
    obtain ⟨ls, h1, h2, h3⟩ := hl β ρ z.cells.toList hA (hzc β) (by have := concL_len (hzc β); simp at this; omega)
    refine ⟨.agg ls.toArray, by simp [conc, h1], fun w => ?_⟩
    simp only [Instr.build, Sem.run_bind, hz, Result.andThen_ok, run_underlying (T.array hk), (HT _ _ hte).sizeOf]
    simp only [Array.toArray_toList] at h3
    rw [h3]
    rfl
  · exact (bad_ne h).elim

end

end Go.Mir
namespace Go.Mir
open Go Go.RowKit

section
variable {P : Program} {tys : T TI} (HT : TysR P tys) {h : T O} {regs : T V} {k : V → Out} {kn : Out} {r : Rz}

theorem two_ok {l : List Operand} {kk : Operand → Operand → Out} (e : two l kk = .ok r) : ∃ x y, l = [x, y] ∧ kk x y = .ok r := by
  unfold two at e
  split at e
  · exact ⟨_, _, rfl, e⟩
  · exact (bad_ne e).elim

theorem oneO_ok {l : List Operand} {kk : Operand → Out} (e : oneO l kk = .ok r) : ∃ x, l = [x] ∧ kk x = .ok r := by
  unfold oneO at e
  split at e
  · exact ⟨_, rfl, e⟩
  · exact (bad_ne e).elim

theorem hd_ok {l : List Nat} {kk : Nat → Out} (e : hd l kk = .ok r) : ∃ x t, l = x :: t ∧ kk x = .ok r := by
  unfold hd at e
  split at e
  · exact ⟨_, _, rfl, e⟩
  · exact (bad_ne e).elim

theorem evO_ok {x : Option Operand} {kk : Option V → Out} (e : evO regs x kk = .ok r) : ∃ v, kk v = .ok r ∧ (x = none ↔ v = none) ∧ ∀ β ρ, (∀ y, x = some y → Agree β regs ρ y) → concO β v (x.map ρ) := by
  cases x with
  | none => exact ⟨none, e, by simp, fun β ρ _ => trivial⟩
  | some x =>
    replace e := ev_ok (k := fun v => kk (some v)) e; obtain ⟨v, e, hv⟩ := e
    exact ⟨some v, e, by simp, fun β ρ ha => hv β ρ (ha x rfl)⟩

theorem mm_ok {b : Bool} {kx : IntKind} {x y : Int} (e : mm b kx x y k = .ok r) : k (.int kx (if b then y else x)) = .ok r := by
  cases b <;> exact e

include HT in
theorem pureB_ok {b : Builtin} {ts : Array Nat} {args : Array Operand} (e : pureB tys h regs b ts args k kn = .ok r) :
    (∃ v, k v = .ok r ∧ PureSpec P h regs (.call ⟨.builtin b, args, ts⟩) v) ∨ kn = .ok r := by
  have ops : ∀ x ∈ args.toList, x ∈ (Op.call ⟨.builtin b, args, ts⟩).operands.toList := by
    intro x hx; simpa [Op.operands, Call.operands] using hx
  have hres : ∀ (ρ : Operand → Value) (o : Oper), o.op = .call ⟨.builtin b, args, ts⟩ → ∀ w, ∃ cs, (execOp ρ o).run P w = (builtin b ts o.type cs (args.map ρ)).run P w := by
    intro ρ o ho w
    refine ⟨args.map fun | .const _ => true | _ => false, ?_⟩
    simp only [execOp, ho, resolve, Sem.run_bind, Sem.run_pure, Result.andThen_ok, invoke]
    rfl
  unfold pureB at e
  split at e
  · -- len
    left
    replace e := hd_ok e; obtain ⟨t, ts', hts, e⟩ := e
    replace e := need_ok e; obtain ⟨hl, e⟩ := e
    replace e := oneO_ok e; obtain ⟨x, hx, e⟩ := e
    replace e := ev_ok e; obtain ⟨a, e, ha⟩ := e
    replace e := lenV_ok HT e; obtain ⟨v, e, hv⟩ := e
    refine ⟨v, e, fun W0 β n w ρ H A => ?_⟩
    obtain ⟨val, h1, h2⟩ := hv W0 β n w H _ (ha β ρ (A x (ops x (by simp [hx]))))
    refine ⟨val, h1, fun o ho => ?_⟩
    obtain ⟨cs, hr⟩ := hres ρ o ho w
    have e1 : args.map ρ = #[ρ x] := by apply Array.ext'; simp [hx]
    have e2 : ts = #[t] := by
      apply Array.ext'
      rw [hts]
      cases ts' with
      | nil => rfl
      | cons => rw [hts] at hl; cases hl
    rw [hr, e1, e2]
    simp [builtin, h2]
  · -- cap
    left
    replace e := hd_ok e; obtain ⟨t, ts', hts, e⟩ := e
    replace e := need_ok e; obtain ⟨hl, e⟩ := e
    replace e := oneO_ok e; obtain ⟨x, hx, e⟩ := e
    replace e := ev_ok e; obtain ⟨a, e, ha⟩ := e
    have e2 : ts = #[t] := by
      apply Array.ext'
      rw [hts]
      cases ts' with
      | nil => rfl
      | cons => rw [hts] at hl; cases hl
    have e1 : ∀ ρ : Operand → Value, args.map ρ = #[ρ x] := by intro ρ; apply Array.ext'; simp [hx]
    unfold capK at e
    replace e := om_ok e; obtain ⟨ti, hti, e⟩ := e
    split at e
    · rename_i el a' b' hk
      rw [kN_eq] at e
      refine ⟨_, e, fun W0 β n w ρ H A => ⟨_, rfl, fun o ho => ?_⟩⟩
      obtain ⟨cs, hr⟩ := hres ρ o ho w
      have := ha β ρ (A x (ops x (by simp [hx])))
      have := conc_base this
      rw [hr, e1, e2, this]
      simp [builtin, Builtin.cap_, run_underlying ((HT _ _ hti).slice hk), goInt]
    · rename_i el id off len b' n' hk
      rw [kN_eq] at e
      refine ⟨_, e, fun W0 β n w ρ H A => ⟨_, rfl, fun o ho => ?_⟩⟩
      obtain ⟨cs, hr⟩ := hres ρ o ho w
      have := ha β ρ (A x (ops x (by simp [hx])))
      obtain ⟨b, hb, _, hval⟩ := conc_slice this
      rw [hr, e1, e2, hval]
      simp [builtin, Builtin.cap_, run_underlying ((HT _ _ hti).slice hk), goInt, capOf]
    · exact (bad_ne e).elim
  · -- min
    left
    replace e := two_ok e; obtain ⟨x, y, hxy, e⟩ := e
    replace e := ev_ok e; obtain ⟨a, e, ha⟩ := e
    replace e := ev_ok e; obtain ⟨b, e, hb⟩ := e
    unfold minK at e
    split at e
    · rename_i kx p ky q
      replace e := mm_ok e
      refine ⟨_, e, fun W0 β n w ρ H A => ⟨_, rfl, fun o ho => ?_⟩⟩
      obtain ⟨cs, hr⟩ := hres ρ o ho w
      have h1 := ha β ρ (A x (ops x (by simp [hxy])))
      have h2 := hb β ρ (A y (ops y (by simp [hxy])))
      simp only [conc, Option.some.injEq] at h1 h2
      have e1 : args.map ρ = #[ρ x, ρ y] := by apply Array.ext'; simp [hxy]
      rw [hr, e1, ← h1, ← h2]
      simp [builtin, Builtin.min_, Builtin.min2, ilt_eq]
    · exact (bad_ne e).elim
  · -- max
    left
    replace e := two_ok e; obtain ⟨x, y, hxy, e⟩ := e
    replace e := ev_ok e; obtain ⟨a, e, ha⟩ := e
    replace e := ev_ok e; obtain ⟨b, e, hb⟩ := e
    unfold maxK at e
    split at e
    · rename_i kx p ky q
      replace e := mm_ok e
      refine ⟨_, e, fun W0 β n w ρ H A => ⟨_, rfl, fun o ho => ?_⟩⟩
      obtain ⟨cs, hr⟩ := hres ρ o ho w
      have h1 := ha β ρ (A x (ops x (by simp [hxy])))
      have h2 := hb β ρ (A y (ops y (by simp [hxy])))
      simp only [conc, Option.some.injEq] at h1 h2
      have e1 : args.map ρ = #[ρ x, ρ y] := by apply Array.ext'; simp [hxy]
      rw [hr, e1, ← h1, ← h2]
      simp [builtin, Builtin.max_, Builtin.max2, ilt_eq]
    · exact (bad_ne e).elim
  · exact .inr e

include HT in
theorem pureK_ok {op : Op} (e : pureK tys h regs op k kn = .ok r) : (∃ v, k v = .ok r ∧ PureSpec P h regs op v) ∨ kn = .ok r := by
  cases op
  case move x =>
    replace e := ev_ok (k := k) e; obtain ⟨v, e, hv⟩ := e
    exact .inl ⟨v, e, fun W0 β n w ρ H A => ⟨_, hv β ρ (A x (by simp [Op.operands])), fun o ho => by simp [execOp, ho]⟩⟩
  case assign x =>
    replace e := ev_ok (k := k) e; obtain ⟨v, e, hv⟩ := e
    exact .inl ⟨v, e, fun W0 β n w ρ H A => ⟨_, hv β ρ (A x (by simp [Op.operands])), fun o ho => by simp [execOp, ho]⟩⟩
  case pick c a b =>
    replace e := ev_ok (k := pickK regs a b k) e; obtain ⟨vc, e, hc⟩ := e
    unfold pickK at e
    split at e
    · rename_i cb
      rcases rec_ok e with ⟨rfl, e⟩ | ⟨rfl, e⟩
      · replace e := ev_ok e; obtain ⟨v, e, hv⟩ := e
        refine .inl ⟨v, e, fun W0 β n w ρ H A => ⟨_, hv β ρ (A a (by simp [Op.operands])), fun o ho => ?_⟩⟩
        have := hc β ρ (A c (by simp [Op.operands]))
        simp only [conc, Option.some.injEq] at this
        simp [execOp, ho, ← this, asBool]
      · replace e := ev_ok e; obtain ⟨v, e, hv⟩ := e
        refine .inl ⟨v, e, fun W0 β n w ρ H A => ⟨_, hv β ρ (A b (by simp [Op.operands])), fun o ho => ?_⟩⟩
        have := hc β ρ (A c (by simp [Op.operands]))
        simp only [conc, Option.some.injEq] at this
        simp [execOp, ho, ← this, asBool]
    · exact (bad_ne e).elim
  case nilCheck x =>
    replace e := ev_ok (k := nilCheckK k) e; obtain ⟨v, e, hv⟩ := e
    replace e := nilCheckK_ok e; obtain ⟨e, hn⟩ := e
    refine .inl ⟨v, e, fun W0 β n w ρ H A => ?_⟩
    have hx := hv β ρ (A x (by simp [Op.operands]))
    refine ⟨_, hx, fun o ho => ?_⟩
    rcases hn β _ hx with ⟨p, hp⟩ | ⟨f, u, v, hp⟩ | ⟨f, u, v, hp⟩ <;> simp [execOp, ho, hp]
  case binOp op t x y yt =>
    replace e : (ev regs x fun x => ev regs y fun y => binK tys op t x y k) = .ok r := e
    replace e := ev_ok e; obtain ⟨a, e, ha⟩ := e
    replace e := ev_ok e; obtain ⟨b, e, hb⟩ := e
    replace e := binK_ok (P := P) HT e; obtain ⟨v, e, hv⟩ := e
    refine .inl ⟨v, e, fun W0 β n w ρ H A => ?_⟩
    obtain ⟨val, h1, h2⟩ := hv β _ _ (ha β ρ (A x (by simp [Op.operands]))) (hb β ρ (A y (by simp [Op.operands])))
    refine ⟨val, h1, fun o ho => ?_⟩
    have := h2 w x y
    simp only [execOp, ho]
    rw [Sem.run_bind, this]; rfl
  case unOp op t x =>
    exact .inl (pure1 (f := Op.unary op) (x := x) (by simp [Op.operands]) (fun ρ o ho w => by simp [execOp, ho]) (K := unK op k) e fun a ea =>
      let ⟨v, h1, h2⟩ := unK_ok ea
      ⟨v, h1, fun W0 β n w H va ha => let ⟨val, h3, h4⟩ := h2 β va ha; ⟨val, h3, h4 w⟩⟩)
  case convert s d x =>
    rcases rec_ok e with ⟨_, e⟩ | ⟨_, e⟩
    · exact .inr e
    · exact .inl (pure1 (f := Go.convert s d) (x := x) (by simp [Op.operands]) (fun ρ o ho w => by simp [execOp, ho]) e fun a ea => convK_ok HT ea)
  case extract x i =>
    exact .inl (pure1 (f := fun a => Instr.extract a i) (x := x) (by simp [Op.operands]) (fun ρ o ho w => by simp [execOp, ho]) (K := extractK i k) e fun a ea =>
      let ⟨v, h1, h2⟩ := extractK_ok ea
      ⟨v, h1, fun W0 β n w H va ha => let ⟨val, h3, h4⟩ := h2 β va ha; ⟨val, h3, h4 w⟩⟩)
  case fieldAddr t x f =>
    exact .inl (pure1 (f := fun a => Instr.fieldAt t a f) (x := x) (by simp [Op.operands]) (fun ρ o ho w => by simp [execOp, ho]) (K := fieldAddrK tys t f k) e fun a ea =>
      let ⟨v, h1, h2⟩ := fieldAddrK_ok HT ea
      ⟨v, h1, fun W0 β n w H va ha => let ⟨val, h3, h4⟩ := h2 β va ha; ⟨val, h3, h4 w⟩⟩)
  case field t x f =>
    exact .inl (pure1 (f := fun a => Instr.field t a f) (x := x) (by simp [Op.operands]) (fun ρ o ho w => by simp [execOp, ho]) (K := fieldK tys t f k) e fun a ea =>
      let ⟨v, h1, h2⟩ := fieldK_ok HT ea
      ⟨v, h1, fun W0 β n w H va ha => let ⟨val, h3, h4⟩ := h2 β va ha; ⟨val, h3, h4 w⟩⟩)
  case indexAddr t x i =>
    exact .inl (pure2 (f := fun a b => Instr.indexAt t a b) (x := x) (y := i) (by simp [Op.operands]) (by simp [Op.operands]) (fun ρ o ho w => by simp [execOp, ho]) (K := fun a b => indexAddrK tys t a b k) e fun a b ea =>
      let ⟨v, h1, h2⟩ := indexAddrK_ok HT ea
      ⟨v, h1, fun W0 β n w H va vb ha hb => let ⟨val, h3, h4⟩ := h2 β va vb ha hb; ⟨val, h3, h4 w⟩⟩)
  case index t x i =>
    exact .inl (pure2 (f := fun a b => Instr.index t a b) (x := x) (y := i) (by simp [Op.operands]) (by simp [Op.operands]) (fun ρ o ho w => by simp [execOp, ho]) (K := fun a b => indexK tys t a b k) e fun a b ea =>
      let ⟨v, h1, h2⟩ := indexK_ok HT ea
      ⟨v, h1, fun W0 β n w H va vb ha hb => let ⟨val, h3, h4⟩ := h2 β va vb ha hb; ⟨val, h3, h4 w⟩⟩)
  case lookup t m x ok =>
    exact .inl (pure2 (f := fun a b => Instr.lookup t a b ok) (x := m) (y := x) (by simp [Op.operands]) (by simp [Op.operands]) (fun ρ o ho w => by simp [execOp, ho]) (K := fun a b => lookupK tys h t a b ok k) e fun a b ea =>
      lookupK_ok HT ea)
  case load t a =>
    exact .inl (pure1 (f := fun a => Instr.loadAt t a) (x := a) (by simp [Op.operands]) (fun ρ o ho w => by simp [execOp, ho]) (K := fun a => loadK tys h t a k) e fun a ea =>
      let ⟨v, h1, h2⟩ := loadK_ok HT ea
      ⟨v, h1, fun W0 β n w H va ha => let ⟨ad, h3, val, h4, h5⟩ := h2 W0 β n w H va ha; ⟨val, h4, by rw [h3]; simp [Instr.loadAt, Instr.sureAddr, h5]⟩⟩)
  case slice t x lo hi mx =>
    left
    replace e := need_ok e; obtain ⟨hms, e⟩ := e
    replace e := ev_ok e; obtain ⟨a, e, ha⟩ := e
    replace e := evO_ok e; obtain ⟨vl, e, hl0, hl⟩ := e
    replace e := evO_ok e; obtain ⟨vh, e, hh0, hh⟩ := e
    replace e := evO_ok e; obtain ⟨vm, e, hm0, hm⟩ := e
    have hms' : vm ≠ none → vh ≠ none := by
      intro h1 h2
      have h2 := hh0.2 h2
      subst h2
      cases mx with
      | none => exact h1 (hm0.1 rfl)
      | some => cases hms
    replace e := sliceK_ok (P := P) HT hms' e; obtain ⟨v, e, hv⟩ := e
    refine ⟨v, e, fun W0 β n w ρ H A => ?_⟩
    have mem : ∀ y, y = x ∨ lo = some y ∨ hi = some y ∨ mx = some y → y ∈ (Op.slice t x lo hi mx).operands.toList := by
      intro y hy
      rcases hy with rfl | rfl | rfl | rfl <;> simp [Op.operands]
    obtain ⟨val, h1, h2⟩ := hv β _ _ _ _ (ha β ρ (A x (mem x (.inl rfl)))) (hl β ρ fun y hy => A y (mem y (.inr (.inl hy)))) (hh β ρ fun y hy => A y (mem y (.inr (.inr (.inl hy))))) (hm β ρ fun y hy => A y (mem y (.inr (.inr (.inr hy)))))
    exact ⟨val, h1, fun o ho => by simp [execOp, ho, h2 w]⟩
  case makeFunc fn first cap =>
    left
    replace e : makeFuncK regs fn first cap k = .ok r := e
    unfold makeFuncK at e
    split at e
    · rename_i f
      replace e := evL_ok e; obtain ⟨us, e, hu⟩ := e
      replace e := evL_ok e; obtain ⟨vs, e, hv⟩ := e
      refine ⟨_, e, fun W0 β n w ρ H A => ?_⟩
      have h1 := hu β ρ fun y hy => A y (by simp [Op.operands]; exact .inl (by simpa using hy))
      have h2 := hv β ρ fun y hy => A y (by simp [Op.operands]; exact .inr (by simpa using hy))
      refine ⟨.func (.func f) (first.map ρ) (cap.map ρ), ?_, fun o ho => by simp [execOp, ho, Instr.makeFunc]⟩
      simp only [conc, h1, h2, Option.bind_some, Option.map_some, Option.some.injEq, Value.func.injEq, true_and]
      exact ⟨by apply Array.ext'; simp, by apply Array.ext'; simp⟩
    · exact (bad_ne e).elim
  case makeInterface t x =>
    exact .inl (pure1 (f := fun a => Instr.makeInterface t a) (x := x) (by simp [Op.operands]) (fun ρ o ho w => by simp [execOp, ho]) (K := ifaceK tys t k) e fun a ea => by
      replace ea := om_ok ea; obtain ⟨ti, hti, ea⟩ := ea
      split at ea
      · rename_i k1 e1 hk
        refine ⟨_, ea, fun W0 β n w H va ha => ⟨.iface t va, by simp [conc, ha], ?_⟩⟩
        simp [Instr.makeInterface, run_underlying ((HT _ _ hti).map hk)]
      · exact (bad_ne ea).elim)
  case build t parts =>
    left
    replace e : buildK tys regs t parts.toList k = .ok r := e
    replace e := buildK_ok HT e; obtain ⟨v, e, hv⟩ := e
    refine ⟨v, e, fun W0 β n w ρ H A => ?_⟩
    obtain ⟨val, h1, h2⟩ := hv β ρ fun p hp => A p.2 (by simp only [Op.operands, List.mem_map]; exact ⟨p, hp, rfl⟩)
    refine ⟨val, h1, fun o ho => ?_⟩
    have e1 : (parts.map fun (i, x) => (i, ρ x)) = (parts.toList.map fun p => (p.1, ρ p.2)).toArray := by
      apply Array.ext'; simp
    simp only [execOp, ho, e1, Sem.run_bind, h2 w, Result.andThen_ok, Sem.run_pure]
  case call c =>
    obtain ⟨f, args, ts⟩ := c
    cases f <;> try exact .inr e
    exact pureB_ok HT e
  all_goals exact .inr e

end

end Go.Mir
