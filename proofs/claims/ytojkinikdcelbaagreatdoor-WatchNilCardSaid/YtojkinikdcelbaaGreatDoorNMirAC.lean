/- The small machine against the model: writing memory. No statement of the program stands here. -/
import Derived.Test.YtojkinikdcelbaaGreatDoorNMirY
set_option linter.unusedSimpArgs false
set_option linter.unusedVariables false
set_option linter.defProp false
namespace Go.Mir
open Go Go.RowKit

theorem take_set_succ {α : Type} : ∀ (l : List α) (a : Nat) (v : α), a < l.length → (l.set a v).take (a + 1) = l.take a ++ [v]
  | [], a, v, h => by simp at h
  | x :: l, 0, v, h => by simp
  | x :: l, a + 1, v, h => by
    have := take_set_succ l a v (by simpa using h)
    simpa using this

theorem drop_set_gt {α : Type} : ∀ (l : List α) (a b : Nat) (v : α), a < b → (l.set a v).drop b = l.drop b
  | [], a, b, v, h => by simp
  | x :: l, 0, b + 1, v, h => by simp
  | x :: l, a + 1, b + 1, v, h => by
    have := drop_set_gt l a b v (by omega)
    simpa using this
  | x :: l, a, 0, v, h => by omega

theorem fold_put (l : List Value) : ∀ (o j : Nat) (cs : Array Value), o + j + l.length ≤ cs.size →
    ((l.zipIdx j).foldl (fun cs (x : Value × Nat) => cs.setIfInBounds (o + x.2) x.1) cs).toList = cs.toList.take (o + j) ++ l ++ cs.toList.drop (o + j + l.length) := by
  induction l with
  | nil => intro o j cs _; simp
  | cons v l ih =>
    intro o j cs h
    simp only [List.length_cons] at h
    simp only [List.zipIdx_cons, List.foldl_cons]
    rw [ih o (j + 1) _ (by simp; omega)]
    simp only [Array.toList_setIfInBounds]
    rw [show o + (j + 1) = (o + j) + 1 from rfl, take_set_succ _ _ _ (by simp; omega), drop_set_gt _ _ _ _ (by omega)]
    simp only [List.length_cons, List.append_assoc, List.singleton_append]
    rw [show o + j + 1 + l.length = o + j + (l.length + 1) by omega]

theorem conc_cells {β : Beta} {v : V} {x : Value} (h : conc β v = some x) : concL β (cellsOf v) = some x.cells.toList ∧ (cellsOf v).length = x.cells.size := by
  cases v with
  | agg cs =>
    obtain ⟨vs, hv, rfl⟩ := conc_agg h
    exact ⟨by simpa [cellsOf, Value.cells] using hv, by simp [cellsOf, Value.cells, concL_len hv]⟩
  | base v =>
    have hx := h
    obtain rfl := conc_base h
    have : x.cells = #[x] := by
      cases x <;> first | rfl | (simp [conc, Value.oneCell'] at hx)
    rw [this]
    exact ⟨by simp [cellsOf, concL, hx], rfl⟩
  | _ =>
    have : x.cells = #[x] := by
      cases x <;> first | rfl | (simp [conc] at h; done) | (simp only [conc, Option.map_eq_some_iff, Option.bind_eq_some_iff] at h; (try split at h); (try cases h); simp_all; done)
    rw [this]
    exact ⟨by simp [cellsOf, concL, h], rfl⟩

section
variable {P : Program} {tys : T TI} (HT : TysR P tys) {r : Rz}

theorem allTy_ok {tys : T TI} : ∀ {fs : List (Nat × Nat × Nat × Bool)}, allTy tys fs = true → ∀ p ∈ fs, ∃ te, tys.get p.2.1 = some te
  | [], _, p, hp => by cases hp
  | f :: fs, h, p, hp => by
    replace h : and (Option.rec false (fun _ => true) (tys.get f.2.1)) (allTy tys fs) = true := h
    have h := Bool.and_eq_true_iff.1 h
    cases hp with
    | head =>
      cases hg : tys.get f.2.1 with
      | none => rw [hg] at h; cases h.1
      | some te => exact ⟨te, rfl⟩
    | tail _ hp => exact allTy_ok h.2 p hp

/-- how our places stand to the model's -/
def PlaceR (place : Nat → (Nat → Nat → Out) → Out) (pm : Nat → Option (Nat × Nat)) : Prop :=
  ∀ i go r, place i go = .ok r → ∃ off size, go off size = .ok r ∧ pm i = some (off, size)

theorem fillK_ok {regs : T V} {place : Nat → (Nat → Nat → Out) → Out} {pm : Nat → Option (Nat × Nat)} (hp : PlaceR place pm) {n : Nat} {k : List V → Out} :
    ∀ (parts : List (Nat × Operand)) (cells : List V), fillK regs place n parts cells k = .ok r →
    ∃ l, k l = .ok r ∧ ∀ β ρ cs, (∀ p ∈ parts, Agree β regs ρ p.2) → concL β cells = some cs → cells.length = n →
      ∃ ls, concL β l = some ls ∧ l.length = n ∧ Instr.fill pm cs.toArray (parts.map fun p => (p.1, ρ p.2)) = some ls.toArray
  | [], cells, h => ⟨cells, h, fun β ρ cs _ hc hn => ⟨cs, hc, hn, rfl⟩⟩
  | p :: parts, cells, h => by
    replace h := ev_ok h; obtain ⟨v, h, hv⟩ := h
    replace h := hp _ _ _ h; obtain ⟨off, size, h, hpm⟩ := h
    replace h := need_ok h; obtain ⟨hc, h⟩ := h
    have hc := Bool.and_eq_true_iff.1 hc
    have h1 : (cellsOf v).length = size := Nat.eq_of_beq_eq_true hc.1
    have h2 : off + size ≤ n := Nat.le_of_ble_eq_true hc.2
    unfold putCells at h
    rw [spine_eq] at h
    obtain ⟨l, h, hl⟩ := fillK_ok hp parts _ h
    refine ⟨l, h, fun β ρ cs hA hcs hn => ?_⟩
    have hx := hv β ρ (hA p (by simp))
    obtain ⟨hcc, hcl⟩ := conc_cells hx
    have hcsl := concL_len hcs
    have hnew : concL β (cells.take off ++ cellsOf v ++ cells.drop (Nat.add off (cellsOf v).length)) = some (cs.take off ++ (ρ p.2).cells.toList ++ cs.drop (off + (cellsOf v).length)) :=
      concL_app (concL_app (concL_take off hcs) hcc) (concL_drop _ hcs)
    obtain ⟨ls, h3, h4, h5⟩ := hl β ρ _ (fun q hq => hA q (by simp [hq])) hnew (by
      simp only [List.length_append, List.length_take, List.length_drop]
      show min off cells.length + (cellsOf v).length + (cells.length - (off + (cellsOf v).length)) = n
      omega)
    refine ⟨ls, h3, h4, ?_⟩
    simp only [List.map_cons, Instr.fill, hpm]
    have hs : (ρ p.2).cells.size = size := by omega
    rw [if_neg (by
      simp only [ne_eq, hs, not_true_eq_false, decide_false, Bool.false_or, gt_iff_lt, decide_eq_true_eq, List.size_toArray]
      omega)]
    have hfold : ((ρ p.2).cells.zipIdx.foldl (fun cs (x : Value × Nat) => cs.setIfInBounds (off + x.2) x.1) cs.toArray) = (cs.take off ++ (ρ p.2).cells.toList ++ cs.drop (off + (cellsOf v).length)).toArray := by
      apply Array.ext'
      rw [← Array.foldl_toList, Array.toList_zipIdx]
      have := fold_put (ρ p.2).cells.toList off 0 cs.toArray (by simp; omega)
      rw [this]
      simp [hcl]
    rw [hfold]
    exact h5

theorem plA_ok (esz : Nat) : PlaceR (plA esz) (fun i => some (i * esz, esz)) := fun _i _go _r h => ⟨_, _, h, rfl⟩

theorem run_places (w : World) : ∀ (gs : List Field), (∀ g ∈ gs, ∃ i, P.info? g.type = some i) →
    (gs.mapM (fun f => do pure (f.offset, ← sizeOf f.type) : Field → Sem (Nat × Nat))).run P w = .ok (gs.map fun f => (f.offset, P.cellsOf f.type)) w
  | [], _ => rfl
  | g :: gs, h => by
    obtain ⟨i, hi⟩ := h g (by simp)
    have := run_places w gs (fun x hx => h x (by simp [hx]))
    simp only [List.mapM_cons, Sem.run_bind, run_sizeOf w hi, Result.andThen_ok, Sem.run_pure, this, List.map_cons]

theorem run_placesA (w : World) (gs : Array Field) (h : ∀ g ∈ gs.toList, ∃ i, P.info? g.type = some i) :
    (gs.mapM (fun f => do pure (f.offset, ← sizeOf f.type) : Field → Sem (Nat × Nat))).run P w = .ok ((gs.toList.map fun f => (f.offset, P.cellsOf f.type)).toArray) w := by
  rw [Array.mapM_eq_mapM_toList]
  simp only [Sem.run_map, run_places w gs.toList h, Result.andThen_ok]

include HT in
theorem buildK_ok {regs : T V} {t : Nat} {parts : List (Nat × Operand)} {k : V → Out} (h : buildK tys regs t parts k = .ok r) :
    ∃ v, k v = .ok r ∧ ∀ β ρ, (∀ p ∈ parts, Agree β regs ρ p.2) → ∃ val, conc β v = some val ∧ ∀ w, (Instr.build t (parts.map fun p => (p.1, ρ p.2)).toArray).run P w = .ok val w := by
  replace h := om_ok h; obtain ⟨ti, hti, h⟩ := h
  have T := HT _ _ hti
  split at h
  · rename_i fs hk
    replace h := need_ok h; obtain ⟨hall, h⟩ := h
    obtain ⟨gs, hgs, hm⟩ := T.struct hk
    have hP : PlaceR (plF fs) (fun i => (gs.toList.map (fun f => (f.offset, P.cellsOf f.type))).toArray[i]?) := by
      intro i go r h
      replace h := om_ok h; obtain ⟨p, hp, h⟩ := h
      rw [nth_eq, ← hm, List.getElem?_map, Option.map_eq_some_iff] at hp
      obtain ⟨g, hg, rfl⟩ := hp
      exact ⟨_, _, h, by simp at hg; simp [hg]⟩
    obtain ⟨l, h, hl⟩ := fillK_ok hP parts _ h
    refine ⟨_, h, fun β ρ hA => ?_⟩
    obtain ⟨z, hz, hzc, hzz, _, hzs⟩ := T.zero default
    have hz : ∀ w, (zeroValue t).run P w = .ok z w := by
      obtain ⟨i, hi, _, _, zz, hzz, _⟩ := T.info
      intro w
      simp [zeroValue, run_typeInfo _ hi, hzz] at hz ⊢
      exact hz
    obtain ⟨ls, h1, h2, h3⟩ := hl β ρ z.cells.toList hA (hzc β) (by have := concL_len (hzc β); simp at this; omega)
    refine ⟨.agg ls.toArray, by simp [conc, h1], fun w => ?_⟩
    have hinfo : ∀ g ∈ gs.toList, ∃ i, P.info? g.type = some i := by
      intro g hg
      have hin : (g.offset, g.type, P.cellsOf g.type, g.name != "_") ∈ fs := by rw [← hm]; exact List.mem_map.2 ⟨g, hg, rfl⟩
      have := allTy_ok hall _ hin
      obtain ⟨te, hte⟩ := this
      obtain ⟨i, hi, _⟩ := (HT _ _ hte).info
      exact ⟨i, hi⟩
    simp only [Instr.build, Sem.run_bind, hz, Result.andThen_ok, run_underlying hgs, run_placesA w gs hinfo]
    simp only [Array.toArray_toList] at h3
    rw [h3]
    rfl
  · rename_i n0 e hk
    replace h := om_ok h; obtain ⟨te, hte, h⟩ := h
    obtain ⟨l, h, hl⟩ := fillK_ok (plA_ok te.size) parts _ h
    refine ⟨_, h, fun β ρ hA => ?_⟩
    obtain ⟨z, hz, hzc, hzz, _, hzs⟩ := T.zero default
    have hz : ∀ w, (zeroValue t).run P w = .ok z w := by
      obtain ⟨i, hi, _, _, zz, hzz, _⟩ := T.info
      intro w
      simp [zeroValue, run_typeInfo _ hi, hzz] at hz ⊢
      exact hz
    obtain ⟨ls, h1, h2, h3⟩ := hl β ρ z.cells.toList hA (hzc β) (by have := concL_len (hzc β); simp at this; omega)
    refine ⟨.agg ls.toArray, by simp [conc, h1], fun w => ?_⟩
    simp only [Instr.build, Sem.run_bind, hz, Result.andThen_ok, run_underlying (T.array hk), (HT _ _ hte).sizeOf]
    simp only [Array.toArray_toList] at h3
    rw [h3]
    rfl
  · exact (bad_ne h).elim

end

end Go.Mir
namespace Go.Mir
open Go Go.RowKit

section
variable {P : Program} {tys : T TI} (HT : TysR P tys) {h : T O} {regs : T V} {k : V → Out} {kn : Out} {r : Rz}

theorem two_ok {l : List Operand} {kk : Operand → Operand → Out} (e : two l kk = .ok r) : ∃ x y, l = [x, y] ∧ kk x y = .ok r := by
  unfold two at e
  split at e
  · exact ⟨_, _, rfl, e⟩
  · exact (bad_ne e).elim

theorem oneO_ok {l : List Operand} {kk : Operand → Out} (e : oneO l kk = .ok r) : ∃ x, l = [x] ∧ kk x = .ok r := by
  unfold oneO at e
  split at e
  · exact ⟨_, rfl, e⟩
  · exact (bad_ne e).elim

theorem hd_ok {l : List Nat} {kk : Nat → Out} (e : hd l kk = .ok r) : ∃ x t, l = x :: t ∧ kk x = .ok r := by
  unfold hd at e
  split at e
  · exact ⟨_, _, rfl, e⟩
  · exact (bad_ne e).elim

theorem evO_ok {x : Option Operand} {kk : Option V → Out} (e : evO regs x kk = .ok r) : ∃ v, kk v = .ok r ∧ (x = none ↔ v = none) ∧ ∀ β ρ, (∀ y, x = some y → Agree β regs ρ y) → concO β v (x.map ρ) := by
  cases x with
  | none => exact ⟨none, e, by simp, fun β ρ _ => trivial⟩
  | some x =>
    replace e := ev_ok (k := fun v => kk (some v)) e; obtain ⟨v, e, hv⟩ := e
    exact ⟨some v, e, by simp, fun β ρ ha => hv β ρ (ha x rfl)⟩

theorem mm_ok {b : Bool} {kx : IntKind} {x y : Int} (e : mm b kx x y k = .ok r) : k (.int kx (if b then y else x)) = .ok r := by
  cases b <;> exact e

include HT in
theorem pureB_ok {b : Builtin} {ts : Array Nat} {args : Array Operand} (e : pureB tys h regs b ts args k kn = .ok r) :
    (∃ v, k v = .ok r ∧ PureSpec P h regs (.call ⟨.builtin b, args, ts⟩) v) ∨ kn = .ok r := by
  have ops : ∀ x ∈ args.toList, x ∈ (Op.call ⟨.builtin b, args, ts⟩).operands.toList := by
    intro x hx; simpa [Op.operands, Call.operands] using hx
  have hres : ∀ (ρ : Operand → Value) (o : Oper), o.op = .call ⟨.builtin b, args, ts⟩ → ∀ w, ∃ cs, (execOp ρ o).run P w = (builtin b ts o.type cs (args.map ρ)).run P w := by
    intro ρ o ho w
    refine ⟨args.map fun | .const _ => true | _ => false, ?_⟩
    simp only [execOp, ho, resolve, Sem.run_bind, Sem.run_pure, Result.andThen_ok, invoke]
    rfl
  unfold pureB at e
  split at e
  · -- len
    left
    replace e := hd_ok e; obtain ⟨t, ts', hts, e⟩ := e
    replace e := need_ok e; obtain ⟨hl, e⟩ := e
    replace e := oneO_ok e; obtain ⟨x, hx, e⟩ := e
    replace e := ev_ok e; obtain ⟨a, e, ha⟩ := e
    replace e := lenV_ok HT e; obtain ⟨v, e, hv⟩ := e
    refine ⟨v, e, fun W0 β n w ρ H A => ?_⟩
    obtain ⟨val, h1, h2⟩ := hv W0 β n w H _ (ha β ρ (A x (ops x (by simp [hx]))))
    refine ⟨val, h1, fun o ho => ?_⟩
    obtain ⟨cs, hr⟩ := hres ρ o ho w
    have e1 : args.map ρ = #[ρ x] := by apply Array.ext'; simp [hx]
    have e2 : ts = #[t] := by
      apply Array.ext'
      rw [hts]
      cases ts' with
      | nil => rfl
      | cons => rw [hts] at hl; cases hl
    rw [hr, e1, e2]
    simp [builtin, h2]
  · -- cap
    left
    replace e := hd_ok e; obtain ⟨t, ts', hts, e⟩ := e
    replace e := need_ok e; obtain ⟨hl, e⟩ := e
    replace e := oneO_ok e; obtain ⟨x, hx, e⟩ := e
    replace e := ev_ok e; obtain ⟨a, e, ha⟩ := e
    have e2 : ts = #[t] := by
      apply Array.ext'
      rw [hts]
      cases ts' with
      | nil => rfl
      | cons => rw [hts] at hl; cases hl
    have e1 : ∀ ρ : Operand → Value, args.map ρ = #[ρ x] := by intro ρ; apply Array.ext'; simp [hx]
    unfold capK at e
    replace e := om_ok e; obtain ⟨ti, hti, e⟩ := e
    split at e
    · rename_i el a' b' hk
      rw [kN_eq] at e
      refine ⟨_, e, fun W0 β n w ρ H A => ⟨_, rfl, fun o ho => ?_⟩⟩
      obtain ⟨cs, hr⟩ := hres ρ o ho w
      have := ha β ρ (A x (ops x (by simp [hx])))
      have := conc_base this
      rw [hr, e1, e2, this]
      simp [builtin, Builtin.cap_, run_underlying ((HT _ _ hti).slice hk), goInt]
    · rename_i el id off len b' n' hk
      rw [kN_eq] at e
      refine ⟨_, e, fun W0 β n w ρ H A => ⟨_, rfl, fun o ho => ?_⟩⟩
      obtain ⟨cs, hr⟩ := hres ρ o ho w
      have := ha β ρ (A x (ops x (by simp [hx])))
      obtain ⟨b, hb, _, hval⟩ := conc_slice this
      rw [hr, e1, e2, hval]
      simp [builtin, Builtin.cap_, run_underlying ((HT _ _ hti).slice hk), goInt, capOf]
    · exact (bad_ne e).elim
  · -- min
    left
    replace e := two_ok e; obtain ⟨x, y, hxy, e⟩ := e
    replace e := ev_ok e; obtain ⟨a, e, ha⟩ := e
    replace e := ev_ok e; obtain ⟨b, e, hb⟩ := e
    unfold minK at e
    split at e
    · rename_i kx p ky q
      replace e := mm_ok e
      refine ⟨_, e, fun W0 β n w ρ H A => ⟨_, rfl, fun o ho => ?_⟩⟩
      obtain ⟨cs, hr⟩ := hres ρ o ho w
      have h1 := ha β ρ (A x (ops x (by simp [hxy])))
      have h2 := hb β ρ (A y (ops y (by simp [hxy])))
      simp only [conc, Option.some.injEq] at h1 h2
      have e1 : args.map ρ = #[ρ x, ρ y] := by apply Array.ext'; simp [hxy]
      rw [hr, e1, ← h1, ← h2]
      simp [builtin, Builtin.min_, Builtin.min2, ilt_eq]
    · exact (bad_ne e).elim
  · -- max
    left
    replace e := two_ok e; obtain ⟨x, y, hxy, e⟩ := e
    replace e := ev_ok e; obtain ⟨a, e, ha⟩ := e
    replace e := ev_ok e; obtain ⟨b, e, hb⟩ := e
    unfold maxK at e
    split at e
    · rename_i kx p ky q
      replace e := mm_ok e
      refine ⟨_, e, fun W0 β n w ρ H A => ⟨_, rfl, fun o ho => ?_⟩⟩
      obtain ⟨cs, hr⟩ := hres ρ o ho w
      have h1 := ha β ρ (A x (ops x (by simp [hxy])))
      have h2 := hb β ρ (A y (ops y (by simp [hxy])))
      simp only [conc, Option.some.injEq] at h1 h2
      have e1 : args.map ρ = #[ρ x, ρ y] := by apply Array.ext'; simp [hxy]
      rw [hr, e1, ← h1, ← h2]
      simp [builtin, Builtin.max_, Builtin.max2, ilt_eq]
    · exact (bad_ne e).elim
  · exact .inr e

include HT in
theorem pureK_ok {op : Op} (e : pureK tys h regs op k kn = .ok r) : (∃ v, k v = .ok r ∧ PureSpec P h regs op v) ∨ kn = .ok r := by
  cases op
  case move x =>
    replace e := ev_ok (k := k) e; obtain ⟨v, e, hv⟩ := e
    exact .inl ⟨v, e, fun W0 β n w ρ H A => ⟨_, hv β ρ (A x (by simp [Op.operands])), fun o ho => by simp [execOp, ho]⟩⟩
  case assign x =>
    replace e := ev_ok (k := k) e; obtain ⟨v, e, hv⟩ := e
    exact .inl ⟨v, e, fun W0 β n w ρ H A => ⟨_, hv β ρ (A x (by simp [Op.operands])), fun o ho => by simp [execOp, ho]⟩⟩
  case pick c a b =>
    replace e := ev_ok (k := pickK regs a b k) e; obtain ⟨vc, e, hc⟩ := e
    unfold pickK at e
    split at e
    · rename_i cb
      rcases rec_ok e with ⟨rfl, e⟩ | ⟨rfl, e⟩
      · replace e := ev_ok e; obtain ⟨v, e, hv⟩ := e
        refine .inl ⟨v, e, fun W0 β n w ρ H A => ⟨_, hv β ρ (A a (by simp [Op.operands])), fun o ho => ?_⟩⟩
        have := hc β ρ (A c (by simp [Op.operands]))
        simp only [conc, Option.some.injEq] at this
        simp [execOp, ho, ← this, asBool]
      · replace e := ev_ok e; obtain ⟨v, e, hv⟩ := e
        refine .inl ⟨v, e, fun W0 β n w ρ H A => ⟨_, hv β ρ (A b (by simp [Op.operands])), fun o ho => ?_⟩⟩
        have := hc β ρ (A c (by simp [Op.operands]))
        simp only [conc, Option.some.injEq] at this
        simp [execOp, ho, ← this, asBool]
    · exact (bad_ne e).elim
  case nilCheck x =>
    replace e := ev_ok (k := nilCheckK k) e; obtain ⟨v, e, hv⟩ := e
    replace e := nilCheckK_ok e; obtain ⟨e, hn⟩ := e
    refine .inl ⟨v, e, fun W0 β n w ρ H A => ?_⟩
    have hx := hv β ρ (A x (by simp [Op.operands]))
    refine ⟨_, hx, fun o ho => ?_⟩
    rcases hn β _ hx with ⟨p, hp⟩ | ⟨f, u, v, hp⟩ | ⟨f, u, v, hp⟩ <;> simp [execOp, ho, hp]
  case binOp op t x y yt =>
    replace e : (ev regs x fun x => ev regs y fun y => binK tys op t x y k) = .ok r := e
    replace e := ev_ok e; obtain ⟨a, e, ha⟩ := e
    replace e := ev_ok e; obtain ⟨b, e, hb⟩ := e
    replace e := binK_ok (P := P) HT e; obtain ⟨v, e, hv⟩ := e
    refine .inl ⟨v, e, fun W0 β n w ρ H A => ?_⟩
    obtain ⟨val, h1, h2⟩ := hv β _ _ (ha β ρ (A x (by simp [Op.operands]))) (hb β ρ (A y (by simp [Op.operands])))
    refine ⟨val, h1, fun o ho => ?_⟩
    have := h2 w x y
    simp only [execOp, ho]
    rw [Sem.run_bind, this]; rfl
  case unOp op t x =>
    exact .inl (pure1 (f := Op.unary op) (x := x) (by simp [Op.operands]) (fun ρ o ho w => by simp [execOp, ho]) (K := unK op k) e fun a ea =>
      let ⟨v, h1, h2⟩ := unK_ok ea
      ⟨v, h1, fun W0 β n w H va ha => let ⟨val, h3, h4⟩ := h2 β va ha; ⟨val, h3, h4 w⟩⟩)
  case convert s d x =>
    rcases rec_ok e with ⟨_, e⟩ | ⟨_, e⟩
    · exact .inr e
    · exact .inl (pure1 (f := Go.convert s d) (x := x) (by simp [Op.operands]) (fun ρ o ho w => by simp [execOp, ho]) e fun a ea => convK_ok HT ea)
  case extract x i =>
    exact .inl (pure1 (f := fun a => Instr.extract a i) (x := x) (by simp [Op.operands]) (fun ρ o ho w => by simp [execOp, ho]) (K := extractK i k) e fun a ea =>
      let ⟨v, h1, h2⟩ := extractK_ok ea
      ⟨v, h1, fun W0 β n w H va ha => let ⟨val, h3, h4⟩ := h2 β va ha; ⟨val, h3, h4 w⟩⟩)
  case fieldAddr t x f =>
    exact .inl (pure1 (f := fun a => Instr.fieldAt t a f) (x := x) (by simp [Op.operands]) (fun ρ o ho w => by simp [execOp, ho]) (K := fieldAddrK tys t f k) e fun a ea =>
      let ⟨v, h1, h2⟩ := fieldAddrK_ok HT ea
      ⟨v, h1, fun W0 β n w H va ha => let ⟨val, h3, h4⟩ := h2 β va ha; ⟨val, h3, h4 w⟩⟩)
  case field t x f =>
    exact .inl (pure1 (f := fun a => Instr.field t a f) (x := x) (by simp [Op.operands]) (fun ρ o ho w => by simp [execOp, ho]) (K := fieldK tys t f k) e fun a ea =>
      let ⟨v, h1, h2⟩ := fieldK_ok HT ea
      ⟨v, h1, fun W0 β n w H va ha => let ⟨val, h3, h4⟩ := h2 β va ha; ⟨val, h3, h4 w⟩⟩)
  case indexAddr t x i =>
    exact .inl (pure2 (f := fun a b => Instr.indexAt t a b) (x := x) (y := i) (by simp [Op.operands]) (by simp [Op.operands]) (fun ρ o ho w => by simp [execOp, ho]) (K := fun a b => indexAddrK tys t a b k) e fun a b ea =>
      let ⟨v, h1, h2⟩ := indexAddrK_ok HT ea
      ⟨v, h1, fun W0 β n w H va vb ha hb => let ⟨val, h3, h4⟩ := h2 β va vb ha hb; ⟨val, h3, h4 w⟩⟩)
  case index t x i =>
    exact .inl (pure2 (f := fun a b => Instr.index t a b) (x := x) (y := i) (by simp [Op.operands]) (by simp [Op.operands]) (fun ρ o ho w => by simp [execOp, ho]) (K := fun a b => indexK tys t a b k) e fun a b ea =>
      let ⟨v, h1, h2⟩ := indexK_ok HT ea
      ⟨v, h1, fun W0 β n w H va vb ha hb => let ⟨val, h3, h4⟩ := h2 β va vb ha hb; ⟨val, h3, h4 w⟩⟩)
  case lookup t m x ok =>
    exact .inl (pure2 (f := fun a b => Instr.lookup t a b ok) (x := m) (y := x) (by simp [Op.operands]) (by simp [Op.operands]) (fun ρ o ho w => by simp [execOp, ho]) (K := fun a b => lookupK tys h t a b ok k) e fun a b ea =>
      lookupK_ok HT ea)
  case load t a =>
    exact .inl (pure1 (f := fun a => Instr.loadAt t a) (x := a) (by simp [Op.operands]) (fun ρ o ho w => by simp [execOp, ho]) (K := fun a => loadK tys h t a k) e fun a ea =>
      let ⟨v, h1, h2⟩ := loadK_ok HT ea
      ⟨v, h1, fun W0 β n w H va ha => let ⟨ad, h3, val, h4, h5⟩ := h2 W0 β n w H va ha; ⟨val, h4, by rw [h3]; simp [Instr.loadAt, Instr.sureAddr, h5]⟩⟩)
  case slice t x lo hi mx =>
    left
    replace e := need_ok e; obtain ⟨hms, e⟩ := e
    replace e := ev_ok e; obtain ⟨a, e, ha⟩ := e
    replace e := evO_ok e; obtain ⟨vl, e, hl0, hl⟩ := e
    replace e := evO_ok e; obtain ⟨vh, e, hh0, hh⟩ := e
    replace e := evO_ok e; obtain ⟨vm, e, hm0, hm⟩ := e
    have hms' : vm ≠ none → vh ≠ none := by
      intro h1 h2
      have h2 := hh0.2 h2
      subst h2
      cases mx with
      | none => exact h1 (hm0.1 rfl)
      | some => cases hms
    replace e := sliceK_ok (P := P) HT hms' e; obtain ⟨v, e, hv⟩ := e
    refine ⟨v, e, fun W0 β n w ρ H A => ?_⟩
    have mem : ∀ y, y = x ∨ lo = some y ∨ hi = some y ∨ mx = some y → y ∈ (Op.slice t x lo hi mx).operands.toList := by
      intro y hy
      rcases hy with rfl | rfl | rfl | rfl <;> simp [Op.operands]
    obtain ⟨val, h1, h2⟩ := hv β _ _ _ _ (ha β ρ (A x (mem x (.inl rfl)))) (hl β ρ fun y hy => A y (mem y (.inr (.inl hy)))) (hh β ρ fun y hy => A y (mem y (.inr (.inr (.inl hy))))) (hm β ρ fun y hy => A y (mem y (.inr (.inr (.inr hy)))))
    exact ⟨val, h1, fun o ho => by simp [execOp, ho, h2 w]⟩
  case makeFunc fn first cap =>
    left
    replace e : makeFuncK regs fn first cap k = .ok r := e
    unfold makeFuncK at e
    split at e
    · rename_i f
      replace e := evL_ok e; obtain ⟨us, e, hu⟩ := e
      replace e := evL_ok e; obtain ⟨vs, e, hv⟩ := e
      refine ⟨_, e, fun W0 β n w ρ H A => ?_⟩
      have h1 := hu β ρ fun y hy => A y (by simp [Op.operands]; exact .inl (by simpa using hy))
      have h2 := hv β ρ fun y hy => A y (by simp [Op.operands]; exact .inr (by simpa using hy))
      refine ⟨.func (.func f) (first.map ρ) (cap.map ρ), ?_, fun o ho => by simp [execOp, ho, Instr.makeFunc]⟩
      simp only [conc, h1, h2, Option.bind_some, Option.map_some, Option.some.injEq, Value.func.injEq, true_and]
      exact ⟨by apply Array.ext'; simp, by apply Array.ext'; simp⟩
    · exact (bad_ne e).elim
  case makeInterface t x =>
    exact .inl (pure1 (f := fun a => Instr.makeInterface t a) (x := x) (by simp [Op.operands]) (fun ρ o ho w => by simp [execOp, ho]) (K := ifaceK tys t k) e fun a ea => by
      replace ea := om_ok ea; obtain ⟨ti, hti, ea⟩ := ea
      split at ea
      · rename_i k1 e1 hk
        refine ⟨_, ea, fun W0 β n w H va ha => ⟨.iface t va, by simp [conc, ha], ?_⟩⟩
        simp [Instr.makeInterface, run_underlying ((HT _ _ hti).map hk)]
      · exact (bad_ne ea).elim)
  case build t parts =>
    left
    replace e : buildK tys regs t parts.toList k = .ok r := e
    replace e := buildK_ok HT e; obtain ⟨v, e, hv⟩ := e
    refine ⟨v, e, fun W0 β n w ρ H A => ?_⟩
    obtain ⟨val, h1, h2⟩ := hv β ρ fun p hp => A p.2 (by simp only [Op.operands, List.mem_map]; exact ⟨p, hp, rfl⟩)
    refine ⟨val, h1, fun o ho => ?_⟩
    have e1 : (parts.map fun (i, x) => (i, ρ x)) = (parts.toList.map fun p => (p.1, ρ p.2)).toArray := by
      apply Array.ext'; simp
    simp only [execOp, ho, e1, Sem.run_bind, h2 w, Result.andThen_ok, Sem.run_pure]
  case call c =>
    obtain ⟨f, args, ts⟩ := c
    cases f <;> try exact .inr e
    exact pureB_ok HT e
  all_goals exact .inr e

end

end Go.Mir
namespace Go.Mir
open Go Go.RowKit

theorem HR.congr {W0 : World} {β : Beta} {h : T O} {n : Nat} {w w' : World} (H : HR W0 β h n w) (h1 : w'.heap = w.heap) (h2 : w'.os = w.os) (h3 : w'.tape = w.tape) (h4 : w'.output = w.output) : HR W0 β h n w' where
  obj := by rw [h1]; exact H.obj
  inj := H.inj
  dom := by rw [h1]; exact H.dom
  below := ⟨h2.trans H.below.os, h3.trans H.below.tape, h4.trans H.below.output, by rw [h1]; exact H.below.size, by rw [h1]; exact H.below.block⟩
  laid := H.laid
  above := H.above
  own := H.own

theorem ofL_go {k : T V → Out} {r : Rz} : ∀ (l : List V) (i : Nat) (t : T V),
    (List.rec (motive := fun _ => Nat → T V → Out) (fun _ t => k t) (fun v _ ih i t => T.setK t i (some v) (bad 80) fun t => ih (Nat.succ i) t) l i t : Out) = .ok r →
    ∃ t', k t' = .ok r ∧ ∀ j, t'.get j = if i ≤ j ∧ j < i + l.length then l[j - i]? else t.get j
  | [], i, t, h => ⟨t, h, fun j => by
      have : ¬ (i ≤ j ∧ j < i + ([] : List V).length) := by simp only [List.length_nil]; omega
      rw [if_neg this]⟩
  | v :: l, i, t, h => by
    replace h := setK_ok h; obtain ⟨t1, h, hg1⟩ := h
    obtain ⟨t2, h, hg2⟩ := ofL_go l (i + 1) t1 h
    refine ⟨t2, h, fun j => ?_⟩
    rw [hg2, hg1]
    simp only [List.length_cons]
    by_cases h1 : i + 1 ≤ j ∧ j < i + 1 + l.length
    · rw [if_pos h1, if_pos (by omega)]
      have : j - i = (j - (i + 1)) + 1 := by omega
      rw [this]; simp
    · rw [if_neg h1]
      by_cases h2 : j = i
      · subst h2; rw [if_pos rfl, if_pos (by omega)]; simp
      · rw [if_neg h2, if_neg (by omega)]

theorem ofL_ok {l : List V} {k : T V → Out} {r : Rz} (h : ofL l k = .ok r) : ∃ t, k t = .ok r ∧ ∀ j, t.get j = l[j]? := by
  obtain ⟨t, h, hg⟩ := ofL_go l 0 _ h
  refine ⟨t, h, fun j => ?_⟩
  rw [hg]
  simp only [Nat.zero_le, true_and, Nat.zero_add, Nat.sub_zero, T.get_blank]
  split
  · rfl
  · rw [List.getElem?_eq_none (by omega)]

theorem blockK_ok {l : List V} {esz : Nat} {k : O → Out} {r : Rz} (h : blockK l esz k = .ok r) : ∃ t, k (.cells t l.length esz) = .ok r ∧ ∀ j, t.get j = l[j]? := by
  obtain ⟨t, h, hg⟩ := ofL_ok h
  rw [fNat_eq] at h
  exact ⟨t, h, hg⟩

/-- a new block of cells -/
theorem objR_new {β : Beta} {l : List V} {vs : List Value} (hl : concL β l = some vs) {t : T V} (ht : ∀ j, t.get j = l[j]?) {esz room : Nat} {blk : Nat} {elem : TypeId} {c : Array Value}
    (hc : ∀ (i : Nat) v, vs[i]? = some v → c[i]? = some v) (h1 : l.length ≤ room * esz) (h2 : room * esz ≤ c.size) {frz : Nat × Nat} (hf : c.size ≤ frz.1 ∨ frz.2 = 0) :
    ObjR β ⟨blk, 0, room⟩ (.cells t l.length esz) (some (.cells c elem frz)) :=
  ⟨c, elem, frz, rfl, h1, by simpa using h2, fun j hj1 hj2 => by simp only [Nat.zero_add] at hj2; omega, fun i v hi hv => by
    rw [ht] at hv
    obtain ⟨y, hy, hcy⟩ := concL_get i hl hv
    exact ⟨y, by simpa using hc i y hy, hcy⟩⟩

/-- what a block-making operation does -/
def AllocSpec (P : Program) (regs : T V) (op : Op) (ob : O) (vf : Nat → V) : Prop :=
  ∀ β w ρ, Agrees β regs ρ op → ∃ room obj val w', (∀ o : Oper, o.op = op → (execOp ρ o).run P w = .ok (.value val) w') ∧
    w'.heap = (w.alloc obj).heap ∧ w'.os = w.os ∧ w'.tape = w.tape ∧ w'.output = w.output ∧
    ∀ β' id, Le β β' → β' id = some ⟨w.heap.size, 0, room⟩ → conc β' (vf id) = some val ∧ ObjR β' ⟨w.heap.size, 0, room⟩ ob (some obj)

theorem AllocSpec.plain {P : Program} {regs : T V} {op : Op} {ob : O} {vf : Nat → V}
    (h : ∀ β w ρ, Agrees β regs ρ op → ∃ room obj val, (∀ o : Oper, o.op = op → (execOp ρ o).run P w = .ok (.value val) (w.alloc obj)) ∧
      ∀ β' id, Le β β' → β' id = some ⟨w.heap.size, 0, room⟩ → conc β' (vf id) = some val ∧ ObjR β' ⟨w.heap.size, 0, room⟩ ob (some obj)) : AllocSpec P regs op ob vf :=
  fun β w ρ A => let ⟨room, obj, val, h1, h2⟩ := h β w ρ A; ⟨room, obj, val, _, h1, rfl, rfl, rfl, rfl, h2⟩

theorem conc_vPtr {β' : Beta} {id blk room : Nat} (h : β' id = some ⟨blk, 0, room⟩) : conc β' (vPtr id) = some (.pointer (some ⟨blk, 0, none⟩)) := by
  simp [vPtr, conc, h]

section
variable {P : Program} {tys : T TI} (HT : TysR P tys) {regs : T V} {r : Rz}

theorem sliceTy_ok {t : Nat} {k : TI → Out} (h : sliceTy tys t k = .ok r) : ∃ ti e te, tys.get t = some ti ∧ ti.kind = .slice e ∧ tys.get e = some te ∧ k te = .ok r := by
  replace h := om_ok h; obtain ⟨ti, hti, h⟩ := h
  split at h
  · rename_i e hk
    replace h := om_ok h; obtain ⟨te, hte, h⟩ := h
    exact ⟨ti, e, te, hti, hk, hte, h⟩
  · exact (bad_ne h).elim

theorem repL_go {z : List V} {k : List V → Out} : ∀ (n : Nat) (acc : List V), (Nat.rec (motive := fun _ => List V → Out) (fun acc => k acc) (fun _ ih acc => spine (z ++ acc) ih) n acc : Out) = .ok r →
    k ((List.replicate n z).flatten ++ acc) = .ok r
  | 0, acc, h => h
  | n + 1, acc, h => by
    replace h : spine (z ++ acc) (fun acc => (Nat.rec (motive := fun _ => List V → Out) (fun acc => k acc) (fun _ ih acc => spine (z ++ acc) ih) n acc : Out)) = .ok r := h
    rw [spine_eq] at h
    have := repL_go n _ h
    rw [List.replicate_succ', List.flatten_append]
    simpa using this

theorem repL_ok {n : Nat} {z : List V} {k : List V → Out} (h : repL n z k = .ok r) : k (List.replicate n z).flatten = .ok r := by
  have := repL_go n [] h
  simpa using this

theorem concL_rep {β : Beta} {z : List V} {zs : List Value} (h : concL β z = some zs) : ∀ n, concL β (List.replicate n z).flatten = some (List.replicate n zs).flatten
  | 0 => rfl
  | n + 1 => by
    simp only [List.replicate_succ, List.flatten_cons]
    exact concL_app h (concL_rep h n)

theorem len_rep {α : Type} (z : List α) : ∀ n, (List.replicate n z).flatten.length = n * z.length
  | 0 => by simp
  | n + 1 => by
    simp only [List.replicate_succ, List.flatten_cons, List.length_append, len_rep z n]
    rw [Nat.add_mul]; omega

theorem get_rep {α : Type} (z : List α) : ∀ (n i : Nat), i < n * z.length → (List.replicate n z).flatten[i]? = z[i % z.length]?
  | 0, i, h => by simp at h
  | n + 1, i, h => by
    simp only [List.replicate_succ, List.flatten_cons]
    rcases Nat.lt_or_ge i z.length with h1 | h1
    · rw [List.getElem?_append_left h1, Nat.mod_eq_of_lt h1]
    · rw [List.getElem?_append_right h1, get_rep z n (i - z.length) (by rw [Nat.add_mul] at h; omega), Nat.mod_eq_sub_mod h1]

/-- the model's row of zeros -/
theorem zeros_eq (zero : Array Value) (n : Nat) : ((Array.range (n * zero.size)).map (zero[· % zero.size]!)).toList = (List.replicate n zero.toList).flatten := by
  apply List.ext_getElem?
  intro i
  rcases Nat.lt_or_ge i (n * zero.size) with h | h
  · rw [get_rep zero.toList n i (by simpa using h)]
    have hz : 0 < zero.size := by
      rcases Nat.eq_zero_or_pos zero.size with e | e
      · rw [e] at h; simp at h
      · exact e
    have hm : i % zero.size < zero.size := Nat.mod_lt _ hz
    simp only [Array.toList_map, Array.toList_range, List.getElem?_map, List.getElem?_range h, Option.map_some, Array.length_toList, Array.getElem?_toList]
    simp [hm]
  · rw [List.getElem?_eq_none (by simpa using h), List.getElem?_eq_none (by rw [len_rep]; simpa using h)]

theorem strVs_ok {l : List Nat} {k : List V → Out} (h : strVs l k = .ok r) : k (l.map fun b => V.int .u8 (.ofNat b)) = .ok r := by
  induction l generalizing k with
  | nil => exact h
  | cons b l ih =>
    have := ih (k := fun l => k (.int .u8 (.ofNat b) :: l)) h
    exact this

include HT in
theorem allocK_ok {op : Op} {k : O → (Nat → V) → Out} {kn : Out} (e : allocK tys regs op k kn = .ok r) : (∃ ob vf, k ob vf = .ok r ∧ AllocSpec P regs op ob vf) ∨ kn = .ok r := by
  cases op
  case alloc t =>
    left
    replace e := om_ok e; obtain ⟨ti, hti, e⟩ := e
    have T := HT _ _ hti
    replace e := blockK_ok e; obtain ⟨c, e, hc⟩ := e
    refine ⟨_, _, e, AllocSpec.plain fun β w ρ A => ?_⟩
    obtain ⟨z, hz, hzc, _, _, hzs⟩ := T.zero w
    have hlen := concL_len (hzc β)
    refine ⟨1, .cells z.cells t, .pointer (some ⟨w.heap.size, 0, none⟩), fun o ho => ?_, fun β' id _ hid => ⟨conc_vPtr hid, ?_⟩⟩
    · simp [execOp, ho, Instr.alloc, hz, newVar, newRow]
    · exact objR_new (hzc β') hc (by simp) (by simp at hlen; omega) (by omega) (.inr rfl)
  case box t x =>
    left
    replace e := ev_ok e; obtain ⟨v, e, hv⟩ := e
    rw [fNat_eq] at e
    replace e := blockK_ok e; obtain ⟨c, e, hc⟩ := e
    refine ⟨_, _, e, AllocSpec.plain fun β w ρ A => ?_⟩
    have hx := hv β ρ (A x (by simp [Op.operands]))
    obtain ⟨h1, h2⟩ := conc_cells hx
    refine ⟨1, .cells (ρ x).cells t, .pointer (some ⟨w.heap.size, 0, none⟩), fun o ho => ?_, fun β' id hle hid => ⟨conc_vPtr hid, ?_⟩⟩
    · simp [execOp, ho, Instr.box, newVar, newRow]
    · exact objR_new (concL_mono hle _ _ h1) hc (by simp) (by omega) (by omega) (.inr rfl)
  case makeMap t rs =>
    left
    have hob : ∀ (β' : Beta) (w : World) (id room : Nat), β' id = some ⟨w.heap.size, 0, room⟩ → conc β' (V.map id) = some (.map (some w.heap.size)) ∧ ObjR β' ⟨w.heap.size, 0, room⟩ (.map [] 0) (some (.map #[] 0)) :=
      fun β' w id room hid => ⟨by simp [conc, hid], #[], rfl, trivial⟩
    cases rs with
    | none =>
      refine ⟨_, _, e, AllocSpec.plain fun β w ρ A => ⟨1, .map #[] 0, .map (some w.heap.size), fun o ho => ?_, fun β' id _ hid => hob β' w id 1 hid⟩⟩
      simp [execOp, ho, Instr.makeMap]
    | some x =>
      replace e := mapTy_ok e; obtain ⟨ti, kt, et, tk, te, hti, hk, htk, hte, e⟩ := e
      replace e := ev_ok e; obtain ⟨v, e, hv⟩ := e
      replace e := ixOf_ok e; obtain ⟨kk, m, rfl, e⟩ := e
      refine ⟨_, _, e, AllocSpec.plain fun β w ρ A => ⟨1, .map #[] 0, .map (some w.heap.size), fun o ho => ?_, fun β' id _ hid => hob β' w id 1 hid⟩⟩
      have hx := hv β ρ (A x (by simp [Op.operands]))
      simp only [conc, Option.some.injEq] at hx
      simp [execOp, ho, Instr.makeMap, ← hx, asInt, asIntOf, run_underlying ((HT _ _ hti).map hk)]
  case buildSlice t len parts =>
    left
    replace e := sliceTy_ok e; obtain ⟨ti, el, te, hti, hk, hte, e⟩ := e
    have Te := HT _ _ hte
    have hu := (HT _ _ hti).slice hk
    unfold buildSliceK at e
    replace e := need_ok e; obtain ⟨hbig, e⟩ := e
    have hbig : len * te.size ≤ 16777216 := Nat.le_of_ble_eq_true hbig
    replace e := repL_ok e
    obtain ⟨l, e, hl⟩ := fillK_ok (plA_ok te.size) parts.toList _ e
    replace e := blockK_ok e; obtain ⟨c, e, hc⟩ := e
    refine ⟨_, _, e, AllocSpec.plain fun β w ρ A => ?_⟩
    obtain ⟨z, hz, hzc, _, _, hzs⟩ := Te.zero w
    have hzl := concL_len (hzc β)
    simp only [Array.length_toList] at hzl
    obtain ⟨ls, h1, h2, h3⟩ := hl β ρ (List.replicate len z.cells.toList).flatten (fun p hp => A p.2 (by simp only [Op.operands, List.mem_map]; exact ⟨p, hp, rfl⟩)) (concL_rep (hzc β) len) (by
      rw [len_rep]; show len * te.zero.length = len * te.size; rw [← hzl, hzs])
    have hlsl := concL_len h1
    have hn : l.length = len * te.size := h2
    refine ⟨len, .cells ls.toArray el, .slice (some ⟨w.heap.size, 0, none⟩) len len, fun o ho => ?_, fun β' id hle hid => ⟨by simp [conc, hid, capOf], ?_⟩⟩
    · have e1 : (parts.map fun (i, x) => (i, ρ x)).toList = parts.toList.map fun p => (p.1, ρ p.2) := by simp
      simp only [execOp, ho, Instr.buildSlice, Sem.run_bind, run_underlying hu, Result.andThen_ok, Te.sizeOf]
      rw [if_neg (by omega)]
      by_cases h0 : len * te.size = 0
      · have hr0 : (List.replicate len z.cells.toList).flatten = [] := List.eq_nil_of_length_eq_zero (by rw [len_rep]; simp only [Array.length_toList]; rw [hzs]; exact h0)
        rw [hr0] at h3
        have h3' : Instr.fill (fun i => some (i * te.size, te.size)) #[] (parts.toList.map fun p => (p.1, ρ p.2)) = some ls.toArray := h3
        simp only [h0, if_true, Sem.run_bind, Sem.run_pure, Result.andThen_ok]
        have hm1 : ∀ f : Nat → Value, (Array.range 0).map f = #[] := by intro f; simp
        rw [hm1, e1, h3']
        simp [newRow]
      · have hzero := zeros_eq z.cells len
        rw [hzs] at hzero
        have hz2 : (Array.range (len * te.size)).map (fun x => z.cells[x % z.cells.size]!) = (List.replicate len z.cells.toList).flatten.toArray := by
          apply Array.ext'; rw [hzs]; simpa using hzero
        simp only [h0, if_false, Sem.run_bind, hz, Result.andThen_ok, Sem.run_pure]
        rw [hz2, e1, h3]
        simp [newRow]
    · exact objR_new (concL_mono hle _ _ h1) hc (by simp) (by omega) (by simp; omega) (.inr rfl)
  case makeSlice t l c =>
    left
    replace e := sliceTy_ok e; obtain ⟨ti, el, te, hti, hk, hte, e⟩ := e
    have Te := HT _ _ hte
    have hu := (HT _ _ hti).slice hk
    replace e := ev_ok e; obtain ⟨vl, e, hvl⟩ := e
    replace e := ev_ok e; obtain ⟨vc, e, hvc⟩ := e
    unfold makeSliceK at e
    replace e := ixOf_ok e; obtain ⟨kl, m, rfl, e⟩ := e
    replace e := ixOf_ok e; obtain ⟨kc, q, rfl, e⟩ := e
    replace e := need_ok e; obtain ⟨hb, e⟩ := e
    have hb := Bool.and_eq_true_iff.1 hb
    have hmq : m ≤ q := Nat.le_of_ble_eq_true hb.1
    have hq : q ≤ 1000000 := Nat.le_of_ble_eq_true hb.2
    replace e := repL_ok e
    replace e := blockK_ok e; obtain ⟨cc, e, hc⟩ := e
    refine ⟨_, _, e, AllocSpec.plain fun β w ρ A => ?_⟩
    obtain ⟨z, hz, hzc, _, _, hzs⟩ := Te.zero w
    obtain ⟨i, hi, hti2, _, hbytes⟩ := Te.typeInfo w
    have hsmall := Te.small
    have hzl := concL_len (hzc β)
    simp only [Array.length_toList] at hzl
    have h1 := hvl β ρ (A l (by simp [Op.operands]))
    have h2 := hvc β ρ (A c (by simp [Op.operands]))
    simp only [conc, Option.some.injEq, Int.ofNat_eq_natCast] at h1 h2
    have w1 := wrap64 m (by unfold most64; omega)
    have w2 := wrap64 q (by unfold most64; omega)
    refine ⟨q, .cells (List.replicate q z.cells.toList).flatten.toArray el, .slice (some ⟨w.heap.size, 0, none⟩) m q, fun o ho => ?_, fun β' id hle hid => ⟨by simp [conc, hid, capOf], ?_⟩⟩
    · have hbq : (i.bytes : Int) * (q : Int) ≤ 2 ^ 48 := by
        have h1 : i.bytes * q ≤ 65536 * 1000000 := Nat.mul_le_mul (by omega) hq
        have h2 : ((i.bytes * q : Nat) : Int) = (i.bytes : Int) * (q : Int) := by simp
        rw [← h2]; omega
      have hcond : ((decide ((q : Int) < 0) || decide ((i.bytes : Int) * (q : Int) > 2 ^ 48)) || decide ((m : Int) < 0) || decide ((m : Int) > (q : Int))) = false := by
        simp only [Bool.or_eq_false_iff, decide_eq_false_iff_not]
        exact ⟨⟨⟨by omega, by omega⟩, by omega⟩, by omega⟩
      have hzero := zeros_eq z.cells q
      rw [hzs] at hzero
      have hz2 : (Array.range (q * te.size)).map (fun x => z.cells[x % z.cells.size]!) = (List.replicate q z.cells.toList).flatten.toArray := by
        apply Array.ext'; rw [hzs]; simpa using hzero
      simp only [execOp, ho, Instr.makeSlice, Sem.run_bind, run_underlying hu, Result.andThen_ok, ← h1, ← h2, asInt, asIntOf, Sem.run_pure, hti2, w1, w2]
      rw [if_neg (by simpa using hcond)]
      simp only [Sem.run_bind, run_askRoom, Result.andThen_ok, Te.sizeOf, Int.toNat_natCast]
      by_cases h0 : q * te.size = 0
      · have hr0 : (List.replicate q z.cells.toList).flatten = [] := List.eq_nil_of_length_eq_zero (by rw [len_rep]; simp only [Array.length_toList]; rw [hzs]; exact h0)
        have hm1 : ∀ f : Nat → Value, (Array.range 0).map f = #[] := by intro f; simp
        simp [h0, hr0, newRow, hm1]
      · simp only [h0, if_false, Sem.run_bind, hz, Result.andThen_ok, Sem.run_pure]
        rw [hz2]
        simp [newRow]
    · exact objR_new (concL_rep (hzc β') q) hc (by simp) (by rw [len_rep]; show q * te.zero.length ≤ q * te.size; rw [← hzl, hzs]; exact Nat.le_refl _) (by simp only [List.size_toArray, len_rep, Array.length_toList]; rw [hzs]; exact Nat.le_refl _) (.inr rfl)
  case convert s d x =>
    rcases rec_ok e with ⟨_, e⟩ | ⟨_, e⟩
    · left
      replace e := om_ok e; obtain ⟨ts, hts, e⟩ := e
      obtain ⟨ds, hds, _⟩ := (HT _ _ hts).und
      replace e := ev_ok e; obtain ⟨v, e, hv⟩ := e
      unfold bytesOfK at e
      cases v <;> try exact (bad_ne e).elim
      rename_i l
      replace e := sliceTy_ok e; obtain ⟨ti, el, te, hti, hk, hte, e⟩ := e
      replace e := need_ok e; obtain ⟨hu8, e⟩ := e
      have hu := (HT _ _ hti).slice hk
      have hue : P.underlying el = some (.int .u8) := by
        split at hu8
        · rename_i hk2; exact (HT _ _ hte).int hk2
        · cases hu8
      replace e := strVs_ok e
      rw [fNat_eq] at e
      replace e := blockK_ok e; obtain ⟨c, e, hc⟩ := e
      refine ⟨_, _, e, fun β w ρ A => ?_⟩
      have hx := hv β ρ (A x (by simp [Op.operands]))
      obtain ⟨hl, hx⟩ := conc_str hx
      let cap : Nat := (Question.appendCap (bytesOf l).size 0 el).cut (w.tape w.drawn (.appendCap (bytesOf l).size 0 el))
      let cells : Array Value := ((bytesOf l).data.map fun b => Value.int .u8 b.toNat) ++ Array.replicate (cap - (bytesOf l).size) (.int .u8 0)
      have hcap : l.length ≤ cap := by
        show l.length ≤ (bytesOf l).size + _
        rw [bytesOf_size]; omega
      have hcs : cells.size = cap := by
        simp only [cells, Array.size_append, Array.size_map, Array.size_replicate]
        have : (bytesOf l).data.size = l.length := by simp [bytesOf]
        rw [this, bytesOf_size]; omega
      refine ⟨cap, .cells cells el (cap, cap + 1), .slice (some ⟨w.heap.size, 0, none⟩) l.length cap, (w.drew.alloc (.cells cells el)).freeze ⟨w.heap.size, cap, none⟩ 1, fun o ho => ?_, ?_, ?_, ?_, ?_, fun β' id hle hid => ⟨by simp [conc, hid, capOf, hcap], ?_⟩⟩
      · simp only [execOp, ho, Sem.run_bind, hx, convert, run_underlying hds, run_underlying hu, Result.andThen_ok, run_underlying hue, Conv.stringToBytes]
        have e1 : (w.drew.alloc (.cells cells el)).shape? w.heap.size = some (el, cap) := by
          simp only [World.shape?, World.alloc, World.drew, Array.getElem?_push_size, hcs]
        have e2 : (choose (.appendCap (bytesOf l).size 0 el)).run P w = .ok cap w.drew := by
          rw [run_choose, if_neg (by simp [Question.forced])]; rfl
        have e3 : (newRow el cells).run P w.drew = .ok ⟨w.heap.size, 0, none⟩ (w.drew.alloc (.cells cells el)) := by
          simp [newRow]; rfl
        have e4 : (markStringish ⟨w.heap.size, 0, none⟩).run P (w.drew.alloc (.cells cells el)) = .ok () ((w.drew.alloc (.cells cells el)).freeze ⟨w.heap.size, cap, none⟩ 1) := by
          simp only [markStringish, Sem.run_bind, run_shape, Result.andThen_ok, e1, run_freeze]
        simp only [e2, Result.andThen_ok]
        rw [show ((bytesOf l).data.map (fun b => Value.int .u8 ↑b.toNat) ++ Array.replicate (cap - (bytesOf l).size) (Value.int .u8 0)) = cells from rfl]
        simp only [e3, Result.andThen_ok, e4, Sem.run_pure, bytesOf_size]
      · simp only [World.freeze]
        rw [if_neg (by omega)]
        simp only [World.alloc, World.drew]
        apply Array.ext_getElem?
        intro j
        simp only [Array.getElem?_modify, Array.getElem?_push]
        by_cases hj : w.heap.size = j
        · subst hj; simp
        · have : ¬ j = w.heap.size := fun e => hj e.symm
          simp [hj, this]
      · rfl
      · rfl
      · rfl
      · have hn : (l.map fun b => V.int .u8 (.ofNat b)).length = l.length := by simp
        refine objR_new (vs := l.map fun b => Value.int .u8 (.ofNat b)) ?_ hc (fun i v hi => ?_) (by simp; omega) (by omega) (.inl (by simp [hcs]))
        · exact concL_of (by simp) fun i v hv => by
            simp only [List.getElem?_map, Option.map_eq_some_iff] at hv ⊢
            obtain ⟨b, hb, rfl⟩ := hv
            exact ⟨_, ⟨b, hb, rfl⟩, rfl⟩
        · simp only [List.getElem?_map, Option.map_eq_some_iff] at hi
          obtain ⟨b, hb, rfl⟩ := hi
          have hbl : i < l.length := by
            rcases Nat.lt_or_ge i l.length with h | h
            · exact h
            · rw [List.getElem?_eq_none h] at hb; cases hb
          have hb256 : b < 256 := by
            simp only [allB, List.all_eq_true, decide_eq_true_eq] at hl
            exact hl b (List.mem_of_getElem? hb)
          simp only [cells]
          rw [Array.getElem?_append_left (by simp [bytesOf, hbl])]
          simp [bytesOf, hb, Nat.mod_eq_of_lt hb256]
    · exact .inr e
  all_goals exact .inr e

end

end Go.Mir
namespace Go.Mir
open Go Go.RowKit

theorem putL_go {k : T V → Out} {r : Rz} : ∀ (l : List V) (i : Nat) (t : T V), putL t i l k = .ok r →
    ∃ t', k t' = .ok r ∧ ∀ j, t'.get j = if i ≤ j ∧ j < i + l.length then l[j - i]? else t.get j
  | [], i, t, h => ⟨t, h, fun j => by
      have : ¬ (i ≤ j ∧ j < i + ([] : List V).length) := by simp only [List.length_nil]; omega
      rw [if_neg this]⟩
  | v :: l, i, t, h => by
    replace h : T.setK t i (some v) (bad 100) (fun t => fNat (Nat.succ i) fun i => putL t i l k) = .ok r := h
    replace h := setK_ok h; obtain ⟨t1, h, hg1⟩ := h
    rw [fNat_eq] at h
    obtain ⟨t2, h, hg2⟩ := putL_go l (i + 1) t1 h
    refine ⟨t2, h, fun j => ?_⟩
    rw [hg2, hg1]
    simp only [List.length_cons]
    by_cases h1 : i + 1 ≤ j ∧ j < i + 1 + l.length
    · rw [if_pos h1, if_pos (by omega)]
      have : j - i = (j - (i + 1)) + 1 := by omega
      rw [this]; simp
    · rw [if_neg h1]
      by_cases h2 : j = i
      · subst h2; rw [if_pos rfl, if_pos (by omega)]; simp
      · rw [if_neg h2, if_neg (by omega)]

theorem allOne_ok {β : Beta} : ∀ {l : List V} {us : List Value}, allOne l = true → concL β l = some us → ∀ u ∈ us, u.oneCell' = true
  | [], us, _, h, u, hu => by simp [concL] at h; subst h; cases hu
  | v :: l, us, ha, h, u, hu => by
    replace ha : and (oneV v) (allOne l) = true := ha
    have ha := Bool.and_eq_true_iff.1 ha
    simp only [concL, Option.bind_eq_some_iff, Option.map_eq_some_iff] at h
    obtain ⟨x, hx, z, hz, rfl⟩ := h
    cases hu with
    | head =>
      cases v with
      | agg => cases ha.1
      | tuple => cases ha.1
      | base w => simp only [conc] at hx; split at hx <;> simp_all
      | _ => cases u <;> first | rfl | (simp [conc] at hx; done) | (simp only [conc, Option.map_eq_some_iff, Option.bind_eq_some_iff] at hx; (try split at hx); (try cases hx); simp_all; done)
    | tail _ hu => exact allOne_ok ha.2 hz u hu

theorem setCells_at {b : Nat} {elem : TypeId} {frz : Nat × Nat} : ∀ (us : List Value) (o : Nat) (w : World) (c : Array Value), w.heap[b]? = some (.cells c elem frz) →
    ∃ c', (w.setCells b o us).heap[b]? = some (.cells c' elem frz) ∧ c'.size = c.size ∧ ∀ j : Nat, c'[j]? = if o ≤ j ∧ j < o + us.length ∧ j < c.size then us[j - o]? else c[j]?
  | [], o, w, c, h => ⟨c, h, rfl, fun j => by
      have : ¬ (o ≤ j ∧ j < o + ([] : List Value).length ∧ j < c.size) := by simp only [List.length_nil]; omega
      rw [if_neg this]⟩
  | u :: us, o, w, c, h => by
    have h1 : (w.setCell ⟨b, o, none⟩ u).heap[b]? = some (.cells (c.setIfInBounds o u) elem frz) := by
      simp [World.setCell, Array.getElem?_modify, h]
    obtain ⟨c', h2, h3, h4⟩ := setCells_at us (o + 1) _ _ h1
    refine ⟨c', h2, by simpa using h3, fun j => ?_⟩
    rw [h4]
    simp only [List.length_cons, Array.size_setIfInBounds, Array.getElem?_setIfInBounds]
    by_cases e1 : o + 1 ≤ j ∧ j < o + 1 + us.length ∧ j < c.size
    · rw [if_pos e1, if_pos (by omega)]
      have : j - o = (j - (o + 1)) + 1 := by omega
      rw [this]; simp
    · rw [if_neg e1]
      by_cases e2 : o = j
      · subst e2
        by_cases e3 : o < c.size
        · rw [if_pos rfl, if_pos e3, if_pos (by omega)]; simp
        · rw [if_pos rfl, if_neg e3, if_neg (by omega), Array.getElem?_eq_none (by omega)]
      · rw [if_neg e2, if_neg (by omega)]

theorem setCells_other {b k : Nat} (hk : k ≠ b) : ∀ (us : List Value) (o : Nat) (w : World), (w.setCells b o us).heap[k]? = w.heap[k]?
  | [], _, _ => rfl
  | u :: us, o, w => by
    rw [World.setCells, setCells_other hk us (o + 1)]
    exact Below.heap_setCell w ⟨b, o, none⟩ u k hk

theorem setCells_size {b : Nat} : ∀ (us : List Value) (o : Nat) (w : World), (w.setCells b o us).heap.size = w.heap.size
  | [], _, _ => rfl
  | u :: us, o, w => by rw [World.setCells, setCells_size us (o + 1), World.size_setCell]

theorem setCells_below {B b : Nat} (hb : B ≤ b) : ∀ (us : List Value) (o : Nat) (w : World), Below B w (w.setCells b o us)
  | [], _, w => Below.refl B w
  | u :: us, o, w => ((Below.refl B w).setCell (p := ⟨b, o, none⟩) hb u).trans (setCells_below hb us (o + 1) _)

theorem oCells_ok {o : O} {kk : T V → Nat → Nat → Out} {r : Rz} (h : oCells o kk = .ok r) : ∃ t n e, o = .cells t n e ∧ kk t n e = .ok r := by
  cases o <;> first | exact ⟨_, _, _, rfl, h⟩ | exact (bad_ne h).elim

theorem storeN_ok {P : Program} {h : T O} {id off : Nat} {vs : List V} {k : T O → Out} {r : Rz} (e : storeN h id off vs k = .ok r) :
    ∃ h', k h' = .ok r ∧ ∀ W0 β n w, HR W0 β h n w → ∀ b, β id = some b → ∀ us, concL β vs = some us →
      (storeCells ⟨b.blk, b.off + off, none⟩ us).run P w = .ok () (w.setCells b.blk (b.off + off) us) ∧ HR W0 β h' n (w.setCells b.blk (b.off + off) us) ∧ More β h n β h' n := by
  replace e := om_ok e; obtain ⟨o, ho, e⟩ := e
  replace e := oCells_ok e; obtain ⟨t, m, esz, rfl, e⟩ := e
  replace e := need_ok e; obtain ⟨hc, e⟩ := e
  have hc := Bool.and_eq_true_iff.1 hc
  have hle : off + vs.length ≤ m := Nat.le_of_ble_eq_true hc.2
  replace e := putL_go _ _ _ e; obtain ⟨t', e, ht⟩ := e
  replace e := setK_ok e; obtain ⟨h', e, hg⟩ := e
  refine ⟨h', e, fun W0 β n w H b hb us hus => ?_⟩
  obtain ⟨c, elem, frz, h1, h2, h3, h4, h5⟩ := H.obj id _ b ho hb
  have hlen := concL_len hus
  have hlt : b.off + off + us.length ≤ c.size := by omega
  obtain ⟨c', hc1, hc2, hc3⟩ := setCells_at us (b.off + off) w c h1
  refine ⟨?_, ?_, ext_put hb hg⟩
  · have := run_storeCells_cells (P := P) b.blk (b.off + off) us 0 w (fun j hj => by
        simp only [World.cell?, h1, Nat.add_zero]
        rw [Array.getElem?_eq_getElem (by omega)]; rfl) (fun j hj => by
        have := h4 (b.off + off + j) (by omega) (by omega)
        simp only [World.frozen?, h1, Nat.add_zero]
        simp only [Bool.and_eq_false_iff, decide_eq_false_iff_not]
        omega) (allOne_ok hc.1 hus)
    simpa using this
  · refine H.put ho hb hg (fun k hk => setCells_other hk us _ w) (setCells_size us _ w) (setCells_below (H.own id _ b ho rfl hb) us _ w) ?_
    refine ⟨c', elem, frz, hc1, h2, by omega, h4, fun i v hi hv => ?_⟩
    rw [ht] at hv
    rw [hc3]
    by_cases hin : off ≤ i ∧ i < off + vs.length
    · rw [if_pos hin] at hv
      obtain ⟨y, hy, hcy⟩ := concL_get _ hus hv
      refine ⟨y, ?_, hcy⟩
      rw [if_pos (by omega), show b.off + i - (b.off + off) = i - off by omega]
      exact hy
    · rw [if_neg hin] at hv
      rw [if_neg (by omega)]
      exact h5 i v hi hv

theorem storeK_ok {P : Program} {tys : T TI} (HT : TysR P tys) {h : T O} {t : Nat} {a v : V} {k : T O → Out} {r : Rz} (e : storeK tys h t a v k = .ok r) :
    ∃ h', k h' = .ok r ∧ ∀ W0 β n w, HR W0 β h n w → ∀ va vv, conc β a = some va → conc β v = some vv →
      ∃ w', (Instr.storeAt t va vv).run P w = .ok () w' ∧ HR W0 β h' n w' ∧ More β h n β h' n := by
  unfold storeK at e
  cases a <;> try exact (bad_ne e).elim
  rename_i id off
  replace e := om_ok e; obtain ⟨ti, hti, e⟩ := e
  have T := HT _ _ hti
  replace e := need_ok e; obtain ⟨hs, e⟩ := e
  have hs : (cellsOf v).length = ti.size := Nat.eq_of_beq_eq_true hs
  replace e := storeN_ok (P := P) e; obtain ⟨h', e, hst⟩ := e
  refine ⟨h', e, fun W0 β n w H va vv ha hv => ?_⟩
  obtain ⟨b, hb, rfl⟩ := conc_ptr ha
  obtain ⟨h1, h2⟩ := conc_cells hv
  obtain ⟨h3, h4, h5⟩ := hst W0 β n w H b hb _ h1
  refine ⟨_, ?_, h4, h5⟩
  simp only [Instr.storeAt, Instr.sureAddr, Sem.run_bind, Sem.run_pure, Result.andThen_ok, storeVar, T.sizeOf]
  rw [if_neg (by omega)]
  simp only [h3]

end Go.Mir
