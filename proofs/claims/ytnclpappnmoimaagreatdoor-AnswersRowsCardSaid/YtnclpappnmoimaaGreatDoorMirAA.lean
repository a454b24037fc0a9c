/- The small machine against the model: all the operations that make a value. No statement of the program stands here. -/
import Derived.Test.YtnclpappnmoimaaGreatDoorMirZ
namespace Go.Mir
open Go Go.RowKit

section
variable {P : Program} {tys : T TI} (HT : TysR P tys) {h : T O} {regs : T V} {k : V → Out} {kn : Out} {r : Rz}

theorem two_ok {l : List Operand} {kk : Operand → Operand → Out} (e : two l kk = .ok r) : ∃ x y, l = [x, y] ∧ kk x y = .ok r := by
  unfold two at e
  split at e
  · exact ⟨_, _, rfl, e⟩
  · exact (bad_ne e).elim

theorem oneO_ok {l : List Operand} {kk : Operand → Out} (e : oneO l kk = .ok r) : ∃ x, l = [x] ∧ kk x = .ok r := by
  unfold oneO at e
  split at e
  · exact ⟨_, rfl, e⟩
  · exact (bad_ne e).elim

theorem hd_ok {l : List Nat} {kk : Nat → Out} (e : hd l kk = .ok r) : ∃ x t, l = x :: t ∧ kk x = .ok r := by
  unfold hd at e
  split at e
  · exact ⟨_, _, rfl, e⟩
  · exact (bad_ne e).elim

theorem evO_ok {x : Option Operand} {kk : Option V → Out} (e : evO regs x kk = .ok r) : ∃ v, kk v = .ok r ∧ (x = none ↔ v = none) ∧ ∀ β ρ, (∀ y, x = some y → Agree β regs ρ y) → concO β v (x.map ρ) := by
  cases x with
  | none => exact ⟨none, e, by simp, fun β ρ _ => trivial⟩
  | some x =>
    replace e := ev_ok (k := fun v => kk (some v)) e; obtain ⟨v, e, hv⟩ := e
    exact ⟨some v, e, by simp, fun β ρ ha => hv β ρ (ha x rfl)⟩

theorem mm_ok {b : Bool} {kx : IntKind} {x y : Int} (e : mm b kx x y k = .ok r) : k (.int kx (if b then y else x)) = .ok r := by
  cases b <;> exact e

include HT in
theorem pureB_ok {b : Builtin} {ts : Array Nat} {args : Array Operand} (e : pureB tys h regs b ts args k kn = .ok r) :
    (∃ v, k v = .ok r ∧ PureSpec P h regs (.call ⟨.builtin b, args, ts⟩) v) ∨ kn = .ok r := by
  have ops : ∀ x ∈ args.toList, x ∈ (Op.call ⟨.builtin b, args, ts⟩).operands.toList := by
    intro x hx; simpa [Op.operands, Call.operands] using hx
  have hres : ∀ (ρ : Operand → Value) (o : Oper), o.op = .call ⟨.builtin b, args, ts⟩ → ∀ w, ∃ cs, (execOp ρ o).run P w = (builtin b ts o.type cs (args.map ρ)).run P w := by
    intro ρ o ho w
    refine ⟨args.map fun | .const _ => true | _ => false, ?_⟩
    simp only [execOp, ho, resolve, Sem.run_bind, Sem.run_pure, Result.andThen_ok, invoke]
    rfl
  unfold pureB at e
  split at e
  · -- len
    left
    replace e := hd_ok e; obtain ⟨t, ts', hts, e⟩ := e
    replace e := need_ok e; obtain ⟨hl, e⟩ := e
    replace e := oneO_ok e; obtain ⟨x, hx, e⟩ := e
    replace e := ev_ok e; obtain ⟨a, e, ha⟩ := e
    replace e := lenV_ok HT e; obtain ⟨v, e, hv⟩ := e
    refine ⟨v, e, fun W0 β n w ρ H A => ?_⟩
    obtain ⟨val, h1, h2⟩ := hv W0 β n w H _ (ha β ρ (A x (ops x (by simp [hx]))))
    refine ⟨val, h1, fun o ho => ?_⟩
    obtain ⟨cs, hr⟩ := hres ρ o ho w
    have e1 : args.map ρ = #[ρ x] := by apply Array.ext'; simp [hx]
    have e2 : ts = #[t] := by
      apply Array.ext'
      rw [hts]
      cases ts' with
      | nil => rfl
      | cons => rw [hts] at hl; cases hl
    rw [hr, e1, e2]
    simp [builtin, h2]
  · -- cap
    left
    replace e := hd_ok e; obtain ⟨t, ts', hts, e⟩ := e
    replace e := need_ok e; obtain ⟨hl, e⟩ := e
    replace e := oneO_ok e; obtain ⟨x, hx, e⟩ := e
    replace e := ev_ok e; obtain ⟨a, e, ha⟩ := e
    have e2 : ts = #[t] := by
      apply Array.ext'
      rw [hts]
      cases ts' with
      | nil => rfl
      | cons => rw [hts] at hl; cases hl
    have e1 : ∀ ρ : Operand → Value, args.map ρ = #[ρ x] := by intro ρ; apply Array.ext'; simp [hx]
    unfold capK at e
    replace e := om_ok e; obtain ⟨ti, hti, e⟩ := e
    split at e
    · rename_i el a' b' hk
      rw [kN_eq] at e
      refine ⟨_, e, fun W0 β n w ρ H A => ⟨_, rfl, fun o ho => ?_⟩⟩
      obtain ⟨cs, hr⟩ := hres ρ o ho w
      have := ha β ρ (A x (ops x (by simp [hx])))
      have := conc_base this
      rw [hr, e1, e2, this]
      simp [builtin, Builtin.cap_, run_underlying ((HT _ _ hti).slice hk), goInt]
    · rename_i el id off len b' n' hk
      rw [kN_eq] at e
      refine ⟨_, e, fun W0 β n w ρ H A => ⟨_, rfl, fun o ho => ?_⟩⟩
      obtain ⟨cs, hr⟩ := hres ρ o ho w
      have := ha β ρ (A x (ops x (by simp [hx])))
      obtain ⟨b, hb, _, hval⟩ := conc_slice this
      rw [hr, e1, e2, hval]
      simp [builtin, Builtin.cap_, run_underlying ((HT _ _ hti).slice hk), goInt, capOf]
    · exact (bad_ne e).elim
  · -- min
    left
    replace e := two_ok e; obtain ⟨x, y, hxy, e⟩ := e
    replace e := ev_ok e; obtain ⟨a, e, ha⟩ := e
    replace e := ev_ok e; obtain ⟨b, e, hb⟩ := e
    unfold minK at e
    split at e
    · rename_i kx p ky q
      replace e := mm_ok e
      refine ⟨_, e, fun W0 β n w ρ H A => ⟨_, rfl, fun o ho => ?_⟩⟩
      obtain ⟨cs, hr⟩ := hres ρ o ho w
      have h1 := ha β ρ (A x (ops x (by simp [hxy])))
      have h2 := hb β ρ (A y (ops y (by simp [hxy])))
      simp only [conc, Option.some.injEq] at h1 h2
      have e1 : args.map ρ = #[ρ x, ρ y] := by apply Array.ext'; simp [hxy]
      rw [hr, e1, ← h1, ← h2]
      simp [builtin, Builtin.min_, Builtin.min2, ilt_eq]
    · exact (bad_ne e).elim
  · -- max
    left
    replace e := two_ok e; obtain ⟨x, y, hxy, e⟩ := e
    replace e := ev_ok e; obtain ⟨a, e, ha⟩ := e
    replace e := ev_ok e; obtain ⟨b, e, hb⟩ := e
    unfold maxK at e
    split at e
    · rename_i kx p ky q
      replace e := mm_ok e
      refine ⟨_, e, fun W0 β n w ρ H A => ⟨_, rfl, fun o ho => ?_⟩⟩
      obtain ⟨cs, hr⟩ := hres ρ o ho w
      have h1 := ha β ρ (A x (ops x (by simp [hxy])))
      have h2 := hb β ρ (A y (ops y (by simp [hxy])))
      simp only [conc, Option.some.injEq] at h1 h2
      have e1 : args.map ρ = #[ρ x, ρ y] := by apply Array.ext'; simp [hxy]
      rw [hr, e1, ← h1, ← h2]
      simp [builtin, Builtin.max_, Builtin.max2, ilt_eq]
    · exact (bad_ne e).elim
  · exact .inr e

include HT in
theorem pureK_ok {op : Op} (e : pureK tys h regs op k kn = .ok r) : (∃ v, k v = .ok r ∧ PureSpec P h regs op v) ∨ kn = .ok r := by
  cases op
  case move x =>
    replace e := ev_ok (k := k) e; obtain ⟨v, e, hv⟩ := e
    exact .inl ⟨v, e, fun W0 β n w ρ H A => ⟨_, hv β ρ (A x (by simp [Op.operands])), fun o ho => by simp [execOp, ho]⟩⟩
  case assign x =>
    replace e := ev_ok (k := k) e; obtain ⟨v, e, hv⟩ := e
    exact .inl ⟨v, e, fun W0 β n w ρ H A => ⟨_, hv β ρ (A x (by simp [Op.operands])), fun o ho => by simp [execOp, ho]⟩⟩
  case pick c a b =>
    replace e := ev_ok (k := pickK regs a b k) e; obtain ⟨vc, e, hc⟩ := e
    unfold pickK at e
    split at e
    · rename_i cb
      rcases rec_ok e with ⟨rfl, e⟩ | ⟨rfl, e⟩
      · replace e := ev_ok e; obtain ⟨v, e, hv⟩ := e
        refine .inl ⟨v, e, fun W0 β n w ρ H A => ⟨_, hv β ρ (A a (by simp [Op.operands])), fun o ho => ?_⟩⟩
        have := hc β ρ (A c (by simp [Op.operands]))
        simp only [conc, Option.some.injEq] at this
        simp [execOp, ho, ← this, asBool]
      · replace e := ev_ok e; obtain ⟨v, e, hv⟩ := e
        refine .inl ⟨v, e, fun W0 β n w ρ H A => ⟨_, hv β ρ (A b (by simp [Op.operands])), fun o ho => ?_⟩⟩
        have := hc β ρ (A c (by simp [Op.operands]))
        simp only [conc, Option.some.injEq] at this
        simp [execOp, ho, ← this, asBool]
    · exact (bad_ne e).elim
  case nilCheck x =>
    replace e := ev_ok (k := nilCheckK k) e; obtain ⟨v, e, hv⟩ := e
    replace e := nilCheckK_ok e; obtain ⟨e, hn⟩ := e
    refine .inl ⟨v, e, fun W0 β n w ρ H A => ?_⟩
    have hx := hv β ρ (A x (by simp [Op.operands]))
    refine ⟨_, hx, fun o ho => ?_⟩
    rcases hn β _ hx with ⟨p, hp⟩ | ⟨f, u, v, hp⟩ | ⟨f, u, v, hp⟩ <;> simp [execOp, ho, hp]
  case binOp op t x y yt =>
    replace e : (ev regs x fun x => ev regs y fun y => binK tys op t x y k) = .ok r := e
    replace e := ev_ok e; obtain ⟨a, e, ha⟩ := e
    replace e := ev_ok e; obtain ⟨b, e, hb⟩ := e
    replace e := binK_ok (P := P) HT e; obtain ⟨v, e, hv⟩ := e
    refine .inl ⟨v, e, fun W0 β n w ρ H A => ?_⟩
    obtain ⟨val, h1, h2⟩ := hv β _ _ (ha β ρ (A x (by simp [Op.operands]))) (hb β ρ (A y (by simp [Op.operands])))
    refine ⟨val, h1, fun o ho => ?_⟩
    have := h2 w x y
    simp only [execOp, ho]
    rw [Sem.run_bind, this]; rfl
  case unOp op t x =>
    exact .inl (pure1 (f := Op.unary op) (x := x) (by simp [Op.operands]) (fun ρ o ho w => by simp [execOp, ho]) (K := unK op k) e fun a ea =>
      let ⟨v, h1, h2⟩ := unK_ok ea
      ⟨v, h1, fun W0 β n w H va ha => let ⟨val, h3, h4⟩ := h2 β va ha; ⟨val, h3, h4 w⟩⟩)
  case convert s d x =>
    rcases rec_ok e with ⟨_, e⟩ | ⟨_, e⟩
    · exact .inr e
    · exact .inl (pure1 (f := Go.convert s d) (x := x) (by simp [Op.operands]) (fun ρ o ho w => by simp [execOp, ho]) e fun a ea => convK_ok HT ea)
  case extract x i =>
    exact .inl (pure1 (f := fun a => Instr.extract a i) (x := x) (by simp [Op.operands]) (fun ρ o ho w => by simp [execOp, ho]) (K := extractK i k) e fun a ea =>
      let ⟨v, h1, h2⟩ := extractK_ok ea
      ⟨v, h1, fun W0 β n w H va ha => let ⟨val, h3, h4⟩ := h2 β va ha; ⟨val, h3, h4 w⟩⟩)
  case fieldAddr t x f =>
    exact .inl (pure1 (f := fun a => Instr.fieldAt t a f) (x := x) (by simp [Op.operands]) (fun ρ o ho w => by simp [execOp, ho]) (K := fieldAddrK tys t f k) e fun a ea =>
      let ⟨v, h1, h2⟩ := fieldAddrK_ok HT ea
      ⟨v, h1, fun W0 β n w H va ha => let ⟨val, h3, h4⟩ := h2 β va ha; ⟨val, h3, h4 w⟩⟩)
  case field t x f =>
    exact .inl (pure1 (f := fun a => Instr.field t a f) (x := x) (by simp [Op.operands]) (fun ρ o ho w => by simp [execOp, ho]) (K := fieldK tys t f k) e fun a ea =>
      let ⟨v, h1, h2⟩ := fieldK_ok HT ea
      ⟨v, h1, fun W0 β n w H va ha => let ⟨val, h3, h4⟩ := h2 β va ha; ⟨val, h3, h4 w⟩⟩)
  case indexAddr t x i =>
    exact .inl (pure2 (f := fun a b => Instr.indexAt t a b) (x := x) (y := i) (by simp [Op.operands]) (by simp [Op.operands]) (fun ρ o ho w => by simp [execOp, ho]) (K := fun a b => indexAddrK tys t a b k) e fun a b ea =>
      let ⟨v, h1, h2⟩ := indexAddrK_ok HT ea
      ⟨v, h1, fun W0 β n w H va vb ha hb => let ⟨val, h3, h4⟩ := h2 β va vb ha hb; ⟨val, h3, h4 w⟩⟩)
  case index t x i =>
    exact .inl (pure2 (f := fun a b => Instr.index t a b) (x := x) (y := i) (by simp [Op.operands]) (by simp [Op.operands]) (fun ρ o ho w => by simp [execOp, ho]) (K := fun a b => indexK tys t a b k) e fun a b ea =>
      let ⟨v, h1, h2⟩ := indexK_ok HT ea
      ⟨v, h1, fun W0 β n w H va vb ha hb => let ⟨val, h3, h4⟩ := h2 β va vb ha hb; ⟨val, h3, h4 w⟩⟩)
  case lookup t m x ok =>
    exact .inl (pure2 (f := fun a b => Instr.lookup t a b ok) (x := m) (y := x) (by simp [Op.operands]) (by simp [Op.operands]) (fun ρ o ho w => by simp [execOp, ho]) (K := fun a b => lookupK tys h t a b ok k) e fun a b ea =>
      lookupK_ok HT ea)
  case load t a =>
    exact .inl (pure1 (f := fun a => Instr.loadAt t a) (x := a) (by simp [Op.operands]) (fun ρ o ho w => by simp [execOp, ho]) (K := fun a => loadK tys h t a k) e fun a ea =>
      let ⟨v, h1, h2⟩ := loadK_ok HT ea
      ⟨v, h1, fun W0 β n w H va ha => let ⟨ad, h3, val, h4, h5⟩ := h2 W0 β n w H va ha; ⟨val, h4, by rw [h3]; simp [Instr.loadAt, Instr.sureAddr, h5]⟩⟩)
  case slice t x lo hi mx =>
    left
    replace e := need_ok e; obtain ⟨hms, e⟩ := e
    replace e := ev_ok e; obtain ⟨a, e, ha⟩ := e
    replace e := evO_ok e; obtain ⟨vl, e, hl0, hl⟩ := e
    replace e := evO_ok e; obtain ⟨vh, e, hh0, hh⟩ := e
    replace e := evO_ok e; obtain ⟨vm, e, hm0, hm⟩ := e
    have hms' : vm ≠ none → vh ≠ none := by
      intro h1 h2
      have h2 := hh0.2 h2
      subst h2
      cases mx with
      | none => exact h1 (hm0.1 rfl)
      | some => cases hms
    replace e := sliceK_ok (P := P) HT hms' e; obtain ⟨v, e, hv⟩ := e
    refine ⟨v, e, fun W0 β n w ρ H A => ?_⟩
    have mem : ∀ y, y = x ∨ lo = some y ∨ hi = some y ∨ mx = some y → y ∈ (Op.slice t x lo hi mx).operands.toList := by
      intro y hy
      rcases hy with rfl | rfl | rfl | rfl <;> simp [Op.operands]
    obtain ⟨val, h1, h2⟩ := hv β _ _ _ _ (ha β ρ (A x (mem x (.inl rfl)))) (hl β ρ fun y hy => A y (mem y (.inr (.inl hy)))) (hh β ρ fun y hy => A y (mem y (.inr (.inr (.inl hy))))) (hm β ρ fun y hy => A y (mem y (.inr (.inr (.inr hy)))))
    exact ⟨val, h1, fun o ho => by simp [execOp, ho, h2 w]⟩
  case makeFunc fn first cap =>
    left
    replace e : makeFuncK regs fn first cap k = .ok r := e
    unfold makeFuncK at e
    split at e
    · rename_i f
      replace e := evL_ok e; obtain ⟨us, e, hu⟩ := e
      replace e := evL_ok e; obtain ⟨vs, e, hv⟩ := e
      refine ⟨_, e, fun W0 β n w ρ H A => ?_⟩
      have h1 := hu β ρ fun y hy => A y (by simp [Op.operands]; exact .inl (by simpa using hy))
      have h2 := hv β ρ fun y hy => A y (by simp [Op.operands]; exact .inr (by simpa using hy))
      refine ⟨.func (.func f) (first.map ρ) (cap.map ρ), ?_, fun o ho => by simp [execOp, ho, Instr.makeFunc]⟩
      simp only [conc, h1, h2, Option.bind_some, Option.map_some, Option.some.injEq, Value.func.injEq, true_and]
      exact ⟨by apply Array.ext'; simp, by apply Array.ext'; simp⟩
    · exact (bad_ne e).elim
  case makeInterface t x =>
    exact .inl (pure1 (f := fun a => Instr.makeInterface t a) (x := x) (by simp [Op.operands]) (fun ρ o ho w => by simp [execOp, ho]) (K := ifaceK tys t k) e fun a ea => by
      replace ea := om_ok ea; obtain ⟨ti, hti, ea⟩ := ea
      split at ea
      · rename_i k1 e1 hk
        refine ⟨_, ea, fun W0 β n w H va ha => ⟨.iface t va, by simp [conc, ha], ?_⟩⟩
        simp [Instr.makeInterface, run_underlying ((HT _ _ hti).map hk)]
      · exact (bad_ne ea).elim)
  case build t parts =>
    left
    replace e : buildK tys regs t parts.toList k = .ok r := e
    replace e := buildK_ok HT e; obtain ⟨v, e, hv⟩ := e
    refine ⟨v, e, fun W0 β n w ρ H A => ?_⟩
    obtain ⟨val, h1, h2⟩ := hv β ρ fun p hp => A p.2 (by simp only [Op.operands, List.mem_map]; exact ⟨p, hp, rfl⟩)
    refine ⟨val, h1, fun o ho => ?_⟩
    have e1 : (parts.map fun (i, x) => (i, ρ x)) = (parts.toList.map fun p => (p.1, ρ p.2)).toArray := by
      apply Array.ext'; simp
    simp only [execOp, ho, e1, Sem.run_bind, h2 w, Result.andThen_ok, Sem.run_pure]
  case call c =>
    obtain ⟨f, args, ts⟩ := c
    cases f <;> try exact .inr e
    exact pureB_ok HT e
  all_goals exact .inr e

end

end Go.Mir
