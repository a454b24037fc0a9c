/- The small machine against the model: the model's steps. No statement of the program stands here. -/
import Derived.Test.YtnclpappnmoimaaGreatDoorMirAO
namespace Go.Mir
open Go Go.RowKit

section real
variable {P : Program} {F : Frame} {CS : List Frame} {w w' : World} {k : List Item}

theorem r_skip (hm : F.mode = .run) (ht : F.todo = .code .skip :: k) : Go.step P (lone F CS w) = .next (lone { F with todo := k } CS w) := by
  obtain ⟨fn, tmps, todo, defers, mode, kind, roundOf⟩ := F
  simp only at hm ht; subst hm; subst ht
  exact step_lone_go (by simp [stepG, stepG.exec])

theorem r_label {l : Nat} (hm : F.mode = .run) (ht : F.todo = .code (.label l) :: k) : Go.step P (lone F CS w) = .next (lone { F with todo := k } CS w) := by
  obtain ⟨fn, tmps, todo, defers, mode, kind, roundOf⟩ := F
  simp only at hm ht; subst hm; subst ht
  exact step_lone_go (by simp [stepG, stepG.exec])

theorem r_inBlock {l : Nat} (hm : F.mode = .run) (ht : F.todo = .inBlock l :: k) : Go.step P (lone F CS w) = .next (lone { F with todo := k } CS w) := by
  obtain ⟨fn, tmps, todo, defers, mode, kind, roundOf⟩ := F
  simp only at hm ht; subst hm; subst ht
  exact step_lone_go (by simp [stepG, stepG.exec])

theorem r_inScope {l : Code} (hm : F.mode = .run) (ht : F.todo = .inScope l :: k) : Go.step P (lone F CS w) = .next (lone { F with todo := k } CS w) := by
  obtain ⟨fn, tmps, todo, defers, mode, kind, roundOf⟩ := F
  simp only at hm ht; subst hm; subst ht
  exact step_lone_go (by simp [stepG, stepG.exec])

theorem r_seq {a b : Code} (hm : F.mode = .run) (ht : F.todo = .code (.seq a b) :: k) : Go.step P (lone F CS w) = .next (lone { F with todo := .code a :: .code b :: k } CS w) := by
  obtain ⟨fn, tmps, todo, defers, mode, kind, roundOf⟩ := F
  simp only at hm ht; subst hm; subst ht
  exact step_lone_go (by simp [stepG, stepG.exec])

theorem r_cond {c : Operand} {a b : Code} {t : Bool} (hm : F.mode = .run) (ht : F.todo = .code (.cond c a b) :: k) (hc : F.eval c = .bool t) :
    Go.step P (lone F CS w) = .next (lone { F with todo := .code (if t then a else b) :: k } CS w) := by
  obtain ⟨fn, tmps, todo, defers, mode, kind, roundOf⟩ := F
  simp only at hm ht; subst hm; subst ht
  exact step_lone_go (by simp [stepG, stepG.exec, hc])

theorem r_block {id : Nat} {a : Code} (hm : F.mode = .run) (ht : F.todo = .code (.block id a) :: k) : Go.step P (lone F CS w) = .next (lone { F with todo := .code a :: .inBlock id :: k } CS w) := by
  obtain ⟨fn, tmps, todo, defers, mode, kind, roundOf⟩ := F
  simp only at hm ht; subst hm; subst ht
  exact step_lone_go (by simp [stepG, stepG.exec])

theorem r_loop {a : Code} (hm : F.mode = .run) (ht : F.todo = .code (.loop a) :: k) : Go.step P (lone F CS w) = .next (lone { F with todo := .code a :: .inLoop a :: k } CS w) := by
  obtain ⟨fn, tmps, todo, defers, mode, kind, roundOf⟩ := F
  simp only at hm ht; subst hm; subst ht
  exact step_lone_go (by simp [stepG, stepG.exec])

theorem r_inLoop {a : Code} (hm : F.mode = .run) (ht : F.todo = .inLoop a :: k) : Go.step P (lone F CS w) = .next (lone { F with todo := .code a :: .inLoop a :: k } CS w) := by
  obtain ⟨fn, tmps, todo, defers, mode, kind, roundOf⟩ := F
  simp only at hm ht; subst hm; subst ht
  exact step_lone_go (by simp [stepG, stepG.exec])

theorem r_scope {a : Code} (hm : F.mode = .run) (ht : F.todo = .code (.scope a) :: k) : Go.step P (lone F CS w) = .next (lone { F with todo := .code a :: .inScope a :: k } CS w) := by
  obtain ⟨fn, tmps, todo, defers, mode, kind, roundOf⟩ := F
  simp only at hm ht; subst hm; subst ht
  exact step_lone_go (by simp [stepG, stepG.exec])

theorem r_exit {id : Nat} {k' : List Item} (hm : F.mode = .run) (ht : F.todo = .code (.exit id) :: k) (hx : exitTo id k = some k') : Go.step P (lone F CS w) = .next (lone { F with todo := k' } CS w) := by
  obtain ⟨fn, tmps, todo, defers, mode, kind, roundOf⟩ := F
  simp only at hm ht; subst hm; subst ht
  exact step_lone_go (by simp [stepG, stepG.exec, hx])

theorem r_region {id : Nat} {ops : Array Oper} (hm : F.mode = .run) (ht : F.todo = .code (.region id ops false) :: k) :
    Go.step P (lone F CS w) = .next (lone { F with todo := .inRegion ops (List.range ops.size) :: k } CS w) := by
  obtain ⟨fn, tmps, todo, defers, mode, kind, roundOf⟩ := F
  simp only at hm ht; subst hm; subst ht
  exact step_lone_go (by simp [stepG, stepG.exec])

theorem r_draw {id : Nat} {ops : Array Oper} (hm : F.mode = .run) (ht : F.todo = .code (.region id ops true) :: k) (hP : P.follows .mixedOrders = true) :
    ∃ t, Go.step P (lone F CS w) = .next (lone { F with todo := .inRegion ops (Region.linearise .any ops t) :: k } CS w.drew) := by
  obtain ⟨fn, tmps, todo, defers, mode, kind, roundOf⟩ := F
  simp only at hm ht; subst hm; subst ht
  refine ⟨w.tape w.drawn (.order fn id), step_lone_go ?_⟩
  simp [stepG, stepG.exec, choose, Sem.run, Question.forced, Question.cut, Region.schedule, hP]
  try rfl

theorem r_regionEnd {ops : Array Oper} (hm : F.mode = .run) (ht : F.todo = .inRegion ops [] :: k) : Go.step P (lone F CS w) = .next (lone { F with todo := k } CS w) := by
  obtain ⟨fn, tmps, todo, defers, mode, kind, roundOf⟩ := F
  simp only at hm ht; subst hm; subst ht
  exact step_lone_go (by simp [stepG, stepG.exec])

theorem r_opSkip {ops : Array Oper} {i : Nat} {rest : List Nat} {o : Oper} (hm : F.mode = .run) (ht : F.todo = .inRegion ops (i :: rest) :: k) (ho : ops[i]? = some o) (hw : Region.wanted o (yielded ops F.tmps) = false) :
    Go.step P (lone F CS w) = .next (lone (F.finish undef) CS w) := by
  obtain ⟨fn, tmps, todo, defers, mode, kind, roundOf⟩ := F
  simp only at hm ht hw; subst hm; subst ht
  exact step_lone_go (by simp [stepG, stepG.exec, ho, hw])

theorem stepG_oper {ops : Array Oper} {i : Nat} {rest : List Nat} {o : Oper} (hm : F.mode = .run) (ht : F.todo = .inRegion ops (i :: rest) :: k) (ho : ops[i]? = some o) (hw : Region.wanted o (yielded ops F.tmps) = true)
    (hd : ∀ c, o.op ≠ .defer c) :
    stepG P true { frame := F, callers := CS, status := .running, dying := none } w = stepG.apply P true F CS none (execOp F.eval o) w := by
  obtain ⟨fn, tmps, todo, defers, mode, kind, roundOf⟩ := F
  simp only at hm ht hw; subst hm; subst ht
  simp only [stepG, stepG.exec, stepG.oper, Frame.oper?, ho, hw, Option.map_some, Option.getD_some, if_true]
  cases roundOf with
  | none => rfl
  | some l =>
    cases hop : o.op <;> first | rfl | exact absurd hop (hd _)

/-- what a computation's answer does to the frame -/
theorem apply_value {s : Sem Next} {v : Value} (hr : s.run P w = .ok (.value v) w') : (stepG.apply P true F CS none s w).bare = .go { frame := F.finish v, callers := CS, status := .running, dying := none } w' := by
  simp [stepG.apply, hr]

theorem apply_skip {s : Sem Next} (hr : s.run P w = .ok .skip w') : (stepG.apply P true F CS none s w).bare = .go { frame := F.finish undef, callers := CS, status := .running, dying := none } w' := by
  simp [stepG.apply, hr]

theorem apply_enter {s : Sem Next} {f : FuncId} {args : Array Value} (hk : ∀ d a b c t, F.todo ≠ .call d a b c :: t) (hr : s.run P w = .ok (.enter f args) w') :
    (stepG.apply P true F CS none s w).bare = .go { frame := Frame.enter P f args .normal, callers := F :: CS, status := .running, dying := none } w' := by
  have hkd : (match F.todo with | .call _ true _ _ :: _ => CallKind.wrapped | _ => CallKind.normal) = CallKind.normal := by
    split
    · rename_i h; exact absurd h (hk _ _ _ _ _)
    · rfl
  simp only [stepG.apply, Sem.runT_eq, hr, if_true, GStep.bare_after, GStep.bare_go]
  exact congrArg (fun kd => GStep.go { frame := Frame.enter P f args kd, callers := F :: CS, status := .running, dying := none } w') hkd

theorem apply_round {s : Sem Next} {l : Nat} {f : FuncId} {tmps : Array Value} {a b : Code} (hr : s.run P w = .ok (.round l f tmps a b) w') :
    (stepG.apply P true F CS none s w).bare = .go { frame := Frame.round l f tmps a b .normal, callers := F :: CS, status := .running, dying := none } w' := by
  simp [stepG.apply, hr]

theorem r_end (hm : F.mode = .run) (ht : F.todo = []) (hr : F.roundOf = none) : Go.step P (lone F CS w) = .next (lone { F with mode := .returning } CS w) := by
  obtain ⟨fn, tmps, todo, defers, mode, kind, roundOf⟩ := F
  simp only at hm ht hr; subst hm; subst ht; subst hr
  exact step_lone_go (by simp [stepG, stepG.exec])

theorem r_ret (hm : F.mode = .run) (ht : F.todo = .code .ret :: k) (hr : F.roundOf = none) : Go.step P (lone F CS w) = .next (lone { F with mode := .returning } CS w) := by
  obtain ⟨fn, tmps, todo, defers, mode, kind, roundOf⟩ := F
  simp only at hm ht hr; subst hm; subst ht; subst hr
  exact step_lone_go (by simp [stepG, stepG.exec])

variable {C : Frame} {l : Nat} {v : Value}

theorem r_roundEnd (hm : F.mode = .run) (ht : F.todo = []) (hb : F.roundOf = some l) (hk : F.kind = .normal) (hr : (Instr.endRound l none).run P w = .ok v w') : Go.step P (lone F (C :: CS) w) = .next (lone (C.finish v) CS w') := by
  obtain ⟨fn, tmps, todo, defers, mode, kind, roundOf⟩ := F
  simp only at hm ht hb hk; subst hm; subst ht; subst hb; subst hk
  exact step_lone_go (by simp [stepG, stepG.exec, hr, doReturn])

theorem r_roundRet (hm : F.mode = .run) (ht : F.todo = .code .ret :: k) (hb : F.roundOf = some l) (hk : F.kind = .normal) (hr : (Instr.endRound l (some .ret)).run P w = .ok v w') : Go.step P (lone F (C :: CS) w) = .next (lone (C.finish v) CS w') := by
  obtain ⟨fn, tmps, todo, defers, mode, kind, roundOf⟩ := F
  simp only at hm ht hb hk; subst hm; subst ht; subst hb; subst hk
  exact step_lone_go (by simp [stepG, stepG.exec, hr, doReturn])

theorem r_roundExit {id : Nat} (hm : F.mode = .run) (ht : F.todo = .code (.exit id) :: k) (hx : exitTo id k = none) (hb : F.roundOf = some l) (hk : F.kind = .normal) (hr : (Instr.endRound l (some (.exit id))).run P w = .ok v w') :
    Go.step P (lone F (C :: CS) w) = .next (lone (C.finish v) CS w') := by
  obtain ⟨fn, tmps, todo, defers, mode, kind, roundOf⟩ := F
  simp only at hm ht hb hk; subst hm; subst ht; subst hb; subst hk
  exact step_lone_go (by simp [stepG, stepG.exec, hx, hr, doReturn])

theorem r_beginRound (hm : F.mode = .run) (ht : F.todo = .beginRound :: k) (hb : F.roundOf = some l) (hr : (Instr.beginRound l).run P w = .ok () w') : Go.step P (lone F CS w) = .next (lone { F with todo := k } CS w') := by
  obtain ⟨fn, tmps, todo, defers, mode, kind, roundOf⟩ := F
  simp only at hm ht hb; subst hm; subst ht; subst hb
  exact step_lone_go (by simp [stepG, stepG.exec, stepG.apply, hr, Result.andThen, Frame.finish])

theorem r_endRange {j : Option Code} (hm : F.mode = .run) (ht : F.todo = .endRangeFunc l :: k) (hr : (Instr.endLoop l).run P w = .ok j w') : Go.step P (lone F CS w) = .next (lone { F with todo := (j.map Item.code).toList ++ k } CS w') := by
  obtain ⟨fn, tmps, todo, defers, mode, kind, roundOf⟩ := F
  simp only at hm ht; subst hm; subst ht
  exact step_lone_go (by simp [stepG, stepG.exec, hr])

theorem r_collected {b : Nat} {as : Array Value} {ds calls : List Deferred} (hm : F.mode = .returning) (hd : F.defers = { target := .collected b, args := as } :: ds) (hr : (Instr.takeDeferred b).run P w = .ok calls w') :
    Go.step P (lone F CS w) = .next (lone { F with defers := calls ++ ds } CS w') := by
  obtain ⟨fn, tmps, todo, defers, mode, kind, roundOf⟩ := F
  simp only at hm hd; subst hm; subst hd
  exact step_lone_go (by simp [stepG, unwind, hr])

/-- a loop over a function is entered -/
theorem stepG_range {f : Operand} {ps : Array Tmp} {a b : Code} {mark : List Deferred} (hm : F.mode = .run) (ht : F.todo = .code (.rangeFunc f ps a b) :: k) (hr : (Instr.enterLoop F.fn F.tmps ps a b F.roundOf).run P w = .ok (l, mark) w') :
    (stepG P true { frame := F, callers := CS, status := .running, dying := none } w).bare =
      (stepG.apply P true { F with todo := .inRangeFunc l :: k, defers := mark ++ F.defers } CS none (invV (F.eval f) #[.func (.yield l) #[] #[]]) w').bare := by
  obtain ⟨fn, tmps, todo, defers, mode, kind, roundOf⟩ := F
  simp only at hm ht hr; subst hm; subst ht
  simp only [stepG, stepG.exec, Sem.runT_eq, hr, GStep.bare_after]
  congr 2
  cases f <;> simp [resolve, invV, Frame.eval]
end real

end Go.Mir
