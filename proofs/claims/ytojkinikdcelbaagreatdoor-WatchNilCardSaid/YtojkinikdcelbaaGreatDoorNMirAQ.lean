/- The small machine against the model: an operation is done. No statement of the program stands here. -/
import Derived.Test.YtojkinikdcelbaaGreatDoorNMirAO
set_option linter.unusedSimpArgs false
set_option linter.unusedVariables false
set_option linter.defProp false
namespace Go.Mir
open Go Go.RowKit

section real
variable {P : Program} {F : Frame} {CS : List Frame} {w w' : World} {k : List Item}

theorem r_skip (hm : F.mode = .run) (ht : F.todo = .code .skip :: k) : Go.step P (lone F CS w) = .next (lone { F with todo := k } CS w) := by
  obtain ⟨fn, tmps, todo, defers, mode, kind, roundOf⟩ := F
  simp only at hm ht; subst hm; subst ht
  exact step_lone_go (by simp [stepG, stepG.exec])

theorem r_label {l : Nat} (hm : F.mode = .run) (ht : F.todo = .code (.label l) :: k) : Go.step P (lone F CS w) = .next (lone { F with todo := k } CS w) := by
  obtain ⟨fn, tmps, todo, defers, mode, kind, roundOf⟩ := F
  simp only at hm ht; subst hm; subst ht
  exact step_lone_go (by simp [stepG, stepG.exec])

theorem r_inBlock {l : Nat} (hm : F.mode = .run) (ht : F.todo = .inBlock l :: k) : Go.step P (lone F CS w) = .next (lone { F with todo := k } CS w) := by
  obtain ⟨fn, tmps, todo, defers, mode, kind, roundOf⟩ := F
  simp only at hm ht; subst hm; subst ht
  exact step_lone_go (by simp [stepG, stepG.exec])

theorem r_inScope {l : Code} (hm : F.mode = .run) (ht : F.todo = .inScope l :: k) : Go.step P (lone F CS w) = .next (lone { F with todo := k } CS w) := by
  obtain ⟨fn, tmps, todo, defers, mode, kind, roundOf⟩ := F
  simp only at hm ht; subst hm; subst ht
  exact step_lone_go (by simp [stepG, stepG.exec])

theorem r_seq {a b : Code} (hm : F.mode = .run) (ht : F.todo = .code (.seq a b) :: k) : Go.step P (lone F CS w) = .next (lone { F with todo := .code a :: .code b :: k } CS w) := by
  obtain ⟨fn, tmps, todo, defers, mode, kind, roundOf⟩ := F
  simp only at hm ht; subst hm; subst ht
  exact step_lone_go (by simp [stepG, stepG.exec])

theorem r_cond {c : Operand} {a b : Code} {t : Bool} (hm : F.mode = .run) (ht : F.todo = .code (.cond c a b) :: k) (hc : F.eval c = .bool t) :
    Go.step P (lone F CS w) = .next (lone { F with todo := .code (if t then a else b) :: k } CS w) := by
  obtain ⟨fn, tmps, todo, defers, mode, kind, roundOf⟩ := F
  simp only at hm ht; subst hm; subst ht
  exact step_lone_go (by simp [stepG, stepG.exec, hc])

theorem r_block {id : Nat} {a : Code} (hm : F.mode = .run) (ht : F.todo = .code (.block id a) :: k) : Go.step P (lone F CS w) = .next (lone { F with todo := .code a :: .inBlock id :: k } CS w) := by
  obtain ⟨fn, tmps, todo, defers, mode, kind, roundOf⟩ := F
  simp only at hm ht; subst hm; subst ht
  exact step_lone_go (by simp [stepG, stepG.exec])

theorem r_loop {a : Code} (hm : F.mode = .run) (ht : F.todo = .code (.loop a) :: k) : Go.step P (lone F CS w) = .next (lone { F with todo := .code a :: .inLoop a :: k } CS w) := by
  obtain ⟨fn, tmps, todo, defers, mode, kind, roundOf⟩ := F
  simp only at hm ht; subst hm; subst ht
  exact step_lone_go (by simp [stepG, stepG.exec])

theorem r_inLoop {a : Code} (hm : F.mode = .run) (ht : F.todo = .inLoop a :: k) : Go.step P (lone F CS w) = .next (lone { F with todo := .code a :: .inLoop a :: k } CS w) := by
  obtain ⟨fn, tmps, todo, defers, mode, kind, roundOf⟩ := F
  simp only at hm ht; subst hm; subst ht
  exact step_lone_go (by simp [stepG, stepG.exec])

theorem r_scope {a : Code} (hm : F.mode = .run) (ht : F.todo = .code (.scope a) :: k) : Go.step P (lone F CS w) = .next (lone { F with todo := .code a :: .inScope a :: k } CS w) := by
  obtain ⟨fn, tmps, todo, defers, mode, kind, roundOf⟩ := F
  simp only at hm ht; subst hm; subst ht
  exact step_lone_go (by simp [stepG, stepG.exec])

theorem r_exit {id : Nat} {k' : List Item} (hm : F.mode = .run) (ht : F.todo = .code (.exit id) :: k) (hx : exitTo id k = some k') : Go.step P (lone F CS w) = .next (lone { F with todo := k' } CS w) := by
  obtain ⟨fn, tmps, todo, defers, mode, kind, roundOf⟩ := F
  simp only at hm ht; subst hm; subst ht
  exact step_lone_go (by simp [stepG, stepG.exec, hx])

theorem r_goto {l : Nat} {k' : List Item} (hm : F.mode = .run) (ht : F.todo = .code (.goto l) :: k) (hx : Go.gotoIn l k = some k') : Go.step P (lone F CS w) = .next (lone { F with todo := k' } CS w) := by
  obtain ⟨fn, tmps, todo, defers, mode, kind, roundOf⟩ := F
  simp only at hm ht; subst hm; subst ht
  exact step_lone_go (by simp [stepG, stepG.exec, hx])

theorem r_region {id : Nat} {ops : Array Oper} (hm : F.mode = .run) (ht : F.todo = .code (.region id ops false) :: k) :
    Go.step P (lone F CS w) = .next (lone { F with todo := .inRegion ops (List.range ops.size) :: k } CS w) := by
  obtain ⟨fn, tmps, todo, defers, mode, kind, roundOf⟩ := F
  simp only at hm ht; subst hm; subst ht
  exact step_lone_go (by simp [stepG, stepG.exec])

theorem r_draw {id : Nat} {ops : Array Oper} (hm : F.mode = .run) (ht : F.todo = .code (.region id ops true) :: k) (hP : P.follows .mixedOrders = true) :
    ∃ t, Go.step P (lone F CS w) = .next (lone { F with todo := .inRegion ops (Region.linearise .any ops t) :: k } CS w.drew) := by
  obtain ⟨fn, tmps, todo, defers, mode, kind, roundOf⟩ := F
  simp only at hm ht; subst hm; subst ht
  refine ⟨w.tape w.drawn (.order fn id), step_lone_go ?_⟩
  simp [stepG, stepG.exec, choose, Sem.run, Question.forced, Question.cut, Region.schedule, hP]
  try rfl

theorem r_regionEnd {ops : Array Oper} (hm : F.mode = .run) (ht : F.todo = .inRegion ops [] :: k) : Go.step P (lone F CS w) = .next (lone { F with todo := k } CS w) := by
  obtain ⟨fn, tmps, todo, defers, mode, kind, roundOf⟩ := F
  simp only at hm ht; subst hm; subst ht
  exact step_lone_go (by simp [stepG, stepG.exec])

theorem r_opSkip {ops : Array Oper} {i : Nat} {rest : List Nat} {o : Oper} (hm : F.mode = .run) (ht : F.todo = .inRegion ops (i :: rest) :: k) (ho : ops[i]? = some o) (hw : Region.wanted o (yielded ops F.tmps) = false) :
    Go.step P (lone F CS w) = .next (lone (F.finish undef) CS w) := by
  obtain ⟨fn, tmps, todo, defers, mode, kind, roundOf⟩ := F
  simp only at hm ht hw; subst hm; subst ht
  exact step_lone_go (by simp [stepG, stepG.exec, ho, hw])

theorem stepG_oper {ops : Array Oper} {i : Nat} {rest : List Nat} {o : Oper} (hm : F.mode = .run) (ht : F.todo = .inRegion ops (i :: rest) :: k) (ho : ops[i]? = some o) (hw : Region.wanted o (yielded ops F.tmps) = true)
    (hd : ∀ c, o.op ≠ .defer c) :
    stepG P true { frame := F, callers := CS, status := .running, dying := none } w = stepG.apply P true F CS none (execOp F.eval o) w := by
  obtain ⟨fn, tmps, todo, defers, mode, kind, roundOf⟩ := F
  simp only at hm ht hw; subst hm; subst ht
  simp only [stepG, stepG.exec, stepG.oper, Frame.oper?, ho, hw, Option.map_some, Option.getD_some, if_true]
  cases roundOf with
  | none => rfl
  | some l =>
    cases hop : o.op <;> first | rfl | exact absurd hop (hd _)

/-- what a computation's answer does to the frame -/
theorem apply_value {s : Sem Next} {v : Value} (hr : s.run P w = .ok (.value v) w') : (stepG.apply P true F CS none s w).bare = .go { frame := F.finish v, callers := CS, status := .running, dying := none } w' := by
  simp [stepG.apply, hr]

theorem apply_skip {s : Sem Next} (hr : s.run P w = .ok .skip w') : (stepG.apply P true F CS none s w).bare = .go { frame := F.finish undef, callers := CS, status := .running, dying := none } w' := by
  simp [stepG.apply, hr]

theorem apply_enter {s : Sem Next} {f : FuncId} {args : Array Value} (hk : ∀ d a b c t, F.todo ≠ .call d a b c :: t) (hr : s.run P w = .ok (.enter f args) w') :
    (stepG.apply P true F CS none s w).bare = .go { frame := Frame.enter P f args .normal, callers := F :: CS, status := .running, dying := none } w' := by
  have hkd : (match F.todo with | .call _ true _ _ :: _ => CallKind.wrapped | _ => CallKind.normal) = CallKind.normal := by
    split
    · rename_i h; exact absurd h (hk _ _ _ _ _)
    · rfl
  simp only [stepG.apply, Sem.runT_eq, hr, if_true, GStep.bare_after, GStep.bare_go]
  exact congrArg (fun kd => GStep.go { frame := Frame.enter P f args kd, callers := F :: CS, status := .running, dying := none } w') hkd

theorem apply_round {s : Sem Next} {l : Nat} {f : FuncId} {tmps : Array Value} {a b : Code} (hr : s.run P w = .ok (.round l f tmps a b) w') :
    (stepG.apply P true F CS none s w).bare = .go { frame := Frame.round l f tmps a b .normal, callers := F :: CS, status := .running, dying := none } w' := by
  simp [stepG.apply, hr]

theorem r_end (hm : F.mode = .run) (ht : F.todo = []) (hr : F.roundOf = none) : Go.step P (lone F CS w) = .next (lone { F with mode := .returning } CS w) := by
  obtain ⟨fn, tmps, todo, defers, mode, kind, roundOf⟩ := F
  simp only at hm ht hr; subst hm; subst ht; subst hr
  exact step_lone_go (by simp [stepG, stepG.exec])

theorem r_ret (hm : F.mode = .run) (ht : F.todo = .code .ret :: k) (hr : F.roundOf = none) : Go.step P (lone F CS w) = .next (lone { F with mode := .returning } CS w) := by
  obtain ⟨fn, tmps, todo, defers, mode, kind, roundOf⟩ := F
  simp only at hm ht hr; subst hm; subst ht; subst hr
  exact step_lone_go (by simp [stepG, stepG.exec])

variable {C : Frame} {l : Nat} {v : Value}

theorem r_roundEnd (hm : F.mode = .run) (ht : F.todo = []) (hb : F.roundOf = some l) (hk : F.kind = .normal) (hr : (Instr.endRound l none).run P w = .ok v w') : Go.step P (lone F (C :: CS) w) = .next (lone (C.finish v) CS w') := by
  obtain ⟨fn, tmps, todo, defers, mode, kind, roundOf⟩ := F
  simp only at hm ht hb hk; subst hm; subst ht; subst hb; subst hk
  exact step_lone_go (by simp [stepG, stepG.exec, hr, doReturn])

theorem r_roundRet (hm : F.mode = .run) (ht : F.todo = .code .ret :: k) (hb : F.roundOf = some l) (hk : F.kind = .normal) (hr : (Instr.endRound l (some .ret)).run P w = .ok v w') : Go.step P (lone F (C :: CS) w) = .next (lone (C.finish v) CS w') := by
  obtain ⟨fn, tmps, todo, defers, mode, kind, roundOf⟩ := F
  simp only at hm ht hb hk; subst hm; subst ht; subst hb; subst hk
  exact step_lone_go (by simp [stepG, stepG.exec, hr, doReturn])

theorem r_roundExit {id : Nat} (hm : F.mode = .run) (ht : F.todo = .code (.exit id) :: k) (hx : exitTo id k = none) (hb : F.roundOf = some l) (hk : F.kind = .normal) (hr : (Instr.endRound l (some (.exit id))).run P w = .ok v w') :
    Go.step P (lone F (C :: CS) w) = .next (lone (C.finish v) CS w') := by
  obtain ⟨fn, tmps, todo, defers, mode, kind, roundOf⟩ := F
  simp only at hm ht hb hk; subst hm; subst ht; subst hb; subst hk
  exact step_lone_go (by simp [stepG, stepG.exec, hx, hr, doReturn])

theorem r_beginRound (hm : F.mode = .run) (ht : F.todo = .beginRound :: k) (hb : F.roundOf = some l) (hr : (Instr.beginRound l).run P w = .ok () w') : Go.step P (lone F CS w) = .next (lone { F with todo := k } CS w') := by
  obtain ⟨fn, tmps, todo, defers, mode, kind, roundOf⟩ := F
  simp only at hm ht hb; subst hm; subst ht; subst hb
  exact step_lone_go (by simp [stepG, stepG.exec, stepG.apply, hr, Result.andThen, Frame.finish])

theorem r_endRange {j : Option Code} (hm : F.mode = .run) (ht : F.todo = .endRangeFunc l :: k) (hr : (Instr.endLoop l).run P w = .ok j w') : Go.step P (lone F CS w) = .next (lone { F with todo := (j.map Item.code).toList ++ k } CS w') := by
  obtain ⟨fn, tmps, todo, defers, mode, kind, roundOf⟩ := F
  simp only at hm ht; subst hm; subst ht
  exact step_lone_go (by simp [stepG, stepG.exec, hr])

theorem r_collected {b : Nat} {as : Array Value} {ds calls : List Deferred} (hm : F.mode = .returning) (hd : F.defers = { target := .collected b, args := as } :: ds) (hr : (Instr.takeDeferred b).run P w = .ok calls w') :
    Go.step P (lone F CS w) = .next (lone { F with defers := calls ++ ds } CS w') := by
  obtain ⟨fn, tmps, todo, defers, mode, kind, roundOf⟩ := F
  simp only at hm hd; subst hm; subst hd
  exact step_lone_go (by simp [stepG, unwind, hr])

/-- a loop over a function is entered -/
theorem stepG_range {f : Operand} {ps : Array Tmp} {a b : Code} {mark : List Deferred} (hm : F.mode = .run) (ht : F.todo = .code (.rangeFunc f ps a b) :: k) (hr : (Instr.enterLoop F.fn F.tmps ps a b F.roundOf).run P w = .ok (l, mark) w') :
    (stepG P true { frame := F, callers := CS, status := .running, dying := none } w).bare =
      (stepG.apply P true { F with todo := .inRangeFunc l :: k, defers := mark ++ F.defers } CS none (invV (F.eval f) #[.func (.yield l) #[] #[]]) w').bare := by
  obtain ⟨fn, tmps, todo, defers, mode, kind, roundOf⟩ := F
  simp only at hm ht hr; subst hm; subst ht
  simp only [stepG, stepG.exec, Sem.runT_eq, hr, GStep.bare_after]
  congr 2
  cases f <;> simp [resolve, invV, Frame.eval]
end real

end Go.Mir
namespace Go.Mir
open Go Go.RowKit

theorem agree_eval {β : Beta} {regs : T V} {F : Frame} {s : Nat → Prop} (H : RegsR β regs F.tmps s) {x : Operand} (hs : ∀ t, x = .tmp t → ¬ s t) : Agree β regs F.eval x := by
  cases x with
  | tmp t => intro v hv; exact H t v hv (hs t rfl)
  | const c => rfl
  | global g => trivial
  | func f => rfl

theorem bodyR_of {P : Program} {tys : T TI} {lo hi : Nat} {β : Beta} {h : T O} {regs : T V} {F : Frame} {t : List It} (hm : F.mode = .run) (ht : TodoR β t F.todo) (hr : RegsR β regs F.tmps no) : BodyR P tys lo hi β h regs F t := by
  cases t with
  | nil => exact ⟨hm, ht, hr⟩
  | cons a t =>
    cases a with
    | fin => obtain ⟨b, s, _, hI, _⟩ := ht.cons; exact hI.elim
    | dreg all sc => obtain ⟨b, s, _, hI, _⟩ := ht.cons; exact hI.elim
    | _ => exact ⟨hm, ht, hr⟩

section
variable {P : Program} {tys : T TI} {W0 : World} {f0 : Nat} {cs0 : List Frame} {B0 : Bs} {r : Rz} {go : Go_} (G : Good P tys W0 f0 cs0 B0 go)
variable {fr : Fr} {cs : List Fr} {h : T O} {n : Nat} {fin : Kv} {Pre : Beta → Sem Next → Prop}

include G in
theorem outc_ok (H : Outc P tys h n fr cs go fin r Pre) {β : Beta} {F F0 : Frame} {CS : List Frame} {w w0 : World} {s : Sem Next} (HH : HR W0 β h n w) {lo : Nat} (HW : WaitR P tys lo n β h fr F) (HS : StackR P tys f0 cs0 B0 β h lo fr.i cs CS) (hlo : lo ≤ n)
    (hs : Pre β s) (hst : ∀ F1 CS1 w1, (stepG.apply P true F CS none s w).bare = .go { frame := F1, callers := CS1, status := .running, dying := none } w1 → Go.step P (lone F0 CS w0) = .next (lone F1 CS1 w1))
    (hk : ∀ d a b c t, F.todo ≠ .call d a b c :: t)
    (hfin : ∀ v h' n' r, fin v h' n' = .ok r → ∀ β' val w', HR W0 β' h' n' w' → More β h n β' h' n' → conc β' v = some val → Ends P W0 f0 cs0 B0 r (F.finish val) CS w') :
    Ends P W0 f0 cs0 B0 r F0 CS w0 := by
  rcases H with b | ⟨i', regs', todo', e, b⟩ | ⟨v, h', n', e, b⟩
  · obtain ⟨v, h', n', r', e, hle, nx, val, w', β', a1, a2, a3, a4, a5⟩ := b W0 β w s HH hs
    have hE := (hfin v h' n' r' e β' val w' a4 a5 a3).weak hle
    rcases a2 with rfl | ⟨rfl, rfl⟩
    · exact hE.step (hst _ _ _ (apply_value a1))
    · exact hE.step (hst _ _ _ (apply_skip a1))
  · obtain ⟨nx, F', a1, a2, a3⟩ := b W0 β w s HH hs
    have hE : Ends P W0 f0 cs0 B0 r F' (F :: CS) w := G _ _ _ _ _ _ _ e β F' (F :: CS) w n ⟨HH, a3 n n, ⟨lo, hlo, HW, HS⟩, Nat.le_refl n⟩
    rcases a2 with ⟨f, args, rfl, rfl⟩ | ⟨l, f, tmps, x, y, rfl, rfl⟩
    · exact hE.step (hst _ _ _ (apply_enter hk a1))
    · exact hE.step (hst _ _ _ (apply_round a1))
  · obtain ⟨f, as, a1, a2⟩ := b W0 β w s HH hs
    obtain ⟨val, w', β', F', c1, c2, c3, c4, c5⟩ := a2 (F :: CS)
    have hE := hfin v h' n' r e β' val w' c4 c5 c3
    exact ((hE.step (step_leave_returned c2)).steps c1).step (hst _ _ _ (apply_enter hk a1))
end

section
variable {P : Program} {E : Env} (HE : EnvR P E) {fr : Fr} {cs : List Fr} {h : T O} {n : Nat} {regs : T V} {go : Go_} {fin : Kv} {r : Rz}

noncomputable def opAll (E : Env) (op : Op) (fr : Fr) (regs : T V) (cs : List Fr) (h : T O) (n : Nat) (go : Go_) (fin : Kv) : Out :=
  pureK E.tys h regs op (fun v => fin v h n) (allocK E.tys regs op (fun ob vf => newO h n ob fun h n' => fin (vf n) h n') (chainK E op fr regs cs h n go fin))

include HE in
theorem opAll_ok {op : Op} (e : opAll E op fr regs cs h n go fin = .ok r) : Outc P E.tys h n fr cs go fin r (OpPre regs op) := by
  rcases pureK_ok (P := P) HE.tys e with ⟨v, e, hsp⟩ | e
  · refine .inl fun W0 β w s H hs => ⟨v, h, n, r, e, Rz.le.refl r, ?_⟩
    obtain ⟨ρ, o, A, ho, rfl⟩ := hs
    obtain ⟨val, hv, hrun⟩ := hsp W0 β n w ρ H A
    exact ⟨.value val, val, w, β, hrun o ho, .inl rfl, hv, H, More.refl _ _ _⟩
  · rcases allocK_ok (P := P) HE.tys e with ⟨ob, vf, e, hsp⟩ | e
    · replace e := setK_ok e; obtain ⟨h', e, hg⟩ := e
      rw [fNat_eq] at e
      refine .inl fun W0 β w s H hs => ⟨_, h', n + 1, r, e, Rz.le.refl r, ?_⟩
      obtain ⟨ρ, o, A, ho, rfl⟩ := hs
      obtain ⟨room, obj, val, w', hrun, h1, h2, h3, h4, h5⟩ := hsp β w ρ A
      have hfree : β n = none := H.free (Nat.le_refl n)
      obtain ⟨h6, h7⟩ := h5 (upd β n ⟨w.heap.size, 0, room⟩) n (upd_le hfree) upd_self
      have HA := (H.new hg).alloc (o := ob) (b := ⟨w.heap.size, 0, room⟩) (ob := obj) (by omega) hfree (by rw [hg, if_pos rfl]) rfl h7
      exact ⟨.value val, val, w', _, hrun o ho, .inl rfl, h6, HA.congr h1 h2 h3 h4, ext_new hfree hg⟩
    · exact chainK_ok HE e

theorem opAll_noDefer {op : Op} (e : opAll E op fr regs cs h n go fin = .ok r) (c : Call) : op ≠ .defer c := by
  intro h; subst h; cases e
end

/-- is the operation to be done? -/
theorem wanted_ok {ops : Array Oper} {all : List Oper} (ha : ops.toList = all) {β : Beta} {regs : T V} {tmps : Array Value} {o : Oper} {b : Bool} (hb : wantB all regs o.guard = some b)
    (hr : ∀ j w oj d v, o.guard = some (j, w) → all[j]? = some oj → oj.dst = some d → regs.get d = some v → conc β v = some (tmps.getD d undef)) :
    Region.wanted o (yielded ops tmps) = b := by
  unfold Region.wanted
  cases hg : o.guard with
  | none => rw [hg] at hb; simp [wantB] at hb; simp [hb]
  | some p =>
    obtain ⟨j, want⟩ := p
    rw [hg] at hb
    simp only [wantB, Option.bind_eq_some_iff] at hb
    obtain ⟨oj, h1, d, h2, v, h3, h4⟩ := hb
    have hc := hr j want oj d v hg h1 h2 h3
    have hj : ops[j]? = some oj := by rw [getE_toList, ha]; exact h1
    simp only [yielded, hj, Option.bind_some, h2]
    unfold boolW at h4
    split at h4
    · rename_i b'
      cases h4
      simp only [conc, Option.some.injEq] at hc
      rw [Array.getD_eq_getD_getElem?] at hc
      cases ht : tmps[d]? with
      | none => rw [ht] at hc; simp [undef] at hc
      | some u =>
        rw [ht] at hc
        simp at hc; subst hc
        simp
    · cases h4
      simp only [conc, concL, Option.map_some, Option.some.injEq] at hc
      rw [Array.getD_eq_getD_getElem?] at hc
      cases ht : tmps[d]? with
      | none => simp
      | some u =>
        rw [ht] at hc
        simp at hc; subst hc
        simp
    · cases h4

section
variable {P : Program} {E : Env} {W0 : World} {f0 : Nat} {cs0 : List Frame} {B0 : Bs} {r : Rz} {go : Go_} (G : Good P E.tys W0 f0 cs0 B0 go) (HE : EnvR P E)
variable {fr : Fr} {cs : List Fr} {h : T O} {n : Nat} {fin : Kv} {regs : T V}

include G HE in
/-- an operation of a region, done -/
theorem region_op {op : Op} (e : opAll E op fr regs cs h n go fin = .ok r) {β : Beta} {F : Frame} {CS : List Frame} {w : World} (HH : HR W0 β h n w) {lo : Nat} (HW : WaitR P E.tys lo n β h fr F) (HS : StackR P E.tys f0 cs0 B0 β h lo fr.i cs CS) (hlo : lo ≤ n)
    {ops : Array Oper} {j : Nat} {L : List Nat} {T : List Item} {o : Oper} (ht : F.todo = .inRegion ops (j :: L) :: T) (ho : ops[j]? = some o) (hop : o.op = op) (hw : Region.wanted o (yielded ops F.tmps) = true)
    (A : Agrees β regs F.eval op)
    (hfin : ∀ v h' n' r, fin v h' n' = .ok r → ∀ β' val w', HR W0 β' h' n' w' → More β h n β' h' n' → conc β' v = some val → Ends P W0 f0 cs0 B0 r (F.finish val) CS w') :
    Ends P W0 f0 cs0 B0 r F CS w :=
  outc_ok G (opAll_ok HE e) HH HW HS hlo ⟨F.eval, o, A, hop, rfl⟩
    (fun F1 CS1 w1 h1 => step_lone_go (by rw [stepG_oper HW.2.1 ht ho hw (fun c hc => opAll_noDefer e c (by rw [← hop]; exact hc))]; exact h1))
    (fun d a b c t hc => by rw [ht] at hc; cases hc) hfin

include G HE in
theorem stReg_ok {i : Fi} {t : List It} {all rem : List Oper} (e : stReg E i regs t cs h n go all rem = .ok r) {β : Beta} {F : Frame} {CS : List Frame} {w : World}
    {lo : Nat} (S : Sim P E.tys W0 f0 cs0 B0 lo β i regs (.reg all rem :: t) cs h n F CS w) : Ends P W0 f0 cs0 B0 r F CS w := by
  obtain ⟨HH, ⟨hfi, hB⟩, HS, hlo⟩ := S
  obtain ⟨hm, hT, hR⟩ : F.mode = .run ∧ TodoR β (.reg all rem :: t) F.todo ∧ RegsR β regs F.tmps no := hB
  obtain ⟨b, T, hF, ⟨ops, L, rfl, ha, hL⟩, hT'⟩ := hT.cons
  cases rem with
  | nil =>
    cases L with
    | cons j L => simp at hL
    | nil =>
      have hE : Ends P W0 f0 cs0 B0 r { F with todo := T } CS w := G _ _ _ _ _ _ _ e β _ CS w lo ⟨HH, ⟨⟨hfi.fn, hfi.sz, hfi.kind, hfi.defers, hfi.round⟩, bodyR_of hm hT' hR⟩, HS, hlo⟩
      exact hE.step (r_regionEnd hm hF)
  | cons o rem =>
    cases L with
    | nil => simp at hL
    | cons j L =>
      simp only [List.map_cons, List.cons.injEq] at hL
      have hfinish : ∀ val, F.finish val = { F with tmps := putT F.tmps o.dst val, todo := .inRegion ops L :: T } := fun val => finish_region hF (by rw [hL.1]; rfl) val
      have hcont : ∀ v h' n' r, setD regs o.dst i.sz v (fun regs => go i regs (.reg all rem :: t) cs h' n') = .ok r → ∀ β' val w', HR W0 β' h' n' w' → More β h n β' h' n' → conc β' v = some val → Ends P W0 f0 cs0 B0 r (F.finish val) CS w' := by
        intro v h' n' r e' β' val w' H' M hv
        replace e' := setD_ok e'; obtain ⟨regs', e', hsz, hg⟩ := e'
        rw [hfinish]
        have hw1 := hfi.sz
        refine G _ _ _ _ _ _ _ e' β' _ CS w' lo ⟨H', ⟨⟨hfi.fn, by simp [putT_size, hfi.sz], hfi.kind, hfi.defers.mono M.le, hfi.round.mono M.le⟩, bodyR_of hm ⟨⟨ops, L, rfl, ha, hL.2⟩, hT'.mono M.le⟩ ?_⟩, HS.more (M.toB hlo), Nat.le_trans hlo M.lt⟩
        exact (hR.mono M.le).set hg hv (fun d hd => by have := hsz d hd; simp only at this hw1; omega) fun t ht => ht.elim
      obtain ⟨dst, op, ty, pos, after, guard⟩ := o
      replace e : wantK all regs guard (fun b => Bool.rec
        (setD regs dst i.sz undefV fun regs => go i regs (.reg all rem :: t) cs h n)
        (opAll E op ⟨i, regs, .reg all (⟨dst, op, ty, pos, after, guard⟩ :: rem) :: t⟩ regs cs h n go fun v h n => setD regs dst i.sz v fun regs => go i regs (.reg all rem :: t) cs h n) b) = .ok r := e
      replace e := wantK_ok e; obtain ⟨b, hb, e⟩ := e
      have hw : Region.wanted ⟨dst, op, ty, pos, after, guard⟩ (yielded ops F.tmps) = b := wanted_ok ha hb fun j w oj d v _ _ _ hv => hR d v hv (fun x => x)
      rcases rec_ok e with ⟨rfl, e⟩ | ⟨rfl, e⟩
      · exact region_op G HE e HH ⟨hfi, hm, hT, hR⟩ HS hlo hF hL.1 rfl hw (fun x _ => agree_eval hR fun t _ h => h) hcont
      · exact (hcont _ _ _ _ e β undef w HH (More.refl _ _ _) (conc_undef β)).step (r_opSkip hm hF hL.1 hw)
end

end Go.Mir
