/- The small machine against the model: calls, and the operations that stand in a row. No statement of the program stands here. -/
import Derived.Test.YtjfhplgjlhfgeaaGreatDoorMirAM
namespace Go.Mir
open Go Go.RowKit

def invV (f : Value) (args : Array Value) : Sem Next := do let d ← Deferred.ofValue f args; invoke d.target d.args

def FnsR (P : Program) (fns : T Func) : Prop := ∀ f fn, fns.get f = some fn → P.funcs[f]? = some fn ∧ (fn.name == "runtime.NumGoroutine") = false

def HookR (P : Program) (hook : Nat → List V → Option V) : Prop := ∀ f args v, hook f args = some v →
  (∃ fn, P.funcs[f]? = some fn ∧ (fn.name == "runtime.NumGoroutine") = false ∧ fn.body.isNone = false) ∧
  ∀ β vs, concL β args = some vs → ∃ val, conc β v = some val ∧ ∀ w, Calls P f vs.toArray w fun e w' => e = .returned val ∧ Below w.heap.size w w'

structure EnvR (P : Program) (E : Env) : Prop where
  tys : TysR P E.tys
  fns : FnsR P E.fns
  ext : ExtR P E.ext
  hook : HookR P E.hook
  mixed : P.follows .mixedOrders = true

/-- a frame is entered -/
def Entering (P : Program) (nx : Next) (F : Frame) : Prop :=
  (∃ f args, nx = .enter f args ∧ F = Frame.enter P f args .normal) ∨ (∃ l f tmps a b, nx = .round l f tmps a b ∧ F = Frame.round l f tmps a b .normal)

/-- how a computation of the model's may go on, and the machine's with it -/
def Outc (P : Program) (tys : T TI) (h : T O) (n : Nat) (fr : Fr) (cs : List Fr) (go : Go_) (fin : Kv) (r : V) (Pre : Beta → Sem Next → Prop) : Prop :=
  (∃ v h' n', fin v h' n' = .ok r ∧ ∀ W0 β w s, HR W0 β h n w → Pre β s → ∃ nx val w' β', s.run P w = .ok nx w' ∧ (nx = .value val ∨ (nx = .skip ∧ val = undef)) ∧ conc β' v = some val ∧ HR W0 β' h' n' w' ∧ More β h n β' h' n') ∨
  (∃ i' regs' todo', go i' regs' todo' (fr :: cs) h n = .ok r ∧ ∀ W0 β w s, HR W0 β h n w → Pre β s → ∃ nx F', s.run P w = .ok nx w ∧ Entering P nx F' ∧ ∀ lo hi, FrR P tys lo hi β h ⟨i', regs', todo'⟩ F') ∨
  (∃ v, fin v h n = .ok r ∧ ∀ W0 β w s, HR W0 β h n w → Pre β s → ∃ f as val, s.run P w = .ok (.enter f as) w ∧ conc β v = some val ∧ Calls P f as w fun e w' => e = .returned val ∧ Below w.heap.size w w')

theorem Outc.mono {P : Program} {tys : T TI} {h : T O} {n : Nat} {fr : Fr} {cs : List Fr} {go : Go_} {fin : Kv} {r : V} {Pre Pre' : Beta → Sem Next → Prop}
    (H : Outc P tys h n fr cs go fin r Pre) (hp : ∀ β s, Pre' β s → Pre β s) : Outc P tys h n fr cs go fin r Pre' := by
  rcases H with ⟨v, h', n', a, b⟩ | ⟨i', regs', todo', a, b⟩ | ⟨v, a, b⟩
  · exact .inl ⟨v, h', n', a, fun W0 β w s H hs => b W0 β w s H (hp β s hs)⟩
  · exact .inr (.inl ⟨i', regs', todo', a, fun W0 β w s H hs => b W0 β w s H (hp β s hs)⟩)
  · exact .inr (.inr ⟨v, a, fun W0 β w s H hs => b W0 β w s H (hp β s hs)⟩)

theorem regsOf_ok {args : List V} {sz : Nat} {k : T V → Out} {r : V} (e : regsOf args sz k = .ok r) : ∃ regs, k regs = .ok r ∧ args.length ≤ sz ∧ ∀ t, regs.get t = args[t]? := by
  replace e := need_ok e; obtain ⟨hle, e⟩ := e
  replace e := putL_go _ _ _ e; obtain ⟨regs, e, hg⟩ := e
  refine ⟨regs, e, Nat.le_of_ble_eq_true hle, fun t => ?_⟩
  rw [hg]
  simp only [Nat.zero_le, true_and, Nat.zero_add, Nat.sub_zero, T.get_blank]
  split
  · rfl
  · rw [List.getElem?_eq_none (by omega)]

theorem run_callFunc_body {P : Program} {f : FuncId} {fn : Func} (hf : P.funcs[f]? = some fn) (hn : (fn.name == "runtime.NumGoroutine") = false) (hb : fn.body.isNone = false) (args : Array Value) (w : World) :
    (callFunc f args).run P w = .ok (.enter f args) w := by
  have h1 : fn.name ≠ "runtime.NumGoroutine" := by simpa using hn
  have h2 : fn.body ≠ none := by intro h; rw [h] at hb; cases hb
  simp [callFunc, hf, h1, h2]

theorem FrR.entered {P : Program} {tys : T TI} {lo hi : Nat} {β : Beta} {h : T O} {f : Nat} {fn : Func} {body : Code} (hf : P.funcs[f]? = some fn) (hb : fn.body = some body) {args : List V} {vs : List Value} (hvs : concL β args = some vs)
    {regs : T V} (hle : args.length ≤ fn.ntmps) (hg : ∀ t, regs.get t = args[t]?) : FrR P tys lo hi β h ⟨⟨f, fn.ntmps, [], none⟩, regs, [.code body]⟩ (Frame.enter P f vs.toArray .normal) := by
  have hlen := concL_len hvs
  refine ⟨⟨rfl, ?_, rfl, trivial, rfl⟩, rfl, ⟨?_, trivial⟩, fun t v hv _ => ?_⟩
  · simp only [Frame.enter, hf, Option.map_some, Option.getD_some, Array.size_append, List.size_toArray, Array.size_replicate]; omega
  · simp [hf, hb]; exact rfl
  · rw [hg] at hv
    obtain ⟨y, hy, hc⟩ := concL_get t hvs hv
    rw [hc]
    have ht : t < vs.length := lt_of_get hy
    simp only [Frame.enter]
    rw [Array.getD_eq_getD_getElem?, Array.getElem?_append, if_pos (by simpa using ht)]
    simp [hy]

theorem putParams_ok {sz : Nat} {k : T V → Out} {r : V} : ∀ (ps : List Nat) (args : List V) (regs : T V), putParams regs sz ps args k = .ok r →
    ∃ regs', k regs' = .ok r ∧ ps.length = args.length ∧ ∀ β (tmps : Array Value) vs, tmps.size = sz → RegsR β regs tmps no → concL β args = some vs →
      RegsR β regs' ((ps.zip vs).foldl (fun tmps p => tmps.setIfInBounds p.1 p.2) tmps) no ∧ ((ps.zip vs).foldl (fun (tmps : Array Value) p => tmps.setIfInBounds p.1 p.2) tmps).size = sz
  | [], args, regs, e => by
    cases args with
    | nil => exact ⟨regs, e, rfl, fun β tmps vs hs hr hv => ⟨by simpa using hr, by simpa using hs⟩⟩
    | cons => exact (bad_ne e).elim
  | p :: ps, args, regs, e => by
    cases args with
    | nil => exact (bad_ne e).elim
    | cons a args =>
      replace e : need (Nat.ble (Nat.succ p) sz) (T.setK regs p (some a) (bad 146) fun regs => putParams regs sz ps args k) = .ok r := e
      replace e := need_ok e; obtain ⟨hp, e⟩ := e
      have hp : p < sz := Nat.le_of_ble_eq_true hp
      replace e := setK_ok e; obtain ⟨t', e, hg⟩ := e
      replace e := putParams_ok ps args t' e; obtain ⟨regs', e, hlen, hsp⟩ := e
      refine ⟨regs', e, by simp [hlen], fun β tmps vs hs hr hv => ?_⟩
      simp only [concL, Option.bind_eq_some_iff, Option.map_eq_some_iff] at hv
      obtain ⟨x, hx, z, hz, rfl⟩ := hv
      have h1 : RegsR β t' (putT tmps (some p) x) no := hr.set (dst := some p) (fun t => by
        rw [hg]
        by_cases e : t = p
        · rw [if_pos e, if_pos (by rw [e])]
        · rw [if_neg e, if_neg (by simpa using fun h => e h.symm)]) hx (fun d hd => by cases hd; omega) fun t ht => ht.elim
      have := hsp β (putT tmps (some p) x) z (by rw [putT_size]; exact hs) h1 hz
      simpa [putT] using this

section
variable {P : Program} {E : Env} (HE : EnvR P E) {fr : Fr} {cs : List Fr} {h : T O} {n : Nat} {go : Go_} {fin : Kv} {r : V}

def CallPre (f : V) (args : List V) (β : Beta) (s : Sem Next) : Prop := ∃ vf vs, conc β f = some vf ∧ concL β args = some vs ∧ s = invV vf vs.toArray

include HE in
theorem enterK_ok {f : Nat} {args : List V} (e : enterK E f args fr cs h n go fin = .ok r) :
    Outc P E.tys h n fr cs go fin r fun β s => ∃ vs, concL β args = some vs ∧ s = callFunc f vs.toArray := by
  unfold enterK hookK at e
  cases hh : E.hook f args with
  | some v =>
    rw [hh] at e
    obtain ⟨⟨fn, h1, h2, h3⟩, h4⟩ := HE.hook f args v hh
    refine .inr (.inr ⟨v, e, fun W0 β w s H hs => ?_⟩)
    obtain ⟨vs, hvs, rfl⟩ := hs
    obtain ⟨val, hv, hc⟩ := h4 β vs hvs
    exact ⟨f, vs.toArray, val, run_callFunc_body h1 h2 h3 _ w, hv, hc w⟩
  | none =>
    rw [hh] at e
    replace e : om (E.fns.get f) (fun fn => enterB E f fn args fr cs h n go fin) = .ok r := e
    replace e := om_ok e; obtain ⟨fn, hfn, e⟩ := e
    obtain ⟨hf, hn⟩ := HE.fns f fn hfn
    unfold enterB at e
    split at e
    · rename_i body hb
      rw [fNat_eq] at e
      replace e := regsOf_ok e; obtain ⟨regs, e, hle, hg⟩ := e
      refine .inr (.inl ⟨_, _, _, e, fun W0 β w s H hs => ?_⟩)
      obtain ⟨vs, hvs, rfl⟩ := hs
      exact ⟨_, _, run_callFunc_body hf hn (by rw [hb]; rfl) _ w, .inl ⟨_, _, rfl, rfl⟩, fun lo hi => FrR.entered hf hb hvs hle hg⟩
    · replace e : (match E.ext.get f with | some e => extK e args h n fin | none => .bad 143 (some ⟨⟨f, 0, [], none⟩, .nil, []⟩)) = .ok r := e
      split at e
      · rename_i x hx
        replace e := extK_ok (P := P) e; obtain ⟨v, h', n', e, hsp⟩ := e
        obtain ⟨fn', h1, h2, h3, h4, h5⟩ := HE.ext f x hx
        refine .inl ⟨v, h', n', e, fun W0 β w s H hs => ?_⟩
        obtain ⟨vs, hvs, rfl⟩ := hs
        obtain ⟨val, w', β', a1, a2, a3, a4⟩ := hsp W0 β w H vs hvs
        exact ⟨.value val, val, w', β', by rw [run_callFunc_extern h1 h2 h3 h4 h5, a1]; rfl, .inl rfl, a2, a3, a4⟩
      · cases e

include HE in
theorem callK_ok {f : V} {args : List V} (e : callK E f args fr cs h n go fin = .ok r) : Outc P E.tys h n fr cs go fin r (CallPre f args) := by
  unfold callK at e
  split at e
  · rename_i g first cap
    rw [spine_eq] at e
    refine (enterK_ok HE e).mono fun β s hs => ?_
    obtain ⟨vf, vs, hf, hvs, rfl⟩ := hs
    simp only [conc, Option.bind_eq_some_iff, Option.map_eq_some_iff] at hf
    obtain ⟨us, hus, cs', hcs, rfl⟩ := hf
    refine ⟨us ++ vs ++ cs', concL_app (concL_app hus hvs) hcs, ?_⟩
    have : (us ++ vs ++ cs').toArray = us.toArray ++ vs.toArray ++ cs'.toArray := by simp
    rw [this]; rfl
  · rename_i l
    replace e := om_ok e; obtain ⟨o, ho, e⟩ := e
    unfold roundK at e
    split at e
    · rename_i st pending fn sz regs ps assign body d
      replace e := putParams_ok _ _ _ e; obtain ⟨regs', e, hlen, hsp⟩ := e
      refine .inr (.inl ⟨_, _, _, e, fun W0 β w s H hs => ?_⟩)
      obtain ⟨vf, vs, hf, hvs, rfl⟩ := hs
      simp only [conc, Option.map_eq_some_iff] at hf
      obtain ⟨b, hb, rfl⟩ := hf
      obtain ⟨L, bd, h1, h2, h3, h4, h5, h6, h7, h8, h9, h10, h11⟩ := H.obj l _ b ho hb
      obtain ⟨g1, g2⟩ := hsp β L.tmps vs h5 h6 hvs
      have hfold : (L.params.zip vs.toArray).foldl (fun tmps p => tmps.setIfInBounds p.1 p.2) L.tmps = (ps.zip vs).foldl (fun (tmps : Array Value) p => tmps.setIfInBounds p.1 p.2) L.tmps := by
        rw [← Array.foldl_toList, Array.toList_zip, h7]
      have hl2 := concL_len hvs
      have hsz : vs.length = L.params.size := by
        have : L.params.toList.length = ps.length := by rw [h7]
        simp at this; omega
      have hrun : (invV (.func (.yield b.blk) #[] #[]) vs.toArray).run P w = .ok (.round b.blk L.fn ((ps.zip vs).foldl (fun (tmps : Array Value) p => tmps.setIfInBounds p.1 p.2) L.tmps) L.assign L.body) w := by
        have : invV (.func (.yield b.blk) #[] #[]) vs.toArray = Instr.yield b.blk (#[] ++ vs.toArray) := rfl
        rw [this]
        simp [Instr.yield, Instr.getLoop, getObj, Sem.run, h1, hsz]
        simpa [hsz] using hfold
      refine ⟨_, _, hrun, .inr ⟨_, _, _, _, _, rfl, rfl⟩, fun lo hi => ⟨⟨h4, g2, rfl, trivial, b.blk, rfl, b, hb, rfl⟩, rfl, ⟨?_, ?_, ?_, trivial⟩, g1⟩⟩
      · show Item.code L.assign = _; rw [h8]
      · rfl
      · show Item.code L.body = _; rw [h9]
    · exact (bad_ne e).elim
  · exact (bad_ne e).elim
end

end Go.Mir
