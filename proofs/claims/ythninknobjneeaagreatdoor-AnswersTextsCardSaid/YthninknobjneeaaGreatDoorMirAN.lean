/- The small machine against the model: calls, and the operations that stand in a row. No statement of the program stands here. -/
import Derived.Test.YthninknobjneeaaGreatDoorMirAM
namespace Go.Mir
open Go Go.RowKit

def invV (f : Value) (args : Array Value) : Sem Next := do let d ← Deferred.ofValue f args; invoke d.target d.args

def FnsR (P : Program) (fns : T Func) : Prop := ∀ f fn, fns.get f = some fn → P.funcs[f]? = some fn ∧ (fn.name == "runtime.NumGoroutine") = false

/-- a call that is known: of function f, at these arguments, in this memory -/
def HookR (P : Program) (hook : Nat → List V → T O → Option V) : Prop := ∀ f args h v, hook f args h = some v →
  (∃ fn, P.funcs[f]? = some fn ∧ (fn.name == "runtime.NumGoroutine") = false ∧ fn.body.isNone = false) ∧
  ∀ W0 β n w vs, HR W0 β h n w → concL β args = some vs → ∃ val, conc β v = some val ∧ Calls P f vs.toArray w fun e w' => e = .returned val ∧ Below w.heap.size w w'

/-- the bottom call comes to its end with 'r' -/
def Ends (P : Program) (W0 : World) (f0 : Nat) (cs0 : List Frame) (B0 : Bs) (r : Rz) (F : Frame) (CS : List Frame) (w : World) : Prop :=
  ∃ r', Rz.le r r' ∧ ∃ β v w' F', conc β r'.v = some v ∧ Steps P (lone F CS w) (lone F' cs0 w') ∧ F'.leaving P w' (.returned v) ∧ F'.fn = f0 ∧ HR W0 β r'.h r'.n w' ∧ BaseR B0 β r'.h B0.n ∧ B0.n ≤ r'.n

section
variable {P : Program} {W0 : World} {f0 : Nat} {cs0 : List Frame} {B0 : Bs} {r : Rz}

theorem Ends.steps {F F1 : Frame} {CS CS1 : List Frame} {w w1 : World} (h : Steps P (lone F CS w) (lone F1 CS1 w1)) (h' : Ends P W0 f0 cs0 B0 r F1 CS1 w1) : Ends P W0 f0 cs0 B0 r F CS w := by
  obtain ⟨r', hle, β, v, w', F', a, b, c⟩ := h'
  exact ⟨r', hle, β, v, w', F', a, h.trans b, c⟩

theorem Ends.step {F F1 : Frame} {CS CS1 : List Frame} {w w1 : World} (h : Go.step P (lone F CS w) = .next (lone F1 CS1 w1)) (h' : Ends P W0 f0 cs0 B0 r F1 CS1 w1) : Ends P W0 f0 cs0 B0 r F CS w :=
  h'.steps (.one h)

theorem Ends.weak {r1 : Rz} {F : Frame} {CS : List Frame} {w : World} (hle : Rz.le r r1) (h : Ends P W0 f0 cs0 B0 r1 F CS w) : Ends P W0 f0 cs0 B0 r F CS w := by
  obtain ⟨r', h1, h2⟩ := h
  exact ⟨r', hle.trans h1, h2⟩
end

structure Sim (P : Program) (tys : T TI) (W0 : World) (f0 : Nat) (cs0 : List Frame) (B0 : Bs) (lo : Nat) (β : Beta) (i : Fi) (regs : T V) (todo : List It) (cs : List Fr) (h : T O) (n : Nat) (F : Frame) (CS : List Frame) (w : World) : Prop where
  hr : HR W0 β h n w
  fr : FrR P tys lo n β h ⟨i, regs, todo⟩ F
  st : StackR P tys f0 cs0 B0 β h lo i cs CS
  le : lo ≤ n

def Good (P : Program) (tys : T TI) (W0 : World) (f0 : Nat) (cs0 : List Frame) (B0 : Bs) (go : Go_) : Prop :=
  ∀ r i regs todo cs h n, go i regs todo cs h n = .ok r → ∀ β F CS w lo, Sim P tys W0 f0 cs0 B0 lo β i regs todo cs h n F CS w → Ends P W0 f0 cs0 B0 r F CS w

structure EnvR (P : Program) (E : Env) : Prop where
  tys : TysR P E.tys
  fns : FnsR P E.fns
  ext : ExtR P E.ext
  hook : HookR P E.hook
  mixed : P.follows .mixedOrders = true
  sub : ∀ f args h n z, E.subF f args h n = .ok z → ∃ go r, (∀ W0 f0 cs0 B0, Good P E.tys W0 f0 cs0 B0 go) ∧ Rz.le z r ∧
    (om (E.fns.get f) fun fn => om fn.body fun body => fNat fn.ntmps fun sz => regsOf args sz fun regs => go ⟨f, sz, [], none⟩ regs [.code body] [] h n) = .ok r
  comb : ∀ outs r, E.comb outs = .ok r → ∀ o ∈ outs, ∃ z, o = .ok z ∧ Rz.le r z

/-- a frame is entered -/
def Entering (P : Program) (nx : Next) (F : Frame) : Prop :=
  (∃ f args, nx = .enter f args ∧ F = Frame.enter P f args .normal) ∨ (∃ l f tmps a b, nx = .round l f tmps a b ∧ F = Frame.round l f tmps a b .normal)

/-- how a computation of the model's may go on, and the machine's with it -/
def Outc (P : Program) (tys : T TI) (h : T O) (n : Nat) (fr : Fr) (cs : List Fr) (go : Go_) (fin : Kv) (r : Rz) (Pre : Beta → Sem Next → Prop) : Prop :=
  (∀ W0 β w s, HR W0 β h n w → Pre β s → ∃ v h' n' r', fin v h' n' = .ok r' ∧ Rz.le r r' ∧ ∃ nx val w' β', s.run P w = .ok nx w' ∧ (nx = .value val ∨ (nx = .skip ∧ val = undef)) ∧ conc β' v = some val ∧ HR W0 β' h' n' w' ∧ More β h n β' h' n') ∨
  (∃ i' regs' todo', go i' regs' todo' (fr :: cs) h n = .ok r ∧ ∀ W0 β w s, HR W0 β h n w → Pre β s → ∃ nx F', s.run P w = .ok nx w ∧ Entering P nx F' ∧ ∀ lo hi, FrR P tys lo hi β h ⟨i', regs', todo'⟩ F') ∨
  (∃ v h' n', fin v h' n' = .ok r ∧ ∀ W0 β w s, HR W0 β h n w → Pre β s → ∃ f as, s.run P w = .ok (.enter f as) w ∧ ∀ CS, ∃ val w' β' F', Steps P (lone (Frame.enter P f as .normal) CS w) (lone F' CS w') ∧ F'.leaving P w' (.returned val) ∧
    conc β' v = some val ∧ HR W0 β' h' n' w' ∧ More β h n β' h' n')

theorem Outc.mono {P : Program} {tys : T TI} {h : T O} {n : Nat} {fr : Fr} {cs : List Fr} {go : Go_} {fin : Kv} {r : Rz} {Pre Pre' : Beta → Sem Next → Prop}
    (H : Outc P tys h n fr cs go fin r Pre) (hp : ∀ β s, Pre' β s → Pre β s) : Outc P tys h n fr cs go fin r Pre' := by
  rcases H with b | ⟨i', regs', todo', a, b⟩ | ⟨v, h', n', a, b⟩
  · exact .inl fun W0 β w s H hs => b W0 β w s H (hp β s hs)
  · exact .inr (.inl ⟨i', regs', todo', a, fun W0 β w s H hs => b W0 β w s H (hp β s hs)⟩)
  · exact .inr (.inr ⟨v, h', n', a, fun W0 β w s H hs => b W0 β w s H (hp β s hs)⟩)

theorem HR.quiet {W0 : World} {β : Beta} {h : T O} {n : Nat} {w w' : World} (H : HR W0 β h n w) (hb : Below w.heap.size w w') : HR W0 β h n w' where
  obj id o b h1 h2 := by rw [hb.block _ (H.dom id b h2).2]; exact H.obj id o b h1 h2
  inj := H.inj
  dom id b h2 := let ⟨a, d⟩ := H.dom id b h2; ⟨a, Nat.lt_of_lt_of_le d hb.size⟩
  below := H.below.trans (hb.mono H.base)
  above := H.above
  own := H.own

theorem outK_ok {o : Out} {k : Rz → Out} {r : Rz} (e : outK o k = .ok r) : ∃ z, o = .ok z ∧ k z = .ok r := by
  cases o with
  | ok z => exact ⟨z, rfl, e⟩
  | bad c fr => cases e

theorem keepB_go {h : T O} : ∀ {h0 : T O} {ix : Nat → Nat}, (T.rec (motive := fun _ => (Nat → Nat) → Bool) (fun _ => true)
    (fun v _ _ gl gr ix => and (Option.rec (motive := fun _ => Bool) true (fun o => or (not (plainO o)) (Option.isSome (h.get (ix 0)))) v) (and (gl fun j => ix (Nat.succ (Nat.mul 2 j))) (gr fun j => ix (Nat.succ (Nat.succ (Nat.mul 2 j)))))) (fun _ _ => false) h0 ix : Bool) = true →
    ∀ i o, h0.get i = some o → plainO o = true → ∃ x, h.get (ix i) = some x
  | .nil, _, _, i, o, hx, _ => by cases hx
  | .fn _, _, e, i, o, hx, _ => by cases e
  | .node v l r, ix, e, i, o, hx, hp => by
    have h1 := Bool.and_eq_true_iff.1 e
    have h2 := Bool.and_eq_true_iff.1 h1.2
    cases i with
    | zero =>
      have hv : v = some o := hx
      subst hv
      have h3 : or (not (plainO o)) (Option.isSome (h.get (ix 0))) = true := h1.1
      rw [hp] at h3
      exact Option.isSome_iff_exists.1 (by simpa using h3)
    | succ i =>
      rw [T.get_node_succ] at hx
      split at hx
      · have := keepB_go h2.2 _ _ hx hp
        rw [show Nat.succ (Nat.succ (Nat.mul 2 (i / 2))) = i + 1 by show 2 * (i / 2) + 1 + 1 = i + 1; omega] at this
        exact this
      · have := keepB_go h2.1 _ _ hx hp
        rw [show Nat.succ (Nat.mul 2 (i / 2)) = i + 1 by show 2 * (i / 2) + 1 = i + 1; omega] at this
        exact this

theorem keepB_ok {h0 h : T O} (e : keepB h0 h = true) : ∀ i o, h0.get i = some o → plainO o = true → ∃ x, h.get i = some x := keepB_go e

theorem regsOf_ok {args : List V} {sz : Nat} {k : T V → Out} {r : Rz} (e : regsOf args sz k = .ok r) : ∃ regs, k regs = .ok r ∧ args.length ≤ sz ∧ ∀ t, regs.get t = args[t]? := by
  replace e := need_ok e; obtain ⟨hle, e⟩ := e
  replace e := putL_go _ _ _ e; obtain ⟨regs, e, hg⟩ := e
  refine ⟨regs, e, Nat.le_of_ble_eq_true hle, fun t => ?_⟩
  rw [hg]
  simp only [Nat.zero_le, true_and, Nat.zero_add, Nat.sub_zero, T.get_blank]
  split
  · rfl
  · rw [List.getElem?_eq_none (by omega)]

theorem run_callFunc_body {P : Program} {f : FuncId} {fn : Func} (hf : P.funcs[f]? = some fn) (hn : (fn.name == "runtime.NumGoroutine") = false) (hb : fn.body.isNone = false) (args : Array Value) (w : World) :
    (callFunc f args).run P w = .ok (.enter f args) w := by
  have h1 : fn.name ≠ "runtime.NumGoroutine" := by simpa using hn
  have h2 : fn.body ≠ none := by intro h; rw [h] at hb; cases hb
  simp [callFunc, hf, h1, h2]

theorem FrR.entered {P : Program} {tys : T TI} {lo hi : Nat} {β : Beta} {h : T O} {f : Nat} {fn : Func} {body : Code} (hf : P.funcs[f]? = some fn) (hb : fn.body = some body) {args : List V} {vs : List Value} (hvs : concL β args = some vs)
    {regs : T V} (hle : args.length ≤ fn.ntmps) (hg : ∀ t, regs.get t = args[t]?) : FrR P tys lo hi β h ⟨⟨f, fn.ntmps, [], none⟩, regs, [.code body]⟩ (Frame.enter P f vs.toArray .normal) := by
  have hlen := concL_len hvs
  refine ⟨⟨rfl, ?_, rfl, trivial, rfl⟩, rfl, ⟨?_, trivial⟩, fun t v hv _ => ?_⟩
  · simp only [Frame.enter, hf, Option.map_some, Option.getD_some, Array.size_append, List.size_toArray, Array.size_replicate]; omega
  · simp [hf, hb]; exact rfl
  · rw [hg] at hv
    obtain ⟨y, hy, hc⟩ := concL_get t hvs hv
    rw [hc]
    have ht : t < vs.length := lt_of_get hy
    simp only [Frame.enter]
    rw [Array.getD_eq_getD_getElem?, Array.getElem?_append, if_pos (by simpa using ht)]
    simp [hy]

theorem putParams_ok {sz : Nat} {k : T V → Out} {r : Rz} : ∀ (ps : List Nat) (args : List V) (regs : T V), putParams regs sz ps args k = .ok r →
    ∃ regs', k regs' = .ok r ∧ ps.length = args.length ∧ ∀ β (tmps : Array Value) vs, tmps.size = sz → RegsR β regs tmps no → concL β args = some vs →
      RegsR β regs' ((ps.zip vs).foldl (fun tmps p => tmps.setIfInBounds p.1 p.2) tmps) no ∧ ((ps.zip vs).foldl (fun (tmps : Array Value) p => tmps.setIfInBounds p.1 p.2) tmps).size = sz
  | [], args, regs, e => by
    cases args with
    | nil => exact ⟨regs, e, rfl, fun β tmps vs hs hr hv => ⟨by simpa using hr, by simpa using hs⟩⟩
    | cons => exact (bad_ne e).elim
  | p :: ps, args, regs, e => by
    cases args with
    | nil => exact (bad_ne e).elim
    | cons a args =>
      replace e : need (Nat.ble (Nat.succ p) sz) (T.setK regs p (some a) (bad 146) fun regs => putParams regs sz ps args k) = .ok r := e
      replace e := need_ok e; obtain ⟨hp, e⟩ := e
      have hp : p < sz := Nat.le_of_ble_eq_true hp
      replace e := setK_ok e; obtain ⟨t', e, hg⟩ := e
      replace e := putParams_ok ps args t' e; obtain ⟨regs', e, hlen, hsp⟩ := e
      refine ⟨regs', e, by simp [hlen], fun β tmps vs hs hr hv => ?_⟩
      simp only [concL, Option.bind_eq_some_iff, Option.map_eq_some_iff] at hv
      obtain ⟨x, hx, z, hz, rfl⟩ := hv
      have h1 : RegsR β t' (putT tmps (some p) x) no := hr.set (dst := some p) (fun t => by
        rw [hg]
        by_cases e : t = p
        · rw [if_pos e, if_pos (by rw [e])]
        · rw [if_neg e, if_neg (by simpa using fun h => e h.symm)]) hx (fun d hd => by cases hd; omega) fun t ht => ht.elim
      have := hsp β (putT tmps (some p) x) z (by rw [putT_size]; exact hs) h1 hz
      simpa [putT] using this

section
variable {P : Program} {E : Env} (HE : EnvR P E) {fr : Fr} {cs : List Fr} {h : T O} {n : Nat} {go : Go_} {fin : Kv} {r : Rz}

def CallPre (f : V) (args : List V) (β : Beta) (s : Sem Next) : Prop := ∃ vf vs, conc β f = some vf ∧ concL β args = some vs ∧ s = invV vf vs.toArray

include HE in
theorem enterK_ok {f : Nat} {args : List V} (e : enterK E f args fr cs h n go fin = .ok r) :
    Outc P E.tys h n fr cs go fin r fun β s => ∃ vs, concL β args = some vs ∧ s = callFunc f vs.toArray := by
  unfold enterK hookK at e
  cases hh : E.hook f args h with
  | some v =>
    rw [hh] at e
    obtain ⟨⟨fn, h1, h2, h3⟩, h4⟩ := HE.hook f args h v hh
    refine .inr (.inr ⟨v, h, n, e, fun W0 β w s H hs => ?_⟩)
    obtain ⟨vs, hvs, rfl⟩ := hs
    obtain ⟨val, hv, hc⟩ := h4 W0 β n w vs H hvs
    refine ⟨f, vs.toArray, run_callFunc_body h1 h2 h3 _ w, fun CS => ?_⟩
    obtain ⟨en, w', fr', ⟨rfl, hb⟩, hcm, _, hl⟩ := hc CS
    exact ⟨val, w', β, fr', hcm, hl, hv, H.quiet hb, More.refl _ _ _⟩
  | none =>
    rw [hh] at e
    replace e : om (E.fns.get f) (fun fn => Option.rec (motive := fun _ => Out) (enterB E f fn args fr cs h n go fin) (fun _ => subK E f args h n fin) (E.subs.get f)) = .ok r := e
    replace e := om_ok e; obtain ⟨fn, hfn, e⟩ := e
    obtain ⟨hf, hn⟩ := HE.fns f fn hfn
    cases hsub : E.subs.get f with
    | some _ =>
      rw [hsub] at e
      replace e : subK E f args h n fin = .ok r := e
      replace e := outK_ok e; obtain ⟨z, es, e⟩ := e
      replace e := need_ok e; obtain ⟨hkeep, e⟩ := e
      obtain ⟨go', r1, hG, hz1, es⟩ := HE.sub f args h n z es
      rw [hfn] at es
      replace es : (om fn.body fun body => fNat fn.ntmps fun sz => regsOf args sz fun regs => go' ⟨f, sz, [], none⟩ regs [.code body] [] h n) = .ok r1 := es
      replace es := om_ok es; obtain ⟨body, hb, es⟩ := es
      rw [fNat_eq] at es
      replace es := regsOf_ok es; obtain ⟨regs, es, hle, hg⟩ := es
      refine .inr (.inr ⟨z.v, z.h, z.n, e, fun W0 β w s H hs => ?_⟩)
      obtain ⟨vs, hvs, rfl⟩ := hs
      refine ⟨f, vs.toArray, run_callFunc_body hf hn (by rw [hb]; rfl) _ w, fun CS => ?_⟩
      obtain ⟨r', hzr, β', v, w', F', a1, a2, a3, a4, a5, a6, a7⟩ := hG W0 f CS ⟨β, h, n⟩ r1 _ _ _ _ _ _ es β (Frame.enter P f vs.toArray .normal) CS w n
        ⟨H, FrR.entered hf hb hvs hle hg, ⟨rfl, rfl, rfl, BaseR.start β h n⟩, Nat.le_refl n⟩
      replace hzr := hz1.trans hzr
      have hn' := hzr.n
      refine ⟨v, w', β', F', a2, a3, by rw [hzr.v]; exact a1, by rw [hn']; exact a5.sub hzr.h, a6.sub, by rw [hn']; exact a7, fun id hid hb0 => ?_⟩
      obtain ⟨p1, p2⟩ := a6.pend id hid hb0
      refine ⟨p1, fun o hp ho => ?_⟩
      obtain ⟨x, hx⟩ := keepB_ok hkeep id o ho hp
      have h1 := hzr.h id x hx
      rw [p2 o hp ho] at h1
      cases h1; exact hx
    | none =>
    rw [hsub] at e
    replace e : enterB E f fn args fr cs h n go fin = .ok r := e
    unfold enterB at e
    split at e
    · rename_i body hb
      rw [fNat_eq] at e
      replace e := regsOf_ok e; obtain ⟨regs, e, hle, hg⟩ := e
      refine .inr (.inl ⟨_, _, _, e, fun W0 β w s H hs => ?_⟩)
      obtain ⟨vs, hvs, rfl⟩ := hs
      exact ⟨_, _, run_callFunc_body hf hn (by rw [hb]; rfl) _ w, .inl ⟨_, _, rfl, rfl⟩, fun lo hi => FrR.entered hf hb hvs hle hg⟩
    · replace e : (match E.ext.get f with | some e => extK e args h n fin | none => .bad 143 (some ⟨⟨f, 0, [], none⟩, .nil, []⟩)) = .ok r := e
      split at e
      · rename_i x hx
        replace e := extK_ok (P := P) e; obtain ⟨v, h', n', e, hsp⟩ := e
        obtain ⟨fn', h1, h2, h3, h4, h5⟩ := HE.ext f x hx
        refine .inl fun W0 β w s H hs => ⟨v, h', n', r, e, Rz.le.refl r, ?_⟩
        obtain ⟨vs, hvs, rfl⟩ := hs
        obtain ⟨val, w', β', a1, a2, a3, a4⟩ := hsp W0 β w H vs hvs
        exact ⟨.value val, val, w', β', by rw [run_callFunc_extern h1 h2 h3 h4 h5, a1]; rfl, .inl rfl, a2, a3, a4⟩
      · cases e

include HE in
theorem callK_ok {f : V} {args : List V} (e : callK E f args fr cs h n go fin = .ok r) : Outc P E.tys h n fr cs go fin r (CallPre f args) := by
  unfold callK at e
  split at e
  · rename_i g first cap
    rw [spine_eq] at e
    refine (enterK_ok HE e).mono fun β s hs => ?_
    obtain ⟨vf, vs, hf, hvs, rfl⟩ := hs
    simp only [conc, Option.bind_eq_some_iff, Option.map_eq_some_iff] at hf
    obtain ⟨us, hus, cs', hcs, rfl⟩ := hf
    refine ⟨us ++ vs ++ cs', concL_app (concL_app hus hvs) hcs, ?_⟩
    have : (us ++ vs ++ cs').toArray = us.toArray ++ vs.toArray ++ cs'.toArray := by simp
    rw [this]; rfl
  · rename_i l
    replace e := om_ok e; obtain ⟨o, ho, e⟩ := e
    unfold roundK at e
    split at e
    · rename_i st pending fn sz regs ps assign body d
      replace e := putParams_ok _ _ _ e; obtain ⟨regs', e, hlen, hsp⟩ := e
      refine .inr (.inl ⟨_, _, _, e, fun W0 β w s H hs => ?_⟩)
      obtain ⟨vf, vs, hf, hvs, rfl⟩ := hs
      simp only [conc, Option.map_eq_some_iff] at hf
      obtain ⟨b, hb, rfl⟩ := hf
      obtain ⟨L, bd, h1, h2, h3, h4, h5, h6, h7, h8, h9, h10, h11⟩ := H.obj l _ b ho hb
      obtain ⟨g1, g2⟩ := hsp β L.tmps vs h5 h6 hvs
      have hfold : (L.params.zip vs.toArray).foldl (fun tmps p => tmps.setIfInBounds p.1 p.2) L.tmps = (ps.zip vs).foldl (fun (tmps : Array Value) p => tmps.setIfInBounds p.1 p.2) L.tmps := by
        rw [← Array.foldl_toList, Array.toList_zip, h7]
      have hl2 := concL_len hvs
      have hsz : vs.length = L.params.size := by
        have : L.params.toList.length = ps.length := by rw [h7]
        simp at this; omega
      have hrun : (invV (.func (.yield b.blk) #[] #[]) vs.toArray).run P w = .ok (.round b.blk L.fn ((ps.zip vs).foldl (fun (tmps : Array Value) p => tmps.setIfInBounds p.1 p.2) L.tmps) L.assign L.body) w := by
        have : invV (.func (.yield b.blk) #[] #[]) vs.toArray = Instr.yield b.blk (#[] ++ vs.toArray) := rfl
        rw [this]
        simp [Instr.yield, Instr.getLoop, getObj, Sem.run, h1, hsz]
        simpa [hsz] using hfold
      refine ⟨_, _, hrun, .inr ⟨_, _, _, _, _, rfl, rfl⟩, fun lo hi => ⟨⟨h4, g2, rfl, trivial, b.blk, rfl, b, hb, rfl⟩, rfl, ⟨?_, ?_, ?_, trivial⟩, g1⟩⟩
      · show Item.code L.assign = _; rw [h8]
      · rfl
      · show Item.code L.body = _; rw [h9]
    · exact (bad_ne e).elim
  · exact (bad_ne e).elim
end

end Go.Mir
