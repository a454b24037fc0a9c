/- The small machine against the model: drawn regions, done. No statement of the program stands here. -/
import Derived.Test.YtojkinikdcelbaaGreatDoorNMirAQ
set_option linter.unusedSimpArgs false
set_option linter.unusedVariables false
set_option linter.defProp false
namespace Go.Mir
open Go Go.RowKit

section
variable {w : World} {k : Nat} {o : Obj}

theorem setObj_other {j : Nat} (hj : j ≠ k) : ({ w with heap := w.heap.setIfInBounds k o } : World).heap[j]? = w.heap[j]? := by
  simp only [Array.getElem?_setIfInBounds]
  rw [if_neg (by omega)]

theorem setObj_size : ({ w with heap := w.heap.setIfInBounds k o } : World).heap.size = w.heap.size := by simp

theorem setObj_at (hk : k < w.heap.size) : ({ w with heap := w.heap.setIfInBounds k o } : World).heap[k]? = some o := by
  simp [hk]

theorem setObj_below {B : Nat} (hB : B ≤ k) : Below B w { w with heap := w.heap.setIfInBounds k o } :=
  ⟨rfl, rfl, rfl, by simp, fun j hj => setObj_other (by omega)⟩
end

/-- a block that is not asked any more changes -/
theorem HR.kill {W0 : World} {β : Beta} {h h' : T O} {n : Nat} {w w' : World} (H : HR W0 β h n w) {id : Nat} {o0 : O} {b : Blk} (ho0 : h.get id = some o0) (hb : β id = some b)
    (hg : ∀ j, h'.get j = if j = id then none else h.get j) (hw : ∀ k, k ≠ b.blk → w'.heap[k]? = w.heap[k]?) (hs : w'.heap.size = w.heap.size) (hbel : Below W0.heap.size w w') : HR W0 β h' n w' where
  obj i o b' h1 h2 := by
    rw [hg] at h1; split at h1
    · cases h1
    · rename_i e
      have : b'.blk ≠ b.blk := fun eb => e (H.inj i id o o0 b' b h1 ho0 h2 hb eb)
      rw [hw _ this]; exact H.obj i o b' h1 h2
  inj i j oi oj bi bj h1 h2 h3 h4 e := by
    rw [hg] at h1 h2
    split at h1; · cases h1
    split at h2; · cases h2
    exact H.inj i j oi oj bi bj h1 h2 h3 h4 e
  dom i b' h2 := let ⟨a, d⟩ := H.dom i b' h2; ⟨a, by omega⟩
  below := H.below.trans hbel
  laid := H.laid
  above j hj := by rw [hg]; split; · rfl
                   · exact H.above j hj
  own i o b' h1 hr h2 := by
    rw [hg] at h1; split at h1
    · cases h1
    · exact H.own i o b' h1 hr h2

section
variable {P : Program} {E : Env} {W0 : World} {f0 : Nat} {cs0 : List Frame} {B0 : Bs} {r : Rz} {go : Go_} (G : Good P E.tys W0 f0 cs0 B0 go) (HE : EnvR P E)
variable {i : Fi} {regs : T V} {t : List It} {cs : List Fr} {h : T O} {n : Nat} {β : Beta} {F : Frame} {CS : List Frame} {w : World} {lo : Nat}

include G in
/-- a frame that waits takes the value -/
theorem pop_ok {c : Fr} {v : V} (e : popK v (c :: cs) h n go = .ok r) {C : Frame} (HH : HR W0 β h n w) (HS : StackR P E.tys f0 cs0 B0 β h lo i (c :: cs) (C :: CS)) (hlo : lo ≤ n) {val : Value} (hv : conc β v = some val) :
    Ends P W0 f0 cs0 B0 r (C.finish val) CS w := by
  replace e : finFr v cs h n go c = .ok r := e
  replace e := finFr_ok (P := P) (tys := E.tys) e; obtain ⟨regs', todo', e, hsp⟩ := e
  obtain ⟨lo', h1, HW, HS⟩ := HS
  exact G _ _ _ _ _ _ _ e β _ CS w lo' ⟨HH, (hsp lo' lo β C val HW hv).up hlo, HS, Nat.le_trans h1 hlo⟩

theorem run_endRound {l : Nat} {jump : Option Code} {L : Loop} (hl : w.heap[l]? = some (.loop L)) :
    (Instr.endRound l jump).run P w = .ok (.bool jump.isNone) { w with heap := w.heap.setIfInBounds l (.loop { L with state := if jump.isNone then .ready else .done, pending := jump }) } := by
  simp [Instr.endRound, Instr.getLoop, getObj, setObj, Sem.run, hl]

include G in
theorem leave_ok {jump : Option Code} (e : leaveK jump i regs cs h n go = .ok r) (HH : HR W0 β h n w) (hfi : FiR β i F) (hR : RegsR β regs F.tmps no) (HS : StackR P E.tys f0 cs0 B0 β h lo i cs CS) (hlo : lo ≤ n)
    (hnone : F.roundOf = none → (jump = none ∨ jump = some .ret) → Go.step P (lone F CS w) = .next (lone { F with mode := .returning } CS w))
    (hsome : ∀ l C CS' v w', CS = C :: CS' → F.roundOf = some l → (Instr.endRound l jump).run P w = .ok v w' → Go.step P (lone F CS w) = .next (lone (C.finish v) CS' w')) :
    Ends P W0 f0 cs0 B0 r F CS w := by
  unfold leaveK at e
  have hround := hfi.round
  cases hi : i.round with
  | none =>
    rw [hi] at e hround
    have fin : go i regs [.fin] cs h n = .ok r → (jump = none ∨ jump = some .ret) → Ends P W0 f0 cs0 B0 r F CS w := fun e hj => by
      have hE : Ends P W0 f0 cs0 B0 r { F with mode := .returning } CS w := G _ _ _ _ _ _ _ e β _ CS w lo ⟨HH, ⟨⟨hfi.fn, hfi.sz, hfi.kind, hfi.defers, hfi.round⟩, ⟨rfl, hR⟩⟩, HS, hlo⟩
      exact hE.step (hnone hround hj)
    cases jump with
    | none => exact fin e (.inl rfl)
    | some c => cases c <;> first | exact fin e (.inr rfl) | exact (bad_ne e).elim
  | some l =>
    rw [hi] at e hround
    obtain ⟨k, hFr, b, hb, rfl⟩ := hround
    replace e := om_ok e; obtain ⟨o, ho, e⟩ := e
    cases o with
    | loop st pending fn sz lregs ps assign body d =>
      replace e := setK_ok e; obtain ⟨h', e, hg⟩ := e
      cases cs with
      | nil => exact (bad_ne e).elim
      | cons c cs =>
        cases CS with
        | nil => exact HS.elim
        | cons C CS =>
          obtain ⟨L, bd, h1, h2, h3, h4, h5, h6, h7, h8, h9, h10, h11⟩ := HH.obj l _ b ho hb
          have hrun := run_endRound (P := P) (jump := jump) h1
          have hdom := HH.dom l b hb
          have hown := HH.own l _ b ho rfl hb
          have M : More β h n β h' n := ext_put hb hg
          have H' : HR W0 β h' n _ := HH.put ho hb hg (fun k hk => setObj_other hk) setObj_size (setObj_below hown)
            (w' := { w with heap := w.heap.setIfInBounds b.blk (.loop { L with state := if jump.isNone then .ready else .done, pending := jump }) }) (by
              rw [setObj_at hdom.2]
              exact ⟨_, bd, rfl, by cases jump <;> rfl, rfl, h4, h5, h6, h7, h8, h9, h10, h11⟩)
          have hval : conc β (.bool (match (generalizing := false) jump with | none => true | some _ => false)) = some (.bool jump.isNone) := by cases jump <;> rfl
          have hE := pop_ok G e H' (StackR.more (M.toB hlo) HS) hlo hval
          exact hE.step (hsome _ _ _ _ _ rfl hFr hrun)
    | cells => exact (bad_ne e).elim
    | map => exact (bad_ne e).elim
    | deferred => exact (bad_ne e).elim
    | iter => exact (bad_ne e).elim
    | ro => exact (bad_ne e).elim

def resF (tmps : Array Value) : ResultVar → Sem Value
  | .tmp t => pure (tmps.getD t undef)
  | .cell a t => do loadVar t (← asAddr (tmps.getD a undef))

theorem results_eq (fn : Func) (tmps : Array Value) : results fn tmps = (do
    let vs ← fn.results.mapM (resF tmps)
    pure (if h : vs.size = 1 then vs[0] else .tuple vs)) := rfl

theorem asAddr_some (a : Addr) : asAddr (.pointer (some a)) = pure a := rfl

include HE in
theorem results_ok {fn : Func} {k : V → Out} (e : resultsK fn h E.tys regs k = .ok r) : ∃ v, k v = .ok r ∧ ∀ W0 β n w, HR W0 β h n w → ∀ tmps, RegsR β regs tmps no → ∃ val, conc β v = some val ∧ (results fn tmps).run P w = .ok val w := by
  have go : ∀ (l : List ResultVar) (kk : List V → Out), (List.rec (motive := fun _ => (List V → Out) → Out) (fun k => k [])
      (fun r _ ih k => match r with
        | .tmp t => om (regs.get t) fun v => ih fun vs => k (v :: vs)
        | .cell a t => om (regs.get a) fun a => loadK E.tys h t a fun v => ih fun vs => k (v :: vs)) l kk : Out) = .ok r →
      ∃ vs, kk vs = .ok r ∧ ∀ W0 β n w, HR W0 β h n w → ∀ tmps, RegsR β regs tmps no → ∃ us, concL β vs = some us ∧
        (l.mapM (resF tmps)).run P w = .ok us w := by
    intro l
    induction l with
    | nil => exact fun kk e => ⟨[], e, fun W0 β n w H tmps hr => ⟨[], rfl, rfl⟩⟩
    | cons x l ih =>
      intro kk e
      cases x with
      | tmp t =>
        replace e := om_ok e; obtain ⟨v, hv, e⟩ := e
        obtain ⟨vs, e, hsp⟩ := ih _ e
        refine ⟨_, e, fun W0 β n w H tmps hr => ?_⟩
        obtain ⟨us, h1, h2⟩ := hsp W0 β n w H tmps hr
        have h3 := hr t v hv (fun x => x)
        exact ⟨tmps.getD t undef :: us, by simp [concL, h3, h1], by simp only [List.mapM_cons, resF, Sem.run_bind, Sem.run_pure, Result.andThen_ok, h2]⟩
      | cell a t =>
        replace e := om_ok e; obtain ⟨av, hav, e⟩ := e
        replace e := loadK_ok HE.tys e; obtain ⟨v, e, hld⟩ := e
        obtain ⟨vs, e, hsp⟩ := ih _ e
        refine ⟨_, e, fun W0 β n w H tmps hr => ?_⟩
        obtain ⟨us, h1, h2⟩ := hsp W0 β n w H tmps hr
        obtain ⟨ad, h4, val, h5, h6⟩ := hld W0 β n w H _ (hr a av hav (fun x => x))
        refine ⟨val :: us, by simp [concL, h5, h1], ?_⟩
        simp only [List.mapM_cons, resF, Sem.run_bind, h4, asAddr_some, Sem.run_pure, Result.andThen_ok, h6, h2]
  obtain ⟨vs, e, hsp⟩ := go _ _ e
  have hone : ∃ v, k v = .ok r ∧ ((∃ x, vs = [x] ∧ v = x) ∨ (vs.length ≠ 1 ∧ v = .tuple vs)) := by
    cases vs with
    | nil => exact ⟨_, e, .inr ⟨by simp, rfl⟩⟩
    | cons a vs =>
      cases vs with
      | nil => exact ⟨_, e, .inl ⟨a, rfl, rfl⟩⟩
      | cons b vs => exact ⟨_, e, .inr ⟨by simp, rfl⟩⟩
  obtain ⟨v, e, hv⟩ := hone
  refine ⟨v, e, fun W0 β n w H tmps hr => ?_⟩
  obtain ⟨us, h1, h2⟩ := hsp W0 β n w H tmps hr
  have hlen := concL_len h1
  have hrun : (results fn tmps).run P w = .ok (if h : us.toArray.size = 1 then us.toArray[0] else .tuple us.toArray) w := by
    rw [results_eq]
    simp only [Sem.run_bind]
    rw [Array.mapM_eq_mapM_toList]
    simp only [Sem.run_map, h2, Result.andThen_ok, Sem.run_pure]
  rcases hv with ⟨x, rfl, rfl⟩ | ⟨hne, rfl⟩
  · cases us with
    | nil => simp at hlen
    | cons u us =>
      cases us with
      | cons => simp at hlen
      | nil =>
        simp only [concL, Option.bind_eq_some_iff, Option.map_eq_some_iff] at h1
        obtain ⟨y, hy, z, hz, he⟩ := h1
        cases he
        exact ⟨u, hy, by rw [hrun]; rfl⟩
  · refine ⟨.tuple us.toArray, by simp [conc, h1], ?_⟩
    rw [hrun, dif_neg (by simp; omega)]

include G HE in
theorem fin_ok (e : stFin E i regs cs h n go = .ok r) (S : Sim P E.tys W0 f0 cs0 B0 lo β i regs (.fin :: t) cs h n F CS w) : Ends P W0 f0 cs0 B0 r F CS w := by
  obtain ⟨HH, ⟨hfi, hB⟩, HS, hlo⟩ := S
  obtain ⟨hm, hR⟩ : F.mode = .returning ∧ RegsR β regs F.tmps no := hB
  obtain ⟨fn, sz, defers, round⟩ := i
  have hd := hfi.defers
  cases defers with
  | cons d ds =>
    replace e : om (h.get d) (fun o => (match o with | .deferred => T.setK h d none (bad 180) fun h => go ⟨fn, sz, ds, round⟩ regs [.fin] cs h n | _ => bad 181)) = .ok r := e
    replace e := om_ok e; obtain ⟨o, ho, e⟩ := e
    cases o with
    | deferred =>
      replace e := setK_ok e; obtain ⟨h', e, hg⟩ := e
      cases hF : F.defers with
      | nil => simp only at hd; rw [hF] at hd; exact hd.elim
      | cons D Ds =>
        simp only at hd; rw [hF] at hd
        obtain ⟨⟨k, ⟨b, hb, rfl⟩, rfl⟩, hds⟩ := hd
        have hobj : w.heap[b.blk]? = some (.deferred (some [])) := HH.obj d _ b ho hb
        have hown := HH.own d _ b ho rfl hb
        have hrun : (Instr.takeDeferred b.blk).run P w = .ok [] { w with heap := w.heap.setIfInBounds b.blk (.deferred none) } := by
          simp [Instr.takeDeferred, getObj, setObj, Sem.run, hobj]
        have M : More β h n β h' n := ext_put hb hg
        have H' : HR W0 β h' n { w with heap := w.heap.setIfInBounds b.blk (.deferred none) } := HH.kill ho hb hg (fun k hk => setObj_other hk) setObj_size (setObj_below hown)
        have hE : Ends P W0 f0 cs0 B0 r { F with defers := [] ++ Ds } CS _ := G _ _ _ _ _ _ _ e β _ CS _ lo ⟨H', ⟨⟨hfi.fn, hfi.sz, hfi.kind, hds, hfi.round⟩, ⟨hm, hR⟩⟩, StackR.congr (i := ⟨fn, sz, d :: ds, round⟩) rfl rfl (StackR.more (M.toB hlo) HS), hlo⟩
        exact hE.step (r_collected hm hF hrun)
    | cells => exact (bad_ne e).elim
    | map => exact (bad_ne e).elim
    | loop => exact (bad_ne e).elim
    | iter => exact (bad_ne e).elim
    | ro => exact (bad_ne e).elim
  | nil =>
    replace e : om (E.fns.get fn) (fun f => resultsK f h E.tys regs fun v => popK v cs h n go) = .ok r := e
    replace e := om_ok e; obtain ⟨f, hf, e⟩ := e
    replace e := results_ok (P := P) HE e; obtain ⟨v, e, hsp⟩ := e
    obtain ⟨val, hv, hrun⟩ := hsp W0 β n w HH F.tmps hR
    have hFd : F.defers = [] := by
      cases hF : F.defers with
      | nil => rfl
      | cons D Ds => simp only at hd; rw [hF] at hd; exact hd.elim
    have hfn : F.fn = fn := hfi.fn
    have hleave : F.leaving P w (.returned val) := ⟨hm, hFd, hfi.kind, f, by rw [hfn]; exact (HE.fns fn f hf).1, hrun⟩
    cases cs with
    | nil =>
      replace e : Out.ok ⟨v, h, n⟩ = .ok r := e
      cases e
      obtain ⟨rfl, h2, _, hb⟩ := HS
      exact ⟨_, Rz.le.refl _, β, val, w, F, hv, .refl _ _, hleave, by rw [hfn]; exact h2, HH, ⟨Nat.le_refl _, hb.sub, hb.pend⟩, Nat.le_trans hb.le hlo⟩
    | cons c cs =>
      cases CS with
      | nil => exact HS.elim
      | cons C CS => exact (pop_ok G e HH HS hlo hv).step (step_leave_returned hleave)

theorem run_beginRound {l : Nat} {L : Loop} (hl : w.heap[l]? = some (.loop L)) (hs : L.state = .ready) :
    (Instr.beginRound l).run P w = .ok () { w with heap := w.heap.setIfInBounds l (.loop { L with state := .busy }) } := by
  simp [Instr.beginRound, Instr.getLoop, getObj, setObj, Sem.run, hl, hs]

theorem run_endLoop {l : Nat} {L : Loop} (hl : w.heap[l]? = some (.loop L)) (hs : L.state ≠ .busy) :
    (Instr.endLoop l).run P w = .ok L.pending { w with heap := w.heap.setIfInBounds l (.loop { L with state := .exhausted }) } := by
  simp [Instr.endLoop, Instr.getLoop, getObj, setObj, Sem.run, hl, hs]

include G in
theorem beginRound_ok (e : (om i.round fun l => om (h.get l) (beginRoundK l h fun h => go i regs t cs h n)) = .ok r) (S : Sim P E.tys W0 f0 cs0 B0 lo β i regs (.beginRound :: t) cs h n F CS w) : Ends P W0 f0 cs0 B0 r F CS w := by
  obtain ⟨HH, ⟨hfi, hB⟩, HS, hlo⟩ := S
  obtain ⟨hm, hT, hR⟩ : F.mode = .run ∧ TodoR β (.beginRound :: t) F.todo ∧ RegsR β regs F.tmps no := hB
  obtain ⟨b', T, hF, rfl, hT'⟩ := hT.cons
  replace e := om_ok e; obtain ⟨l, hl, e⟩ := e
  replace e := om_ok e; obtain ⟨o, ho, e⟩ := e
  have hround := hfi.round
  simp only at hround
  rw [hl] at hround
  obtain ⟨k, hFr, b, hb, rfl⟩ := hround
  cases o with
  | loop st pending fn sz lregs ps assign body d =>
    cases st <;> try exact (bad_ne e).elim
    replace e := setK_ok e; obtain ⟨h', e, hg⟩ := e
    obtain ⟨L, bd, h1, h2, h3, h4, h5, h6, h7, h8, h9, h10, h11⟩ := HH.obj l _ b ho hb
    have hdom := HH.dom l b hb
    have hown := HH.own l _ b ho rfl hb
    have M : More β h n β h' n := ext_put hb hg
    have H' : HR W0 β h' n { w with heap := w.heap.setIfInBounds b.blk (.loop { L with state := .busy }) } := HH.put ho hb hg (fun k hk => setObj_other hk) setObj_size (setObj_below hown) (by
      rw [setObj_at hdom.2]
      exact ⟨_, bd, rfl, rfl, h3, h4, h5, h6, h7, h8, h9, h10, h11⟩)
    have hE : Ends P W0 f0 cs0 B0 r { F with todo := T } CS _ := G _ _ _ _ _ _ _ e β _ CS _ lo ⟨H', ⟨⟨hfi.fn, hfi.sz, hfi.kind, hfi.defers, hfi.round⟩, bodyR_of hm hT' hR⟩, StackR.more (M.toB hlo) HS, hlo⟩
    exact hE.step (r_beginRound hm hF hFr (run_beginRound h1 h2))
  | cells => exact (bad_ne e).elim
  | map => exact (bad_ne e).elim
  | deferred => exact (bad_ne e).elim
  | iter => exact (bad_ne e).elim
  | ro => exact (bad_ne e).elim

include G in
theorem endRange_ok {l : Nat} (e : (om (h.get l) (endRangeK l h fun h p => match p with | none => go i regs t cs h n | some c => go i regs (.code c :: t) cs h n)) = .ok r)
    (S : Sim P E.tys W0 f0 cs0 B0 lo β i regs (.endRange l :: t) cs h n F CS w) : Ends P W0 f0 cs0 B0 r F CS w := by
  obtain ⟨HH, ⟨hfi, hB⟩, HS, hlo⟩ := S
  obtain ⟨hm, hT, hR⟩ : F.mode = .run ∧ TodoR β (.endRange l :: t) F.todo ∧ RegsR β regs F.tmps no := hB
  obtain ⟨b', T, hF, ⟨k, rfl, b, hb, rfl⟩, hT'⟩ := hT.cons
  replace e := om_ok e; obtain ⟨o, ho, e⟩ := e
  cases o with
  | loop st pending fn sz lregs ps assign body d =>
    have hst : ∃ h', (match pending with | none => go i regs t cs h' n | some c => go i regs (.code c :: t) cs h' n) = .ok r ∧ st ≠ .busy ∧ ∀ j, h'.get j = if j = l then some (.loop .exhausted pending fn sz lregs ps assign body d) else h.get j := by
      cases st <;> first | exact (bad_ne e).elim | (replace e := setK_ok e; obtain ⟨h', e, hg⟩ := e; exact ⟨h', e, by decide, hg⟩)
    obtain ⟨h', e, hst, hg⟩ := hst
    obtain ⟨L, bd, h1, h2, h3, h4, h5, h6, h7, h8, h9, h10, h11⟩ := HH.obj l _ b ho hb
    have hdom := HH.dom l b hb
    have hown := HH.own l _ b ho rfl hb
    have M : More β h n β h' n := ext_put hb hg
    have H' : HR W0 β h' n { w with heap := w.heap.setIfInBounds b.blk (.loop { L with state := .exhausted }) } := HH.put ho hb hg (fun k hk => setObj_other hk) setObj_size (setObj_below hown) (by
      rw [setObj_at hdom.2]
      exact ⟨_, bd, rfl, rfl, h3, h4, h5, h6, h7, h8, h9, h10, h11⟩)
    have hE : ∀ w1, HR W0 β h' n w1 → Ends P W0 f0 cs0 B0 r { F with todo := (L.pending.map Item.code).toList ++ T } CS w1 := by
      intro w1 H'
      rw [h3]
      cases pending with
      | none => exact G _ _ _ _ _ _ _ e β _ CS _ lo ⟨H', ⟨⟨hfi.fn, hfi.sz, hfi.kind, hfi.defers, hfi.round⟩, bodyR_of hm hT' hR⟩, StackR.more (M.toB hlo) HS, hlo⟩
      | some c => exact G _ _ _ _ _ _ _ e β _ CS _ lo ⟨H', ⟨⟨hfi.fn, hfi.sz, hfi.kind, hfi.defers, hfi.round⟩, bodyR_of hm ⟨rfl, hT'⟩ hR⟩, StackR.more (M.toB hlo) HS, hlo⟩
    exact (hE _ H').step (r_endRange hm hF (run_endLoop h1 (by rw [h2]; exact hst)))
  | cells => exact (bad_ne e).elim
  | map => exact (bad_ne e).elim
  | deferred => exact (bad_ne e).elim
  | iter => exact (bad_ne e).elim
  | ro => exact (bad_ne e).elim
end

end Go.Mir
namespace Go.Mir
open Go Go.RowKit

theorem gotoK_ok {β : Beta} {l : Nat} {k : List It → Out} {r : Rz} : ∀ {todo : List It} {T : List Item}, gotoK l todo k = .ok r → TodoR β todo T →
    ∃ t T', k t = .ok r ∧ Go.gotoIn l T = some T' ∧ TodoR β t T'
  | [], _, e, _ => (bad_ne e).elim
  | _ :: _, [], _, hT => hT.elim
  | i :: t, b :: T, e, hT => by
    have rest : gotoK l t k = .ok r → Go.gotoIn l (b :: T) = Go.gotoIn l T → ∃ t T', k t = .ok r ∧ Go.gotoIn l (b :: T) = some T' ∧ TodoR β t T' := fun e h => by
      rw [h]; exact gotoK_ok e hT.2
    have hI := hT.1
    cases i with
    | inScope body =>
      have hI : b = .inScope body := hI
      subst hI
      replace e : (match Go.findLabel body l with | some rest => k (.code rest :: .inScope body :: t) | none => gotoK l t k) = .ok r := e
      cases hf : Go.findLabel body l with
      | some c =>
        rw [hf] at e
        exact ⟨.code c :: .inScope body :: t, .code c :: .inScope body :: T, e, by simp only [Go.gotoIn, hf], ⟨rfl, rfl, hT.2⟩⟩
      | none =>
        rw [hf] at e
        exact rest e (by simp only [Go.gotoIn, hf])
    | reg all rem => obtain ⟨ops, L, hb, _⟩ := hI; subst hb; exact rest e rfl
    | code c => have hI : b = .code c := hI; subst hI; exact rest e rfl
    | inBlock id => have hI : b = .inBlock id := hI; subst hI; exact rest e rfl
    | inLoop c => have hI : b = .inLoop c := hI; subst hI; exact rest e rfl
    | inRange l => obtain ⟨k, hb, _⟩ := hI; subst hb; exact rest e rfl
    | endRange l => obtain ⟨k, hb, _⟩ := hI; subst hb; exact rest e rfl
    | beginRound => have hI : b = .beginRound := hI; subst hI; exact rest e rfl
    | dreg _ _ => exact hI.elim
    | fin => exact hI.elim

theorem exitK_ok {β : Beta} {id : Nat} {kn : Out} {k : List It → Out} {r : Rz} : ∀ {todo : List It} {T : List Item}, exitK id todo kn k = .ok r → TodoR β todo T →
    (kn = .ok r ∧ exitTo id T = none) ∨ (∃ t T', k t = .ok r ∧ exitTo id T = some T' ∧ TodoR β t T')
  | [], [], e, _ => .inl ⟨e, rfl⟩
  | [], _ :: _, _, hT => hT.elim
  | _ :: _, [], _, hT => hT.elim
  | i :: t, b :: T, e, hT => by
    have rest : exitK id t kn k = .ok r → exitTo id (b :: T) = exitTo id T → (kn = .ok r ∧ exitTo id (b :: T) = none) ∨ (∃ t T', k t = .ok r ∧ exitTo id (b :: T) = some T' ∧ TodoR β t T') := fun e h => by
      rw [h]; exact exitK_ok e hT.2
    have hI := hT.1
    cases i with
    | inBlock id' =>
      have hI : b = .inBlock id' := hI
      subst hI
      replace e : (Bool.rec (exitK id t kn k) (k t) (Nat.beq id' id) : Out) = .ok r := e
      rcases rec_ok e with ⟨hb, e2⟩ | ⟨hb, e2⟩
      · have := beq_of hb
        subst this
        exact .inr ⟨t, T, e2, by simp [exitTo], hT.2⟩
      · have hne : (id' == id) = false := by
          cases h : id' == id with
          | false => rfl
          | true => have := beq_iff_eq.1 h; subst this; simp at hb
        refine rest e2 (by simp only [exitTo, hne]; rfl)
    | reg all rem => obtain ⟨ops, L, rfl, _⟩ := hI; exact rest e rfl
    | code c => have hI : b = .code c := hI; subst hI; exact rest e rfl
    | inLoop c => have hI : b = .inLoop c := hI; subst hI; exact rest e rfl
    | inScope c => have hI : b = .inScope c := hI; subst hI; exact rest e rfl
    | inRange c => obtain ⟨k, rfl, _⟩ := hI; exact rest e rfl
    | endRange c => obtain ⟨k, rfl, _⟩ := hI; exact rest e rfl
    | beginRound => have hI : b = .beginRound := hI; subst hI; exact rest e rfl
    | dreg all sc => exact hI.elim
    | fin => exact hI.elim

section
variable {P : Program} {E : Env} {W0 : World} {f0 : Nat} {cs0 : List Frame} {B0 : Bs} {r : Rz} {go : Go_} (G : Good P E.tys W0 f0 cs0 B0 go) (HE : EnvR P E)
variable {i : Fi} {regs : T V} {t : List It} {cs : List Fr} {h : T O} {n : Nat} {β : Beta} {F : Frame} {CS : List Frame} {w : World} {lo : Nat}

include G HE in
theorem range_ok {f : Operand} {ps : Array Nat} {assign body : Code} (e : (ev regs f (stRange E i regs t cs h n go ps assign body)) = .ok r)
    (S : Sim P E.tys W0 f0 cs0 B0 lo β i regs (.code (.rangeFunc f ps assign body) :: t) cs h n F CS w) : Ends P W0 f0 cs0 B0 r F CS w := by
  obtain ⟨HH, ⟨hfi, hB⟩, HS, hlo⟩ := S
  obtain ⟨hm, hT, hR⟩ : F.mode = .run ∧ TodoR β (.code (.rangeFunc f ps assign body) :: t) F.todo ∧ RegsR β regs F.tmps no := hB
  obtain ⟨b', T, hF, rfl, hT'⟩ := hT.cons
  replace e := ev_ok e; obtain ⟨vf, e, hvf⟩ := e
  have hcf := hvf β F.eval (agree_eval hR fun _ _ h => h)
  obtain ⟨fn, sz, defers, round⟩ := i
  have hround := hfi.round
  cases round with
  | none =>
    have hFr : F.roundOf = none := hround
    replace e : newO h n .deferred (fun h n1 => newO h n1 (.loop .ready none fn sz regs ps.toList assign body n) fun h n2 =>
        callK E vf [.yield n1] ⟨⟨fn, sz, n :: defers, none⟩, regs, .inRange n1 :: t⟩ cs h n2 go fun _ _ _ => bad 193) = .ok r := e
    replace e := setK_ok e; obtain ⟨h1, e, hg1⟩ := e
    rw [fNat_eq] at e
    replace e := setK_ok e; obtain ⟨h2, e, hg2⟩ := e
    rw [fNat_eq] at e
    have hfree : β n = none := HH.free (Nat.le_refl n)
    have H1 := (HH.new hg1).alloc (o := .deferred) (b := ⟨w.heap.size, 0, 0⟩) (ob := .deferred (some [])) (by omega) hfree (by rw [hg1, if_pos rfl]) rfl rfl
    have M1 : More β h n (upd β n ⟨w.heap.size, 0, 0⟩) h1 (n + 1) := ext_new hfree hg1
    have hfree1 : upd β n ⟨w.heap.size, 0, 0⟩ (n + 1) = none := H1.free (Nat.le_refl (n + 1))
    have M2 := ext_new (h := h1) (b := ⟨w.heap.size + 1, 0, 0⟩) hfree1 hg2
    have M := M1.trans M2
    have hsize : (w.alloc (.deferred (some []))).heap.size = w.heap.size + 1 := by simp
    have hbn : upd (upd β n ⟨w.heap.size, 0, 0⟩) (n + 1) ⟨w.heap.size + 1, 0, 0⟩ n = some ⟨w.heap.size, 0, 0⟩ := by simp [upd]
    have H2 := (H1.new hg2).alloc (o := .loop .ready none fn sz regs ps.toList assign body n) (b := ⟨w.heap.size + 1, 0, 0⟩)
      (ob := .loop { state := .ready, pending := none, fn := F.fn, tmps := F.tmps, params := ps, assign, body, defers := w.heap.size }) (by omega) hfree1 (by rw [hg2, if_pos rfl]) (by simp)
      ⟨_, ⟨w.heap.size, 0, 0⟩, rfl, rfl, rfl, hfi.fn, hfi.sz, hR.mono M.le, rfl, rfl, rfl, hbn, rfl⟩
    have hrun : (Instr.enterLoop F.fn F.tmps ps assign body F.roundOf).run P w = .ok (w.heap.size + 1, [{ target := .collected w.heap.size, args := #[] }])
        ((w.alloc (.deferred (some []))).alloc (.loop { state := .ready, pending := none, fn := F.fn, tmps := F.tmps, params := ps, assign, body, defers := w.heap.size })) := by
      rw [hFr]
      simp [Instr.enterLoop, newObj, Sem.run, World.alloc_eq]
    have hbl : bAt (upd (upd β n ⟨w.heap.size, 0, 0⟩) (n + 1) ⟨w.heap.size + 1, 0, 0⟩) (n + 1) (w.heap.size + 1) := ⟨_, upd_self, rfl⟩
    have HW : ∀ hi, WaitR P E.tys lo hi (upd (upd β n ⟨w.heap.size, 0, 0⟩) (n + 1) ⟨w.heap.size + 1, 0, 0⟩) h2 ⟨⟨fn, sz, n :: defers, none⟩, regs, .inRange (n + 1) :: t⟩
        { F with todo := .inRangeFunc (w.heap.size + 1) :: T, defers := [{ target := .collected w.heap.size, args := #[] }] ++ F.defers } :=
      fun hi => ⟨⟨hfi.fn, hfi.sz, hfi.kind, ⟨⟨_, ⟨_, hbn, rfl⟩, rfl⟩, hfi.defers.mono M.le⟩, hFr⟩, hm, ⟨⟨_, rfl, hbl⟩, hT'.mono M.le⟩, hR.mono M.le⟩
    refine outc_ok G (callK_ok HE e) (s := invV (F.eval f) #[.func (.yield (w.heap.size + 1)) #[] #[]]) H2 (HW _) (StackR.congr (i := ⟨fn, sz, defers, none⟩) rfl rfl (StackR.more (M.toB hlo) HS)) (by omega) ?_
      (fun F1 CS1 w1 h1 => step_lone_go (by rw [stepG_range hm hF hrun]; exact h1)) (fun d a b c t hc => by cases hc) (fun v h' n' r e => (bad_ne e).elim)
    obtain ⟨b, hb1, hb2⟩ := hbl
    exact ⟨_, [.func (.yield (w.heap.size + 1)) #[] #[]], conc_mono M.le _ _ hcf, by simp [concL, conc, hb1, hb2], rfl⟩
  | some l =>
    obtain ⟨kb, hFr, b, hb, rfl⟩ := hround
    replace e : om (h.get l) (stRangeIn E ⟨fn, sz, defers, some l⟩ regs t cs h n go vf ps assign body) = .ok r := e
    replace e := om_ok e; obtain ⟨o, ho, e⟩ := e
    cases o with
    | loop st pending lfn lsz lregs lps lassign lbody d =>
      replace e : newO h n (.loop .ready none fn sz regs ps.toList assign body d) (fun h n1 =>
        callK E vf [.yield n] ⟨⟨fn, sz, defers, some l⟩, regs, .inRange n :: t⟩ cs h n1 go fun v h n2 => finIt ⟨fn, sz, defers, some l⟩ regs v t (fun regs todo => go ⟨fn, sz, defers, some l⟩ regs todo cs h n2) (.inRange n)) = .ok r := e
      replace e := setK_ok e; obtain ⟨h1, e, hg1⟩ := e
      rw [fNat_eq] at e
      obtain ⟨L, bd, a1, a2, a3, a4, a5, a6, a7, a8, a9, a10, a11⟩ := HH.obj l _ b ho hb
      have hfree : β n = none := HH.free (Nat.le_refl n)
      have M : More β h n (upd β n ⟨w.heap.size, 0, 0⟩) h1 (n + 1) := ext_new hfree hg1
      have H1 := (HH.new hg1).alloc (o := .loop .ready none fn sz regs ps.toList assign body d) (b := ⟨w.heap.size, 0, 0⟩)
        (ob := .loop { state := .ready, pending := none, fn := F.fn, tmps := F.tmps, params := ps, assign, body, defers := L.defers }) (by omega) hfree (by rw [hg1, if_pos rfl]) rfl
        ⟨_, bd, rfl, rfl, rfl, hfi.fn, hfi.sz, hR.mono M.le, rfl, rfl, rfl, M.le _ _ a10, a11⟩
      have hrun : (Instr.enterLoop F.fn F.tmps ps assign body F.roundOf).run P w = .ok (w.heap.size, [])
          (w.alloc (.loop { state := .ready, pending := none, fn := F.fn, tmps := F.tmps, params := ps, assign, body, defers := L.defers })) := by
        rw [hFr]
        simp [Instr.enterLoop, Instr.getLoop, getObj, newObj, Sem.run, World.alloc_eq, a1]
      have hbl : bAt (upd β n ⟨w.heap.size, 0, 0⟩) n w.heap.size := ⟨_, upd_self, rfl⟩
      have HW : ∀ hi, WaitR P E.tys lo hi (upd β n ⟨w.heap.size, 0, 0⟩) h1 ⟨⟨fn, sz, defers, some l⟩, regs, .inRange n :: t⟩
          { F with todo := .inRangeFunc w.heap.size :: T, defers := [] ++ F.defers } :=
        fun hi => ⟨⟨hfi.fn, hfi.sz, hfi.kind, hfi.defers.mono M.le, hfi.round.mono M.le⟩, hm, ⟨⟨_, rfl, hbl⟩, hT'.mono M.le⟩, hR.mono M.le⟩
      have HS' := StackR.more (M.toB hlo) HS
      refine outc_ok G (callK_ok HE e) (s := invV (F.eval f) #[.func (.yield w.heap.size) #[] #[]]) H1 (HW _) HS' (by omega) ?_
        (fun F1 CS1 w1 h1 => step_lone_go (by rw [stepG_range hm hF hrun]; exact h1)) (fun d a b c t hc => by cases hc) (fun v h' n' r e β' val w' H' M' hv => ?_)
      · exact ⟨_, [.func (.yield w.heap.size) #[] #[]], conc_mono M.le _ _ hcf, by simp [concL, conc, upd_self], rfl⟩
      · replace e : go ⟨fn, sz, defers, some l⟩ regs (.endRange n :: t) cs h' n' = .ok r := e
        have M2 := M.trans M'
        refine G _ _ _ _ _ _ _ e β' { F with todo := .endRangeFunc w.heap.size :: T, defers := [] ++ F.defers } CS w' lo ⟨H', ⟨⟨hfi.fn, hfi.sz, hfi.kind, hfi.defers.mono M2.le, hfi.round.mono M2.le⟩,
          bodyR_of hm ⟨⟨_, rfl, hbl.mono M'.le⟩, hT'.mono M2.le⟩ (hR.mono M2.le)⟩, StackR.more (M2.toB hlo) HS, Nat.le_trans hlo M2.lt⟩
    | cells => exact (bad_ne e).elim
    | map => exact (bad_ne e).elim
    | deferred => exact (bad_ne e).elim
    | iter => exact (bad_ne e).elim
    | ro => exact (bad_ne e).elim

theorem range_map {ops : Array Oper} : (List.range ops.size).map (fun i => ops[i]?) = ops.toList.map some := by
  apply List.ext_getElem?
  intro j
  simp only [List.getElem?_map]
  rcases Nat.lt_or_ge j ops.size with h | h
  · rw [List.getElem?_range h]
    simp [Array.getElem?_eq_getElem h]
  · rw [List.getElem?_eq_none (by simpa using h), List.getElem?_eq_none (by simpa using h)]; rfl

include G HE in
theorem code_ok {c : Code} (e : stCode E i regs t cs h n go c = .ok r) (S : Sim P E.tys W0 f0 cs0 B0 lo β i regs (.code c :: t) cs h n F CS w)
    (hdraw : ∀ id ops, c = .region id ops true → Ends P W0 f0 cs0 B0 r F CS w) : Ends P W0 f0 cs0 B0 r F CS w := by
  have S0 := S
  obtain ⟨HH, ⟨hfi, hB⟩, HS, hlo⟩ := S
  obtain ⟨hm, hT, hR⟩ : F.mode = .run ∧ TodoR β (.code c :: t) F.todo ∧ RegsR β regs F.tmps no := hB
  obtain ⟨b', T, hF, rfl, hT'⟩ := hT.cons
  have cont : ∀ (t' : List It) (k : List Item), go i regs t' cs h n = .ok r → TodoR β t' k → Ends P W0 f0 cs0 B0 r { F with todo := k } CS w := fun t' k e hk =>
    G _ _ _ _ _ _ _ e β _ CS w lo ⟨HH, ⟨⟨hfi.fn, hfi.sz, hfi.kind, hfi.defers, hfi.round⟩, bodyR_of hm hk hR⟩, HS, hlo⟩
  cases c with
  | skip => exact (cont _ _ e hT').step (r_skip hm hF)
  | label l => exact (cont _ _ e hT').step (r_label hm hF)
  | region id ops draw =>
    cases draw with
    | true => exact hdraw id ops rfl
    | false => exact (cont _ (.inRegion ops (List.range ops.size) :: T) e ⟨⟨ops, _, rfl, rfl, range_map⟩, hT'⟩).step (r_region hm hF)
  | seq a b => exact (cont _ (.code a :: .code b :: T) e ⟨rfl, rfl, hT'⟩).step (r_seq hm hF)
  | cond c a b =>
    replace e := ev_ok e; obtain ⟨v, e, hv⟩ := e
    have hc := hv β F.eval (agree_eval hR fun _ _ h => h)
    unfold condK at e
    split at e
    · rename_i r'
      have hc : F.eval c = .bool r' := by simpa [conc] using hc.symm
      refine (cont (.code (if r' then a else b) :: t) (.code (if r' then a else b) :: T) ?_ ⟨rfl, hT'⟩).step (r_cond hm hF hc)
      cases r' <;> exact e
    · exact (bad_ne e).elim
  | block id body => exact (cont _ (.code body :: .inBlock id :: T) e ⟨rfl, rfl, hT'⟩).step (r_block hm hF)
  | loop body => exact (cont _ (.code body :: .inLoop body :: T) e ⟨rfl, rfl, hT'⟩).step (r_loop hm hF)
  | scope body => exact (cont _ (.code body :: .inScope body :: T) e ⟨rfl, rfl, hT'⟩).step (r_scope hm hF)
  | exit id =>
    replace e : exitK id t (leaveK (some (.exit id)) i regs cs h n go) (fun t => go i regs t cs h n) = .ok r := e
    rcases exitK_ok e hT' with ⟨e, hx⟩ | ⟨t', T', e, hx, hT2⟩
    · exact leave_ok G e HH hfi hR HS hlo (fun _ hj => by rcases hj with hj | hj <;> cases hj) (fun l C CS' v w' hCS hFr hrun => by subst hCS; exact r_roundExit hm hF hx hFr hfi.kind hrun)
    · exact (cont _ _ e hT2).step (r_exit hm hF hx)
  | ret =>
    replace e : leaveK (some .ret) i regs cs h n go = .ok r := e
    exact leave_ok G e HH hfi hR HS hlo (fun hr _ => r_ret hm hF hr) (fun l C CS' v w' hCS hFr hrun => by subst hCS; exact r_roundRet hm hF hFr hfi.kind hrun)
  | rangeFunc f ps assign body => exact range_ok G HE e S0
  | goto l =>
    replace e : gotoK l t (fun t => go i regs t cs h n) = .ok r := e
    obtain ⟨t', T', e, hx, hT2⟩ := gotoK_ok e hT'
    exact (cont _ _ e hT2).step (r_goto hm hF hx)
  | refuse why => exact (bad_ne e).elim
end

end Go.Mir
namespace Go.Mir
open Go Go.RowKit

theorem pureK_al {tys : T TI} {h : T O} {regs : T V} {op : Op} (ha : isAl tys op = true) (k : V → Out) (kn : Out) : pureK tys h regs op k kn = kn := by
  cases op <;> first | rfl | (cases ha; done) | skip
  case convert s d x =>
    have ha : toBytes tys d = true := ha
    show (Bool.rec (ev regs x fun x => convK tys h s d x k) kn (toBytes tys d) : Out) = kn
    rw [ha]

theorem allocK_al {tys : T TI} {regs : T V} {op : Op} (ha : isAl tys op = false) (k : O → (Nat → V) → Out) (kn : Out) : allocK tys regs op k kn = kn := by
  cases op <;> first | rfl | (cases ha; done) | skip
  case convert s d x =>
    have ha : toBytes tys d = false := ha
    show (Bool.rec kn (om (tys.get s) fun _ => ev regs x fun x => bytesOfK tys d x k) (toBytes tys d) : Out) = kn
    rw [ha]

section
variable {P : Program} {tys : T TI} (HT : TysR P tys) {lo : Nat} {β : Beta} {all : List Oper} {tmps : Array Value} {L D l : List Nat} {last : Option Nat}

/-- what i makes is not looked at by what is worked out before it -/
theorem free_of {seen : List Nat} {i x : Nat} (hdd : nodupD all = true) (hx : x ∈ seen) (hi : i ∉ seen) (hw : Wr all L seen x) {o : Oper} {d : Nat} (ho : all[i]? = some o) (hd : o.dst = some d)
    (hnot : ¬ Prec L x i) : Free all d x := by
  intro ox hox
  refine ⟨fun hin => ?_, fun g w hg og hog hgd => ?_, fun hxd => ?_⟩
  · rcases (hw ox hox).1 d hin i o ho hd with ⟨h1, _⟩ | h1
    · exact hi h1
    · exact hnot h1
  · have := nodupD_ok hdd g i og o d hog ho hgd hd
    subst this
    exact hi ((hw ox hox).2 _ _ hg).1
  · have := nodupD_ok hdd x i ox o d hox ho hxd hd
    subst this
    exact hi hx

def FreshR (P : Program) (tys : T TI) (all : List Oper) (h : T O) (regs : T V) (l seen must : List Nat) : Prop := ∀ x ∈ seen, x ∈ l → x ∈ must ∨ LateP P tys all h regs x

theorem late_in {h : T O} {hi : Nat} {regs : T V} {sc : List Sc} {seen evd must al : List Nat} {idf : Nat → Nat} (S : DS P tys lo hi β h regs all tmps sc L D l seen last evd must al idf) {i : Nat} {o : Oper} (ho : all[i]? = some o) (hi : i ∉ seen) : i ∈ l := by
  have := S.lin.mem i (lt_of_get ho)
  rw [S.split] at this
  rcases List.mem_append.1 this with h | h
  · exact absurd (S.done i h) hi
  · exact h

/-- an operation is worked out: what it makes is put into its place -/
theorem DS.ev {h h' : T O} {n n' : Nat} {regs regs' : T V} {sc : List Sc} {seen evd must al al' : List Nat} {idf idf' : Nat → Nat} {i : Nat} {o : Oper} {v : V} 
    (S : DS P tys lo n β h regs all tmps (.ev i :: sc) L D l seen last evd must al idf) (hF : FreshR P tys all h regs l seen must) (ho : all[i]? = some o) (hdl : ∀ d, o.dst = some d → d < tmps.size)
    (hg : ∀ t, regs'.get t = if o.dst = some t then some v else regs.get t) (M : MoreB n β h n β h' n') (hsub : ∀ j x, h.get j = some x → h'.get j = some x)
    (hal : (al' = al ∧ idf' = idf) ∨ (al' = i :: al ∧ idf' = (fun y => if y = i then n else idf y) ∧ lo ≤ n ∧ n < n'))
    (hlg : LateG P tys all β h' regs' al' idf' i) (hlp : LateP P tys all h' regs' i) :
    DS P tys lo n' β h' regs' all tmps sc L D l (i :: seen) last (i :: evd) must al' idf' ∧ FreshR P tys all h' regs' l (i :: seen) must := by
  obtain ⟨_, hin, _, hwr, hrd, st⟩ := S.st.ev S.lin
  have hil := late_in S ho hin
  have hL : ∀ x ∈ l, x ∈ L := fun x hx => by rw [S.split]; simp [hx]
  have hfree : ∀ d, o.dst = some d → ∀ x ∈ seen, x ∈ l → Free all d x := by
    intro d hd x hx hxl
    by_cases hp : Prec L x i
    · -- x is to come, so it does not look at what i makes
      intro ox hox
      refine ⟨fun hxin => ?_, fun g w hg' og hog hgd => ?_, fun hxd => ?_⟩
      · exact Prec.asymm S.lin.nodup hp (hrd o d ho hd x ox hox hxin) (hL i hil)
      · have := nodupD_ok S.dd g i og o d hog ho hgd hd
        subst this
        exact hin (((S.wr x hx hxl).1 ox hox).2 _ _ hg').1
      · have := nodupD_ok S.dd x i ox o d hox ho hxd hd
        subst this
        exact hin hx
    · exact free_of S.dd hx hin (S.wr x hx hxl).1 ho hd hp
  have hi_al : i ∉ al := fun h => hin (S.al1 i h).1
  have hidf : ∀ x ∈ seen, idf' x = idf x := by
    intro x hx
    rcases hal with ⟨_, rfl⟩ | ⟨_, rfl, _, _⟩
    · rfl
    · have : x ≠ i := fun e => hin (e ▸ hx)
      simp [this]
  have hal_sub : ∀ x ∈ al, x ∈ al' := by
    intro x hx
    rcases hal with ⟨rfl, _⟩ | ⟨rfl, _⟩
    · exact hx
    · exact List.mem_cons_of_mem _ hx
  refine ⟨⟨S.lin, S.dd, S.split, st, fun x hx => List.mem_cons_of_mem _ (S.done x hx), fun x hx hxl => ?_, S.lastD, fun x hx hxl => ?_, fun x hx hxl => ?_, fun x hx => ?_, fun x hx y hy e => ?_, fun t u hu hns => ?_, fun x hx hxl ox d hox hd => ?_⟩, fun x hx hxl => ?_⟩
  · cases hx with
    | head => simp
    | tail _ hx => exact List.mem_cons_of_mem _ (S.late x hx hxl)
  · cases hx with
    | head => exact ⟨hwr.more fun x hx => List.mem_cons_of_mem _ hx, hrd⟩
    | tail _ hx => exact ⟨(S.wr x hx hxl).1.more fun x hx => List.mem_cons_of_mem _ hx, (S.wr x hx hxl).2⟩
  · cases hx with
    | head => exact hlg
    | tail _ hx =>
      have h1 := ((S.lg x hx hxl).more M fun hx => (S.al1 x hx).2.2).set hg fun d hd => hfree d hd x hx hxl
      intro ox hox
      obtain ⟨b, a1, a2, a3⟩ := h1 ox hox
      exact ⟨b, a1, a2, fun hb ha => let ⟨c1, c2⟩ := a3 hb ha; ⟨hal_sub x c1, by rw [hidf x hx]; exact c2⟩⟩
  · rcases hal with ⟨rfl, rfl⟩ | ⟨rfl, rfl, h1, h2⟩
    · obtain ⟨a, b, c⟩ := S.al1 x hx
      exact ⟨List.mem_cons_of_mem _ a, b, Nat.lt_of_lt_of_le c M.lt⟩
    · cases hx with
      | head => exact ⟨by simp, by simp [h1], by simp [h2]⟩
      | tail _ hx =>
        obtain ⟨a, b, c⟩ := S.al1 x hx
        rw [hidf x a]
        exact ⟨List.mem_cons_of_mem _ a, b, Nat.lt_of_lt_of_le c M.lt⟩
  · rcases hal with ⟨rfl, rfl⟩ | ⟨rfl, rfl, h1, h2⟩
    · exact S.inj x hx y hy e
    · cases hx with
      | head =>
        cases hy with
        | head => rfl
        | tail _ hy =>
          obtain ⟨a, b, c⟩ := S.al1 y hy
          rw [hidf y a] at e
          simp at e; omega
      | tail _ hx =>
        obtain ⟨a, b, c⟩ := S.al1 x hx
        cases hy with
        | head =>
          rw [hidf x a] at e
          simp at e; omega
        | tail _ hy =>
          obtain ⟨a', b', c'⟩ := S.al1 y hy
          rw [hidf x a, hidf y a'] at e
          exact S.inj x hx y hy e
  · rw [hg] at hu
    by_cases e : o.dst = some t
    · exact absurd ⟨i, by simp, hil, o, ho, e⟩ hns
    · rw [if_neg e] at hu
      exact S.regs t u hu fun ⟨x, h1, h2, h3⟩ => hns ⟨x, List.mem_cons_of_mem _ h1, h2, h3⟩
  · cases hx with
    | head => rw [ho] at hox; cases hox; exact hdl d hd
    | tail _ hx => exact S.dl x hx hxl ox d hox hd
  · cases hx with
    | head => exact .inr hlp
    | tail _ hx =>
      rcases hF x hx hxl with h1 | h1
      · exact .inl h1
      · refine .inr (LateP.set (fun ox hox hw ha => ?_) hg fun d hd => hfree d hd x hx hxl)
        obtain ⟨rq, hq, u, a1, a2, a3, a4⟩ := h1 ox hox hw ha
        exact ⟨rq, hq, u, a1, a2, fun j y hj => hsub j y (a3 j y hj), a4⟩

include HT in
/-- between two of the row: everything that may be done there is worked out -/
theorem gap_ok {W0 : World} {w : World} {sz : Nat} (hsz : tmps.size = sz) {k : List Sc → T V → T O → Nat → Out} {r : Rz} : ∀ (sc : List Sc) (regs : T V) (h : T O) (n : Nat) (seen evd must al : List Nat) (idf : Nat → Nat),
    gapK tys all sz sc regs h n k = .ok r → DS P tys lo n β h regs all tmps sc L D l seen last evd must al idf → FreshR P tys all h regs l seen must → HR W0 β h n w → lo ≤ n →
    ∃ sc' regs' h' n' seen' evd' must' al' idf', k sc' regs' h' n' = .ok r ∧ (sc' = [] ∨ ∃ c s, sc' = .ch c :: s) ∧ DS P tys lo n' β h' regs' all tmps sc' L D l seen' last evd' must' al' idf' ∧
      FreshR P tys all h' regs' l seen' must' ∧ HR W0 β h' n' w ∧ lo ≤ n' ∧ More β h n β h' n'
  | [], regs, h, n, seen, evd, must, al, idf, e, S, hF, HH, hlo => ⟨[], regs, h, n, seen, evd, must, al, idf, e, .inl rfl, S, hF, HH, hlo, More.refl _ _ _⟩
  | .ch c :: sc, regs, h, n, seen, evd, must, al, idf, e, S, hF, HH, hlo => ⟨.ch c :: sc, regs, h, n, seen, evd, must, al, idf, e, .inr ⟨c, sc, rfl⟩, S, hF, HH, hlo, More.refl _ _ _⟩
  | .re i :: sc, regs, h, n, seen, evd, must, al, idf, e, S, hF, HH, hlo => by
    replace e : (om (nth all i) fun o => wantK all regs o.guard fun b => Bool.rec (gapK tys all sz sc regs h n k) (gapRe tys regs h (gapK tys all sz sc regs h n k) o) b) = .ok r := e
    replace e := om_ok e; obtain ⟨o, ho, e⟩ := e
    rw [nth_eq] at ho
    replace e := wantK_ok e; obtain ⟨b, hb, e⟩ := e
    obtain ⟨_, st⟩ := S.st.re
    have S' : DS P tys lo n β h regs all tmps sc L D l seen last evd (rmN must i) al idf := { S with st := st }
    have old : ∀ x ∈ seen, x ∈ l → x ≠ i → x ∈ rmN must i ∨ LateP P tys all h regs x := fun x hx hxl hne => (hF x hx hxl).imp (fun hm => mem_rmN hm hne) id
    have fresh : (LateP P tys all h regs i) → FreshR P tys all h regs l seen (rmN must i) := fun hi x hx hxl => by
      by_cases hne : x = i
      · subst hne; exact .inr hi
      · exact old x hx hxl hne
    rcases rec_ok e with ⟨rfl, e⟩ | ⟨rfl, e⟩
    · replace e := om_ok e; obtain ⟨d, hd, e⟩ := e
      replace e := om_ok e; obtain ⟨v0, hv0, e⟩ := e
      rcases pureK_ok (P := P) HT e with ⟨v, e, hsp⟩ | e
      · replace e := need_ok e; obtain ⟨hs, e⟩ := e
        have := sameV_eq hs
        subst this
        exact gap_ok hsz sc regs h n seen evd _ al idf e S' (fresh fun o' ho' _ _ => by
          rw [ho] at ho'; cases ho'
          exact ⟨regs, h, v0, hsp, fun _ _ => rfl, fun _ _ hj => hj, fun d' hd' => by rw [hd] at hd'; cases hd'; exact hv0⟩) HH hlo
      · exact (bad_ne e).elim
    · exact gap_ok hsz sc regs h n seen evd _ al idf e S' (fresh fun o' ho' hw _ => by
        rw [ho] at ho'; cases ho'
        rw [hb] at hw; cases hw) HH hlo
  | .ev i :: sc, regs, h, n, seen, evd, must, al, idf, e, S, hF, HH, hlo => by
    replace e : (om (nth all i) fun o => wantK all regs o.guard fun b => Bool.rec (setD regs o.dst sz undefV fun regs => gapK tys all sz sc regs h n k) (gapEv tys regs sz h n (fun regs h n => gapK tys all sz sc regs h n k) o) b) = .ok r := e
    replace e := om_ok e; obtain ⟨o, ho, e⟩ := e
    rw [nth_eq] at ho
    replace e := wantK_ok e; obtain ⟨b, hb, e⟩ := e
    obtain ⟨_, hin, _, hwr, _, _⟩ := S.st.ev S.lin
    have guardKeep : ∀ {regs' : T V} {v : V}, (∀ t, regs'.get t = if o.dst = some t then some v else regs.get t) → wantB all regs' o.guard = some b := fun {regs' v} hg => by
      rw [wantB_set hg fun d hd j w hgd og hog hgo => ?_]; exact hb
      have := nodupD_ok S.dd j i og o d hog ho hgo hd
      subst this
      exact hin ((hwr o ho).2 _ _ hgd).1
    rcases rec_ok e with ⟨rfl, e⟩ | ⟨rfl, e⟩
    · cases ha : isAl tys o.op with
      | false =>
        rcases pureK_ok (P := P) HT e with ⟨v, e, hsp⟩ | e
        · replace e := setD_ok e; obtain ⟨regs', e, hdd, hg⟩ := e
          have hself : SameOn regs regs' o.op := by
            intro t ht
            rw [hg]
            by_cases he : o.dst = some t
            · exfalso
              rcases (hwr o ho).1 t ht i o ho he with ⟨h1, _⟩ | h1
              · exact hin h1
              · have hil := late_in S ho hin
                exact Prec.asymm S.lin.nodup h1 h1 (by rw [S.split]; simp [hil])
            · rw [if_neg he]
          obtain ⟨S', hF'⟩ := S.ev (n' := n) (h' := h) (al' := al) (idf' := idf) hF ho (fun d hd => hsz.symm ▸ hdd d hd) hg ((More.refl β h n).toB (Nat.le_refl n)) (fun _ _ hj => hj) (.inl ⟨rfl, rfl⟩)
            (fun o' ho' => by
              rw [ho] at ho'; cases ho'
              exact ⟨true, guardKeep hg, fun hh => (by cases hh), fun _ h1 => by rw [ha] at h1; cases h1⟩)
            (fun o' ho' _ _ => by
              rw [ho] at ho'; cases ho'
              exact ⟨regs, h, v, hsp, hself, fun _ _ hj => hj, fun d hd => by rw [hg, if_pos hd]⟩)
          exact gap_ok hsz sc regs' h n _ _ must al idf e S' hF' HH hlo
        · rw [allocK_al ha] at e; exact (bad_ne e).elim
      | true =>
        replace e : gapEv tys regs sz h n (fun regs h n => gapK tys all sz sc regs h n k) o = .ok r := e
        unfold gapEv at e
        rw [pureK_al ha] at e
        rcases allocK_ok (P := P) HT e with ⟨ob, vf, e, hsp⟩ | e
        · replace e := need_ok e; obtain ⟨hplain, e⟩ := e
          replace e := setK_ok e; obtain ⟨h1, e, hg1⟩ := e
          rw [fNat_eq] at e
          replace e := setD_ok e; obtain ⟨regs', e, hdd, hg⟩ := e
          have hself : SameOn regs regs' o.op := by
            intro t ht
            rw [hg]
            by_cases he : o.dst = some t
            · exfalso
              rcases (hwr o ho).1 t ht i o ho he with ⟨h1, _⟩ | h1
              · exact hin h1
              · have hil := late_in S ho hin
                exact Prec.asymm S.lin.nodup h1 h1 (by rw [S.split]; simp [hil])
            · rw [if_neg he]
          have hfree : β n = none := HH.free (Nat.le_refl n)
          have M : More β h n β h1 (n + 1) := ⟨Le.refl β, Nat.le_succ n, fun id hid hb => ⟨hb, fun o _ ho => by rw [hg1, if_neg (by omega)]; exact ho⟩⟩
          obtain ⟨S', hF'⟩ := S.ev (n' := n + 1) (h' := h1) (al' := i :: al) (idf' := fun y => if y = i then n else idf y) hF ho (fun d hd => hsz.symm ▸ hdd d hd) hg (M.toB (Nat.le_refl n)) (fun j x hj => by
              rw [hg1, if_neg]
              · exact hj
              · intro e; subst e; rw [HH.above _ (Nat.le_refl _)] at hj; cases hj) (.inr ⟨rfl, rfl, hlo, Nat.lt_succ_self n⟩)
            (fun o' ho' => by
              rw [ho] at ho'; cases ho'
              exact ⟨true, guardKeep hg, fun hh => (by cases hh), fun _ _ => ⟨by simp, regs, ob, vf, hsp, hself, fun d hd => by rw [hg, if_pos hd]; simp, by simp [hg1], by simp [hfree], hplain⟩⟩)
            (fun o' ho' _ h2 => by
              rw [ho] at ho'; cases ho'
              rw [ha] at h2; cases h2)
          obtain ⟨sc', regs2, h2, n2, seen', evd', must', al', idf', a1, a2, a3, a4, a5, a6, a7⟩ := gap_ok hsz sc regs' h1 (n + 1) _ _ must _ _ e S' hF' (HH.new hg1) (by omega)
          exact ⟨sc', regs2, h2, n2, seen', evd', must', al', idf', a1, a2, a3, a4, a5, a6, M.trans a7⟩
        · exact (bad_ne e).elim
    · replace e := setD_ok e; obtain ⟨regs', e, hdd, hg⟩ := e
      obtain ⟨S', hF'⟩ := S.ev (n' := n) (h' := h) (al' := al) (idf' := idf) hF ho (fun d hd => hsz.symm ▸ hdd d hd) hg ((More.refl β h n).toB (Nat.le_refl n)) (fun _ _ hj => hj) (.inl ⟨rfl, rfl⟩)
        (fun o' ho' => by
          rw [ho] at ho'; cases ho'
          exact ⟨false, guardKeep hg, fun _ d hd => by rw [hg, if_pos hd], fun hh => (by cases hh)⟩)
        (fun o' ho' hw _ => by
          rw [ho] at ho'; cases ho'
          rw [guardKeep hg] at hw; cases hw)
      exact gap_ok hsz sc regs' h n _ _ must al idf e S' hF' HH hlo
end

end Go.Mir
namespace Go.Mir
open Go Go.RowKit

section
variable {P : Program} {E : Env} {W0 : World} {f0 : Nat} {cs0 : List Frame} {B0 : Bs} {r : Rz} {lo : Nat} {all : List Oper} {L : List Nat} {last : Option Nat} {ops : Array Oper} {TT : List Item} {CS : List Frame}

/-- the operands of an operation whose turn has come -/
theorem ready_agree {P : Program} {tys : T TI} {lo n : Nat} {β : Beta} {h : T O} {regs : T V} {F : Frame} {sc : List Sc} {D l' seen evd must al : List Nat} {idf : Nat → Nat} {x : Nat} {o : Oper}
    (S : DS P tys lo n β h regs all F.tmps sc L D (x :: l') seen last evd must al idf) (ho : all[x]? = some o) {seen' : List Nat} (hw : Wr all L seen' x) {rq : T V} (hs : SameOn rq regs o.op) : Agrees β rq F.eval o.op := by
  have hxL : x ∈ L := by rw [S.split]; simp
  have notD : ∀ y, y ∈ x :: l' → ¬ Prec L y x := fun y hy hp => by
    have hyD := hp D l' S.split
    have hn := S.lin.nodup
    rw [S.split] at hn
    exact (List.nodup_append.1 hn).2.2 y hyD y hy rfl
  intro y hy
  cases y with
  | tmp t =>
    intro v hv
    rw [hs t hy] at hv
    refine S.regs t v hv fun ⟨z, hz1, hz2, oz, hoz, hzd⟩ => ?_
    rcases (hw o ho).1 t hy z oz hoz hzd with ⟨_, h1⟩ | h1
    · exact notD z hz2 h1
    · exact notD z hz2 ((S.wr z hz1 hz2).2 oz t hoz hzd x o ho hy)
  | const c => rfl
  | global g => trivial
  | func f => rfl

theorem ready_wanted {P : Program} {tys : T TI} {lo n : Nat} {β : Beta} {h : T O} {regs : T V} {tmps : Array Value} {sc : List Sc} {D l' seen evd must al : List Nat} {idf : Nat → Nat} {x : Nat} {o : Oper} {b : Bool} (ha : ops.toList = all)
    (S : DS P tys lo n β h regs all tmps sc L D (x :: l') seen last evd must al idf) (ho : all[x]? = some o) {seen' : List Nat} (hw : Wr all L seen' x) (hb : wantB all regs o.guard = some b) : Region.wanted o (yielded ops tmps) = b := by
  refine wanted_ok (β := β) ha hb fun j w oj d v hg hj hd hv => ?_
  refine S.regs d v hv fun ⟨z, hz1, hz2, oz, hoz, hzd⟩ => ?_
  have := nodupD_ok S.dd z j oz oj d hoz hj hzd hd
  subst this
  have hyD := ((hw o ho).2 _ _ hg).2 D l' S.split
  have hn := S.lin.nodup
  rw [S.split] at hn
  exact (List.nodup_append.1 hn).2.2 z hyD z hz2 rfl

theorem DS.done1 {P : Program} {tys : T TI} {lo n : Nat} {β β' : Beta} {h : T O} {regs : T V} {tmps : Array Value} {sc : List Sc} {D l' seen evd must al : List Nat} {idf : Nat → Nat} {x : Nat} {o : Oper}
    (S : DS P tys lo n β h regs all tmps sc L D (x :: l') seen last evd must al idf) (ho : all[x]? = some o) (hx : x ∈ seen) {val : Value} (hle : Le β β')
    (hd : ∀ d, o.dst = some d → d < tmps.size) (hv : ∀ d v, o.dst = some d → regs.get d = some v → conc β' v = some val)
    (hlg : ∀ y ∈ seen, y ∈ l' → LateG P tys all β' h regs al idf y) :
    DS P tys lo n β' h regs all (putT tmps o.dst val) sc L (D ++ [x]) l' seen last evd must al idf :=
  { lin := S.lin
    dd := S.dd
    split := by rw [S.split]; simp
    st := S.st
    done := fun y hy => by
      rcases List.mem_append.1 hy with h | h
      · exact S.done y h
      · have : y = x := by simpa using h
        subst this; exact hx
    late := fun y h1 h2 => S.late y h1 (List.mem_cons_of_mem _ h2)
    lastD := fun c hc => List.mem_append_left _ (S.lastD c hc)
    wr := fun y h1 h2 => S.wr y h1 (List.mem_cons_of_mem _ h2)
    lg := hlg
    al1 := S.al1
    inj := S.inj
    regs := fun t v hv' hns => by
      by_cases e : o.dst = some t
      · rw [hv t v e hv']
        have := hd t e
        simp only [putT, e]
        rw [Array.getD_eq_getD_getElem?, Array.getElem?_setIfInBounds, if_pos rfl, if_pos this]; rfl
      · rw [conc_mono hle _ _ (S.regs t v hv' fun ⟨z, h1, h2, oz, hoz, hzd⟩ => ?_)]
        · cases hod : o.dst with
          | none => rfl
          | some d =>
            have : d ≠ t := fun h => e (by rw [hod, h])
            simp only [putT]
            rw [Array.getD_eq_getD_getElem?, Array.getD_eq_getD_getElem?, Array.getElem?_setIfInBounds, if_neg this]
        · cases h2 with
          | head => rw [ho] at hoz; cases hoz; exact e hzd
          | tail _ h2 => exact hns ⟨z, h1, h2, oz, hoz, hzd⟩
    dl := fun y h1 h2 => by rw [putT_size]; exact S.dl y h1 (List.mem_cons_of_mem _ h2) }

/-- what is worked out is done, as long as it stands ahead -/
theorem late_ok {i : Fi} {t : List It} {sc : List Sc} {regs : T V} {h : T O} {n : Nat} {seen evd al : List Nat} {idf : Nat → Nat} {cs : List Fr} (ha : ops.toList = all) :
    ∀ (l D : List Nat) (β : Beta) (F : Frame) (w : World), F.mode = .run → F.todo = .inRegion ops l :: TT → FiR β i F → TodoR β t TT → StackR P E.tys f0 cs0 B0 β h lo i cs CS → HR W0 β h n w → lo ≤ n →
      DS P E.tys lo n β h regs all F.tmps sc L D l seen last evd [] al idf → FreshR P E.tys all h regs l seen [] →
      (∀ l D β F w, F.mode = .run → F.todo = .inRegion ops l :: TT → FiR β i F → TodoR β t TT → StackR P E.tys f0 cs0 B0 β h lo i cs CS → HR W0 β h n w →
        DS P E.tys lo n β h regs all F.tmps sc L D l seen last evd [] al idf → FreshR P E.tys all h regs l seen [] → (∀ x l', l = x :: l' → x ∉ seen) → Ends P W0 f0 cs0 B0 r F CS w) →
      Ends P W0 f0 cs0 B0 r F CS w
  | [], D, β, F, w, hm, hF, hfi, hT, HS, HH, hlo, S, hFr, K => K [] D β F w hm hF hfi hT HS HH S hFr (fun x l' h => by cases h)
  | x :: l', D, β, F, w, hm, hF, hfi, hT, HS, HH, hlo, S, hFr, K => by
    by_cases hx : x ∈ seen
    · obtain ⟨o, ho⟩ : ∃ o, all[x]? = some o := by
        have := S.lin.lt x (by rw [S.split]; simp)
        exact ⟨_, List.getElem?_eq_getElem this⟩
      have hox : ops[x]? = some o := by rw [getE_toList, ha]; exact ho
      have hxl : x ∈ x :: l' := by simp
      obtain ⟨hwr, hrd⟩ := S.wr x hx hxl
      obtain ⟨b, hb, hg0, hg1⟩ := S.lg x hx hxl o ho
      have hwant := ready_wanted ha S ho hwr hb
      have hdlt : ∀ d, o.dst = some d → d < F.tmps.size := fun d hd => S.dl x hx hxl o d ho hd
      have hfinish : ∀ val, F.finish val = { F with tmps := putT F.tmps o.dst val, todo := .inRegion ops l' :: TT } := fun val => finish_region hF (by rw [hox]; rfl) val
      have fresh' : FreshR P E.tys all h regs l' seen [] := fun y h1 h2 => hFr y h1 (List.mem_cons_of_mem _ h2)
      have next : ∀ β' val w', Le β β' → HR W0 β' h n w' → StackR P E.tys f0 cs0 B0 β' h lo i cs CS → (∀ d v, o.dst = some d → regs.get d = some v → conc β' v = some val) →
          (∀ y ∈ seen, y ∈ l' → LateG P E.tys all β' h regs al idf y) → Ends P W0 f0 cs0 B0 r (F.finish val) CS w' := by
        intro β' val w' hle H' HS' hv hlg
        rw [hfinish]
        exact late_ok ha l' (D ++ [x]) β' _ w' hm rfl ⟨hfi.fn, by simp [putT_size, hfi.sz], hfi.kind, hfi.defers.mono hle, hfi.round.mono hle⟩ (hT.mono hle) HS' H' hlo
          (S.done1 ho hx hle hdlt hv hlg) fresh' K
      have same : ∀ y ∈ seen, y ∈ l' → LateG P E.tys all β h regs al idf y := fun y h1 h2 => S.lg y h1 (List.mem_cons_of_mem _ h2)
      cases b with
      | false =>
        exact (next β undef w (Le.refl β) HH HS (fun d v hd hv => by rw [hg0 rfl d hd] at hv; cases hv; exact conc_undef β) same).step (r_opSkip hm hF hox hwant)
      | true =>
        cases hal : isAl E.tys o.op with
        | false =>
          have hP : PF P h regs o := by
            rcases hFr x hx hxl with h1 | h1
            · cases h1
            · exact h1 o ho hb hal
          obtain ⟨rq, hq, v, a1, a2, a3, a4⟩ := hP
          have hA := ready_agree S ho hwr a2
          obtain ⟨val, hc, hrun⟩ := a1 W0 β n w F.eval (HH.sub a3) hA
          have hrun := hrun o rfl
          have hE := next β val w (Le.refl β) HH HS (fun d u hd hu => by rw [a4 d hd] at hu; cases hu; exact hc) same
          refine hE.step (step_lone_go ?_)
          rw [stepG_oper hm hF hox hwant (fun c hc => by have := allSel_ok S.st.sel x o ho; rw [hc] at this; cases this)]
          exact apply_value hrun
        | true =>
          obtain ⟨hin, rq, ob, vf, a1, a2, a3, a4, a5, _⟩ := hg1 rfl hal
          obtain ⟨_, hlo1, hhi⟩ := S.al1 x hin
          have hA := ready_agree S ho hwr a2
          obtain ⟨room, obj, val, w', hrun, h1, h2, h3, h4, h5⟩ := a1 β w F.eval hA
          have hrun := hrun o rfl
          obtain ⟨h6, h7⟩ := h5 (upd β (idf x) ⟨w.heap.size, 0, room⟩) (idf x) (upd_le a5) upd_self
          have HA := (HH.alloc (o := ob) (b := ⟨w.heap.size, 0, room⟩) (ob := obj) hhi a5 a4 rfl h7).congr h1 h2 h3 h4
          have MB : MoreB lo β h n (upd β (idf x) ⟨w.heap.size, 0, room⟩) h n := ⟨upd_le a5, Nat.le_refl n, fun id hid hb => ⟨by
            have : id ≠ idf x := by omega
            simp [upd, this, hb], fun _ _ h => h⟩⟩
          have hE := next _ val w' (upd_le a5) HA (HS.more MB) (fun d u hd hu => by rw [a3 d hd] at hu; cases hu; exact h6) (fun y hy1 hy2 oy hoy => by
            obtain ⟨b', c1, c2, c3⟩ := S.lg y hy1 (List.mem_cons_of_mem _ hy2) oy hoy
            refine ⟨b', c1, c2, fun hb' ha' => ?_⟩
            obtain ⟨hyin, rq', ob', vf', d1, d2, d3, d4, d5, d6⟩ := c3 hb' ha'
            refine ⟨hyin, rq', ob', vf', d1, d2, d3, d4, ?_, d6⟩
            have hne : idf y ≠ idf x := fun e => by
              have := S.inj y hyin x hin e
              subst this
              have hn := S.lin.nodup
              rw [S.split] at hn
              exact (List.nodup_cons.1 (List.nodup_append.1 hn).2.1).1 hy2
            simp [upd, hne, d5])
          refine hE.step (step_lone_go ?_)
          rw [stepG_oper hm hF hox hwant (fun c hc => by rw [hc] at hal; cases hal)]
          exact apply_value hrun
    · exact K (x :: l') D β F w hm hF hfi hT HS HH S hFr (fun y l'' h => by cases h; exact hx)
end

end Go.Mir
