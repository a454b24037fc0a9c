/- The small machine against the model: code. No statement of the program stands here. -/
import Derived.Test.YthninknobjneeaaGreatDoorMirAQ
namespace Go.Mir
open Go Go.RowKit

section
variable {w : World} {k : Nat} {o : Obj}

theorem setObj_other {j : Nat} (hj : j ≠ k) : ({ w with heap := w.heap.setIfInBounds k o } : World).heap[j]? = w.heap[j]? := by
  simp only [Array.getElem?_setIfInBounds]
  rw [if_neg (by omega)]

theorem setObj_size : ({ w with heap := w.heap.setIfInBounds k o } : World).heap.size = w.heap.size := by simp

theorem setObj_at (hk : k < w.heap.size) : ({ w with heap := w.heap.setIfInBounds k o } : World).heap[k]? = some o := by
  simp [hk]

theorem setObj_below {B : Nat} (hB : B ≤ k) : Below B w { w with heap := w.heap.setIfInBounds k o } :=
  ⟨rfl, rfl, rfl, by simp, fun j hj => setObj_other (by omega)⟩
end

/-- a block that is not asked any more changes -/
theorem HR.kill {W0 : World} {β : Beta} {h h' : T O} {n : Nat} {w w' : World} (H : HR W0 β h n w) {id : Nat} {o0 : O} {b : Blk} (ho0 : h.get id = some o0) (hb : β id = some b)
    (hg : ∀ j, h'.get j = if j = id then none else h.get j) (hw : ∀ k, k ≠ b.blk → w'.heap[k]? = w.heap[k]?) (hs : w'.heap.size = w.heap.size) (hbel : Below W0.heap.size w w') : HR W0 β h' n w' where
  obj i o b' h1 h2 := by
    rw [hg] at h1; split at h1
    · cases h1
    · rename_i e
      have : b'.blk ≠ b.blk := fun eb => e (H.inj i id o o0 b' b h1 ho0 h2 hb eb)
      rw [hw _ this]; exact H.obj i o b' h1 h2
  inj i j oi oj bi bj h1 h2 h3 h4 e := by
    rw [hg] at h1 h2
    split at h1; · cases h1
    split at h2; · cases h2
    exact H.inj i j oi oj bi bj h1 h2 h3 h4 e
  dom i b' h2 := let ⟨a, d⟩ := H.dom i b' h2; ⟨a, by omega⟩
  below := H.below.trans hbel
  above j hj := by rw [hg]; split; · rfl
                   · exact H.above j hj
  own i o b' h1 hr h2 := by
    rw [hg] at h1; split at h1
    · cases h1
    · exact H.own i o b' h1 hr h2

section
variable {P : Program} {E : Env} {W0 : World} {f0 : Nat} {cs0 : List Frame} {B0 : Bs} {r : Rz} {go : Go_} (G : Good P E.tys W0 f0 cs0 B0 go) (HE : EnvR P E)
variable {i : Fi} {regs : T V} {t : List It} {cs : List Fr} {h : T O} {n : Nat} {β : Beta} {F : Frame} {CS : List Frame} {w : World} {lo : Nat}

include G in
/-- a frame that waits takes the value -/
theorem pop_ok {c : Fr} {v : V} (e : popK v (c :: cs) h n go = .ok r) {C : Frame} (HH : HR W0 β h n w) (HS : StackR P E.tys f0 cs0 B0 β h lo i (c :: cs) (C :: CS)) (hlo : lo ≤ n) {val : Value} (hv : conc β v = some val) :
    Ends P W0 f0 cs0 B0 r (C.finish val) CS w := by
  replace e : finFr v cs h n go c = .ok r := e
  replace e := finFr_ok (P := P) (tys := E.tys) e; obtain ⟨regs', todo', e, hsp⟩ := e
  obtain ⟨lo', h1, HW, HS⟩ := HS
  exact G _ _ _ _ _ _ _ e β _ CS w lo' ⟨HH, (hsp lo' lo β C val HW hv).up hlo, HS, Nat.le_trans h1 hlo⟩

theorem run_endRound {l : Nat} {jump : Option Code} {L : Loop} (hl : w.heap[l]? = some (.loop L)) :
    (Instr.endRound l jump).run P w = .ok (.bool jump.isNone) { w with heap := w.heap.setIfInBounds l (.loop { L with state := if jump.isNone then .ready else .done, pending := jump }) } := by
  simp [Instr.endRound, Instr.getLoop, getObj, setObj, Sem.run, hl]

include G in
theorem leave_ok {jump : Option Code} (e : leaveK jump i regs cs h n go = .ok r) (HH : HR W0 β h n w) (hfi : FiR β i F) (hR : RegsR β regs F.tmps no) (HS : StackR P E.tys f0 cs0 B0 β h lo i cs CS) (hlo : lo ≤ n)
    (hnone : F.roundOf = none → (jump = none ∨ jump = some .ret) → Go.step P (lone F CS w) = .next (lone { F with mode := .returning } CS w))
    (hsome : ∀ l C CS' v w', CS = C :: CS' → F.roundOf = some l → (Instr.endRound l jump).run P w = .ok v w' → Go.step P (lone F CS w) = .next (lone (C.finish v) CS' w')) :
    Ends P W0 f0 cs0 B0 r F CS w := by
  unfold leaveK at e
  have hround := hfi.round
  cases hi : i.round with
  | none =>
    rw [hi] at e hround
    have fin : go i regs [.fin] cs h n = .ok r → (jump = none ∨ jump = some .ret) → Ends P W0 f0 cs0 B0 r F CS w := fun e hj => by
      have hE : Ends P W0 f0 cs0 B0 r { F with mode := .returning } CS w := G _ _ _ _ _ _ _ e β _ CS w lo ⟨HH, ⟨⟨hfi.fn, hfi.sz, hfi.kind, hfi.defers, hfi.round⟩, ⟨rfl, hR⟩⟩, HS, hlo⟩
      exact hE.step (hnone hround hj)
    cases jump with
    | none => exact fin e (.inl rfl)
    | some c => cases c <;> first | exact fin e (.inr rfl) | exact (bad_ne e).elim
  | some l =>
    rw [hi] at e hround
    obtain ⟨k, hFr, b, hb, rfl⟩ := hround
    replace e := om_ok e; obtain ⟨o, ho, e⟩ := e
    cases o with
    | loop st pending fn sz lregs ps assign body d =>
      replace e := setK_ok e; obtain ⟨h', e, hg⟩ := e
      cases cs with
      | nil => exact (bad_ne e).elim
      | cons c cs =>
        cases CS with
        | nil => exact HS.elim
        | cons C CS =>
          obtain ⟨L, bd, h1, h2, h3, h4, h5, h6, h7, h8, h9, h10, h11⟩ := HH.obj l _ b ho hb
          have hrun := run_endRound (P := P) (jump := jump) h1
          have hdom := HH.dom l b hb
          have hown := HH.own l _ b ho rfl hb
          have M : More β h n β h' n := ext_put hb hg
          have H' : HR W0 β h' n _ := HH.put ho hb hg (fun k hk => setObj_other hk) setObj_size (setObj_below hown)
            (w' := { w with heap := w.heap.setIfInBounds b.blk (.loop { L with state := if jump.isNone then .ready else .done, pending := jump }) }) (by
              rw [setObj_at hdom.2]
              exact ⟨_, bd, rfl, by cases jump <;> rfl, rfl, h4, h5, h6, h7, h8, h9, h10, h11⟩)
          have hval : conc β (.bool (match (generalizing := false) jump with | none => true | some _ => false)) = some (.bool jump.isNone) := by cases jump <;> rfl
          have hE := pop_ok G e H' (StackR.more (M.toB hlo) HS) hlo hval
          exact hE.step (hsome _ _ _ _ _ rfl hFr hrun)
    | cells => exact (bad_ne e).elim
    | map => exact (bad_ne e).elim
    | deferred => exact (bad_ne e).elim
    | iter => exact (bad_ne e).elim
    | ro => exact (bad_ne e).elim

def resF (tmps : Array Value) : ResultVar → Sem Value
  | .tmp t => pure (tmps.getD t undef)
  | .cell a t => do loadVar t (← asAddr (tmps.getD a undef))

theorem results_eq (fn : Func) (tmps : Array Value) : results fn tmps = (do
    let vs ← fn.results.mapM (resF tmps)
    pure (if h : vs.size = 1 then vs[0] else .tuple vs)) := rfl

theorem asAddr_some (a : Addr) : asAddr (.pointer (some a)) = pure a := rfl

include HE in
theorem results_ok {fn : Func} {k : V → Out} (e : resultsK fn h E.tys regs k = .ok r) : ∃ v, k v = .ok r ∧ ∀ W0 β n w, HR W0 β h n w → ∀ tmps, RegsR β regs tmps no → ∃ val, conc β v = some val ∧ (results fn tmps).run P w = .ok val w := by
  have go : ∀ (l : List ResultVar) (kk : List V → Out), (List.rec (motive := fun _ => (List V → Out) → Out) (fun k => k [])
      (fun r _ ih k => match r with
        | .tmp t => om (regs.get t) fun v => ih fun vs => k (v :: vs)
        | .cell a t => om (regs.get a) fun a => loadK E.tys h t a fun v => ih fun vs => k (v :: vs)) l kk : Out) = .ok r →
      ∃ vs, kk vs = .ok r ∧ ∀ W0 β n w, HR W0 β h n w → ∀ tmps, RegsR β regs tmps no → ∃ us, concL β vs = some us ∧
        (l.mapM (resF tmps)).run P w = .ok us w := by
    intro l
    induction l with
    | nil => exact fun kk e => ⟨[], e, fun W0 β n w H tmps hr => ⟨[], rfl, rfl⟩⟩
    | cons x l ih =>
      intro kk e
      cases x with
      | tmp t =>
        replace e := om_ok e; obtain ⟨v, hv, e⟩ := e
        obtain ⟨vs, e, hsp⟩ := ih _ e
        refine ⟨_, e, fun W0 β n w H tmps hr => ?_⟩
        obtain ⟨us, h1, h2⟩ := hsp W0 β n w H tmps hr
        have h3 := hr t v hv (fun x => x)
        exact ⟨tmps.getD t undef :: us, by simp [concL, h3, h1], by simp only [List.mapM_cons, resF, Sem.run_bind, Sem.run_pure, Result.andThen_ok, h2]⟩
      | cell a t =>
        replace e := om_ok e; obtain ⟨av, hav, e⟩ := e
        replace e := loadK_ok HE.tys e; obtain ⟨v, e, hld⟩ := e
        obtain ⟨vs, e, hsp⟩ := ih _ e
        refine ⟨_, e, fun W0 β n w H tmps hr => ?_⟩
        obtain ⟨us, h1, h2⟩ := hsp W0 β n w H tmps hr
        obtain ⟨ad, h4, val, h5, h6⟩ := hld W0 β n w H _ (hr a av hav (fun x => x))
        refine ⟨val :: us, by simp [concL, h5, h1], ?_⟩
        simp only [List.mapM_cons, resF, Sem.run_bind, h4, asAddr_some, Sem.run_pure, Result.andThen_ok, h6, h2]
  obtain ⟨vs, e, hsp⟩ := go _ _ e
  have hone : ∃ v, k v = .ok r ∧ ((∃ x, vs = [x] ∧ v = x) ∨ (vs.length ≠ 1 ∧ v = .tuple vs)) := by
    cases vs with
    | nil => exact ⟨_, e, .inr ⟨by simp, rfl⟩⟩
    | cons a vs =>
      cases vs with
      | nil => exact ⟨_, e, .inl ⟨a, rfl, rfl⟩⟩
      | cons b vs => exact ⟨_, e, .inr ⟨by simp, rfl⟩⟩
  obtain ⟨v, e, hv⟩ := hone
  refine ⟨v, e, fun W0 β n w H tmps hr => ?_⟩
  obtain ⟨us, h1, h2⟩ := hsp W0 β n w H tmps hr
  have hlen := concL_len h1
  have hrun : (results fn tmps).run P w = .ok (if h : us.toArray.size = 1 then us.toArray[0] else .tuple us.toArray) w := by
    rw [results_eq]
    simp only [Sem.run_bind]
    rw [Array.mapM_eq_mapM_toList]
    simp only [Sem.run_map, h2, Result.andThen_ok, Sem.run_pure]
  rcases hv with ⟨x, rfl, rfl⟩ | ⟨hne, rfl⟩
  · cases us with
    | nil => simp at hlen
    | cons u us =>
      cases us with
      | cons => simp at hlen
      | nil =>
        simp only [concL, Option.bind_eq_some_iff, Option.map_eq_some_iff] at h1
        obtain ⟨y, hy, z, hz, he⟩ := h1
        cases he
        exact ⟨u, hy, by rw [hrun]; rfl⟩
  · refine ⟨.tuple us.toArray, by simp [conc, h1], ?_⟩
    rw [hrun, dif_neg (by simp; omega)]

include G HE in
theorem fin_ok (e : stFin E i regs cs h n go = .ok r) (S : Sim P E.tys W0 f0 cs0 B0 lo β i regs (.fin :: t) cs h n F CS w) : Ends P W0 f0 cs0 B0 r F CS w := by
  obtain ⟨HH, ⟨hfi, hB⟩, HS, hlo⟩ := S
  obtain ⟨hm, hR⟩ : F.mode = .returning ∧ RegsR β regs F.tmps no := hB
  obtain ⟨fn, sz, defers, round⟩ := i
  have hd := hfi.defers
  cases defers with
  | cons d ds =>
    replace e : om (h.get d) (fun o => (match o with | .deferred => T.setK h d none (bad 180) fun h => go ⟨fn, sz, ds, round⟩ regs [.fin] cs h n | _ => bad 181)) = .ok r := e
    replace e := om_ok e; obtain ⟨o, ho, e⟩ := e
    cases o with
    | deferred =>
      replace e := setK_ok e; obtain ⟨h', e, hg⟩ := e
      cases hF : F.defers with
      | nil => simp only at hd; rw [hF] at hd; exact hd.elim
      | cons D Ds =>
        simp only at hd; rw [hF] at hd
        obtain ⟨⟨k, ⟨b, hb, rfl⟩, rfl⟩, hds⟩ := hd
        have hobj : w.heap[b.blk]? = some (.deferred (some [])) := HH.obj d _ b ho hb
        have hown := HH.own d _ b ho rfl hb
        have hrun : (Instr.takeDeferred b.blk).run P w = .ok [] { w with heap := w.heap.setIfInBounds b.blk (.deferred none) } := by
          simp [Instr.takeDeferred, getObj, setObj, Sem.run, hobj]
        have M : More β h n β h' n := ext_put hb hg
        have H' : HR W0 β h' n { w with heap := w.heap.setIfInBounds b.blk (.deferred none) } := HH.kill ho hb hg (fun k hk => setObj_other hk) setObj_size (setObj_below hown)
        have hE : Ends P W0 f0 cs0 B0 r { F with defers := [] ++ Ds } CS _ := G _ _ _ _ _ _ _ e β _ CS _ lo ⟨H', ⟨⟨hfi.fn, hfi.sz, hfi.kind, hds, hfi.round⟩, ⟨hm, hR⟩⟩, StackR.congr (i := ⟨fn, sz, d :: ds, round⟩) rfl rfl (StackR.more (M.toB hlo) HS), hlo⟩
        exact hE.step (r_collected hm hF hrun)
    | cells => exact (bad_ne e).elim
    | map => exact (bad_ne e).elim
    | loop => exact (bad_ne e).elim
    | iter => exact (bad_ne e).elim
    | ro => exact (bad_ne e).elim
  | nil =>
    replace e : om (E.fns.get fn) (fun f => resultsK f h E.tys regs fun v => popK v cs h n go) = .ok r := e
    replace e := om_ok e; obtain ⟨f, hf, e⟩ := e
    replace e := results_ok (P := P) HE e; obtain ⟨v, e, hsp⟩ := e
    obtain ⟨val, hv, hrun⟩ := hsp W0 β n w HH F.tmps hR
    have hFd : F.defers = [] := by
      cases hF : F.defers with
      | nil => rfl
      | cons D Ds => simp only at hd; rw [hF] at hd; exact hd.elim
    have hfn : F.fn = fn := hfi.fn
    have hleave : F.leaving P w (.returned val) := ⟨hm, hFd, hfi.kind, f, by rw [hfn]; exact (HE.fns fn f hf).1, hrun⟩
    cases cs with
    | nil =>
      replace e : Out.ok ⟨v, h, n⟩ = .ok r := e
      cases e
      obtain ⟨rfl, h2, _, hb⟩ := HS
      exact ⟨_, Rz.le.refl _, β, val, w, F, hv, .refl _ _, hleave, by rw [hfn]; exact h2, HH, ⟨Nat.le_refl _, hb.sub, hb.pend⟩, Nat.le_trans hb.le hlo⟩
    | cons c cs =>
      cases CS with
      | nil => exact HS.elim
      | cons C CS => exact (pop_ok G e HH HS hlo hv).step (step_leave_returned hleave)

theorem run_beginRound {l : Nat} {L : Loop} (hl : w.heap[l]? = some (.loop L)) (hs : L.state = .ready) :
    (Instr.beginRound l).run P w = .ok () { w with heap := w.heap.setIfInBounds l (.loop { L with state := .busy }) } := by
  simp [Instr.beginRound, Instr.getLoop, getObj, setObj, Sem.run, hl, hs]

theorem run_endLoop {l : Nat} {L : Loop} (hl : w.heap[l]? = some (.loop L)) (hs : L.state ≠ .busy) :
    (Instr.endLoop l).run P w = .ok L.pending { w with heap := w.heap.setIfInBounds l (.loop { L with state := .exhausted }) } := by
  simp [Instr.endLoop, Instr.getLoop, getObj, setObj, Sem.run, hl, hs]

include G in
theorem beginRound_ok (e : (om i.round fun l => om (h.get l) (beginRoundK l h fun h => go i regs t cs h n)) = .ok r) (S : Sim P E.tys W0 f0 cs0 B0 lo β i regs (.beginRound :: t) cs h n F CS w) : Ends P W0 f0 cs0 B0 r F CS w := by
  obtain ⟨HH, ⟨hfi, hB⟩, HS, hlo⟩ := S
  obtain ⟨hm, hT, hR⟩ : F.mode = .run ∧ TodoR β (.beginRound :: t) F.todo ∧ RegsR β regs F.tmps no := hB
  obtain ⟨b', T, hF, rfl, hT'⟩ := hT.cons
  replace e := om_ok e; obtain ⟨l, hl, e⟩ := e
  replace e := om_ok e; obtain ⟨o, ho, e⟩ := e
  have hround := hfi.round
  simp only at hround
  rw [hl] at hround
  obtain ⟨k, hFr, b, hb, rfl⟩ := hround
  cases o with
  | loop st pending fn sz lregs ps assign body d =>
    cases st <;> try exact (bad_ne e).elim
    replace e := setK_ok e; obtain ⟨h', e, hg⟩ := e
    obtain ⟨L, bd, h1, h2, h3, h4, h5, h6, h7, h8, h9, h10, h11⟩ := HH.obj l _ b ho hb
    have hdom := HH.dom l b hb
    have hown := HH.own l _ b ho rfl hb
    have M : More β h n β h' n := ext_put hb hg
    have H' : HR W0 β h' n { w with heap := w.heap.setIfInBounds b.blk (.loop { L with state := .busy }) } := HH.put ho hb hg (fun k hk => setObj_other hk) setObj_size (setObj_below hown) (by
      rw [setObj_at hdom.2]
      exact ⟨_, bd, rfl, rfl, h3, h4, h5, h6, h7, h8, h9, h10, h11⟩)
    have hE : Ends P W0 f0 cs0 B0 r { F with todo := T } CS _ := G _ _ _ _ _ _ _ e β _ CS _ lo ⟨H', ⟨⟨hfi.fn, hfi.sz, hfi.kind, hfi.defers, hfi.round⟩, bodyR_of hm hT' hR⟩, StackR.more (M.toB hlo) HS, hlo⟩
    exact hE.step (r_beginRound hm hF hFr (run_beginRound h1 h2))
  | cells => exact (bad_ne e).elim
  | map => exact (bad_ne e).elim
  | deferred => exact (bad_ne e).elim
  | iter => exact (bad_ne e).elim
  | ro => exact (bad_ne e).elim

include G in
theorem endRange_ok {l : Nat} (e : (om (h.get l) (endRangeK l h fun h p => match p with | none => go i regs t cs h n | some c => go i regs (.code c :: t) cs h n)) = .ok r)
    (S : Sim P E.tys W0 f0 cs0 B0 lo β i regs (.endRange l :: t) cs h n F CS w) : Ends P W0 f0 cs0 B0 r F CS w := by
  obtain ⟨HH, ⟨hfi, hB⟩, HS, hlo⟩ := S
  obtain ⟨hm, hT, hR⟩ : F.mode = .run ∧ TodoR β (.endRange l :: t) F.todo ∧ RegsR β regs F.tmps no := hB
  obtain ⟨b', T, hF, ⟨k, rfl, b, hb, rfl⟩, hT'⟩ := hT.cons
  replace e := om_ok e; obtain ⟨o, ho, e⟩ := e
  cases o with
  | loop st pending fn sz lregs ps assign body d =>
    have hst : ∃ h', (match pending with | none => go i regs t cs h' n | some c => go i regs (.code c :: t) cs h' n) = .ok r ∧ st ≠ .busy ∧ ∀ j, h'.get j = if j = l then some (.loop .exhausted pending fn sz lregs ps assign body d) else h.get j := by
      cases st <;> first | exact (bad_ne e).elim | (replace e := setK_ok e; obtain ⟨h', e, hg⟩ := e; exact ⟨h', e, by decide, hg⟩)
    obtain ⟨h', e, hst, hg⟩ := hst
    obtain ⟨L, bd, h1, h2, h3, h4, h5, h6, h7, h8, h9, h10, h11⟩ := HH.obj l _ b ho hb
    have hdom := HH.dom l b hb
    have hown := HH.own l _ b ho rfl hb
    have M : More β h n β h' n := ext_put hb hg
    have H' : HR W0 β h' n { w with heap := w.heap.setIfInBounds b.blk (.loop { L with state := .exhausted }) } := HH.put ho hb hg (fun k hk => setObj_other hk) setObj_size (setObj_below hown) (by
      rw [setObj_at hdom.2]
      exact ⟨_, bd, rfl, rfl, h3, h4, h5, h6, h7, h8, h9, h10, h11⟩)
    have hE : ∀ w1, HR W0 β h' n w1 → Ends P W0 f0 cs0 B0 r { F with todo := (L.pending.map Item.code).toList ++ T } CS w1 := by
      intro w1 H'
      rw [h3]
      cases pending with
      | none => exact G _ _ _ _ _ _ _ e β _ CS _ lo ⟨H', ⟨⟨hfi.fn, hfi.sz, hfi.kind, hfi.defers, hfi.round⟩, bodyR_of hm hT' hR⟩, StackR.more (M.toB hlo) HS, hlo⟩
      | some c => exact G _ _ _ _ _ _ _ e β _ CS _ lo ⟨H', ⟨⟨hfi.fn, hfi.sz, hfi.kind, hfi.defers, hfi.round⟩, bodyR_of hm ⟨rfl, hT'⟩ hR⟩, StackR.more (M.toB hlo) HS, hlo⟩
    exact (hE _ H').step (r_endRange hm hF (run_endLoop h1 (by rw [h2]; exact hst)))
  | cells => exact (bad_ne e).elim
  | map => exact (bad_ne e).elim
  | deferred => exact (bad_ne e).elim
  | iter => exact (bad_ne e).elim
  | ro => exact (bad_ne e).elim
end

end Go.Mir
namespace Go.Mir
open Go Go.RowKit

theorem gotoK_ok {β : Beta} {l : Nat} {k : List It → Out} {r : Rz} : ∀ {todo : List It} {T : List Item}, gotoK l todo k = .ok r → TodoR β todo T →
    ∃ t T', k t = .ok r ∧ Go.gotoIn l T = some T' ∧ TodoR β t T'
  | [], _, e, _ => (bad_ne e).elim
  | _ :: _, [], _, hT => hT.elim
  | i :: t, b :: T, e, hT => by
    have rest : gotoK l t k = .ok r → Go.gotoIn l (b :: T) = Go.gotoIn l T → ∃ t T', k t = .ok r ∧ Go.gotoIn l (b :: T) = some T' ∧ TodoR β t T' := fun e h => by
      rw [h]; exact gotoK_ok e hT.2
    have hI := hT.1
    cases i with
    | inScope body =>
      have hI : b = .inScope body := hI
      subst hI
      replace e : (match Go.findLabel body l with | some rest => k (.code rest :: .inScope body :: t) | none => gotoK l t k) = .ok r := e
      cases hf : Go.findLabel body l with
      | some c =>
        rw [hf] at e
        exact ⟨.code c :: .inScope body :: t, .code c :: .inScope body :: T, e, by simp only [Go.gotoIn, hf], ⟨rfl, rfl, hT.2⟩⟩
      | none =>
        rw [hf] at e
        exact rest e (by simp only [Go.gotoIn, hf])
    | reg all rem => obtain ⟨ops, L, hb, _⟩ := hI; subst hb; exact rest e rfl
    | code c => have hI : b = .code c := hI; subst hI; exact rest e rfl
    | inBlock id => have hI : b = .inBlock id := hI; subst hI; exact rest e rfl
    | inLoop c => have hI : b = .inLoop c := hI; subst hI; exact rest e rfl
    | inRange l => obtain ⟨k, hb, _⟩ := hI; subst hb; exact rest e rfl
    | endRange l => obtain ⟨k, hb, _⟩ := hI; subst hb; exact rest e rfl
    | beginRound => have hI : b = .beginRound := hI; subst hI; exact rest e rfl
    | dreg _ _ => exact hI.elim
    | fin => exact hI.elim

theorem exitK_ok {β : Beta} {id : Nat} {kn : Out} {k : List It → Out} {r : Rz} : ∀ {todo : List It} {T : List Item}, exitK id todo kn k = .ok r → TodoR β todo T →
    (kn = .ok r ∧ exitTo id T = none) ∨ (∃ t T', k t = .ok r ∧ exitTo id T = some T' ∧ TodoR β t T')
  | [], [], e, _ => .inl ⟨e, rfl⟩
  | [], _ :: _, _, hT => hT.elim
  | _ :: _, [], _, hT => hT.elim
  | i :: t, b :: T, e, hT => by
    have rest : exitK id t kn k = .ok r → exitTo id (b :: T) = exitTo id T → (kn = .ok r ∧ exitTo id (b :: T) = none) ∨ (∃ t T', k t = .ok r ∧ exitTo id (b :: T) = some T' ∧ TodoR β t T') := fun e h => by
      rw [h]; exact exitK_ok e hT.2
    have hI := hT.1
    cases i with
    | inBlock id' =>
      have hI : b = .inBlock id' := hI
      subst hI
      replace e : (Bool.rec (exitK id t kn k) (k t) (Nat.beq id' id) : Out) = .ok r := e
      rcases rec_ok e with ⟨hb, e2⟩ | ⟨hb, e2⟩
      · have := beq_of hb
        subst this
        exact .inr ⟨t, T, e2, by simp [exitTo], hT.2⟩
      · have hne : (id' == id) = false := by
          cases h : id' == id with
          | false => rfl
          | true => have := beq_iff_eq.1 h; subst this; simp at hb
        refine rest e2 (by simp only [exitTo, hne]; rfl)
    | reg all rem => obtain ⟨ops, L, rfl, _⟩ := hI; exact rest e rfl
    | code c => have hI : b = .code c := hI; subst hI; exact rest e rfl
    | inLoop c => have hI : b = .inLoop c := hI; subst hI; exact rest e rfl
    | inScope c => have hI : b = .inScope c := hI; subst hI; exact rest e rfl
    | inRange c => obtain ⟨k, rfl, _⟩ := hI; exact rest e rfl
    | endRange c => obtain ⟨k, rfl, _⟩ := hI; exact rest e rfl
    | beginRound => have hI : b = .beginRound := hI; subst hI; exact rest e rfl
    | dreg all sc => exact hI.elim
    | fin => exact hI.elim

section
variable {P : Program} {E : Env} {W0 : World} {f0 : Nat} {cs0 : List Frame} {B0 : Bs} {r : Rz} {go : Go_} (G : Good P E.tys W0 f0 cs0 B0 go) (HE : EnvR P E)
variable {i : Fi} {regs : T V} {t : List It} {cs : List Fr} {h : T O} {n : Nat} {β : Beta} {F : Frame} {CS : List Frame} {w : World} {lo : Nat}

include G HE in
theorem range_ok {f : Operand} {ps : Array Nat} {assign body : Code} (e : (ev regs f (stRange E i regs t cs h n go ps assign body)) = .ok r)
    (S : Sim P E.tys W0 f0 cs0 B0 lo β i regs (.code (.rangeFunc f ps assign body) :: t) cs h n F CS w) : Ends P W0 f0 cs0 B0 r F CS w := by
  obtain ⟨HH, ⟨hfi, hB⟩, HS, hlo⟩ := S
  obtain ⟨hm, hT, hR⟩ : F.mode = .run ∧ TodoR β (.code (.rangeFunc f ps assign body) :: t) F.todo ∧ RegsR β regs F.tmps no := hB
  obtain ⟨b', T, hF, rfl, hT'⟩ := hT.cons
  replace e := ev_ok e; obtain ⟨vf, e, hvf⟩ := e
  have hcf := hvf β F.eval (agree_eval hR fun _ _ h => h)
  obtain ⟨fn, sz, defers, round⟩ := i
  have hround := hfi.round
  cases round with
  | none =>
    have hFr : F.roundOf = none := hround
    replace e : newO h n .deferred (fun h n1 => newO h n1 (.loop .ready none fn sz regs ps.toList assign body n) fun h n2 =>
        callK E vf [.yield n1] ⟨⟨fn, sz, n :: defers, none⟩, regs, .inRange n1 :: t⟩ cs h n2 go fun _ _ _ => bad 193) = .ok r := e
    replace e := setK_ok e; obtain ⟨h1, e, hg1⟩ := e
    rw [fNat_eq] at e
    replace e := setK_ok e; obtain ⟨h2, e, hg2⟩ := e
    rw [fNat_eq] at e
    have hfree : β n = none := HH.free (Nat.le_refl n)
    have H1 := (HH.new hg1).alloc (o := .deferred) (b := ⟨w.heap.size, 0, 0⟩) (ob := .deferred (some [])) (by omega) hfree (by rw [hg1, if_pos rfl]) rfl rfl
    have M1 : More β h n (upd β n ⟨w.heap.size, 0, 0⟩) h1 (n + 1) := ext_new hfree hg1
    have hfree1 : upd β n ⟨w.heap.size, 0, 0⟩ (n + 1) = none := H1.free (Nat.le_refl (n + 1))
    have M2 := ext_new (h := h1) (b := ⟨w.heap.size + 1, 0, 0⟩) hfree1 hg2
    have M := M1.trans M2
    have hsize : (w.alloc (.deferred (some []))).heap.size = w.heap.size + 1 := by simp
    have hbn : upd (upd β n ⟨w.heap.size, 0, 0⟩) (n + 1) ⟨w.heap.size + 1, 0, 0⟩ n = some ⟨w.heap.size, 0, 0⟩ := by simp [upd]
    have H2 := (H1.new hg2).alloc (o := .loop .ready none fn sz regs ps.toList assign body n) (b := ⟨w.heap.size + 1, 0, 0⟩)
      (ob := .loop { state := .ready, pending := none, fn := F.fn, tmps := F.tmps, params := ps, assign, body, defers := w.heap.size }) (by omega) hfree1 (by rw [hg2, if_pos rfl]) (by simp)
      ⟨_, ⟨w.heap.size, 0, 0⟩, rfl, rfl, rfl, hfi.fn, hfi.sz, hR.mono M.le, rfl, rfl, rfl, hbn, rfl⟩
    have hrun : (Instr.enterLoop F.fn F.tmps ps assign body F.roundOf).run P w = .ok (w.heap.size + 1, [{ target := .collected w.heap.size, args := #[] }])
        ((w.alloc (.deferred (some []))).alloc (.loop { state := .ready, pending := none, fn := F.fn, tmps := F.tmps, params := ps, assign, body, defers := w.heap.size })) := by
      rw [hFr]
      simp [Instr.enterLoop, newObj, Sem.run, World.alloc_eq]
    have hbl : bAt (upd (upd β n ⟨w.heap.size, 0, 0⟩) (n + 1) ⟨w.heap.size + 1, 0, 0⟩) (n + 1) (w.heap.size + 1) := ⟨_, upd_self, rfl⟩
    have HW : ∀ hi, WaitR P E.tys lo hi (upd (upd β n ⟨w.heap.size, 0, 0⟩) (n + 1) ⟨w.heap.size + 1, 0, 0⟩) h2 ⟨⟨fn, sz, n :: defers, none⟩, regs, .inRange (n + 1) :: t⟩
        { F with todo := .inRangeFunc (w.heap.size + 1) :: T, defers := [{ target := .collected w.heap.size, args := #[] }] ++ F.defers } :=
      fun hi => ⟨⟨hfi.fn, hfi.sz, hfi.kind, ⟨⟨_, ⟨_, hbn, rfl⟩, rfl⟩, hfi.defers.mono M.le⟩, hFr⟩, hm, ⟨⟨_, rfl, hbl⟩, hT'.mono M.le⟩, hR.mono M.le⟩
    refine outc_ok G (callK_ok HE e) (s := invV (F.eval f) #[.func (.yield (w.heap.size + 1)) #[] #[]]) H2 (HW _) (StackR.congr (i := ⟨fn, sz, defers, none⟩) rfl rfl (StackR.more (M.toB hlo) HS)) (by omega) ?_
      (fun F1 CS1 w1 h1 => step_lone_go (by rw [stepG_range hm hF hrun]; exact h1)) (fun d a b c t hc => by cases hc) (fun v h' n' r e => (bad_ne e).elim)
    obtain ⟨b, hb1, hb2⟩ := hbl
    exact ⟨_, [.func (.yield (w.heap.size + 1)) #[] #[]], conc_mono M.le _ _ hcf, by simp [concL, conc, hb1, hb2], rfl⟩
  | some l =>
    obtain ⟨kb, hFr, b, hb, rfl⟩ := hround
    replace e : om (h.get l) (stRangeIn E ⟨fn, sz, defers, some l⟩ regs t cs h n go vf ps assign body) = .ok r := e
    replace e := om_ok e; obtain ⟨o, ho, e⟩ := e
    cases o with
    | loop st pending lfn lsz lregs lps lassign lbody d =>
      replace e : newO h n (.loop .ready none fn sz regs ps.toList assign body d) (fun h n1 =>
        callK E vf [.yield n] ⟨⟨fn, sz, defers, some l⟩, regs, .inRange n :: t⟩ cs h n1 go fun v h n2 => finIt ⟨fn, sz, defers, some l⟩ regs v t (fun regs todo => go ⟨fn, sz, defers, some l⟩ regs todo cs h n2) (.inRange n)) = .ok r := e
      replace e := setK_ok e; obtain ⟨h1, e, hg1⟩ := e
      rw [fNat_eq] at e
      obtain ⟨L, bd, a1, a2, a3, a4, a5, a6, a7, a8, a9, a10, a11⟩ := HH.obj l _ b ho hb
      have hfree : β n = none := HH.free (Nat.le_refl n)
      have M : More β h n (upd β n ⟨w.heap.size, 0, 0⟩) h1 (n + 1) := ext_new hfree hg1
      have H1 := (HH.new hg1).alloc (o := .loop .ready none fn sz regs ps.toList assign body d) (b := ⟨w.heap.size, 0, 0⟩)
        (ob := .loop { state := .ready, pending := none, fn := F.fn, tmps := F.tmps, params := ps, assign, body, defers := L.defers }) (by omega) hfree (by rw [hg1, if_pos rfl]) rfl
        ⟨_, bd, rfl, rfl, rfl, hfi.fn, hfi.sz, hR.mono M.le, rfl, rfl, rfl, M.le _ _ a10, a11⟩
      have hrun : (Instr.enterLoop F.fn F.tmps ps assign body F.roundOf).run P w = .ok (w.heap.size, [])
          (w.alloc (.loop { state := .ready, pending := none, fn := F.fn, tmps := F.tmps, params := ps, assign, body, defers := L.defers })) := by
        rw [hFr]
        simp [Instr.enterLoop, Instr.getLoop, getObj, newObj, Sem.run, World.alloc_eq, a1]
      have hbl : bAt (upd β n ⟨w.heap.size, 0, 0⟩) n w.heap.size := ⟨_, upd_self, rfl⟩
      have HW : ∀ hi, WaitR P E.tys lo hi (upd β n ⟨w.heap.size, 0, 0⟩) h1 ⟨⟨fn, sz, defers, some l⟩, regs, .inRange n :: t⟩
          { F with todo := .inRangeFunc w.heap.size :: T, defers := [] ++ F.defers } :=
        fun hi => ⟨⟨hfi.fn, hfi.sz, hfi.kind, hfi.defers.mono M.le, hfi.round.mono M.le⟩, hm, ⟨⟨_, rfl, hbl⟩, hT'.mono M.le⟩, hR.mono M.le⟩
      have HS' := StackR.more (M.toB hlo) HS
      refine outc_ok G (callK_ok HE e) (s := invV (F.eval f) #[.func (.yield w.heap.size) #[] #[]]) H1 (HW _) HS' (by omega) ?_
        (fun F1 CS1 w1 h1 => step_lone_go (by rw [stepG_range hm hF hrun]; exact h1)) (fun d a b c t hc => by cases hc) (fun v h' n' r e β' val w' H' M' hv => ?_)
      · exact ⟨_, [.func (.yield w.heap.size) #[] #[]], conc_mono M.le _ _ hcf, by simp [concL, conc, upd_self], rfl⟩
      · replace e : go ⟨fn, sz, defers, some l⟩ regs (.endRange n :: t) cs h' n' = .ok r := e
        have M2 := M.trans M'
        refine G _ _ _ _ _ _ _ e β' { F with todo := .endRangeFunc w.heap.size :: T, defers := [] ++ F.defers } CS w' lo ⟨H', ⟨⟨hfi.fn, hfi.sz, hfi.kind, hfi.defers.mono M2.le, hfi.round.mono M2.le⟩,
          bodyR_of hm ⟨⟨_, rfl, hbl.mono M'.le⟩, hT'.mono M2.le⟩ (hR.mono M2.le)⟩, StackR.more (M2.toB hlo) HS, Nat.le_trans hlo M2.lt⟩
    | cells => exact (bad_ne e).elim
    | map => exact (bad_ne e).elim
    | deferred => exact (bad_ne e).elim
    | iter => exact (bad_ne e).elim
    | ro => exact (bad_ne e).elim

theorem range_map {ops : Array Oper} : (List.range ops.size).map (fun i => ops[i]?) = ops.toList.map some := by
  apply List.ext_getElem?
  intro j
  simp only [List.getElem?_map]
  rcases Nat.lt_or_ge j ops.size with h | h
  · rw [List.getElem?_range h]
    simp [Array.getElem?_eq_getElem h]
  · rw [List.getElem?_eq_none (by simpa using h), List.getElem?_eq_none (by simpa using h)]; rfl

include G HE in
theorem code_ok {c : Code} (e : stCode E i regs t cs h n go c = .ok r) (S : Sim P E.tys W0 f0 cs0 B0 lo β i regs (.code c :: t) cs h n F CS w)
    (hdraw : ∀ id ops, c = .region id ops true → Ends P W0 f0 cs0 B0 r F CS w) : Ends P W0 f0 cs0 B0 r F CS w := by
  have S0 := S
  obtain ⟨HH, ⟨hfi, hB⟩, HS, hlo⟩ := S
  obtain ⟨hm, hT, hR⟩ : F.mode = .run ∧ TodoR β (.code c :: t) F.todo ∧ RegsR β regs F.tmps no := hB
  obtain ⟨b', T, hF, rfl, hT'⟩ := hT.cons
  have cont : ∀ (t' : List It) (k : List Item), go i regs t' cs h n = .ok r → TodoR β t' k → Ends P W0 f0 cs0 B0 r { F with todo := k } CS w := fun t' k e hk =>
    G _ _ _ _ _ _ _ e β _ CS w lo ⟨HH, ⟨⟨hfi.fn, hfi.sz, hfi.kind, hfi.defers, hfi.round⟩, bodyR_of hm hk hR⟩, HS, hlo⟩
  cases c with
  | skip => exact (cont _ _ e hT').step (r_skip hm hF)
  | label l => exact (cont _ _ e hT').step (r_label hm hF)
  | region id ops draw =>
    cases draw with
    | true => exact hdraw id ops rfl
    | false => exact (cont _ (.inRegion ops (List.range ops.size) :: T) e ⟨⟨ops, _, rfl, rfl, range_map⟩, hT'⟩).step (r_region hm hF)
  | seq a b => exact (cont _ (.code a :: .code b :: T) e ⟨rfl, rfl, hT'⟩).step (r_seq hm hF)
  | cond c a b =>
    replace e := ev_ok e; obtain ⟨v, e, hv⟩ := e
    have hc := hv β F.eval (agree_eval hR fun _ _ h => h)
    unfold condK at e
    split at e
    · rename_i r'
      have hc : F.eval c = .bool r' := by simpa [conc] using hc.symm
      refine (cont (.code (if r' then a else b) :: t) (.code (if r' then a else b) :: T) ?_ ⟨rfl, hT'⟩).step (r_cond hm hF hc)
      cases r' <;> exact e
    · exact (bad_ne e).elim
  | block id body => exact (cont _ (.code body :: .inBlock id :: T) e ⟨rfl, rfl, hT'⟩).step (r_block hm hF)
  | loop body => exact (cont _ (.code body :: .inLoop body :: T) e ⟨rfl, rfl, hT'⟩).step (r_loop hm hF)
  | scope body => exact (cont _ (.code body :: .inScope body :: T) e ⟨rfl, rfl, hT'⟩).step (r_scope hm hF)
  | exit id =>
    replace e : exitK id t (leaveK (some (.exit id)) i regs cs h n go) (fun t => go i regs t cs h n) = .ok r := e
    rcases exitK_ok e hT' with ⟨e, hx⟩ | ⟨t', T', e, hx, hT2⟩
    · exact leave_ok G e HH hfi hR HS hlo (fun _ hj => by rcases hj with hj | hj <;> cases hj) (fun l C CS' v w' hCS hFr hrun => by subst hCS; exact r_roundExit hm hF hx hFr hfi.kind hrun)
    · exact (cont _ _ e hT2).step (r_exit hm hF hx)
  | ret =>
    replace e : leaveK (some .ret) i regs cs h n go = .ok r := e
    exact leave_ok G e HH hfi hR HS hlo (fun hr _ => r_ret hm hF hr) (fun l C CS' v w' hCS hFr hrun => by subst hCS; exact r_roundRet hm hF hFr hfi.kind hrun)
  | rangeFunc f ps assign body => exact range_ok G HE e S0
  | goto l =>
    replace e : gotoK l t (fun t => go i regs t cs h n) = .ok r := e
    obtain ⟨t', T', e, hx, hT2⟩ := gotoK_ok e hT'
    exact (cont _ _ e hT2).step (r_goto hm hF hx)
  | refuse why => exact (bad_ne e).elim
end

end Go.Mir
