/- The small machine against the model: code. No statement of the program stands here. -/
import Derived.Test.YtnclpappnmoimaaGreatDoorMirAR
namespace Go.Mir
open Go Go.RowKit

theorem exitK_ok {β : Beta} {id : Nat} {kn : Out} {k : List It → Out} {r : Rz} : ∀ {todo : List It} {T : List Item}, exitK id todo kn k = .ok r → TodoR β todo T →
    (kn = .ok r ∧ exitTo id T = none) ∨ (∃ t T', k t = .ok r ∧ exitTo id T = some T' ∧ TodoR β t T')
  | [], [], e, _ => .inl ⟨e, rfl⟩
  | [], _ :: _, _, hT => hT.elim
  | _ :: _, [], _, hT => hT.elim
  | i :: t, b :: T, e, hT => by
    have rest : exitK id t kn k = .ok r → exitTo id (b :: T) = exitTo id T → (kn = .ok r ∧ exitTo id (b :: T) = none) ∨ (∃ t T', k t = .ok r ∧ exitTo id (b :: T) = some T' ∧ TodoR β t T') := fun e h => by
      rw [h]; exact exitK_ok e hT.2
    have hI := hT.1
    cases i with
    | inBlock id' =>
      have hI : b = .inBlock id' := hI
      subst hI
      replace e : (Bool.rec (exitK id t kn k) (k t) (Nat.beq id' id) : Out) = .ok r := e
      rcases rec_ok e with ⟨hb, e2⟩ | ⟨hb, e2⟩
      · have := beq_of hb
        subst this
        exact .inr ⟨t, T, e2, by simp [exitTo], hT.2⟩
      · have hne : (id' == id) = false := by
          cases h : id' == id with
          | false => rfl
          | true => have := beq_iff_eq.1 h; subst this; simp at hb
        refine rest e2 (by simp only [exitTo, hne]; rfl)
    | reg all rem => obtain ⟨ops, L, rfl, _⟩ := hI; exact rest e rfl
    | code c => have hI : b = .code c := hI; subst hI; exact rest e rfl
    | inLoop c => have hI : b = .inLoop c := hI; subst hI; exact rest e rfl
    | inScope c => have hI : b = .inScope c := hI; subst hI; exact rest e rfl
    | inRange c => obtain ⟨k, rfl, _⟩ := hI; exact rest e rfl
    | endRange c => obtain ⟨k, rfl, _⟩ := hI; exact rest e rfl
    | beginRound => have hI : b = .beginRound := hI; subst hI; exact rest e rfl
    | dreg all sc => exact hI.elim
    | fin => exact hI.elim

section
variable {P : Program} {E : Env} {W0 : World} {f0 : Nat} {cs0 : List Frame} {B0 : Bs} {r : Rz} {go : Go_} (G : Good P E.tys W0 f0 cs0 B0 go) (HE : EnvR P E)
variable {i : Fi} {regs : T V} {t : List It} {cs : List Fr} {h : T O} {n : Nat} {β : Beta} {F : Frame} {CS : List Frame} {w : World} {lo : Nat}

include G HE in
theorem range_ok {f : Operand} {ps : Array Nat} {assign body : Code} (e : (ev regs f (stRange E i regs t cs h n go ps assign body)) = .ok r)
    (S : Sim P E.tys W0 f0 cs0 B0 lo β i regs (.code (.rangeFunc f ps assign body) :: t) cs h n F CS w) : Ends P W0 f0 cs0 B0 r F CS w := by
  obtain ⟨HH, ⟨hfi, hB⟩, HS, hlo⟩ := S
  obtain ⟨hm, hT, hR⟩ : F.mode = .run ∧ TodoR β (.code (.rangeFunc f ps assign body) :: t) F.todo ∧ RegsR β regs F.tmps no := hB
  obtain ⟨b', T, hF, rfl, hT'⟩ := hT.cons
  replace e := ev_ok e; obtain ⟨vf, e, hvf⟩ := e
  have hcf := hvf β F.eval (agree_eval hR fun _ _ h => h)
  obtain ⟨fn, sz, defers, round⟩ := i
  have hround := hfi.round
  cases round with
  | none =>
    have hFr : F.roundOf = none := hround
    replace e : newO h n .deferred (fun h n1 => newO h n1 (.loop .ready none fn sz regs ps.toList assign body n) fun h n2 =>
        callK E vf [.yield n1] ⟨⟨fn, sz, n :: defers, none⟩, regs, .inRange n1 :: t⟩ cs h n2 go fun _ _ _ => bad 193) = .ok r := e
    replace e := setK_ok e; obtain ⟨h1, e, hg1⟩ := e
    rw [fNat_eq] at e
    replace e := setK_ok e; obtain ⟨h2, e, hg2⟩ := e
    rw [fNat_eq] at e
    have hfree : β n = none := HH.free (Nat.le_refl n)
    have H1 := (HH.new hg1).alloc (o := .deferred) (b := ⟨w.heap.size, 0, 0⟩) (ob := .deferred (some [])) (by omega) hfree (by rw [hg1, if_pos rfl]) rfl rfl
    have M1 : More β h n (upd β n ⟨w.heap.size, 0, 0⟩) h1 (n + 1) := ext_new hfree hg1
    have hfree1 : upd β n ⟨w.heap.size, 0, 0⟩ (n + 1) = none := H1.free (Nat.le_refl (n + 1))
    have M2 := ext_new (h := h1) (b := ⟨w.heap.size + 1, 0, 0⟩) hfree1 hg2
    have M := M1.trans M2
    have hsize : (w.alloc (.deferred (some []))).heap.size = w.heap.size + 1 := by simp
    have hbn : upd (upd β n ⟨w.heap.size, 0, 0⟩) (n + 1) ⟨w.heap.size + 1, 0, 0⟩ n = some ⟨w.heap.size, 0, 0⟩ := by simp [upd]
    have H2 := (H1.new hg2).alloc (o := .loop .ready none fn sz regs ps.toList assign body n) (b := ⟨w.heap.size + 1, 0, 0⟩)
      (ob := .loop { state := .ready, pending := none, fn := F.fn, tmps := F.tmps, params := ps, assign, body, defers := w.heap.size }) (by omega) hfree1 (by rw [hg2, if_pos rfl]) (by simp)
      ⟨_, ⟨w.heap.size, 0, 0⟩, rfl, rfl, rfl, hfi.fn, hfi.sz, hR.mono M.le, rfl, rfl, rfl, hbn, rfl⟩
    have hrun : (Instr.enterLoop F.fn F.tmps ps assign body F.roundOf).run P w = .ok (w.heap.size + 1, [{ target := .collected w.heap.size, args := #[] }])
        ((w.alloc (.deferred (some []))).alloc (.loop { state := .ready, pending := none, fn := F.fn, tmps := F.tmps, params := ps, assign, body, defers := w.heap.size })) := by
      rw [hFr]
      simp [Instr.enterLoop, newObj, Sem.run, World.alloc_eq]
    have hbl : bAt (upd (upd β n ⟨w.heap.size, 0, 0⟩) (n + 1) ⟨w.heap.size + 1, 0, 0⟩) (n + 1) (w.heap.size + 1) := ⟨_, upd_self, rfl⟩
    have HW : ∀ hi, WaitR P E.tys lo hi (upd (upd β n ⟨w.heap.size, 0, 0⟩) (n + 1) ⟨w.heap.size + 1, 0, 0⟩) h2 ⟨⟨fn, sz, n :: defers, none⟩, regs, .inRange (n + 1) :: t⟩
        { F with todo := .inRangeFunc (w.heap.size + 1) :: T, defers := [{ target := .collected w.heap.size, args := #[] }] ++ F.defers } :=
      fun hi => ⟨⟨hfi.fn, hfi.sz, hfi.kind, ⟨⟨_, ⟨_, hbn, rfl⟩, rfl⟩, hfi.defers.mono M.le⟩, hFr⟩, hm, ⟨⟨_, rfl, hbl⟩, hT'.mono M.le⟩, hR.mono M.le⟩
    refine outc_ok G (callK_ok HE e) (s := invV (F.eval f) #[.func (.yield (w.heap.size + 1)) #[] #[]]) H2 (HW _) (StackR.congr (i := ⟨fn, sz, defers, none⟩) rfl rfl (StackR.more (M.toB hlo) HS)) (by omega) ?_
      (fun F1 CS1 w1 h1 => step_lone_go (by rw [stepG_range hm hF hrun]; exact h1)) (fun d a b c t hc => by cases hc) (fun v h' n' r e => (bad_ne e).elim)
    obtain ⟨b, hb1, hb2⟩ := hbl
    exact ⟨_, [.func (.yield (w.heap.size + 1)) #[] #[]], conc_mono M.le _ _ hcf, by simp [concL, conc, hb1, hb2], rfl⟩
  | some l =>
    obtain ⟨kb, hFr, b, hb, rfl⟩ := hround
    replace e : om (h.get l) (stRangeIn E ⟨fn, sz, defers, some l⟩ regs t cs h n go vf ps assign body) = .ok r := e
    replace e := om_ok e; obtain ⟨o, ho, e⟩ := e
    cases o with
    | loop st pending lfn lsz lregs lps lassign lbody d =>
      replace e : newO h n (.loop .ready none fn sz regs ps.toList assign body d) (fun h n1 =>
        callK E vf [.yield n] ⟨⟨fn, sz, defers, some l⟩, regs, .inRange n :: t⟩ cs h n1 go fun v h n2 => finIt ⟨fn, sz, defers, some l⟩ regs v t (fun regs todo => go ⟨fn, sz, defers, some l⟩ regs todo cs h n2) (.inRange n)) = .ok r := e
      replace e := setK_ok e; obtain ⟨h1, e, hg1⟩ := e
      rw [fNat_eq] at e
      obtain ⟨L, bd, a1, a2, a3, a4, a5, a6, a7, a8, a9, a10, a11⟩ := HH.obj l _ b ho hb
      have hfree : β n = none := HH.free (Nat.le_refl n)
      have M : More β h n (upd β n ⟨w.heap.size, 0, 0⟩) h1 (n + 1) := ext_new hfree hg1
      have H1 := (HH.new hg1).alloc (o := .loop .ready none fn sz regs ps.toList assign body d) (b := ⟨w.heap.size, 0, 0⟩)
        (ob := .loop { state := .ready, pending := none, fn := F.fn, tmps := F.tmps, params := ps, assign, body, defers := L.defers }) (by omega) hfree (by rw [hg1, if_pos rfl]) rfl
        ⟨_, bd, rfl, rfl, rfl, hfi.fn, hfi.sz, hR.mono M.le, rfl, rfl, rfl, M.le _ _ a10, a11⟩
      have hrun : (Instr.enterLoop F.fn F.tmps ps assign body F.roundOf).run P w = .ok (w.heap.size, [])
          (w.alloc (.loop { state := .ready, pending := none, fn := F.fn, tmps := F.tmps, params := ps, assign, body, defers := L.defers })) := by
        rw [hFr]
        simp [Instr.enterLoop, Instr.getLoop, getObj, newObj, Sem.run, World.alloc_eq, a1]
      have hbl : bAt (upd β n ⟨w.heap.size, 0, 0⟩) n w.heap.size := ⟨_, upd_self, rfl⟩
      have HW : ∀ hi, WaitR P E.tys lo hi (upd β n ⟨w.heap.size, 0, 0⟩) h1 ⟨⟨fn, sz, defers, some l⟩, regs, .inRange n :: t⟩
          { F with todo := .inRangeFunc w.heap.size :: T, defers := [] ++ F.defers } :=
        fun hi => ⟨⟨hfi.fn, hfi.sz, hfi.kind, hfi.defers.mono M.le, hfi.round.mono M.le⟩, hm, ⟨⟨_, rfl, hbl⟩, hT'.mono M.le⟩, hR.mono M.le⟩
      have HS' := StackR.more (M.toB hlo) HS
      refine outc_ok G (callK_ok HE e) (s := invV (F.eval f) #[.func (.yield w.heap.size) #[] #[]]) H1 (HW _) HS' (by omega) ?_
        (fun F1 CS1 w1 h1 => step_lone_go (by rw [stepG_range hm hF hrun]; exact h1)) (fun d a b c t hc => by cases hc) (fun v h' n' r e β' val w' H' M' hv => ?_)
      · exact ⟨_, [.func (.yield w.heap.size) #[] #[]], conc_mono M.le _ _ hcf, by simp [concL, conc, upd_self], rfl⟩
      · replace e : go ⟨fn, sz, defers, some l⟩ regs (.endRange n :: t) cs h' n' = .ok r := e
        have M2 := M.trans M'
        refine G _ _ _ _ _ _ _ e β' { F with todo := .endRangeFunc w.heap.size :: T, defers := [] ++ F.defers } CS w' lo ⟨H', ⟨⟨hfi.fn, hfi.sz, hfi.kind, hfi.defers.mono M2.le, hfi.round.mono M2.le⟩,
          bodyR_of hm ⟨⟨_, rfl, hbl.mono M'.le⟩, hT'.mono M2.le⟩ (hR.mono M2.le)⟩, StackR.more (M2.toB hlo) HS, Nat.le_trans hlo M2.lt⟩
    | cells => exact (bad_ne e).elim
    | map => exact (bad_ne e).elim
    | deferred => exact (bad_ne e).elim
    | iter => exact (bad_ne e).elim
    | ro => exact (bad_ne e).elim

theorem range_map {ops : Array Oper} : (List.range ops.size).map (fun i => ops[i]?) = ops.toList.map some := by
  apply List.ext_getElem?
  intro j
  simp only [List.getElem?_map]
  rcases Nat.lt_or_ge j ops.size with h | h
  · rw [List.getElem?_range h]
    simp [Array.getElem?_eq_getElem h]
  · rw [List.getElem?_eq_none (by simpa using h), List.getElem?_eq_none (by simpa using h)]; rfl

include G HE in
theorem code_ok {c : Code} (e : stCode E i regs t cs h n go c = .ok r) (S : Sim P E.tys W0 f0 cs0 B0 lo β i regs (.code c :: t) cs h n F CS w)
    (hdraw : ∀ id ops, c = .region id ops true → Ends P W0 f0 cs0 B0 r F CS w) : Ends P W0 f0 cs0 B0 r F CS w := by
  have S0 := S
  obtain ⟨HH, ⟨hfi, hB⟩, HS, hlo⟩ := S
  obtain ⟨hm, hT, hR⟩ : F.mode = .run ∧ TodoR β (.code c :: t) F.todo ∧ RegsR β regs F.tmps no := hB
  obtain ⟨b', T, hF, rfl, hT'⟩ := hT.cons
  have cont : ∀ (t' : List It) (k : List Item), go i regs t' cs h n = .ok r → TodoR β t' k → Ends P W0 f0 cs0 B0 r { F with todo := k } CS w := fun t' k e hk =>
    G _ _ _ _ _ _ _ e β _ CS w lo ⟨HH, ⟨⟨hfi.fn, hfi.sz, hfi.kind, hfi.defers, hfi.round⟩, bodyR_of hm hk hR⟩, HS, hlo⟩
  cases c with
  | skip => exact (cont _ _ e hT').step (r_skip hm hF)
  | label l => exact (cont _ _ e hT').step (r_label hm hF)
  | region id ops draw =>
    cases draw with
    | true => exact hdraw id ops rfl
    | false => exact (cont _ (.inRegion ops (List.range ops.size) :: T) e ⟨⟨ops, _, rfl, rfl, range_map⟩, hT'⟩).step (r_region hm hF)
  | seq a b => exact (cont _ (.code a :: .code b :: T) e ⟨rfl, rfl, hT'⟩).step (r_seq hm hF)
  | cond c a b =>
    replace e := ev_ok e; obtain ⟨v, e, hv⟩ := e
    have hc := hv β F.eval (agree_eval hR fun _ _ h => h)
    unfold condK at e
    split at e
    · rename_i r'
      have hc : F.eval c = .bool r' := by simpa [conc] using hc.symm
      refine (cont (.code (if r' then a else b) :: t) (.code (if r' then a else b) :: T) ?_ ⟨rfl, hT'⟩).step (r_cond hm hF hc)
      cases r' <;> exact e
    · exact (bad_ne e).elim
  | block id body => exact (cont _ (.code body :: .inBlock id :: T) e ⟨rfl, rfl, hT'⟩).step (r_block hm hF)
  | loop body => exact (cont _ (.code body :: .inLoop body :: T) e ⟨rfl, rfl, hT'⟩).step (r_loop hm hF)
  | scope body => exact (cont _ (.code body :: .inScope body :: T) e ⟨rfl, rfl, hT'⟩).step (r_scope hm hF)
  | exit id =>
    replace e : exitK id t (leaveK (some (.exit id)) i regs cs h n go) (fun t => go i regs t cs h n) = .ok r := e
    rcases exitK_ok e hT' with ⟨e, hx⟩ | ⟨t', T', e, hx, hT2⟩
    · exact leave_ok G e HH hfi hR HS hlo (fun _ hj => by rcases hj with hj | hj <;> cases hj) (fun l C CS' v w' hCS hFr hrun => by subst hCS; exact r_roundExit hm hF hx hFr hfi.kind hrun)
    · exact (cont _ _ e hT2).step (r_exit hm hF hx)
  | ret =>
    replace e : leaveK (some .ret) i regs cs h n go = .ok r := e
    exact leave_ok G e HH hfi hR HS hlo (fun hr _ => r_ret hm hF hr) (fun l C CS' v w' hCS hFr hrun => by subst hCS; exact r_roundRet hm hF hFr hfi.kind hrun)
  | rangeFunc f ps assign body => exact range_ok G HE e S0
  | goto l => exact (bad_ne e).elim
  | refuse why => exact (bad_ne e).elim
end

end Go.Mir
