/- The small machine against the model: what the machine knows of a program, checked. No statement of the program stands here. -/
import Derived.Test.YtojkinikdcelbaaGreatDoorNMirAU
set_option linter.unusedSimpArgs false
set_option linter.unusedVariables false
set_option linter.defProp false
namespace Go.Mir
open Go Go.RowKit

theorem isAlAt_late {P : Program} {tys : T TI} {all : List Oper} {h : T O} {regs : T V} {x : Nat} (ha : isAlAt tys all x = true) : LateP P tys all h regs x := fun o ho _ hal => by
  unfold isAlAt at ha
  rw [nth_eq, ho] at ha
  rw [show isAl tys o.op = true from ha] at hal; cases hal

theorem not_in_tail {all : List Oper} {L D l' : List Nat} {x : Nat} (HL : LinExt all L) (hs : L = D ++ x :: l') : x ∉ l' ∧ x ∉ D ∧ ∀ y, y ∈ l' → y ∉ D := by
  have hn := HL.nodup
  rw [hs] at hn
  have h1 := List.nodup_append.1 hn
  exact ⟨(List.nodup_cons.1 h1.2.1).1, fun h => h1.2.2 x h x (by simp) rfl, fun y hy hD => h1.2.2 y hD y (by simp [hy]) rfl⟩

/-- the next of the row is done -/
theorem DS.ch {P : Program} {tys : T TI} {lo hi : Nat} {β : Beta} {h : T O} {regs : T V} {all : List Oper} {tmps : Array Value} {s : List Sc} {L D l' seen : List Nat} {last : Option Nat} {evd must al : List Nat} {idf : Nat → Nat} {c : Nat}
    (S : DS P tys lo hi β h regs all tmps (.ch c :: s) L D (c :: l') seen last evd must al idf) :
    ∃ evd' must', DS P tys lo hi β h regs all tmps s L (D ++ [c]) l' (c :: seen) (some c) evd' must' al idf ∧ (∀ x ∈ c :: seen, x ∈ l' → x ∈ must' ∨ isAlAt tys all x = true) ∧
      (∀ o d, all[c]? = some o → o.dst = some d → ∀ x ∈ c :: seen, x ∈ l' → Free all d x) := by
  obtain ⟨_, _, hcs, _, hwr, evd', hevd, must', hmust, st⟩ := S.st.ch S.lin
  obtain ⟨n1, n2, n3⟩ := not_in_tail S.lin S.split
  have old : ∀ x ∈ c :: seen, x ∈ l' → x ∈ seen := fun x hx hl => by
    cases hx with
    | head => exact absurd hl n1
    | tail _ hx => exact hx
  have noPrec : ∀ x, x ∈ l' → ¬ Prec L x c := fun x hl hp => n3 x hl (hp D l' S.split)
  have hev : ∀ x ∈ c :: seen, x ∈ l' → x ∈ evd' := fun x hx hl => by
    rcases hevd x (S.late x (old x hx hl) (List.mem_cons_of_mem _ hl)) with h | h
    · exact h
    · exact absurd h (noPrec x hl)
  refine ⟨evd', must', ⟨S.lin, S.dd, by rw [S.split]; simp, st, fun x hx => ?_, hev, fun c' hc => by cases hc; simp, fun x hx hl => ?_, fun x hx hl => S.lg x (old x hx hl) (List.mem_cons_of_mem _ hl),
    fun x hx => ⟨List.mem_cons_of_mem _ (S.al1 x hx).1, (S.al1 x hx).2⟩, S.inj, fun t v hv hns => ?_, fun x hx hl => S.dl x (old x hx hl) (List.mem_cons_of_mem _ hl)⟩, fun x hx hl => hmust x (hev x hx hl), fun o d ho hd x hx hl => ?_⟩
  · rcases List.mem_append.1 hx with h | h
    · exact List.mem_cons_of_mem _ (S.done x h)
    · have : x = c := by simpa using h
      subst this; simp
  · have := S.wr x (old x hx hl) (List.mem_cons_of_mem _ hl)
    exact ⟨this.1.more fun y hy => List.mem_cons_of_mem _ hy, this.2⟩
  · refine S.regs t v hv fun ⟨y, h1, h2, h3⟩ => hns ⟨y, List.mem_cons_of_mem _ h1, ?_, h3⟩
    cases h2 with
    | head => exact absurd h1 hcs
    | tail _ h2 => exact h2
  · exact free_of S.dd (old x hx hl) hcs (S.wr x (old x hx hl) (List.mem_cons_of_mem _ hl)).1 ho hd (noPrec x hl)

section
variable {P : Program} {E : Env} {W0 : World} {f0 : Nat} {cs0 : List Frame} {B0 : Bs} {r : Rz} {go : Go_} (G : Good P E.tys W0 f0 cs0 B0 go) (HE : EnvR P E)
variable {i : Fi} {regs : T V} {t : List It} {cs : List Fr} {h : T O} {n : Nat} {β : Beta} {F : Frame} {CS : List Frame} {w : World} {lo : Nat}

include G HE in
theorem chain_ok {all : List Oper} {s : List Sc} {c : Nat} (e : stChain E i t cs go all regs h n c s = .ok r) {ops : Array Oper} (ha : ops.toList = all) {L D l' seen : List Nat} {last : Option Nat} {evd must al : List Nat} {idf : Nat → Nat} {TT : List Item}
    (hm : F.mode = .run) (hF : F.todo = .inRegion ops (c :: l') :: TT) (hfi : FiR β i F) (hT : TodoR β t TT) (HS : StackR P E.tys f0 cs0 B0 β h lo i cs CS) (HH : HR W0 β h n w) (hlo : lo ≤ n)
    (S : DS P E.tys lo n β h regs all F.tmps (.ch c :: s) L D (c :: l') seen last evd must al idf) : Ends P W0 f0 cs0 B0 r F CS w := by
  replace e := om_ok e; obtain ⟨o, ho, e⟩ := e
  rw [nth_eq] at ho
  replace e := wantK_ok e; obtain ⟨b, hb, e⟩ := e
  obtain ⟨_, _, _, _, hwr, _⟩ := S.st.ch S.lin
  have hox : ops[c]? = some o := by rw [getE_toList, ha]; exact ho
  have hwant := ready_wanted ha S ho hwr hb
  have hA := ready_agree (F := F) S ho hwr (rq := regs) (fun _ _ => rfl)
  obtain ⟨evd', must', S1, hmode, hfree⟩ := S.ch
  have hfinish : ∀ val, F.finish val = { F with tmps := putT F.tmps o.dst val, todo := .inRegion ops l' :: TT } := fun val => finish_region hF (by rw [hox]; rfl) val
  have hsz := hfi.sz
  have hcont : ∀ v h' n' r, setD regs o.dst i.sz v (fun regs => go i regs (.dreg all s :: t) cs h' n') = .ok r → ∀ β' val w', HR W0 β' h' n' w' → More β h n β' h' n' → conc β' v = some val → Ends P W0 f0 cs0 B0 r (F.finish val) CS w' := by
    intro v h' n' r e' β' val w' H' M hv
    replace e' := setD_ok e'; obtain ⟨regs', e', hdd, hg⟩ := e'
    rw [hfinish]
    have S2 := (S1.more (M.toB (Nat.le_refl n))).set hg hv (fun d hd => by have := hdd d hd; omega) (fun d hd => hfree o d ho hd)
    exact G _ _ _ _ _ _ _ e' β' _ CS w' lo ⟨H', ⟨⟨hfi.fn, by simp [putT_size, hfi.sz], hfi.kind, hfi.defers.mono M.le, hfi.round.mono M.le⟩,
      ⟨hm, ops, L, D ++ [c], l', c :: seen, some c, evd', must', al, idf, TT, ha, rfl, hT.mono M.le, S2.up M.lt, hmode, fun c hc => (by cases hc)⟩⟩, HS.more (M.toB hlo), Nat.le_trans hlo M.lt⟩
  rcases rec_ok e with ⟨rfl, e⟩ | ⟨rfl, e⟩
  · refine region_op (op := o.op) (fr := ⟨i, regs, .dreg all (.ch c :: s) :: t⟩) (fin := fun v h n => setD regs o.dst i.sz v fun regs => go i regs (.dreg all s :: t) cs h n) G HE e HH ?_ HS hlo hF hox rfl hwant hA hcont
    exact ⟨hfi, hm, ops, L, D ++ [c], l', c :: seen, some c, evd', must', al, idf, TT, ha, by simpa using hF, hT, S1, hmode, fun c' hc o d ho hd => by cases hc; exact hfree o d ho hd⟩
  · exact (hcont _ _ _ _ e β undef w HH (More.refl _ _ _) (conc_undef β)).step (r_opSkip hm hF hox hwant)

include G HE in
theorem dreg_ok {all : List Oper} {sc : List Sc} (e : stDreg E i regs t cs h n go all sc = .ok r) (S : Sim P E.tys W0 f0 cs0 B0 lo β i regs (.dreg all sc :: t) cs h n F CS w) : Ends P W0 f0 cs0 B0 r F CS w := by
  obtain ⟨HH, ⟨hfi, hB⟩, HS, hlo⟩ := S
  obtain ⟨hm, ops, L, D, l, seen, last, evd, must, al, idf, TT, ha, hF, hT, S0, hmode, _⟩ : F.mode = .run ∧ DregR P E.tys lo n β h regs all sc t F none := hB
  have hF : F.todo = .inRegion ops l :: TT := by simpa using hF
  have hFr : FreshR P E.tys all h regs l seen must := fun x hx hl => (hmode x hx hl).imp id isAlAt_late
  obtain ⟨sc', regs', h', n', seen', evd', must', al', idf', e, hsc, S1, hF1, HH1, hlo1, M⟩ := gap_ok HE.tys hfi.sz sc regs h n seen evd must al idf e S0 hFr HH hlo
  have hmust : must' = [] := by
    rcases hsc with rfl | ⟨c, s, rfl⟩
    · exact S1.st.nil.1
    · exact (S1.st.ch S1.lin).1
  subst hmust
  refine late_ok (i := i) (t := t) (cs := cs) (E := E) ha l D β F w hm hF hfi hT (HS.more (M.toB hlo)) HH1 hlo1 S1 hF1 fun l2 D2 β2 F2 w2 hm2 hF2 hfi2 hT2 HS2 HH2 S2 hFr2 hhead => ?_
  rcases hsc with rfl | ⟨c, s, rfl⟩
  · have hall := S2.st.nil.2
    cases l2 with
    | cons x l2 =>
      have := S2.lin.lt x (by rw [S2.split]; simp)
      exact absurd (hall x this) (hhead x l2 rfl)
    | nil =>
      have hR : RegsR β2 regs' F2.tmps no := fun u v hv _ => S2.regs u v hv fun ⟨y, _, h2, _⟩ => by cases h2
      have hE : Ends P W0 f0 cs0 B0 r { F2 with todo := TT } CS w2 := G _ _ _ _ _ _ _ e β2 _ CS w2 lo ⟨HH2, ⟨⟨hfi2.fn, hfi2.sz, hfi2.kind, hfi2.defers, hfi2.round⟩, bodyR_of hm2 hT2 hR⟩, HS2, hlo1⟩
      exact hE.step (r_regionEnd hm2 hF2)
  · obtain ⟨_, ⟨oc, hoc⟩, hcs, _, _, evd2, _, must2, _, st2⟩ := S2.st.ch S2.lin
    have hcl : c ∈ l2 := late_in S2 hoc hcs
    cases l2 with
    | nil => cases hcl
    | cons x l2 =>
      have hx := hhead x l2 rfl
      have : x = c := by
        apply Classical.byContradiction
        intro hne
        have hp := ScS.later S2.lin st2 x (S2.lin.lt x (by rw [S2.split]; simp)) (by simp [hne, hx])
        exact hcs (S2.done c (hp D2 l2 S2.split))
      subst this
      exact chain_ok G HE e ha hm2 hF2 hfi2 hT2 HS2 HH2 hlo1 S2

include G HE in
theorem draw_ok {id : Nat} {ops : Array Oper} (e : stRegion E i regs t cs h n go id ops true = .ok r) (S : Sim P E.tys W0 f0 cs0 B0 lo β i regs (.code (.region id ops true) :: t) cs h n F CS w) : Ends P W0 f0 cs0 B0 r F CS w := by
  obtain ⟨HH, ⟨hfi, hB⟩, HS, hlo⟩ := S
  obtain ⟨hm, hT, hR⟩ : F.mode = .run ∧ TodoR β (.code (.region id ops true) :: t) F.todo ∧ RegsR β regs F.tmps no := hB
  obtain ⟨b', TT, hF, rfl, hT'⟩ := hT.cons
  replace e : (om (E.scripts.get i.fn) fun r => om (r.get id) fun sc => need (scOk E.tys ops.toList sc) (go i regs (.dreg ops.toList sc :: t) cs h n)) = .ok r := e
  replace e := om_ok e; obtain ⟨tr, _, e⟩ := e
  replace e := om_ok e; obtain ⟨sc, _, e⟩ := e
  replace e := need_ok e; obtain ⟨hok, e⟩ := e
  have h1 := Bool.and_eq_true_iff.1 hok
  have h2 := Bool.and_eq_true_iff.1 h1.2
  have h3 := Bool.and_eq_true_iff.1 h2.2
  obtain ⟨tt, hst⟩ := r_draw (CS := CS) (w := w) hm hF HE.mixed
  have hL := linearise_ok h1.1 tt
  have hE : Ends P W0 f0 cs0 B0 r { F with todo := .inRegion ops (Region.linearise .any ops tt) :: TT } CS w.drew := by
    refine G _ _ _ _ _ _ _ e β _ CS w.drew lo ⟨HH.drew, ⟨⟨hfi.fn, hfi.sz, hfi.kind, hfi.defers, hfi.round⟩, hm, ops, Region.linearise .any ops tt, [], Region.linearise .any ops tt, [], none, [], [], [], fun x => x, TT, rfl, rfl, hT', ?_,
      fun x hx => (by cases hx), fun c hc => (by cases hc)⟩, HS, hlo⟩
    exact ⟨hL, h2.1, rfl, ⟨h3.2, h3.1, List.nodup_nil, fun x hx => (by cases hx)⟩, fun x hx => (by cases hx), fun x hx => (by cases hx), fun c hc => (by cases hc), fun x hx => (by cases hx), fun x hx => (by cases hx), fun x hx => (by cases hx),
      fun x hx => (by cases hx), fun u v hv _ => hR u v hv (fun h => h), fun x hx => (by cases hx)⟩
  exact hE.step hst

include G HE in
theorem step_ok : Good P E.tys W0 f0 cs0 B0 (fun i regs todo cs h n => step E i regs todo cs h n go) := by
  intro r i regs todo cs h n e β F CS w lo S
  have simple : ∀ (t' : List It) (k : List Item), go i regs t' cs h n = .ok r → F.mode = .run → TodoR β t' k → RegsR β regs F.tmps no → FiR β i F → Ends P W0 f0 cs0 B0 r { F with todo := k } CS w := fun t' k e hm hk hR hfi =>
    G _ _ _ _ _ _ _ e β _ CS w lo ⟨S.hr, ⟨⟨hfi.fn, hfi.sz, hfi.kind, hfi.defers, hfi.round⟩, bodyR_of hm hk hR⟩, S.st, S.le⟩
  cases todo with
  | nil =>
    replace e : leaveK none i regs cs h n go = .ok r := e
    obtain ⟨HH, ⟨hfi, hB⟩, HS, hlo⟩ := S
    obtain ⟨hm, hT, hR⟩ : F.mode = .run ∧ TodoR β [] F.todo ∧ RegsR β regs F.tmps no := hB
    have hF : F.todo = [] := by
      cases hF : F.todo with
      | nil => rfl
      | cons a s => rw [hF] at hT; exact hT.elim
    exact leave_ok G e HH hfi hR HS hlo (fun hr _ => r_end hm hF hr) (fun l C CS' v w' hCS hFr hrun => by subst hCS; exact r_roundEnd hm hF hFr hfi.kind hrun)
  | cons it t =>
    cases it with
    | reg all rem => exact stReg_ok G HE e S
    | code c =>
      refine code_ok G HE e S fun id ops hc => ?_
      subst hc
      exact draw_ok G HE e S
    | inBlock l =>
      obtain ⟨HH, ⟨hfi, hB⟩, HS, hlo⟩ := S
      obtain ⟨hm, hT, hR⟩ : F.mode = .run ∧ TodoR β (.inBlock l :: t) F.todo ∧ RegsR β regs F.tmps no := hB
      obtain ⟨b', TT, hF, rfl, hT'⟩ := hT.cons
      exact (simple t TT e hm hT' hR hfi).step (r_inBlock hm hF)
    | inScope l =>
      obtain ⟨HH, ⟨hfi, hB⟩, HS, hlo⟩ := S
      obtain ⟨hm, hT, hR⟩ : F.mode = .run ∧ TodoR β (.inScope l :: t) F.todo ∧ RegsR β regs F.tmps no := hB
      obtain ⟨b', TT, hF, rfl, hT'⟩ := hT.cons
      exact (simple t TT e hm hT' hR hfi).step (r_inScope hm hF)
    | inLoop body =>
      obtain ⟨HH, ⟨hfi, hB⟩, HS, hlo⟩ := S
      obtain ⟨hm, hT, hR⟩ : F.mode = .run ∧ TodoR β (.inLoop body :: t) F.todo ∧ RegsR β regs F.tmps no := hB
      obtain ⟨b', TT, hF, rfl, hT'⟩ := hT.cons
      exact (simple (.code body :: .inLoop body :: t) (.code body :: .inLoop body :: TT) e hm ⟨rfl, rfl, hT'⟩ hR hfi).step (r_inLoop hm hF)
    | dreg all sc => exact dreg_ok G HE e S
    | inRange l => exact (bad_ne e).elim
    | endRange l => exact endRange_ok G e S
    | beginRound => exact beginRound_ok G e S
    | fin => exact fin_ok G HE e S

include HE in
theorem exec_ok : ∀ fuel, Good P E.tys W0 f0 cs0 B0 (exec E fuel)
  | 0 => fun r i regs todo cs h n e => by cases e
  | fuel + 1 => step_ok (exec_ok fuel) HE
end

def noB : Beta := fun _ => none

theorem HR.start (W : World) (d n : Nat) (L : laidP W) : HR W noB (T.blank d) n W where
  obj id o b h1 h2 := by cases h2
  inj i j oi oj bi bj h1 h2 h3 h4 e := by cases h3
  dom id b h2 := by cases h2
  below := Below.refl _ _
  laid := L
  above j hj := T.get_blank d j
  own id o b h1 hr h2 := by cases h2

/-- WHAT A RUN SHOWS: the call returns that value, and nothing that was there has turned -/
theorem good_calls {P : Program} {E : Env} (HE : EnvR P E) {go : Go_} (G : ∀ W0 f0 cs0 B0, Good P E.tys W0 f0 cs0 B0 go) {f : Nat} {args : List V} {d n : Nat} {r : Rz}
    (e : (om (E.fns.get f) fun fn => om fn.body fun body => fNat fn.ntmps fun sz => regsOf args sz fun regs => go ⟨f, sz, [], none⟩ regs [.code body] [] (T.blank d) n) = .ok r) {vs : List Value} (hv : concL noB args = some vs)
    {val : Value} (hr : ∀ β v, conc β r.v = some v → v = val) (W : World) (L : laidP W) : Calls P f vs.toArray W fun e w' => e = .returned val ∧ Below W.heap.size W w' := by
  intro cs0
  replace e := om_ok e; obtain ⟨fn, hfn, e⟩ := e
  replace e := om_ok e; obtain ⟨body, hb, e⟩ := e
  rw [fNat_eq] at e
  replace e := regsOf_ok e; obtain ⟨regs, e, hle, hg⟩ := e
  obtain ⟨hf, _⟩ := HE.fns f fn hfn
  have hE := G W f cs0 ⟨noB, T.blank d, n⟩ _ _ _ _ _ _ _ e noB (Frame.enter P f vs.toArray .normal) cs0 W n
    ⟨HR.start W d n L, FrR.entered hf hb hv hle hg, ⟨rfl, rfl, rfl, BaseR.start _ _ _⟩, Nat.le_refl _⟩
  obtain ⟨r', hzr, β, v, w', F', a1, a2, a3, a4, a5, _⟩ := hE
  have := hr β v (by rw [hzr.v]; exact a1)
  subst this
  exact ⟨.returned v, w', F', ⟨rfl, a5.below⟩, a2, a4, a3⟩

theorem run_calls {P : Program} {E : Env} (HE : EnvR P E) {fuel f : Nat} {args : List V} {d n : Nat} {r : Rz} (e : run E fuel f args (T.blank d) n = .ok r) {vs : List Value} (hv : concL noB args = some vs)
    {val : Value} (hr : ∀ β v, conc β r.v = some v → v = val) (W : World) (L : laidP W) : Calls P f vs.toArray W fun e w' => e = .returned val ∧ Below W.heap.size W w' :=
  good_calls HE (fun _ _ _ _ => exec_ok HE fuel) e hv hr W L

end Go.Mir
namespace Go.Mir
open Go Go.RowKit

noncomputable def T.all {α : Type} (p : Nat → α → Bool) (t : T α) : (Nat → Nat) → Bool :=
  T.rec (motive := fun _ => (Nat → Nat) → Bool) (fun _ => true)
    (fun v _ _ gl gr ix => and (Option.rec (motive := fun _ => Bool) true (fun x => p (ix 0) x) v) (and (gl fun j => ix (Nat.succ (Nat.mul 2 j))) (gr fun j => ix (Nat.succ (Nat.succ (Nat.mul 2 j)))))) (fun _ _ => false) t

theorem T.all_ok {α : Type} {p : Nat → α → Bool} : ∀ {t : T α} {ix : Nat → Nat}, T.all p t ix = true → ∀ i x, t.get i = some x → p (ix i) x = true
  | .nil, _, _, i, x, h => by cases h
  | .fn _, _, h, i, x, _ => by cases h
  | .node v l r, ix, h, i, x, hx => by
    have h : and (Option.rec (motive := fun _ => Bool) true (fun x => p (ix 0) x) v) (and (T.all p l fun j => ix (2 * j + 1)) (T.all p r fun j => ix (2 * j + 1 + 1))) = true := h
    have h1 := Bool.and_eq_true_iff.1 h
    have h2 := Bool.and_eq_true_iff.1 h1.2
    cases i with
    | zero =>
      have hv : v = some x := hx
      subst hv
      exact h1.1
    | succ i =>
      rw [T.get_node_succ] at hx
      split at hx
      · have := T.all_ok h2.2 _ _ hx
        rw [show 2 * (i / 2) + 1 + 1 = i + 1 by omega] at this
        exact this
      · have := T.all_ok h2.1 _ _ hx
        rw [show 2 * (i / 2) + 1 = i + 1 by omega] at this
        exact this

noncomputable def fkOk (a b : FloatKind) : Bool := match a with | .f32 => (match b with | .f32 => true | .f64 => false) | .f64 => (match b with | .f64 => true | .f32 => false)

theorem fkOk_eq {a b : FloatKind} (h : fkOk a b = true) : a = b := by cases a <;> cases b <;> first | rfl | (cases h)

noncomputable def baseOk (x y : Value) : Bool :=
  match x with
  | .float k a => (match y with | .float j b => and (fkOk k j) (Nat.beq a b) | _ => false)
  | .pointer none => (match y with | .pointer none => true | _ => false)
  | .map none => (match y with | .map none => true | _ => false)
  | .chan none => (match y with | .chan none => true | _ => false)
  | .nilFunc => (match y with | .nilFunc => true | _ => false)
  | .nilIface => (match y with | .nilIface => true | _ => false)
  | .slice none a b => (match y with | .slice none c d => and (Nat.beq a c) (Nat.beq b d) | _ => false)
  | _ => false

noncomputable def zeroOk (v : V) (x : Value) : Bool :=
  match v with
  | .int k n => (match x with | .int j m => and (sameKind k j) (ieq n m) | _ => false)
  | .bool a => (match x with | .bool b => Bool.rec (not b) b a | _ => false)
  | .str [] => (match x with | .string s => (match s.data.toList with | [] => true | _ => false) | _ => false)
  | .base a => baseOk a x
  | _ => false

theorem baseOk_eq {x y : Value} (h : baseOk x y = true) : x = y ∧ x.oneCell' = true := by
  unfold baseOk at h
  split at h <;> first | (cases h; done) | (split at h <;> first | (cases h; done) | exact ⟨rfl, rfl⟩ | skip)
  · have h := Bool.and_eq_true_iff.1 h
    have hb := beq_of h.2
    have hk := fkOk_eq h.1
    subst hb; subst hk
    exact ⟨rfl, rfl⟩
  · have h := Bool.and_eq_true_iff.1 h
    have h1 := beq_of h.1
    have h2 := beq_of h.2
    subst h1; subst h2
    exact ⟨rfl, rfl⟩

theorem zeroOk_conc {v : V} {x : Value} (h : zeroOk v x = true) : conc noB v = some x := by
  unfold zeroOk at h
  split at h
  · split at h
    · have h := Bool.and_eq_true_iff.1 h
      have h1 := kno_inj h.1
      have h2 := h.2
      rw [ieq_eq] at h2
      have h2 := beq_iff_eq.1 h2
      subst h1; subst h2; rfl
    · cases h
  · split at h
    · have := boolrec_eq h
      subst this; rfl
    · cases h
  · split at h
    · rename_i s
      split at h
      · rename_i hs
        have : s = bytesOf [] := by
          obtain ⟨⟨l⟩⟩ := s
          simp at hs
          subst hs; rfl
        subst this
        simp [conc, allB]
      · cases h
    · cases h
  · obtain ⟨h1, h2⟩ := baseOk_eq h
    subst h1
    simp [conc, h2]
  · cases h

noncomputable def zerosOk (l : List V) (xs : List Value) : Bool :=
  List.rec (motive := fun _ => List Value → Bool) (fun xs => List.rec (motive := fun _ => Bool) true (fun _ _ _ => false) xs)
    (fun v _ ih xs => List.rec (motive := fun _ => Bool) false (fun x t _ => and (zeroOk v x) (ih t)) xs) l xs

theorem zerosOk_conc : ∀ {l : List V} {xs : List Value}, zerosOk l xs = true → concL noB l = some xs
  | [], [], _ => rfl
  | [], _ :: _, h => by cases h
  | _ :: _, [], h => by cases h
  | v :: l, x :: xs, h => by
    have h : and (zeroOk v x) (zerosOk l xs) = true := h
    have h := Bool.and_eq_true_iff.1 h
    simp [concL, zeroOk_conc h.1, zerosOk_conc h.2]

noncomputable def fldsOk (P : Program) (fs : List (Nat × Nat × Nat × Bool)) (gs : List Field) : Bool :=
  List.rec (motive := fun _ => List Field → Bool) (fun gs => List.rec (motive := fun _ => Bool) true (fun _ _ _ => false) gs)
    (fun f _ ih gs => List.rec (motive := fun _ => Bool) false (fun g t _ => and (and (Nat.beq g.offset f.1) (and (Nat.beq g.type f.2.1) (and (Nat.beq (P.cellsOf g.type) f.2.2.1) (Bool.rec (not f.2.2.2) f.2.2.2 (g.name != "_"))))) (ih t)) gs) fs gs

theorem fldsOk_eq {P : Program} : ∀ {fs : List (Nat × Nat × Nat × Bool)} {gs : List Field}, fldsOk P fs gs = true → gs.map (fun f => (f.offset, f.type, P.cellsOf f.type, f.name != "_")) = fs
  | [], [], _ => rfl
  | [], _ :: _, h => by cases h
  | _ :: _, [], h => by cases h
  | f :: fs, g :: gs, h => by
    have h : and (and (Nat.beq g.offset f.1) (and (Nat.beq g.type f.2.1) (and (Nat.beq (P.cellsOf g.type) f.2.2.1) (Bool.rec (not f.2.2.2) f.2.2.2 (g.name != "_"))))) (fldsOk P fs gs) = true := h
    have h := Bool.and_eq_true_iff.1 h
    have h1 := Bool.and_eq_true_iff.1 h.1
    have h2 := Bool.and_eq_true_iff.1 h1.2
    have h3 := Bool.and_eq_true_iff.1 h2.2
    have e4 := boolrec_eq h3.2
    obtain ⟨a, b, c, d⟩ := f
    simp only at h1 h2 h3 e4
    rw [List.map_cons, fldsOk_eq h.2, beq_of h1.1, beq_of h2.1, ← e4, ← beq_of h3.1, ← beq_of h2.1]

noncomputable def kindOk (P : Program) (k : TK) (d : TypeDesc) : Bool :=
  match k with
  | .bool => (match d with | .bool => true | _ => false)
  | .int a => (match d with | .int b => sameKind a b | _ => false)
  | .float a => (match d with | .float b => fkOk a b | _ => false)
  | .string => (match d with | .string => true | _ => false)
  | .ptr e => (match d with | .pointer f => Nat.beq e f | _ => false)
  | .slice e => (match d with | .slice f => Nat.beq e f | _ => false)
  | .array n e => (match d with | .array m f => and (Nat.beq n m) (Nat.beq e f) | _ => false)
  | .map a b => (match d with | .map c e => and (Nat.beq a c) (Nat.beq b e) | _ => false)
  | .struct fs => (match d with | .struct gs => fldsOk P fs gs.toList | _ => false)
  | .func => (match d with | .func .. => true | _ => false)
  | .iface => (match d with | .interface _ => true | _ => false)
  | .other => false

theorem kindOk_ok {P : Program} {k : TK} {d : TypeDesc} (h : kindOk P k d = true) : KindR P k d := by
  unfold kindOk at h
  split at h <;> first | (cases h; done) | (split at h <;> first | (cases h; done) | trivial | skip)
  · exact kno_inj h
  · exact fkOk_eq h
  · exact beq_of h
  · exact beq_of h
  · have h := Bool.and_eq_true_iff.1 h; exact ⟨beq_of h.1, beq_of h.2⟩
  · have h := Bool.and_eq_true_iff.1 h; exact ⟨beq_of h.1, beq_of h.2⟩
  · exact fldsOk_eq h

noncomputable def notAgg (z : Value) : Bool := match z with | .agg _ => false | .tuple _ => false | _ => true
noncomputable def isAg (z : Value) : Bool := match z with | .agg _ => true | _ => false

noncomputable def zOk (ti : TI) (z : Value) : Bool := and (zerosOk ti.zero z.cells.toList) (and (Nat.beq (List.length ti.zero) ti.size) (Bool.rec (notAgg z) (isAg z) (isAggK ti.kind)))

noncomputable def infoOk (_P : Program) (_t : Nat) (ti : TI) (i : TypeInfo) : Bool :=
  and (Nat.beq i.size ti.size) (and (Nat.beq i.bytes ti.bytes) (and (Nat.ble ti.bytes 65536) (match i.zero with | some z => zOk ti z | none => false)))

noncomputable def tyChk (P : Program) (t : Nat) (ti : TI) : Bool :=
  and (match P.info? t with | some i => infoOk P t ti i | none => false) (and (match P.underlying t with | some d => kindOk P ti.kind d | none => false)
    (Bool.rec true (and (not (P.eqGuardType P.depth t)) (not (P.stoodInHeld t))) (isAggK ti.kind)))

theorem tyChk_ok {P : Program} {t : Nat} {ti : TI} (h : tyChk P t ti = true) : TIok P t ti := by
  have h := Bool.and_eq_true_iff.1 h
  have h2 := Bool.and_eq_true_iff.1 h.2
  have hi := h.1
  have hu := h2.1
  split at hi
  · rename_i i hi'
    have a1 := Bool.and_eq_true_iff.1 hi
    have a2 := Bool.and_eq_true_iff.1 a1.2
    have a3 := Bool.and_eq_true_iff.1 a2.2
    have hz := a3.2
    split at hz
    · rename_i z hz'
      have b1 := Bool.and_eq_true_iff.1 hz
      have b2 := Bool.and_eq_true_iff.1 b1.2
      split at hu
      · rename_i d hd
        refine ⟨⟨i, hi', beq_of a1.1, beq_of a2.1, z, hz', zerosOk_conc b1.1, fun ha => ?_, fun ha => ?_, beq_of b2.1⟩, ⟨d, hd, kindOk_ok hu⟩, fun ha => ?_, Nat.le_of_ble_eq_true a3.1⟩
        · have hb := b2.2
          rw [ha] at hb
          cases z <;> first | exact ⟨_, rfl⟩ | (cases hb)
        · have hb := b2.2
          rw [ha] at hb
          cases z <;> first | rfl | (cases hb)
        · have hc := h2.2
          rw [ha] at hc
          have hc := Bool.and_eq_true_iff.1 hc
          exact ⟨by simpa using hc.1, by simpa using hc.2⟩
      · cases hu
    · cases hz
  · cases hi

theorem tys_ok {P : Program} {tys : T TI} (h : T.all (tyChk P) tys (fun i => i) = true) : TysR P tys := fun t ti ht => tyChk_ok (T.all_ok h t ti ht)

noncomputable def nameOk (n : Nat) (i : Nat) (f : Func) : Bool := and (Nat.ble (Nat.succ i) n) (not (f.name == "runtime.NumGoroutine"))

theorem fns_ok {P : Program} {fns : T Func} {n : Nat} (h : T.all (nameOk n) fns (fun i => i) = true) (hl : (List.range n).map (fun i => fns.get i) = P.funcs.toList.map some) : FnsR P fns := fun f fn hf => by
  have h1 := Bool.and_eq_true_iff.1 (T.all_ok h f fn hf)
  have hlt : f < n := Nat.le_of_ble_eq_true h1.1
  refine ⟨?_, by simpa using h1.2⟩
  have h2 : ((List.range n).map (fun i => fns.get i))[f]? = some (some fn) := by
    rw [List.getElem?_map, List.getElem?_range hlt]; simp [hf]
  rw [hl, List.getElem?_map] at h2
  simp only [Option.map_eq_some_iff] at h2
  obtain ⟨x, hx, hxe⟩ := h2
  cases hxe
  rw [getE_toList]; exact hx

theorem ext_ok {P : Program} {ext : T Ext} (l : List (Nat × Ext × Func)) (h : T.all (fun i e => List.any l fun p => Nat.beq p.1 i && (match p.2.1, e with | .indexByte, .indexByte => true | .count, .count => true | .cmp, .cmp => true | .clone, .clone => true | _, _ => false)) ext (fun i => i) = true)
    (hl : ∀ p ∈ l, P.funcs[p.1]? = some p.2.2 ∧ (p.2.2.name == "runtime.NumGoroutine") = false ∧ p.2.2.body.isNone = true ∧ Extern.findNext p.2.2 = none ∧ Extern.find p.2.2 = some (extFn p.2.1)) : ExtR P ext := fun f e hf => by
  have h1 := T.all_ok h f e hf
  rw [List.any_eq_true] at h1
  obtain ⟨p, hp, h2⟩ := h1
  rw [Bool.and_eq_true] at h2
  obtain ⟨i, e', fn⟩ := p
  have hi := beq_of h2.1
  simp only at hi h2
  subst hi
  have he : e' = e := by
    have := h2.2
    split at this <;> first | rfl | (cases this)
  subst he
  exact ⟨fn, hl _ hp⟩

/- hooks -/
theorem sameVs_eq : ∀ {a b : List V}, sameVs a b = true → a = b
  | [], [], _ => rfl
  | [], _ :: _, h => by cases h
  | _ :: _, [], h => by cases h
  | x :: a, y :: b, h => by
    have h : (Bool.rec false (sameVs a b) (sameV x y) : Bool) = true := h
    cases hs : sameV x y with
    | false => rw [hs] at h; cases h
    | true => rw [hs] at h; rw [sameV_eq hs, sameVs_eq h]

theorem hookOf_ok {tab : T (List (List V × V))} {f : Nat} {args : List V} {m : T O} {v : V} (h : hookOf tab f args m = some v) : ∃ l, tab.get f = some l ∧ ∃ e ∈ l, e.1 = args ∧ e.2 = v := by
  unfold hookOf at h
  cases ht : tab.get f with
  | none => rw [ht] at h; cases h
  | some l =>
    rw [ht] at h
    refine ⟨l, rfl, ?_⟩
    replace h : (List.rec (motive := fun _ => Option V) none (fun e _ ih => Bool.rec ih (some e.2) (sameVs e.1 args)) l : Option V) = some v := h
    clear ht
    induction l with
    | nil => cases h
    | cons e l ih =>
      replace h : (Bool.rec (List.rec (motive := fun _ => Option V) none (fun e _ ih => Bool.rec ih (some e.2) (sameVs e.1 args)) l) (some e.2) (sameVs e.1 args) : Option V) = some v := h
      cases hs : sameVs e.1 args with
      | true => rw [hs] at h; cases h; exact ⟨e, by simp, sameVs_eq hs, rfl⟩
      | false =>
        rw [hs] at h
        obtain ⟨e', h1, h2⟩ := ih h
        exact ⟨e', by simp [h1], h2⟩

/-- a call whose value is known, at plain arguments -/
def KnownCall (P : Program) (f : Nat) (args : List V) (v : V) : Prop :=
  (∃ fn, P.funcs[f]? = some fn ∧ (fn.name == "runtime.NumGoroutine") = false ∧ fn.body.isNone = false) ∧
  ∃ vs val, concL noB args = some vs ∧ conc noB v = some val ∧ ∀ w, laidP w → Calls P f vs.toArray w fun e w' => e = .returned val ∧ Below w.heap.size w w'

theorem noB_le (β : Beta) : Le noB β := fun id b h => by cases h

theorem hook_ok {P : Program} {tab : T (List (List V × V))} (h : ∀ f l, tab.get f = some l → ∀ e ∈ l, KnownCall P f e.1 e.2) : HookR P (hookOf tab) := fun f args m v hv => by
  obtain ⟨l, hl, e, he, rfl, rfl⟩ := hookOf_ok hv
  obtain ⟨h1, vs, val, h2, h3, h4⟩ := h f l hl e he
  refine ⟨h1, fun W0 β n w vs' H hvs => ?_⟩
  have := concL_mono (noB_le β) _ _ h2
  rw [hvs] at this
  cases this
  exact ⟨val, conc_mono (noB_le β) _ _ h3, h4 w (laid_below H.below H.laid)⟩

theorem hook_none {P : Program} : HookR P (fun _ _ _ => none) := fun f args m v hv => by cases hv

end Go.Mir
