/- The small machine against the model: the operations that stand in a row. No statement of the program stands here. -/
import Derived.Test.YtojkinikdcelbaaGreatDoorNMirAN
set_option linter.unusedSimpArgs false
set_option linter.unusedVariables false
set_option linter.defProp false
namespace Go.Mir
open Go Go.RowKit

def OpPre (regs : T V) (op : Op) (β : Beta) (s : Sem Next) : Prop := ∃ ρ, ∃ o : Oper, Agrees β regs ρ op ∧ o.op = op ∧ s = execOp ρ o

theorem memN_iff (l : List Nat) (a : Nat) : memN l a = true ↔ a ∈ l := by
  induction l with
  | nil => exact ⟨fun h => (by cases h), fun h => (by cases h)⟩
  | cons b l ih =>
    show or (Nat.beq a b) (memN l a) = true ↔ _
    rw [Bool.or_eq_true, ih, Nat.beq_eq]
    simp

theorem isNilL_nil {l : List Nat} (h : isNilL l = true) : l = [] := by cases l with | nil => rfl | cons => cases h

theorem sameOV_eq {x y : Option V} (h : sameOV x y = true) : x = y := by
  cases x <;> cases y <;> first | rfl | (cases h; done) | exact congrArg some (sameV_eq h)

theorem sameT_eq : ∀ {t u : T V}, sameT t u = true → t = u
  | .nil, .nil, _ => rfl
  | .nil, .node .., h => by cases h
  | .node .., .nil, h => by cases h
  | .nil, .fn _, h => by cases h
  | .node .., .fn _, h => by cases h
  | .fn _, _, h => by cases h
  | .node v l r, .node v' l' r', h => by
    have h : and (sameOV v v') (and (sameT l l') (sameT r r')) = true := h
    have h1 := Bool.and_eq_true_iff.1 h
    have h2 := Bool.and_eq_true_iff.1 h1.2
    rw [sameOV_eq h1.1, sameT_eq h2.1, sameT_eq h2.2]

theorem sameE_eq : ∀ {a b : List (V × V × Nat)}, sameE a b = true → a = b
  | [], [], _ => rfl
  | [], _ :: _, h => by cases h
  | _ :: _, [], h => by cases h
  | x :: a, y :: b, h => by
    have h : and (and (sameV x.1 y.1) (and (sameV x.2.1 y.2.1) (Nat.beq x.2.2 y.2.2))) (sameE a b) = true := h
    have h1 := Bool.and_eq_true_iff.1 h
    have h2 := Bool.and_eq_true_iff.1 h1.1
    have h3 := Bool.and_eq_true_iff.1 h2.2
    obtain ⟨x1, x2, x3⟩ := x
    obtain ⟨y1, y2, y3⟩ := y
    have e1 := sameV_eq h2.1
    have e2 := sameV_eq h3.1
    have e3 := beq_of h3.2
    simp only at e1 e2 e3
    rw [e1, e2, e3, sameE_eq h1.2]

theorem sameO_eq {a b : O} (h : sameO a b = true) : a = b := by
  unfold sameO at h
  split at h
  · split at h
    · have h1 := Bool.and_eq_true_iff.1 h
      have h2 := Bool.and_eq_true_iff.1 h1.2
      rw [beq_of h1.1, beq_of h2.1, sameT_eq h2.2]
    · cases h
  · split at h
    · have h1 := Bool.and_eq_true_iff.1 h
      rw [beq_of h1.1, sameE_eq h1.2]
    · cases h
  · cases h

theorem meetV_ok {v w : Option O} {k : Option O → Out} {r : Rz} (e : meetV v w k = .ok r) : ∃ x, k x = .ok r ∧ ∀ o, x = some o → v = some o ∧ w = some o := by
  cases v with
  | none => exact ⟨none, e, fun o h => by cases h⟩
  | some a =>
    cases w with
    | none => exact ⟨none, e, fun o h => by cases h⟩
    | some b =>
      replace e : (Bool.rec (k none) (k (some a)) (sameO a b) : Out) = .ok r := e
      rcases rec_ok e with ⟨hs, e2⟩ | ⟨_, e2⟩
      · have := sameO_eq hs
        subst this
        exact ⟨some a, e2, fun o h => ⟨h, h⟩⟩
      · exact ⟨none, e2, fun o h => by cases h⟩

theorem meetK_ok {r : Rz} : ∀ {t u : T O} {k : T O → Out}, meetK t u k = .ok r → ∃ t', k t' = .ok r ∧ ∀ i o, t'.get i = some o → t.get i = some o ∧ u.get i = some o
  | .nil, u, k, e => ⟨.nil, e, fun i o h => by cases h⟩
  | .node v l r', .nil, k, e => ⟨.nil, e, fun i o h => by cases h⟩
  | .node v l r', .fn _, k, e => ⟨.nil, e, fun i o h => by cases h⟩
  | .fn _, u, k, e => ⟨.nil, e, fun i o h => by cases h⟩
  | .node v l r1, .node w l' r1', k, e => by
    replace e : meetV v w (fun x => meetK l l' fun l2 => meetK r1 r1' fun r2 => k (.node x l2 r2)) = .ok r := e
    replace e := meetV_ok e; obtain ⟨x, e, hx⟩ := e
    replace e := meetK_ok e; obtain ⟨l2, e, hl⟩ := e
    replace e := meetK_ok e; obtain ⟨r2, e, hr⟩ := e
    refine ⟨_, e, fun i o h => ?_⟩
    cases i with
    | zero => exact hx o h
    | succ i =>
      rw [T.get_node_succ] at h ⊢
      rw [T.get_node_succ]
      split at h
      · rename_i hi; rw [if_pos hi, if_pos hi]; exact hr _ _ h
      · rename_i hi; rw [if_neg hi, if_neg hi]; exact hl _ _ h

theorem forkGo_ok {r : Rz} : ∀ {outs : List Out} {acc : Rz}, forkGo acc outs = .ok r → Rz.le r acc ∧ ∀ o ∈ outs, ∃ z, o = .ok z ∧ Rz.le r z
  | [], acc, e => by
    replace e : Out.ok acc = .ok r := e
    cases e
    exact ⟨Rz.le.refl _, fun o h => by cases h⟩
  | o :: outs, acc, e => by
    replace e : outK o (fun z => need (sameV acc.v z.v) (fNat (Bool.rec acc.n z.n (Nat.ble acc.n z.n)) fun m => meetK acc.h z.h fun h => forkGo ⟨acc.v, h, m⟩ outs)) = .ok r := e
    replace e := outK_ok e; obtain ⟨z, rfl, e⟩ := e
    replace e := need_ok e; obtain ⟨hc, e⟩ := e
    have hv := sameV_eq hc
    rw [fNat_eq] at e
    have hm : acc.n ≤ (Bool.rec acc.n z.n (Nat.ble acc.n z.n) : Nat) ∧ z.n ≤ (Bool.rec acc.n z.n (Nat.ble acc.n z.n) : Nat) := by
      cases hb : Nat.ble acc.n z.n with
      | true => exact ⟨Nat.le_of_ble_eq_true hb, Nat.le_refl _⟩
      | false => exact ⟨Nat.le_refl _, Nat.le_of_lt (Nat.lt_of_not_le fun q => by rw [Nat.ble_eq_true_of_le q] at hb; cases hb)⟩
    replace e := meetK_ok e; obtain ⟨h', e, hh⟩ := e
    obtain ⟨h1, h2⟩ := forkGo_ok e
    refine ⟨h1.trans ⟨rfl, hm.1, fun i o h => (hh i o h).1⟩, fun o' ho' => ?_⟩
    cases ho' with
    | head => exact ⟨z, rfl, h1.trans ⟨hv, hm.2, fun i o h => (hh i o h).2⟩⟩
    | tail _ ho' => exact h2 o' ho'

theorem forkK_ok {r : Rz} {outs : List Out} (e : forkK outs = .ok r) : ∀ o ∈ outs, ∃ z, o = .ok z ∧ Rz.le r z := by
  cases outs with
  | nil => exact (bad_ne e).elim
  | cons o outs =>
    cases outs with
    | nil =>
      intro o' ho'
      cases ho' with
      | head => exact ⟨r, e, Rz.le.refl r⟩
      | tail _ h => cases h
    | cons p outs =>
      replace e : outK o (fun z => forkGo z (p :: outs)) = .ok r := e
      replace e := outK_ok e; obtain ⟨z, rfl, e⟩ := e
      obtain ⟨h1, h2⟩ := forkGo_ok e
      intro o' ho'
      cases ho' with
      | head => exact ⟨z, rfl, h1⟩
      | tail _ h => exact h2 o' h

theorem EntsR.filter {β : Beta} (p : Nat → Bool) : ∀ {es : List (V × V × Nat)} {ms : List MapEntry}, EntsR β es ms → EntsR β (es.filter fun e => p e.2.2) (ms.filter fun e => p e.born)
  | [], [], _ => trivial
  | e :: es, m :: ms, h => by
    have ih := EntsR.filter p h.2.2.2
    simp only [List.filter_cons, h.2.2.1]
    split
    · exact ⟨h.1, h.2.1, h.2.2.1, ih⟩
    · exact ih
  | [], _ :: _, h => h.elim
  | _ :: _, [], h => h.elim

theorem EntsR.at {β : Beta} : ∀ {es : List (V × V × Nat)} {ms : List MapEntry}, EntsR β es ms → ∀ (j : Nat) m, ms[j]? = some m → ∃ e, es[j]? = some e ∧ conc β e.1 = some m.key ∧ conc β e.2.1 = some m.val ∧ m.born = e.2.2
  | [], [], _, j, m, h => by simp at h
  | e :: es, m0 :: ms, h, j, m, hj => by
    cases j with
    | zero => simp at hj; subst hj; exact ⟨e, rfl, h.1, h.2.1, h.2.2.1⟩
    | succ j => simpa using EntsR.at h.2.2.2 j m (by simpa using hj)
  | [], _ :: _, h, _, _, _ => h.elim
  | _ :: _, [], h, _, _, _ => h.elim

theorem leftK_ok {since : Nat} {seen : List Nat} {r : Rz} : ∀ {es : List (V × V × Nat)} {k : List (V × V × Nat) → Out}, leftK since seen es k = .ok r →
    k (es.filter fun e => !memN seen e.2.2) = .ok r ∧ ∀ e ∈ es.filter (fun e => !memN seen e.2.2), e.2.2 < since
  | [], k, e => ⟨e, fun x h => by cases h⟩
  | a :: es, k, e => by
    replace e : (Bool.rec (need (Nat.ble (Nat.succ a.2.2) since) (leftK since seen es fun l => k (a :: l))) (leftK since seen es k) (memN seen a.2.2) : Out) = .ok r := e
    rcases rec_ok e with ⟨hm, e⟩ | ⟨hm, e⟩
    · obtain ⟨h1, h2⟩ := leftK_ok e
      simp only [List.filter_cons, hm, Bool.not_true, Bool.false_eq_true, if_false]
      exact ⟨h1, h2⟩
    · replace e := need_ok e; obtain ⟨hb, e⟩ := e
      obtain ⟨h1, h2⟩ := leftK_ok e
      simp only [List.filter_cons, hm, Bool.not_false, if_true]
      refine ⟨h1, fun x hx => ?_⟩
      cases hx with
      | head => exact Nat.le_of_ble_eq_true hb
      | tail _ hx => exact h2 x hx

theorem anyOld_ok {β : Beta} {last : Nat} : ∀ {es : List (V × V × Nat)} {ms : List MapEntry}, EntsR β es ms → anyOld last es = true → ms.all (fun e => decide (e.born ≥ last)) = false
  | [], [], _, h => by cases h
  | e :: es, m :: ms, hE, h => by
    have h : or (Nat.ble (Nat.succ e.2.2) last) (anyOld last es) = true := h
    rw [List.all_cons]
    rcases Bool.or_eq_true_iff.1 h with h | h
    · have : e.2.2 < last := Nat.le_of_ble_eq_true h
      have h2 : decide (m.born ≥ last) = false := by rw [hE.2.2.1]; exact decide_eq_false (by omega)
      rw [h2]; rfl
    · rw [anyOld_ok hE.2.2.2 h, Bool.and_false]
  | [], _ :: _, hE, _ => hE.elim
  | _ :: _, [], hE, _ => hE.elim

theorem iterK_ok {h : T O} {it : V} {k : Nat → Option Nat → Nat → List Nat → Nat → Out} {r : Rz} (e : iterK h it k = .ok r) : ∃ id m since seen last, it = .ptr id 0 ∧ h.get id = some (.iter m since seen last) ∧ k id m since seen last = .ok r := by
  unfold iterK at e
  cases it <;> try exact (bad_ne e).elim
  rename_i id off
  replace e := need_ok e; obtain ⟨ho, e⟩ := e
  have := beq_of ho
  subst this
  replace e := om_ok e; obtain ⟨o, hg, e⟩ := e
  cases o <;> try exact (bad_ne e).elim
  exact ⟨id, _, _, _, _, rfl, hg, e⟩

/-- the next step of a walk, as the model has it -/
theorem run_next {P : Program} {w : World} {b m since clock last : Nat} {seen : Array Nat} {es : Array MapEntry} (hit : w.heap[b]? = some (.mapIter (some m) since seen last)) (hmap : w.heap[m]? = some (.map es clock))
    (hok : (!seen.isEmpty && !es.isEmpty && es.all (fun e => decide (e.born ≥ last))) = false) {left : Array MapEntry} (hl : es.filter (fun e => !seen.contains e.born) = left)
    (h1 : left.filter (fun e => decide (e.born < since)) = left) (h2 : left.filter (fun e => decide (e.born ≥ since)) = #[]) (ty : TypeId) :
    (left = #[] ∧ (Instr.next (.pointer (some ⟨b, 0, none⟩)) false ty).run P w = .ok (.tuple #[.bool false]) w) ∨
    (∃ (j : Nat) (e : MapEntry) (w1 : World), left[j]? = some e ∧ (w1 = w ∨ w1 = w.drew) ∧ (Instr.next (.pointer (some ⟨b, 0, none⟩)) false ty).run P w =
      ((setObj b (.mapIter (some m) since (seen.push e.born) clock)).run P w1).andThen fun _ w2 => .ok (.tuple #[.bool true, e.key, e.val]) w2) := by
  have hgi : (getObj b).run P w = .ok (.mapIter (some m) since seen last) w := by simp [getObj, Sem.run, hit]
  have hgm : (getObj m).run P w = .ok (.map es clock) w := by simp [getObj, Sem.run, hmap]
  by_cases hle : left = #[]
  · left
    refine ⟨hle, ?_⟩
    subst hle
    simp only [Instr.next, Sem.run_bind, hgi, Result.andThen_ok, hgm, hok, hl, h1, h2]
    simp [choose, Sem.run, Question.forced]
  · right
    have hne : left.isEmpty = false := by
      cases h : left.isEmpty with
      | false => rfl
      | true => exact absurd (Array.isEmpty_iff.1 h) hle
    have hpos : 0 < left.size := by
      rcases Nat.eq_zero_or_pos left.size with h | h
      · exact absurd (Array.eq_empty_of_size_eq_zero h) hle
      · exact h
    have hcand : ((if left.isEmpty then #[none] else #[]) ++ (left ++ #[]).map some : Array (Option MapEntry)) = left.map some := by rw [hne]; simp
    by_cases hf : left.size ≤ 1
    · refine ⟨0, left[0], w, Array.getElem?_eq_getElem hpos, .inl rfl, ?_⟩
      simp only [Instr.next, Sem.run_bind, hgi, Result.andThen_ok, hgm, hok, hl, h1, h2, hcand]
      simp [choose, Sem.run, Question.forced, hf, hpos]
    · have hlt : w.tape w.drawn (.mapNext left.size) % left.size < left.size := Nat.mod_lt _ hpos
      refine ⟨_, left[w.tape w.drawn (.mapNext left.size) % left.size], w.drew, Array.getElem?_eq_getElem hlt, .inr rfl, ?_⟩
      simp only [Instr.next, Sem.run_bind, hgi, Result.andThen_ok, hgm, hok, hl, h1, h2, hcand]
      simp [choose, Sem.run, Question.forced, Question.cut, hf, hlt]

section
variable {P : Program} {E : Env} (HE : EnvR P E) {fr : Fr} {cs : List Fr} {h : T O} {n : Nat} {regs : T V} {go : Go_} {fin : Kv} {r : Rz}

theorem setIter {W0 : World} {β : Beta} {w : World} (H : HR W0 β h n w) {id : Nat} {b : Blk} {o0 : O} {h' : T O} {m : Option Nat} {k : Option Nat} {since last : Nat} {seen : List Nat} (ho : h.get id = some o0) (hb : β id = some b) (h0 : b.off = 0)
    (hg : ∀ j, h'.get j = if j = id then some (.iter m since seen last) else h.get j) (hk : (match (generalizing := false) m with | none => k = none | some i => ∃ bm, β i = some bm ∧ k = some bm.blk : Prop)) (hne : ∃ o, w.heap[b.blk]? = some o ∧ ∀ c e f, o ≠ .cells c e f) (hro : roO o0 = false := by rfl) :
    ∃ w', (setObj b.blk (.mapIter k since seen.toArray last)).run P w = .ok () w' ∧ HR W0 β h' n w' ∧ More β h n β h' n := by
  obtain ⟨o, h1, h2⟩ := hne
  have hd := H.dom id b hb
  have hd2 := H.own id _ b ho hro hb
  refine ⟨{ w with heap := w.heap.setIfInBounds b.blk (.mapIter k since seen.toArray last) }, ?_, ?_, ext_put hb hg⟩
  · cases o <;> first | (simp [setObj, Sem.run, h1]; done) | exact absurd rfl (h2 _ _ _)
  · refine H.put ho hb hg (fun k hk => by simp only [Array.getElem?_setIfInBounds]; rw [if_neg (by omega)]) (by simp) ⟨rfl, rfl, rfl, by simp, fun j hj => by simp only [Array.getElem?_setIfInBounds]; rw [if_neg (by omega)]⟩ ?_ hro
    refine ⟨h0, k, ?_, hk⟩
    simp [hd.2]

theorem filter_all {α : Type} {p : α → Bool} {a : Array α} (h : ∀ x ∈ a, p x = true) : a.filter p = a := Array.filter_eq_self.2 h
theorem filter_nil {α : Type} {p : α → Bool} {a : Array α} (h : ∀ x ∈ a, p x = false) : a.filter p = #[] := by
  rw [Array.filter_eq_empty_iff]
  intro x hx; simp [h x hx]

include HE in
theorem next_ok {it : Operand} {b : Bool} (e : (ev regs it fun it => need (not b) (nextK E.comb h n it fin)) = .ok r) : Outc P E.tys h n fr cs go fin r (OpPre regs (.next it b)) := by
  replace e := ev_ok e; obtain ⟨vi, e, hvi⟩ := e
  replace e := need_ok e; obtain ⟨hb, e⟩ := e
  have hb : b = false := by simpa using hb
  subst hb
  replace e := iterK_ok e; obtain ⟨id, m, since, seen, last, rfl, hg, e⟩ := e
  refine .inl fun W0 β w s0 H hs => ?_
  obtain ⟨ρ, o, A, ho, rfl⟩ := hs
  have hci := hvi β ρ (A it (by simp [Op.operands]))
  obtain ⟨bk, hbk, hρ⟩ := conc_ptr hci
  obtain ⟨h0, k, hob, hk⟩ := H.obj id _ bk hg hbk
  rw [h0] at hρ
  simp only [Nat.add_zero] at hρ
  cases m with
  | none =>
    have hk : k = none := hk
    subst hk
    refine ⟨_, h, n, r, e, Rz.le.refl r, .value (.tuple #[.bool false]), .tuple #[.bool false], w, β, ?_, .inl rfl, by simp [conc, concL], H, More.refl _ _ _⟩
    simp [execOp, ho, hρ, Instr.next, getObj, Sem.run, hob]
  | some mid =>
    obtain ⟨bm, hbm, rfl⟩ := hk
    replace e : om (h.get mid) (fun o => oMap o fun es clock => need (or (isNilL seen) (or (isNilE es) (anyOld last es))) (leftK since seen es fun left => nextL E.comb h n id mid since clock seen fin left)) = .ok r := e
    replace e := om_ok e; obtain ⟨om', hom, e⟩ := e
    cases om' <;> try exact (bad_ne e).elim
    rename_i es clock
    replace e := need_ok e; obtain ⟨hold, e⟩ := e
    obtain ⟨e, hborn⟩ := leftK_ok e
    obtain ⟨ms, hms, hE⟩ := H.obj mid _ bm hom hbm
    have hok : (!seen.toArray.isEmpty && !ms.isEmpty && ms.all (fun e => decide (e.born ≥ last))) = false := by
      rcases Bool.or_eq_true_iff.1 hold with h1 | h1
      · rw [isNilL_nil h1]; rfl
      · rcases Bool.or_eq_true_iff.1 h1 with h1 | h1
        · have : ms.toList = [] := by
            have hl := hE.len
            cases es with
            | nil => exact List.length_eq_zero_iff.1 hl.symm
            | cons => cases h1
          have : ms = #[] := by cases ms; simp_all
          subst this; simp
        · have := anyOld_ok hE h1
          rw [show ms.all (fun e => decide (e.born ≥ last)) = ms.toList.all (fun e => decide (e.born ≥ last)) by simp, this]; simp
    have hEl := hE.filter (fun b => !memN seen b)
    have hfl : (ms.filter (fun e => !seen.toArray.contains e.born)).toList = ms.toList.filter (fun e => !memN seen e.born) := by
      rw [Array.toList_filter]
      congr 1
      funext x
      congr 1
      rw [Bool.eq_iff_iff, memN_iff]
      simp
    have hlb : ∀ x ∈ ms.filter (fun e => !seen.toArray.contains e.born), x.born < since := by
      intro x hx
      have hx' : x ∈ ms.toList.filter (fun e => !memN seen e.born) := by rw [← hfl]; exact Array.mem_toList_iff.2 hx
      obtain ⟨j, hj⟩ := List.getElem?_of_mem hx'
      obtain ⟨e1, he1, _, _, hbn⟩ := hEl.at j x hj
      rw [hbn]
      exact hborn e1 (List.mem_of_getElem? he1)
    rcases run_next (P := P) hob hms hok rfl (filter_all fun x hx => decide_eq_true (hlb x hx)) (filter_nil fun x hx => decide_eq_false (by have := hlb x hx; omega)) o.type with ⟨hnil, hrun⟩ | ⟨j, me, w1, hj, hw1, hrun⟩
    · have hnil' : (es.filter fun e => !memN seen e.2.2) = [] := by
        have h1 := hEl.len
        rw [← hfl, hnil] at h1
        exact List.length_eq_zero_iff.1 (by simpa using h1)
      rw [hnil'] at e
      replace e : fin (.tuple [.bool false]) h n = .ok r := e
      refine ⟨_, h, n, r, e, Rz.le.refl r, .value (.tuple #[.bool false]), .tuple #[.bool false], w, β, ?_, .inl rfl, by simp [conc, concL], H, More.refl _ _ _⟩
      simp [execOp, ho, hρ, hrun]
    · have hj' : (ms.toList.filter (fun e => !memN seen e.born))[j]? = some me := by rw [← hfl, Array.getElem?_toList]; exact hj
      obtain ⟨e1, he1, hkey, hval, hbn⟩ := hEl.at j me hj'
      generalize hleft : (es.filter fun e => !memN seen e.2.2) = left at e he1
      cases left with
      | nil => simp at he1
      | cons e0 left =>
        obtain ⟨z, hz, hle⟩ : ∃ z, nextE h n id mid since clock seen fin e1 = .ok z ∧ Rz.le r z := by
          cases left with
          | nil =>
            have : e1 = e0 := by simpa using (List.mem_of_getElem? he1)
            subst this
            exact ⟨r, e, Rz.le.refl r⟩
          | cons e2 left =>
            replace e : E.comb (List.map (nextE h n id mid since clock seen fin) (e0 :: e2 :: left)) = .ok r := e
            exact HE.comb _ _ e (nextE h n id mid since clock seen fin e1) (List.mem_map.2 ⟨e1, List.mem_of_getElem? he1, rfl⟩)
        replace hz := setK_ok hz; obtain ⟨h', hz, hg'⟩ := hz
        have Hd : HR W0 β h n w1 := by rcases hw1 with rfl | rfl; exact H; exact H.drew
        have hheap : w1.heap = w.heap := by rcases hw1 with rfl | rfl <;> rfl
        obtain ⟨w', c1, c2, c3⟩ := setIter (P := P) Hd (m := some mid) (k := some bm.blk) (since := since) (last := clock) (seen := seen ++ [e1.2.2]) hg hbk h0 hg' ⟨bm, hbm, rfl⟩ ⟨_, by rw [hheap]; exact hob, fun _ _ _ hc => by cases hc⟩
        refine ⟨_, h', n, z, hz, hle, .value (.tuple #[.bool true, me.key, me.val]), .tuple #[.bool true, me.key, me.val], w', β, ?_, .inl rfl, by simp [conc, concL, hkey, hval], c2, c3⟩
        rw [← hbn] at c1
        simp [execOp, ho, hρ, hrun, c1]

include HE in
theorem range_op_ok {t : Nat} {x : Operand} (e : (ev regs x fun x => rangeK E.tys h n t x fin) = .ok r) : Outc P E.tys h n fr cs go fin r (OpPre regs (.range t x)) := by
  replace e := ev_ok e; obtain ⟨vx, e, hvx⟩ := e
  replace e := need_ok e; obtain ⟨hm, e⟩ := e
  have hu : ∃ a b, P.underlying t = some (.map a b) := by
    unfold isMapTy at hm
    split at hm
    · rename_i ti hti
      split at hm
      · rename_i hk; exact ⟨_, _, (HE.tys _ _ hti).map hk⟩
      · cases hm
    · cases hm
  obtain ⟨ka, kb, hu⟩ := hu
  refine .inl fun W0 β w s0 H hs => ?_
  obtain ⟨ρ, o, A, ho, rfl⟩ := hs
  have hcx := hvx β ρ (A x (by simp [Op.operands]))
  have hfree : β n = none := H.free (Nat.le_refl n)
  split at e
  · replace e := setK_ok e; obtain ⟨h', e, hg⟩ := e
    rw [fNat_eq] at e
    have hx : ρ x = .map none := (Option.some.inj (show some (Value.map none) = some (ρ x) from hcx)).symm
    have HA := (H.new hg).alloc (o := .iter none 0 [] 0) (b := ⟨w.heap.size, 0, 0⟩) (ob := .mapIter none 0 #[] 0) (by omega) hfree (by rw [hg, if_pos rfl]) rfl ⟨rfl, none, rfl, rfl⟩
    refine ⟨_, h', n + 1, r, e, Rz.le.refl r, .value (.pointer (some ⟨w.heap.size, 0, none⟩)), _, w.alloc (.mapIter none 0 #[] 0), _, ?_, .inl rfl, by simp [conc, upd_self], HA, ext_new hfree hg⟩
    simp only [execOp, ho, Instr.range, Sem.run_bind, run_underlying hu, Result.andThen_ok, hx, Sem.run_pure, newObj, Sem.run]
    rfl
  · rename_i mid
    replace e := om_ok e; obtain ⟨om', hom, e⟩ := e
    cases om' <;> try exact (bad_ne e).elim
    rename_i es clock
    replace e := setK_ok e; obtain ⟨h', e, hg⟩ := e
    rw [fNat_eq] at e
    obtain ⟨bm, hbm, hx⟩ := conc_map hcx
    obtain ⟨ms, hget, _, hE⟩ := run_getMap (P := P) H hom hbm
    have HA := (H.new hg).alloc (o := .iter (some mid) clock [] clock) (b := ⟨w.heap.size, 0, 0⟩) (ob := .mapIter (some bm.blk) clock #[] clock) (by omega) hfree (by rw [hg, if_pos rfl]) rfl
      ⟨rfl, some bm.blk, rfl, bm, upd_le hfree _ _ hbm, rfl⟩
    refine ⟨_, h', n + 1, r, e, Rz.le.refl r, .value (.pointer (some ⟨w.heap.size, 0, none⟩)), _, w.alloc (.mapIter (some bm.blk) clock #[] clock), _, ?_, .inl rfl, by simp [conc, upd_self], HA, ext_new hfree hg⟩
    simp only [execOp, ho, Instr.range, Sem.run_bind, run_underlying hu, Result.andThen_ok, hx, hget, Sem.run_pure, newObj, Sem.run]
    rfl
  · exact (bad_ne e).elim

theorem findStamp_ok {b : Nat} {k : V × V × Nat → Out} : ∀ {es : List (V × V × Nat)}, findStamp b es k = .ok r → ∃ e, k e = .ok r ∧ ∀ β ms, EntsR β es ms → ∃ m, ms.find? (fun x => x.born == b) = some m ∧ conc β e.1 = some m.key ∧ conc β e.2.1 = some m.val
  | [], e => (bad_ne e).elim
  | a :: es, e => by
    replace e : (Bool.rec (findStamp b es k) (k a) (Nat.beq a.2.2 b) : Out) = .ok r := e
    rcases rec_ok e with ⟨hb, e⟩ | ⟨hb, e⟩
    · refine ⟨a, e, fun β ms hE => ?_⟩
      cases ms with
      | nil => exact hE.elim
      | cons m ms =>
        have : m.born = b := by rw [hE.2.2.1]; exact beq_of hb
        exact ⟨m, by simp [this], hE.1, hE.2.1⟩
    · obtain ⟨x, h1, h2⟩ := findStamp_ok e
      refine ⟨x, h1, fun β ms hE => ?_⟩
      cases ms with
      | nil => exact hE.elim
      | cons m ms =>
        have hne : (m.born == b) = false := by
          rw [hE.2.2.1]
          cases h : a.2.2 == b with
          | false => rfl
          | true => have := beq_iff_eq.1 h; rw [this] at hb; simp at hb
        obtain ⟨m', h3, h4⟩ := h2 β ms hE.2.2.2
        exact ⟨m', by rw [List.find?_cons, hne]; exact h3, h4⟩

theorem entry_ok {it : Operand} (e : (ev regs it fun it => entryK h it fun v => fin v h n) = .ok r) : Outc P E.tys h n fr cs go fin r (OpPre regs (.entry it)) := by
  replace e := ev_ok e; obtain ⟨vi, e, hvi⟩ := e
  replace e := iterK_ok e; obtain ⟨id, m, since, seen, last, rfl, hg, e⟩ := e
  replace e := om_ok e; obtain ⟨mid, rfl, e⟩ := e
  replace e := om_ok e; obtain ⟨stamp, hst, e⟩ := e
  replace e := om_ok e; obtain ⟨om', hom, e⟩ := e
  cases om' <;> try exact (bad_ne e).elim
  rename_i es clock
  replace e := need_ok e; obtain ⟨hcl, e⟩ := e
  have hcl := beq_of hcl
  subst hcl
  replace e := findStamp_ok e; obtain ⟨en, e, hfind⟩ := e
  refine .inl fun W0 β w s0 H hs => ?_
  obtain ⟨ρ, o, A, ho, rfl⟩ := hs
  have hci := hvi β ρ (A it (by simp [Op.operands]))
  obtain ⟨bk, hbk, hρ⟩ := conc_ptr hci
  obtain ⟨h0, k, hob, hk⟩ := H.obj id _ bk hg hbk
  rw [h0] at hρ
  simp only [Nat.add_zero] at hρ
  obtain ⟨bm, hbm, rfl⟩ := hk
  obtain ⟨ms, hget, _, hE⟩ := run_getMap (P := P) H hom hbm
  obtain ⟨me, h1, h2, h3⟩ := hfind β ms.toList hE
  have hgi : (getObj bk.blk).run P w = .ok (.mapIter (some bm.blk) since seen.toArray clock) w := by simp [getObj, Sem.run, hob]
  have hback : seen.toArray.back? = some stamp := by simpa using hst
  have hfa : ms.find? (fun x => x.born == stamp) = some me := by
    rw [← Array.find?_toList]; exact h1
  refine ⟨_, h, n, r, e, Rz.le.refl r, .value (.tuple #[me.key, me.val]), .tuple #[me.key, me.val], w, β, ?_, .inl rfl, by simp [conc, concL, h2, h3], H, More.refl _ _ _⟩
  simp [execOp, ho, hρ, Instr.entry, hgi, hback, hget, hfa]

include HE in
theorem assert_ok {x : Operand} {xt t : Nat} {ok : Bool} (e : (ev regs x fun x => assertK E.tys t ok x fun v => fin v h n) = .ok r) : Outc P E.tys h n fr cs go fin r (OpPre regs (.typeAssert x xt t ok)) := by
  replace e := ev_ok e; obtain ⟨vx, e, hvx⟩ := e
  unfold assertK at e
  cases vx <;> try exact (bad_ne e).elim
  rename_i tt v
  replace e := need_ok e; obtain ⟨hc, e⟩ := e
  have hc := Bool.and_eq_true_iff.1 hc
  have ht := beq_of hc.2
  subst ht
  have hm := hc.1
  have hu : ∃ a b, P.underlying tt = some (.map a b) := by
    unfold isMapTy at hm
    split at hm
    · rename_i ti hti
      split at hm
      · rename_i hk; exact ⟨_, _, (HE.tys _ _ hti).map hk⟩
      · cases hm
    · cases hm
  obtain ⟨ka, kb, hu⟩ := hu
  refine .inl fun W0 β w s0 H hs => ?_
  obtain ⟨ρ, o, A, ho, rfl⟩ := hs
  have hcx := hvx β ρ (A x (by simp [Op.operands]))
  simp only [conc, Option.map_eq_some_iff] at hcx
  obtain ⟨y, hy, hx⟩ := hcx
  cases ok with
  | true => exact ⟨_, h, n, r, e, Rz.le.refl r, .value (.tuple #[y, .bool true]), _, w, β, by simp [execOp, ho, Instr.typeAssert, run_underlying hu, ← hx], .inl rfl, by simp [conc, concL, hy], H, More.refl _ _ _⟩
  | false => exact ⟨_, h, n, r, e, Rz.le.refl r, .value y, _, w, β, by simp [execOp, ho, Instr.typeAssert, run_underlying hu, ← hx], .inl rfl, hy, H, More.refl _ _ _⟩

include HE in
theorem clearK_ok {t : Nat} {x : V} {k : T O → Out} (e : clearK E.tys h t x k = .ok r) : ∃ h', k h' = .ok r ∧ ∀ W0 β w, HR W0 β h n w → ∀ vx, conc β x = some vx → ∀ ty, ∃ w', (Builtin.clear_ #[t] ty #[vx]).run P w = .ok (.tuple #[]) w' ∧ HR W0 β h' n w' ∧ More β h n β h' n := by
  replace e := sliceTy_ok e; obtain ⟨ti, el, te, hti, hk, hte, e⟩ := e
  have ht := (HE.tys _ _ hti).slice hk
  have Te := HE.tys _ _ hte
  split at e
  · rename_i id off len ex kk lo
    rcases rec_ok e with ⟨hl, e⟩ | ⟨hl, e⟩
    · have := beq_of hl
      subst this
      refine ⟨h, e, fun W0 β w H vx hx ty => ?_⟩
      obtain ⟨b, hb, _, rfl⟩ := conc_slice hx
      exact ⟨w, by simp [Builtin.clear_, run_underlying ht], H, More.refl _ _ _⟩
    · replace e := repL_ok e
      replace e := storeN_ok (P := P) e; obtain ⟨h', e, hst⟩ := e
      refine ⟨h', e, fun W0 β w H vx hx ty => ?_⟩
      obtain ⟨b, hb, _, rfl⟩ := conc_slice hx
      obtain ⟨z, hz, hzc, _, _, _⟩ := Te.zero w
      have hne : len ≠ 0 := by intro h; subst h; simp at hl
      obtain ⟨c1, c2, c3⟩ := hst W0 β n w H b hb _ (concL_rep (hzc β) len)
      refine ⟨_, ?_, c2, c3⟩
      have hzz : (Builtin.zeroCells z.cells len).toList = (List.replicate len z.cells.toList).flatten := zeros_eq z.cells len
      obtain ⟨len', rfl⟩ : ∃ m, len = m + 1 := ⟨len - 1, by omega⟩
      simp [Builtin.clear_, run_underlying ht, hz, hzz, c1]
  · refine ⟨h, e, fun W0 β w H vx hx ty => ?_⟩
    simp only [conc, Option.map_eq_some_iff] at hx
    obtain ⟨b, hb, rfl⟩ := hx
    exact ⟨w, by simp [Builtin.clear_, run_underlying ht], H, More.refl _ _ _⟩
  · refine ⟨h, e, fun W0 β w H vx hx ty => ?_⟩
    simp only [conc] at hx
    split at hx <;> cases hx
    exact ⟨w, by simp [Builtin.clear_, run_underlying ht], H, More.refl _ _ _⟩
  · exact (bad_ne e).elim

include HE in
theorem copyK_ok {t : Nat} {x y : V} {k : V → T O → Out} (e : copyK E.tys h t x y k = .ok r) : ∃ v h', k v h' = .ok r ∧ ∀ W0 β w, HR W0 β h n w → ∀ vx vy, conc β x = some vx → conc β y = some vy → ∀ ts : Array Nat, ts[0]? = some t → ∀ ty,
    ∃ val w', (Builtin.copy_ ts ty #[vx, vy]).run P w = .ok val w' ∧ conc β v = some val ∧ HR W0 β h' n w' ∧ More β h n β h' n := by
  replace e := sliceTy_ok e; obtain ⟨ti, el, te, hti, hk, hte, e⟩ := e
  have ht := (HE.tys _ _ hti).slice hk
  have Te := HE.tys _ _ hte
  have hnil : ∀ {β : Beta} {m : Nat} {v : Value}, conc β (.base (.slice none 0 m)) = some v → v = .slice none 0 m := fun h => by
    simp only [conc] at h; split at h <;> cases h; rfl
  have htail : ∀ {β : Beta} {i o a z q : Nat} {v : Value}, conc β (.tail i o a z q) = some v → ∃ p c, v = .slice (some p) 0 c := fun h => by
    simp only [conc, Option.map_eq_some_iff] at h
    obtain ⟨b, hb, rfl⟩ := h
    exact ⟨_, _, rfl⟩
  split at e
  · rename_i id off len ex kk lo id2 off2 len2 ex2 kk2 lo2
    rw [fNat_eq] at e
    have hmin : (Nat.rec (motive := fun _ => Nat) len (fun _ _ => len2) (Nat.sub len len2) : Nat) = Nat.min len2 len := by
      rcases Nat.lt_or_ge len2 len with hlt | hge
      · obtain ⟨q, hq⟩ : ∃ q, Nat.sub len len2 = q + 1 := ⟨len - len2 - 1, by show len - len2 = _; omega⟩
        rw [hq]; show len2 = _; exact (Nat.min_eq_left (by omega)).symm
      · have hq : Nat.sub len len2 = 0 := by show len - len2 = 0; omega
        rw [hq]; show len = _; exact (Nat.min_eq_right (by omega)).symm
    rw [hmin] at e
    replace e := cellsAt_ok e; obtain ⟨l, e, hl, hc⟩ := e
    replace e := storeN_ok (P := P) e; obtain ⟨h', e, hst⟩ := e
    rw [kN_eq] at e
    refine ⟨_, h', e, fun W0 β w H vx vy hx hy ts hts ty => ?_⟩
    obtain ⟨b, hb, _, rfl⟩ := conc_slice hx
    obtain ⟨b2, hb2, _, rfl⟩ := conc_slice hy
    obtain ⟨us, hus, hlen, hcell⟩ := hc W0 β n w H b2 hb2
    obtain ⟨c1, c2, c3⟩ := hst W0 β n w H b hb us hus
    refine ⟨_, _, ?_, rfl, c2, c3⟩
    have hfc := run_firstCells_some (P := P) w te.size (Nat.min len2 len) ⟨b2.blk, b2.off + off2, none⟩ len2 (capOf b2 ex2 kk2) us hlen fun j v hj => by rw [add_none]; exact hcell j v hj
    simp [Builtin.copy_, hts, run_underlying ht, Builtin.lenOf, Te.sizeOf, hfc, c1, goInt_eq]
  · refine ⟨_, h, e, fun W0 β w H vx vy hx hy ts hts ty => ?_⟩
    obtain ⟨b, hb, _, rfl⟩ := conc_slice hx
    obtain ⟨p, c, rfl⟩ := htail hy
    refine ⟨_, w, ?_, rfl, H, More.refl _ _ _⟩
    simp [Builtin.copy_, hts, run_underlying ht, Builtin.lenOf, Te.sizeOf, Builtin.firstCells, loadCells, loadCellsFrom, storeCells, goInt_eq]
  · refine ⟨_, h, e, fun W0 β w H vx vy hx hy ts hts ty => ?_⟩
    obtain ⟨b, hb, _, rfl⟩ := conc_slice hx
    have := hnil hy; subst this
    refine ⟨_, w, ?_, rfl, H, More.refl _ _ _⟩
    simp [Builtin.copy_, hts, run_underlying ht, Builtin.lenOf, Te.sizeOf, Builtin.firstCells, storeCells, goInt_eq]
  · refine ⟨_, h, e, fun W0 β w H vx vy hx hy ts hts ty => ?_⟩
    obtain ⟨p, c, rfl⟩ := htail hx
    obtain ⟨b, hb, _, rfl⟩ := conc_slice hy
    refine ⟨_, w, ?_, rfl, H, More.refl _ _ _⟩
    simp [Builtin.copy_, hts, run_underlying ht, Builtin.lenOf, Te.sizeOf, Builtin.firstCells, loadCells, loadCellsFrom, storeCells]
    rfl
  · refine ⟨_, h, e, fun W0 β w H vx vy hx hy ts hts ty => ?_⟩
    have := hnil hx; subst this
    obtain ⟨b, hb, _, rfl⟩ := conc_slice hy
    refine ⟨_, w, ?_, rfl, H, More.refl _ _ _⟩
    simp [Builtin.copy_, hts, run_underlying ht, Builtin.lenOf, Te.sizeOf, Builtin.firstCells, loadCells, loadCellsFrom]
    rfl
  · refine ⟨_, h, e, fun W0 β w H vx vy hx hy ts hts ty => ?_⟩
    have := hnil hx; subst this
    have := hnil hy; subst this
    refine ⟨_, w, ?_, rfl, H, More.refl _ _ _⟩
    simp [Builtin.copy_, hts, run_underlying ht, Builtin.lenOf, Te.sizeOf, Builtin.firstCells]
    rfl
  · exact (bad_ne e).elim

include HE in
theorem chainC_ok {c : Call} (e : chainC E c fr regs cs h n go fin = .ok r) : Outc P E.tys h n fr cs go fin r (OpPre regs (.call c)) := by
  obtain ⟨f, args, ts⟩ := c
  cases f with
  | value f =>
    replace e : (ev regs f fun f => evL regs args.toList fun args => callK E f args fr cs h n go fin) = .ok r := e
    replace e := ev_ok e; obtain ⟨vf, e, hf⟩ := e
    replace e := evL_ok e; obtain ⟨vs, e, hvs⟩ := e
    refine (callK_ok HE e).mono fun β s hs => ?_
    obtain ⟨ρ, o, A, ho, rfl⟩ := hs
    refine ⟨ρ f, args.toList.map ρ, hf β ρ (A f (by simp [Op.operands, Call.operands])), hvs β ρ fun x hx => A x (by simp [Op.operands, Call.operands]; exact .inr (by simpa using hx)), ?_⟩
    have : (args.toList.map ρ).toArray = args.map ρ := by rw [← Array.toList_map, Array.toArray_toList]
    rw [this]
    simp [execOp, ho, resolve, invV]
  | builtin b =>
    cases b <;> try exact (bad_ne e).elim
    case clear =>
      replace e : (hd ts.toList fun t => need (Nat.beq (List.length ts.toList) 1) (oneO args.toList fun x => ev regs x fun x => clearK E.tys h t x fun h => fin undefV h n)) = .ok r := e
      replace e := hd_ok e; obtain ⟨t, tl, hts, e⟩ := e
      replace e := need_ok e; obtain ⟨hlen, e⟩ := e
      have hlen := beq_of hlen
      rw [hts] at hlen
      have htl : tl = [] := List.length_eq_zero_iff.1 (by simpa using hlen)
      subst htl
      replace e := oneO_ok e; obtain ⟨x, hargs, e⟩ := e
      replace e := ev_ok e; obtain ⟨vx, e, hvx⟩ := e
      replace e := clearK_ok (P := P) (n := n) HE e; obtain ⟨h', e, hsp⟩ := e
      refine .inl fun W0 β w s0 H hs => ⟨_, h', n, r, e, Rz.le.refl r, ?_⟩
      obtain ⟨ρ, o, A, ho, rfl⟩ := hs
      have ha : args = #[x] := by
        have := congrArg List.toArray hargs
        simpa using this
      have ht : ts = #[t] := by
        have := congrArg List.toArray hts
        simpa using this
      subst ha; subst ht
      obtain ⟨w', c1, c2, c3⟩ := hsp W0 β w H (ρ x) (hvx β ρ (A x (by simp [Op.operands, Call.operands]))) o.type
      exact ⟨.value (.tuple #[]), .tuple #[], w', β, by simp [execOp, ho, resolve, invoke, builtin, c1], .inl rfl, by simp [undefV, conc, concL], c2, c3⟩
    case delete =>
      replace e : (hd ts.toList fun t => two args.toList fun m x => ev regs m fun m => ev regs x fun x => delK E.tys h t m x fun h => fin undefV h n) = .ok r := e
      replace e := hd_ok e; obtain ⟨t, tl, hts, e⟩ := e
      replace e := two_ok e; obtain ⟨m, x, hargs, e⟩ := e
      replace e := ev_ok e; obtain ⟨vm, e, hvm⟩ := e
      replace e := ev_ok e; obtain ⟨vx, e, hvx⟩ := e
      replace e := delK_ok (P := P) HE.tys e; obtain ⟨h', e, hsp⟩ := e
      refine .inl fun W0 β w s0 H hs => ⟨_, h', n, r, e, Rz.le.refl r, ?_⟩
      obtain ⟨ρ, o, A, ho, rfl⟩ := hs
      have ha : args = #[m, x] := by
        have := congrArg List.toArray hargs
        simpa using this
      have ht : ts[0]? = some t := by rw [← Array.getElem?_toList, hts]; rfl
      subst ha
      obtain ⟨w', c1, c2, c3⟩ := hsp W0 β n w H (ρ m) (ρ x) (hvm β ρ (A m (by simp [Op.operands, Call.operands]))) (hvx β ρ (A x (by simp [Op.operands, Call.operands]))) ts ht o.type
      exact ⟨.value (.tuple #[]), .tuple #[], w', β, by simp [execOp, ho, resolve, invoke, builtin, c1], .inl rfl, by simp [undefV, conc, concL], c2, c3⟩
    case copy =>
      replace e : (hd ts.toList fun t => two args.toList fun x y => ev regs x fun x => ev regs y fun y => copyK E.tys h t x y fun v h => fin v h n) = .ok r := e
      replace e := hd_ok e; obtain ⟨t, tl, hts, e⟩ := e
      replace e := two_ok e; obtain ⟨x, y, hargs, e⟩ := e
      replace e := ev_ok e; obtain ⟨vx, e, hvx⟩ := e
      replace e := ev_ok e; obtain ⟨vy, e, hvy⟩ := e
      replace e := copyK_ok (P := P) (n := n) HE e; obtain ⟨v, h', e, hsp⟩ := e
      refine .inl fun W0 β w s0 H hs => ⟨_, h', n, r, e, Rz.le.refl r, ?_⟩
      obtain ⟨ρ, o, A, ho, rfl⟩ := hs
      have ha : args = #[x, y] := by
        have := congrArg List.toArray hargs
        simpa using this
      have ht : ts[0]? = some t := by rw [← Array.getElem?_toList, hts]; rfl
      subst ha
      obtain ⟨val, w', c1, c2, c3, c4⟩ := hsp W0 β w H (ρ x) (ρ y) (hvx β ρ (A x (by simp [Op.operands, Call.operands]))) (hvy β ρ (A y (by simp [Op.operands, Call.operands]))) ts ht o.type
      exact ⟨.value val, val, w', β, by simp [execOp, ho, resolve, invoke, builtin, c1], .inl rfl, c2, c3, c4⟩
    case' append => skip
    replace e : (two2 ts.toList fun t t2 => two args.toList fun s x => ev regs s fun s => ev regs x fun x => need (srcTy E.tys t2 x) (appendK E.tys h n t s x fin)) = .ok r := e
    unfold two2 at e
    split at e
    · rename_i t t2 hts
      replace e := two_ok e; obtain ⟨s, x, hargs, e⟩ := e
      replace e := ev_ok e; obtain ⟨vs, e, hvs⟩ := e
      replace e := ev_ok e; obtain ⟨vx, e, hvx⟩ := e
      replace e := need_ok e; obtain ⟨hn, e⟩ := e
      replace e := appendK_ok HE.tys hn e; obtain ⟨v, h', n', e, hsp⟩ := e
      refine .inl fun W0 β w s0 H hs => ⟨v, h', n', r, e, Rz.le.refl r, ?_⟩
      obtain ⟨ρ, o, A, ho, rfl⟩ := hs
      have ha : args = #[s, x] := by
        have := congrArg List.toArray hargs
        simpa using this
      have ht : ts = #[t, t2] := by
        have := congrArg List.toArray hts
        simpa using this
      subst ha; subst ht
      obtain ⟨val, w', β', a1, a2, a3, a4⟩ := hsp W0 β w H (ρ s) (ρ x) (hvs β ρ (A s (by simp [Op.operands, Call.operands]))) (hvx β ρ (A x (by simp [Op.operands, Call.operands]))) o.type
      refine ⟨.value val, val, w', β', ?_, .inl rfl, a2, a3, a4⟩
      simp [execOp, ho, resolve, invoke, builtin, a1]
    · exact (bad_ne e).elim
  | invoke => exact (bad_ne e).elim

include HE in
theorem mapPut_pre {t : Nat} {m x v : Operand} {op : Op} (hop : m ∈ op.operands.toList) (hop2 : x ∈ op.operands.toList) (hop3 : v ∈ op.operands.toList)
    (hx : ∀ (ρ : Operand → Value) (o : Oper), o.op = op → execOp ρ o = do Instr.mapUpdate t (ρ m) (ρ x) (ρ v); pure .skip)
    (e : (ev regs m fun m => ev regs x fun x => ev regs v fun v => mapPut E.tys h t m x (fun _ => v) v fun h _ _ => fin undefV h n) = .ok r) :
    Outc P E.tys h n fr cs go fin r (OpPre regs op) := by
  replace e := ev_ok e; obtain ⟨vm, e, hm⟩ := e
  replace e := ev_ok e; obtain ⟨vx, e, hvx⟩ := e
  replace e := ev_ok e; obtain ⟨vv, e, hv⟩ := e
  replace e := mapPut_ok (P := P) HE.tys e; obtain ⟨h', u, b, e, hsp⟩ := e
  refine .inl fun W0 β w s0 H hs => ⟨_, _, _, r, e, Rz.le.refl r, ?_⟩
  obtain ⟨ρ, o, A, ho, rfl⟩ := hs
  obtain ⟨w', a1, a2, a3⟩ := run_mapUpdate hsp H (hm β ρ (A m hop)) (hvx β ρ (A x hop2)) (hv β ρ (A v hop3))
  exact ⟨.skip, undef, w', β, by rw [hx ρ o ho]; simp [a1], .inr ⟨rfl, rfl⟩, conc_undef β, a2, a3⟩

include HE in
theorem chainK_ok {op : Op} (e : chainK E op fr regs cs h n go fin = .ok r) : Outc P E.tys h n fr cs go fin r (OpPre regs op) := by
  cases op with
  | store t a x =>
    replace e := ev_ok e; obtain ⟨va, e, ha⟩ := e
    replace e := ev_ok e; obtain ⟨vx, e, hx⟩ := e
    replace e := storeK_ok HE.tys e; obtain ⟨h', e, hsp⟩ := e
    refine .inl fun W0 β w s0 H hs => ⟨_, _, _, r, e, Rz.le.refl r, ?_⟩
    obtain ⟨ρ, o, A, ho, rfl⟩ := hs
    obtain ⟨w', a1, a2, a3⟩ := hsp W0 β n w H _ _ (ha β ρ (A a (by simp [Op.operands]))) (hx β ρ (A x (by simp [Op.operands])))
    exact ⟨.skip, undef, w', β, by simp [execOp, ho, a1], .inr ⟨rfl, rfl⟩, conc_undef β, a2, a3⟩
  | mapUpdate t m x v => exact mapPut_pre HE (by simp [Op.operands]) (by simp [Op.operands]) (by simp [Op.operands]) (fun ρ o ho => by simp [execOp, ho]) e
  | insert t m x v => exact mapPut_pre HE (by simp [Op.operands]) (by simp [Op.operands]) (by simp [Op.operands]) (fun ρ o ho => by simp [execOp, ho]) e
  | mapEntry t m x =>
    replace e := ev_ok e; obtain ⟨vm, e, hm⟩ := e
    replace e := ev_ok e; obtain ⟨vx, e, hx⟩ := e
    replace e := mapTy_ok e; obtain ⟨ti, kt, et, tk, te, hti, hk, htk, hte, e⟩ := e
    replace e := zeroV_ok e; obtain ⟨z, e, hz⟩ := e
    replace e := mapPut_ok (P := P) HE.tys e; obtain ⟨h', u, b, e, hsp⟩ := e
    obtain ⟨vz, hz1, hz2⟩ := hz P et (HE.tys _ _ hte)
    refine .inl fun W0 β w s0 H hs => ⟨_, _, _, r, e, Rz.le.refl r, ?_⟩
    obtain ⟨ρ, o, A, ho, rfl⟩ := hs
    have hmap := (HE.tys _ _ hti).map hk
    obtain ⟨w', val, a1, a2, a3, a4⟩ := run_mapEntry hsp H (hm β ρ (A m (by simp [Op.operands]))) (hx β ρ (A x (by simp [Op.operands]))) (hz2 β) (fun kt' et' hu => by
      rw [hmap] at hu; cases hu; exact hz1 w)
    exact ⟨.value val, val, w', β, by simp [execOp, ho, a1], .inl rfl, a2, a3, a4⟩
  | entryStore t m b x =>
    replace e := ev_ok e; obtain ⟨vm, e, hm⟩ := e
    replace e := ev_ok e; obtain ⟨vb, e, hb⟩ := e
    replace e := ev_ok e; obtain ⟨vx, e, hx⟩ := e
    replace e := entryPut_ok (P := P) e; obtain ⟨h', e, hsp⟩ := e
    refine .inl fun W0 β w s0 H hs => ⟨_, _, _, r, e, Rz.le.refl r, ?_⟩
    obtain ⟨ρ, o, A, ho, rfl⟩ := hs
    obtain ⟨w', a1, a2, a3⟩ := hsp W0 β n w H t _ _ _ (hm β ρ (A m (by simp [Op.operands]))) (hb β ρ (A b (by simp [Op.operands]))) (hx β ρ (A x (by simp [Op.operands])))
    exact ⟨.skip, undef, w', β, by simp [execOp, ho, a1], .inr ⟨rfl, rfl⟩, conc_undef β, a2, a3⟩
  | next it b => exact next_ok HE e
  | range t x => exact range_op_ok HE e
  | entry it => exact entry_ok e
  | typeAssert x xt t ok => exact assert_ok HE e
  | call c => exact chainC_ok HE e
  | _ => cases e
end

end Go.Mir
