/- The small machine: a call that is run apart, from a state that is written out, its draws gone one by one. No statement of the program stands here. -/
import Derived.Test.YtnclpappnmoimaaGreatDoorMirAX
namespace Go.Mir
open Go Go.RowKit

/- one memory is part of another -/
noncomputable def partB (all : Bool) (t u : T O) : Bool :=
  T.rec (motive := fun _ => T O → Bool) (fun u => T.rec (motive := fun _ => Bool) true (fun _ _ _ _ _ => false) (fun _ => false) u)
    (fun v _ _ pl pr u => T.rec (motive := fun _ => Bool) false
      (fun w l r _ _ => and (Option.rec (motive := fun _ => Bool) (Option.rec (motive := fun _ => Bool) true (fun b => Bool.rec true (not (plainO b)) all) w)
        (fun a => Option.rec (motive := fun _ => Bool) false (fun b => sameO a b) w) v) (and (pl l) (pr r))) (fun _ => false) u) (fun _ _ => false) t u

theorem partB_ok : ∀ {all : Bool} {t u : T O}, partB all t u = true → (∀ i o, t.get i = some o → u.get i = some o) ∧ (all = true → ∀ i o, plainO o = true → u.get i = some o → t.get i = some o)
  | _, .nil, .nil, _ => ⟨fun i o h => (by cases h), fun _ i o _ h => (by cases h)⟩
  | _, .nil, .node .., h => by cases h
  | _, .node .., .nil, h => by cases h
  | _, .nil, .fn _, h => by cases h
  | _, .node .., .fn _, h => by cases h
  | _, .fn _, _, h => by cases h
  | all, .node v l r, .node w l' r', h => by
    replace h : and (Option.rec (motive := fun _ => Bool) (Option.rec (motive := fun _ => Bool) true (fun b => Bool.rec true (not (plainO b)) all) w)
        (fun a => Option.rec (motive := fun _ => Bool) false (fun b => sameO a b) w) v) (and (partB all l l') (partB all r r')) = true := h
    have h1 := Bool.and_eq_true_iff.1 h
    have h2 := Bool.and_eq_true_iff.1 h1.2
    obtain ⟨a1, a2⟩ := partB_ok h2.1
    obtain ⟨b1, b2⟩ := partB_ok h2.2
    refine ⟨fun i o hi => ?_, fun ha i o hp hi => ?_⟩
    · cases i with
      | zero =>
        replace hi : v = some o := hi
        show w = some o
        subst hi
        cases w with
        | none => cases h1.1
        | some b => rw [sameO_eq h1.1]
      | succ i =>
        rw [T.get_node_succ] at hi ⊢
        split at hi
        · rename_i hc; rw [if_pos hc]; exact b1 _ _ hi
        · rename_i hc; rw [if_neg hc]; exact a1 _ _ hi
    · cases i with
      | zero =>
        replace hi : w = some o := hi
        show v = some o
        subst hi; subst ha
        cases v with
        | none =>
          have h3 : not (plainO o) = true := h1.1
          rw [hp] at h3; cases h3
        | some b => rw [sameO_eq h1.1]
      | succ i =>
        rw [T.get_node_succ] at hi ⊢
        split at hi
        · rename_i hc; rw [if_pos hc]; exact b2 ha _ _ hp hi
        · rename_i hc; rw [if_neg hc]; exact a2 ha _ _ hp hi

/-- what a run shows holds at least what is written in 'z' -/
noncomputable def chkR (z : Rz) (o : Out) : Bool := Out.rec (motive := fun _ => Bool) (fun y => and (sameB2 z.v y.v) (and (Nat.beq z.n y.n) (partB false z.h y.h))) (fun _ _ => false) o
where sameB2 (a b : V) : Bool := match a, b with | .tuple l, .tuple m => sameL l m | a, b => sameV a b

theorem chkR_ok {z : Rz} {o : Out} (h : chkR z o = true) : ∃ y, o = .ok y ∧ Rz.le z y := by
  cases o with
  | bad c f => cases h
  | ok y =>
    replace h : and (chkR.sameB2 z.v y.v) (and (Nat.beq z.n y.n) (partB false z.h y.h)) = true := h
    have h1 := Bool.and_eq_true_iff.1 h
    have h2 := Bool.and_eq_true_iff.1 h1.2
    refine ⟨y, rfl, ?_, beq_of h2.1, (partB_ok h2.2).1⟩
    have h3 := h1.1
    unfold chkR.sameB2 at h3
    split at h3
    · rename_i l m hz hy; rw [hz, hy, sameL_eq h3]
    · exact sameV_eq h3

theorem FrR.more {P : Program} {tys : T TI} {lo hi : Nat} {β β' : Beta} {h h' : T O} {n n' : Nat} {fr : Fr} {F : Frame} (H : FrR P tys lo hi β h fr F) (M : MoreB hi β h n β' h' n') : FrR P tys lo hi β' h' fr F := by
  obtain ⟨i, regs, todo⟩ := fr
  obtain ⟨h1, h3⟩ := H
  refine ⟨h1.mono M.le, ?_⟩
  have gen : F.mode = .run ∧ TodoR β todo F.todo ∧ RegsR β regs F.tmps no → F.mode = .run ∧ TodoR β' todo F.todo ∧ RegsR β' regs F.tmps no := fun h => ⟨h.1, h.2.1.mono M.le, h.2.2.mono M.le⟩
  cases todo with
  | nil => exact gen h3
  | cons it t =>
    cases it with
    | dreg all sc =>
      obtain ⟨h2, ops, L, D, l, seen, last, evd, must, al, idf, T, a1, a2, a3, a4, a5, a6⟩ : F.mode = .run ∧ DregR P tys lo hi β h regs all sc t F none := h3
      exact ⟨h2, ops, L, D, l, seen, last, evd, must, al, idf, T, a1, a2, a3.mono M.le, a4.more M, a5, a6⟩
    | fin =>
      obtain ⟨h2, h4⟩ : F.mode = .returning ∧ RegsR β regs F.tmps no := h3
      exact ⟨h2, h4.mono M.le⟩
    | reg all rem => exact gen h3
    | code c => exact gen h3
    | inBlock l => exact gen h3
    | inLoop l => exact gen h3
    | inScope l => exact gen h3
    | inRange l => exact gen h3
    | endRange l => exact gen h3
    | beginRound => exact gen h3

/-- go on from a part of the memory -/
noncomputable def narrow (h0 : T O) (go : Go_) : Go_ := fun i regs todo cs h n => Bool.rec (bad 301) (go i regs todo cs h0 n) (partB true h0 h)

theorem narrow_ok {P : Program} {tys : T TI} {W0 : World} {f0 : Nat} {cs0 : List Frame} {B0 : Bs} {h0 : T O} {go : Go_} (G : Good P tys W0 f0 cs0 B0 go) : Good P tys W0 f0 cs0 B0 (narrow h0 go) := by
  intro r i regs todo cs h n e β F CS w lo S
  replace e : (Bool.rec (bad 301) (go i regs todo cs h0 n) (partB true h0 h) : Out) = .ok r := e
  rcases rec_ok e with ⟨hp, e⟩ | ⟨_, e⟩
  · obtain ⟨p1, p2⟩ := partB_ok hp
    have M : More β h n β h0 n := ⟨Le.refl β, Nat.le_refl n, fun id _ hb => ⟨hb, fun o ho hi => p2 rfl id o ho hi⟩⟩
    exact G _ _ _ _ _ _ _ e β F CS w lo ⟨S.hr.sub p1, S.fr.more (M.toB (Nat.le_refl n)), S.st.more (M.toB S.le), S.le⟩
  · exact (bad_ne e).elim

/-- the next thing is a draw of a map's entry, in the function asked for -/
noncomputable def cutAt (f : Nat) (i : Fi) (todo : List It) : Bool :=
  match todo with
  | .reg _ (o :: _) :: _ => and (Nat.beq i.fn f) (match o.op with | .next .. => true | _ => false)
  | _ => false

noncomputable def execC (E : Env) (f : Nat) (K : Go_) (fuel : Nat) : Go_ :=
  Nat.rec (motive := fun _ => Go_) (fun i regs todo _ _ _ => .bad 0 (some ⟨i, regs, todo⟩))
    (fun _ ih i regs todo cs h n => Bool.rec (step E i regs todo cs h n ih) (K i regs todo cs h n) (cutAt f i todo)) fuel

theorem execC_ok {P : Program} {E : Env} {W0 : World} {f0 : Nat} {cs0 : List Frame} {B0 : Bs} (HE : EnvR P E) {f : Nat} {K : Go_} (G : Good P E.tys W0 f0 cs0 B0 K) : ∀ fuel, Good P E.tys W0 f0 cs0 B0 (execC E f K fuel)
  | 0 => fun r i regs todo cs h n e => by cases e
  | fuel + 1 => fun r i regs todo cs h n e β F CS w lo S => by
    replace e : (Bool.rec (step E i regs todo cs h n (execC E f K fuel)) (K i regs todo cs h n) (cutAt f i todo) : Out) = .ok r := e
    rcases rec_ok e with ⟨_, e⟩ | ⟨_, e⟩
    · exact G _ _ _ _ _ _ _ e β F CS w lo S
    · exact step_ok (execC_ok HE G fuel) HE _ _ _ _ _ _ _ e β F CS w lo S

/-- function f is entered -/
noncomputable def enterG (fns : T Func) (f : Nat) (args : List V) (h : T O) (n : Nat) (go : Go_) : Out :=
  om (fns.get f) fun fn => om fn.body fun body => fNat fn.ntmps fun sz => regsOf args sz fun regs => go ⟨f, sz, [], none⟩ regs [.code body] [] h n

theorem enterG_narrow {fns : T Func} {f : Nat} {args : List V} {h0 h : T O} {n : Nat} {go : Go_} (hp : partB true h0 h = true) : enterG fns f args h n (narrow h0 go) = enterG fns f args h0 n go := by
  unfold enterG narrow
  rw [hp]

open Classical in
/-- whichever way is gone, it shows 'z' -/
noncomputable def combZ (z : Rz) (outs : List Out) : Out := if ∀ o ∈ outs, ∃ y, o = .ok y ∧ Rz.le z y then .ok z else bad 300

theorem combZ_ok {z r : Rz} {outs : List Out} (h : combZ z outs = .ok r) : ∀ o ∈ outs, ∃ y, o = .ok y ∧ Rz.le r y := by
  unfold combZ at h
  split at h
  · rename_i hh; cases h; exact hh
  · exact (bad_ne h).elim

theorem combZ_of {z : Rz} {outs : List Out} (h : ∀ o ∈ outs, ∃ y, o = .ok y ∧ Rz.le z y) : combZ z outs = .ok z := if_pos h

/-- a table of one call -/
noncomputable def subOf (f0 : Nat) (args0 : List V) (h0 : T O) (n0 : Nat) (z : Rz) (f : Nat) (args : List V) (h : T O) (n : Nat) : Out :=
  Bool.rec (bad 302) (.ok z) (and (Nat.beq f f0) (and (sameL args args0) (and (Nat.beq n n0) (partB true h0 h))))

theorem subOf_ok {f0 f n0 n : Nat} {args0 args : List V} {h0 h : T O} {z r : Rz} (e : subOf f0 args0 h0 n0 z f args h n = .ok r) : f = f0 ∧ args = args0 ∧ n = n0 ∧ partB true h0 h = true ∧ r = z := by
  rcases rec_ok e with ⟨hc, e⟩ | ⟨_, e⟩
  · have h1 := Bool.and_eq_true_iff.1 hc
    have h2 := Bool.and_eq_true_iff.1 h1.2
    have h3 := Bool.and_eq_true_iff.1 h2.2
    cases e
    exact ⟨beq_of h1.1, sameL_eq h2.1, beq_of h3.1, h3.2, rfl⟩
  · exact (bad_ne e).elim

/-- the call up to its first draw; then its step there, by 'EK', and on by 'go' -/
noncomputable def preK (E EK : Env) (fuel f : Nat) (args : List V) (h : T O) (n : Nat) (go : Go_) : Out :=
  enterG E.fns f args h n (execC E f (fun i regs todo cs h n => step EK i regs todo cs h n go) fuel)

/-- WHAT IS NEEDED OF A CALL THAT IS RUN APART -/
theorem sub_ok {P : Program} {E : Env} (HE : EnvR P E) {fuel f0 : Nat} {args0 : List V} {h0 : T O} {n0 : Nat} {z : Rz} {go : Go_} (G : ∀ W0 f0 cs0 B0, Good P E.tys W0 f0 cs0 B0 go)
    (hz : preK E { E with comb := combZ z } fuel f0 args0 h0 n0 go = .ok z) :
    ∀ f args h n r, subOf f0 args0 h0 n0 z f args h n = .ok r → ∃ go r', (∀ W0 f0 cs0 B0, Good P E.tys W0 f0 cs0 B0 go) ∧ Rz.le r r' ∧
      (om (E.fns.get f) fun fn => om fn.body fun body => fNat fn.ntmps fun sz => regsOf args sz fun regs => go ⟨f, sz, [], none⟩ regs [.code body] [] h n) = .ok r' := by
  intro f args h n r e
  obtain ⟨rfl, rfl, rfl, hp, rfl⟩ := subOf_ok e
  have HZ : EnvR P { E with comb := combZ r } := ⟨HE.tys, HE.fns, HE.ext, HE.hook, HE.mixed, HE.sub, fun outs r' h => combZ_ok h⟩
  have hG : ∀ W0 f0 cs0 B0, Good P E.tys W0 f0 cs0 B0 (fun i regs todo cs h n => step { E with comb := combZ r } i regs todo cs h n go) := fun W0 f0 cs0 B0 => step_ok (E := { E with comb := combZ r }) (G W0 f0 cs0 B0) HZ
  unfold preK at hz
  generalize (fun i regs todo cs h n => step { E with comb := combZ r } i regs todo cs h n go : Go_) = K at hz hG
  have h1 := (enterG_narrow (go := execC E f K fuel) hp).trans hz
  exact ⟨narrow h0 (execC E f K fuel), r, fun W0 f0 cs0 B0 => narrow_ok (execC_ok HE (hG W0 f0 cs0 B0) fuel), Rz.le.refl r, h1⟩
end Go.Mir
