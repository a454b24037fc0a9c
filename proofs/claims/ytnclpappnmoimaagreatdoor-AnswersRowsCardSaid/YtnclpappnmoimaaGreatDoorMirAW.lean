/- The small machine against the model: what the machine knows of a program, checked. No statement of the program stands here. -/
import Derived.Test.YtnclpappnmoimaaGreatDoorMirAV
namespace Go.Mir
open Go Go.RowKit

noncomputable def T.all {α : Type} (p : Nat → α → Bool) (t : T α) : (Nat → Nat) → Bool :=
  T.rec (motive := fun _ => (Nat → Nat) → Bool) (fun _ => true)
    (fun v _ _ gl gr ix => and (Option.rec (motive := fun _ => Bool) true (fun x => p (ix 0) x) v) (and (gl fun j => ix (Nat.succ (Nat.mul 2 j))) (gr fun j => ix (Nat.succ (Nat.succ (Nat.mul 2 j)))))) (fun _ _ => false) t

theorem T.all_ok {α : Type} {p : Nat → α → Bool} : ∀ {t : T α} {ix : Nat → Nat}, T.all p t ix = true → ∀ i x, t.get i = some x → p (ix i) x = true
  | .nil, _, _, i, x, h => by cases h
  | .fn _, _, h, i, x, _ => by cases h
  | .node v l r, ix, h, i, x, hx => by
    have h : and (Option.rec (motive := fun _ => Bool) true (fun x => p (ix 0) x) v) (and (T.all p l fun j => ix (2 * j + 1)) (T.all p r fun j => ix (2 * j + 1 + 1))) = true := h
    have h1 := Bool.and_eq_true_iff.1 h
    have h2 := Bool.and_eq_true_iff.1 h1.2
    cases i with
    | zero =>
      have hv : v = some x := hx
      subst hv
      exact h1.1
    | succ i =>
      rw [T.get_node_succ] at hx
      split at hx
      · have := T.all_ok h2.2 _ _ hx
        rw [show 2 * (i / 2) + 1 + 1 = i + 1 by omega] at this
        exact this
      · have := T.all_ok h2.1 _ _ hx
        rw [show 2 * (i / 2) + 1 = i + 1 by omega] at this
        exact this

noncomputable def fkOk (a b : FloatKind) : Bool := match a with | .f32 => (match b with | .f32 => true | .f64 => false) | .f64 => (match b with | .f64 => true | .f32 => false)

theorem fkOk_eq {a b : FloatKind} (h : fkOk a b = true) : a = b := by cases a <;> cases b <;> first | rfl | (cases h)

noncomputable def baseOk (x y : Value) : Bool :=
  match x with
  | .float k a => (match y with | .float j b => and (fkOk k j) (Nat.beq a b) | _ => false)
  | .pointer none => (match y with | .pointer none => true | _ => false)
  | .map none => (match y with | .map none => true | _ => false)
  | .chan none => (match y with | .chan none => true | _ => false)
  | .nilFunc => (match y with | .nilFunc => true | _ => false)
  | .nilIface => (match y with | .nilIface => true | _ => false)
  | .slice none a b => (match y with | .slice none c d => and (Nat.beq a c) (Nat.beq b d) | _ => false)
  | _ => false

noncomputable def zeroOk (v : V) (x : Value) : Bool :=
  match v with
  | .int k n => (match x with | .int j m => and (sameKind k j) (ieq n m) | _ => false)
  | .bool a => (match x with | .bool b => Bool.rec (not b) b a | _ => false)
  | .str [] => (match x with | .string s => (match s.data.toList with | [] => true | _ => false) | _ => false)
  | .base a => baseOk a x
  | _ => false

theorem baseOk_eq {x y : Value} (h : baseOk x y = true) : x = y ∧ x.oneCell' = true := by
  unfold baseOk at h
  split at h <;> first | (cases h; done) | (split at h <;> first | (cases h; done) | exact ⟨rfl, rfl⟩ | skip)
  · have h := Bool.and_eq_true_iff.1 h
    have hb := beq_of h.2
    have hk := fkOk_eq h.1
    subst hb; subst hk
    exact ⟨rfl, rfl⟩
  · have h := Bool.and_eq_true_iff.1 h
    have h1 := beq_of h.1
    have h2 := beq_of h.2
    subst h1; subst h2
    exact ⟨rfl, rfl⟩

theorem zeroOk_conc {v : V} {x : Value} (h : zeroOk v x = true) : conc noB v = some x := by
  unfold zeroOk at h
  split at h
  · split at h
    · have h := Bool.and_eq_true_iff.1 h
      have h1 := kno_inj h.1
      have h2 := h.2
      rw [ieq_eq] at h2
      have h2 := beq_iff_eq.1 h2
      subst h1; subst h2; rfl
    · cases h
  · split at h
    · have := boolrec_eq h
      subst this; rfl
    · cases h
  · split at h
    · rename_i s
      split at h
      · rename_i hs
        have : s = bytesOf [] := by
          obtain ⟨⟨l⟩⟩ := s
          simp at hs
          subst hs; rfl
        subst this
        simp [conc, allB]
      · cases h
    · cases h
  · obtain ⟨h1, h2⟩ := baseOk_eq h
    subst h1
    simp [conc, h2]
  · cases h

noncomputable def zerosOk (l : List V) (xs : List Value) : Bool :=
  List.rec (motive := fun _ => List Value → Bool) (fun xs => List.rec (motive := fun _ => Bool) true (fun _ _ _ => false) xs)
    (fun v _ ih xs => List.rec (motive := fun _ => Bool) false (fun x t _ => and (zeroOk v x) (ih t)) xs) l xs

theorem zerosOk_conc : ∀ {l : List V} {xs : List Value}, zerosOk l xs = true → concL noB l = some xs
  | [], [], _ => rfl
  | [], _ :: _, h => by cases h
  | _ :: _, [], h => by cases h
  | v :: l, x :: xs, h => by
    have h : and (zeroOk v x) (zerosOk l xs) = true := h
    have h := Bool.and_eq_true_iff.1 h
    simp [concL, zeroOk_conc h.1, zerosOk_conc h.2]

noncomputable def fldsOk (P : Program) (fs : List (Nat × Nat × Nat × Bool)) (gs : List Field) : Bool :=
  List.rec (motive := fun _ => List Field → Bool) (fun gs => List.rec (motive := fun _ => Bool) true (fun _ _ _ => false) gs)
    (fun f _ ih gs => List.rec (motive := fun _ => Bool) false (fun g t _ => and (and (Nat.beq g.offset f.1) (and (Nat.beq g.type f.2.1) (and (Nat.beq (P.cellsOf g.type) f.2.2.1) (Bool.rec (not f.2.2.2) f.2.2.2 (g.name != "_"))))) (ih t)) gs) fs gs

theorem fldsOk_eq {P : Program} : ∀ {fs : List (Nat × Nat × Nat × Bool)} {gs : List Field}, fldsOk P fs gs = true → gs.map (fun f => (f.offset, f.type, P.cellsOf f.type, f.name != "_")) = fs
  | [], [], _ => rfl
  | [], _ :: _, h => by cases h
  | _ :: _, [], h => by cases h
  | f :: fs, g :: gs, h => by
    have h : and (and (Nat.beq g.offset f.1) (and (Nat.beq g.type f.2.1) (and (Nat.beq (P.cellsOf g.type) f.2.2.1) (Bool.rec (not f.2.2.2) f.2.2.2 (g.name != "_"))))) (fldsOk P fs gs) = true := h
    have h := Bool.and_eq_true_iff.1 h
    have h1 := Bool.and_eq_true_iff.1 h.1
    have h2 := Bool.and_eq_true_iff.1 h1.2
    have h3 := Bool.and_eq_true_iff.1 h2.2
    have e4 := boolrec_eq h3.2
    obtain ⟨a, b, c, d⟩ := f
    simp only at h1 h2 h3 e4
    rw [List.map_cons, fldsOk_eq h.2, beq_of h1.1, beq_of h2.1, ← e4, ← beq_of h3.1, ← beq_of h2.1]

noncomputable def kindOk (P : Program) (k : TK) (d : TypeDesc) : Bool :=
  match k with
  | .bool => (match d with | .bool => true | _ => false)
  | .int a => (match d with | .int b => sameKind a b | _ => false)
  | .float a => (match d with | .float b => fkOk a b | _ => false)
  | .string => (match d with | .string => true | _ => false)
  | .ptr e => (match d with | .pointer f => Nat.beq e f | _ => false)
  | .slice e => (match d with | .slice f => Nat.beq e f | _ => false)
  | .array n e => (match d with | .array m f => and (Nat.beq n m) (Nat.beq e f) | _ => false)
  | .map a b => (match d with | .map c e => and (Nat.beq a c) (Nat.beq b e) | _ => false)
  | .struct fs => (match d with | .struct gs => fldsOk P fs gs.toList | _ => false)
  | .func => (match d with | .func .. => true | _ => false)
  | .iface => (match d with | .interface _ => true | _ => false)
  | .other => false

theorem kindOk_ok {P : Program} {k : TK} {d : TypeDesc} (h : kindOk P k d = true) : KindR P k d := by
  unfold kindOk at h
  split at h <;> first | (cases h; done) | (split at h <;> first | (cases h; done) | trivial | skip)
  · exact kno_inj h
  · exact fkOk_eq h
  · exact beq_of h
  · exact beq_of h
  · have h := Bool.and_eq_true_iff.1 h; exact ⟨beq_of h.1, beq_of h.2⟩
  · have h := Bool.and_eq_true_iff.1 h; exact ⟨beq_of h.1, beq_of h.2⟩
  · exact fldsOk_eq h

noncomputable def notAgg (z : Value) : Bool := match z with | .agg _ => false | .tuple _ => false | _ => true
noncomputable def isAg (z : Value) : Bool := match z with | .agg _ => true | _ => false

noncomputable def zOk (ti : TI) (z : Value) : Bool := and (zerosOk ti.zero z.cells.toList) (and (Nat.beq (List.length ti.zero) ti.size) (Bool.rec (notAgg z) (isAg z) (isAggK ti.kind)))

noncomputable def infoOk (_P : Program) (_t : Nat) (ti : TI) (i : TypeInfo) : Bool :=
  and (Nat.beq i.size ti.size) (and (Nat.beq i.bytes ti.bytes) (and (Nat.ble ti.bytes 65536) (match i.zero with | some z => zOk ti z | none => false)))

noncomputable def tyChk (P : Program) (t : Nat) (ti : TI) : Bool :=
  and (match P.info? t with | some i => infoOk P t ti i | none => false) (and (match P.underlying t with | some d => kindOk P ti.kind d | none => false)
    (Bool.rec true (and (not (P.eqGuardType P.depth t)) (not (P.stoodInHeld t))) (isAggK ti.kind)))

theorem tyChk_ok {P : Program} {t : Nat} {ti : TI} (h : tyChk P t ti = true) : TIok P t ti := by
  have h := Bool.and_eq_true_iff.1 h
  have h2 := Bool.and_eq_true_iff.1 h.2
  have hi := h.1
  have hu := h2.1
  split at hi
  · rename_i i hi'
    have a1 := Bool.and_eq_true_iff.1 hi
    have a2 := Bool.and_eq_true_iff.1 a1.2
    have a3 := Bool.and_eq_true_iff.1 a2.2
    have hz := a3.2
    split at hz
    · rename_i z hz'
      have b1 := Bool.and_eq_true_iff.1 hz
      have b2 := Bool.and_eq_true_iff.1 b1.2
      split at hu
      · rename_i d hd
        refine ⟨⟨i, hi', beq_of a1.1, beq_of a2.1, z, hz', zerosOk_conc b1.1, fun ha => ?_, fun ha => ?_, beq_of b2.1⟩, ⟨d, hd, kindOk_ok hu⟩, fun ha => ?_, Nat.le_of_ble_eq_true a3.1⟩
        · have hb := b2.2
          rw [ha] at hb
          cases z <;> first | exact ⟨_, rfl⟩ | (cases hb)
        · have hb := b2.2
          rw [ha] at hb
          cases z <;> first | rfl | (cases hb)
        · have hc := h2.2
          rw [ha] at hc
          have hc := Bool.and_eq_true_iff.1 hc
          exact ⟨by simpa using hc.1, by simpa using hc.2⟩
      · cases hu
    · cases hz
  · cases hi

theorem tys_ok {P : Program} {tys : T TI} (h : T.all (tyChk P) tys (fun i => i) = true) : TysR P tys := fun t ti ht => tyChk_ok (T.all_ok h t ti ht)

noncomputable def nameOk (n : Nat) (i : Nat) (f : Func) : Bool := and (Nat.ble (Nat.succ i) n) (not (f.name == "runtime.NumGoroutine"))

theorem fns_ok {P : Program} {fns : T Func} {n : Nat} (h : T.all (nameOk n) fns (fun i => i) = true) (hl : (List.range n).map (fun i => fns.get i) = P.funcs.toList.map some) : FnsR P fns := fun f fn hf => by
  have h1 := Bool.and_eq_true_iff.1 (T.all_ok h f fn hf)
  have hlt : f < n := Nat.le_of_ble_eq_true h1.1
  refine ⟨?_, by simpa using h1.2⟩
  have h2 : ((List.range n).map (fun i => fns.get i))[f]? = some (some fn) := by
    rw [List.getElem?_map, List.getElem?_range hlt]; simp [hf]
  rw [hl, List.getElem?_map] at h2
  simp only [Option.map_eq_some_iff] at h2
  obtain ⟨x, hx, hxe⟩ := h2
  cases hxe
  rw [getE_toList]; exact hx

theorem ext_ok {P : Program} {ext : T Ext} (l : List (Nat × Ext × Func)) (h : T.all (fun i e => List.any l fun p => Nat.beq p.1 i && (match p.2.1, e with | .indexByte, .indexByte => true | .count, .count => true | .cmp, .cmp => true | .clone, .clone => true | _, _ => false)) ext (fun i => i) = true)
    (hl : ∀ p ∈ l, P.funcs[p.1]? = some p.2.2 ∧ (p.2.2.name == "runtime.NumGoroutine") = false ∧ p.2.2.body.isNone = true ∧ Extern.findNext p.2.2 = none ∧ Extern.find p.2.2 = some (extFn p.2.1)) : ExtR P ext := fun f e hf => by
  have h1 := T.all_ok h f e hf
  rw [List.any_eq_true] at h1
  obtain ⟨p, hp, h2⟩ := h1
  rw [Bool.and_eq_true] at h2
  obtain ⟨i, e', fn⟩ := p
  have hi := beq_of h2.1
  simp only at hi h2
  subst hi
  have he : e' = e := by
    have := h2.2
    split at this <;> first | rfl | (cases this)
  subst he
  exact ⟨fn, hl _ hp⟩

/- hooks -/
theorem sameVs_eq : ∀ {a b : List V}, sameVs a b = true → a = b
  | [], [], _ => rfl
  | [], _ :: _, h => by cases h
  | _ :: _, [], h => by cases h
  | x :: a, y :: b, h => by
    have h : (Bool.rec false (sameVs a b) (sameV x y) : Bool) = true := h
    cases hs : sameV x y with
    | false => rw [hs] at h; cases h
    | true => rw [hs] at h; rw [sameV_eq hs, sameVs_eq h]

theorem hookOf_ok {tab : T (List (List V × V))} {f : Nat} {args : List V} {v : V} (h : hookOf tab f args = some v) : ∃ l, tab.get f = some l ∧ ∃ e ∈ l, e.1 = args ∧ e.2 = v := by
  unfold hookOf at h
  cases ht : tab.get f with
  | none => rw [ht] at h; cases h
  | some l =>
    rw [ht] at h
    refine ⟨l, rfl, ?_⟩
    replace h : (List.rec (motive := fun _ => Option V) none (fun e _ ih => Bool.rec ih (some e.2) (sameVs e.1 args)) l : Option V) = some v := h
    clear ht
    induction l with
    | nil => cases h
    | cons e l ih =>
      replace h : (Bool.rec (List.rec (motive := fun _ => Option V) none (fun e _ ih => Bool.rec ih (some e.2) (sameVs e.1 args)) l) (some e.2) (sameVs e.1 args) : Option V) = some v := h
      cases hs : sameVs e.1 args with
      | true => rw [hs] at h; cases h; exact ⟨e, by simp, sameVs_eq hs, rfl⟩
      | false =>
        rw [hs] at h
        obtain ⟨e', h1, h2⟩ := ih h
        exact ⟨e', by simp [h1], h2⟩

/-- a call whose value is known, at plain arguments -/
def KnownCall (P : Program) (f : Nat) (args : List V) (v : V) : Prop :=
  (∃ fn, P.funcs[f]? = some fn ∧ (fn.name == "runtime.NumGoroutine") = false ∧ fn.body.isNone = false) ∧
  ∃ vs val, concL noB args = some vs ∧ conc noB v = some val ∧ ∀ w, Calls P f vs.toArray w fun e w' => e = .returned val ∧ Below w.heap.size w w'

theorem noB_le (β : Beta) : Le noB β := fun id b h => by cases h

theorem hook_ok {P : Program} {tab : T (List (List V × V))} (h : ∀ f l, tab.get f = some l → ∀ e ∈ l, KnownCall P f e.1 e.2) : HookR P (hookOf tab) := fun f args v hv => by
  obtain ⟨l, hl, e, he, rfl, rfl⟩ := hookOf_ok hv
  obtain ⟨h1, vs, val, h2, h3, h4⟩ := h f l hl e he
  refine ⟨h1, fun β vs' hvs => ?_⟩
  have := concL_mono (noB_le β) _ _ h2
  rw [hvs] at this
  cases this
  exact ⟨val, conc_mono (noB_le β) _ _ h3, h4⟩

theorem hook_none {P : Program} : HookR P (fun _ _ => none) := fun f args v hv => by cases hv

end Go.Mir
