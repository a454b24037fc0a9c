/- The small machine against the model: calls, and the operations that stand in a row. No statement of the program stands here. -/
import Derived.Test.YtojkinikdcelbaaGreatDoorNMirAL
import Derived.Lib.Bytealg
set_option linter.unusedSimpArgs false
set_option linter.unusedVariables false
set_option linter.defProp false
namespace Go.Mir
open Go Go.RowKit

def extFn (e : Ext) : Array Value → Sem Value :=
  match e with
  | .indexByte => Extern.BytealgIndexByte.indexByte
  | .count => Extern.BytealgCount.count
  | .cmp => Extern.BytealgCompare.compare
  | .clone => Extern.MapsClone.clone

/-- the functions without a body that the machine knows are the model's -/
def ExtR (P : Program) (ext : T Ext) : Prop := ∀ f e, ext.get f = some e → ∃ fn, P.funcs[f]? = some fn ∧ (fn.name == "runtime.NumGoroutine") = false ∧ fn.body.isNone = true ∧ Extern.findNext fn = none ∧ Extern.find fn = some (extFn e)

def u8s (l : List Nat) : List UInt8 := l.map UInt8.ofNat

theorem data_bytesOf (l : List Nat) : (bytesOf l).data.toList = u8s l := by simp [bytesOf, u8s]

theorem u8_beq {a b : Nat} (ha : a < 256) (hb : b < 256) : (UInt8.ofNat a == UInt8.ofNat b) = Nat.beq a b := by
  rw [Bool.eq_iff_iff, Nat.beq_eq, beq_iff_eq]
  constructor
  · intro h
    have := congrArg UInt8.toNat h
    simpa [UInt8.toNat_ofNat', Nat.mod_eq_of_lt ha, Nat.mod_eq_of_lt hb] using this
  · intro h; rw [h]

theorem ofNat_lt {a b : Nat} (ha : a < 256) (hb : b < 256) : (UInt8.ofNat a < UInt8.ofNat b) ↔ a < b := by
  rw [UInt8.lt_iff_toNat_lt]
  simp [UInt8.toNat_ofNat', Nat.mod_eq_of_lt ha, Nat.mod_eq_of_lt hb]

theorem allB_cons {a : Nat} {l : List Nat} (h : allB (a :: l) = true) : a < 256 ∧ allB l = true := by
  simpa [allB] using h

theorem idxOf_go {c : Nat} (hc : c < 256) {kn : Out} {k : Nat → Out} : ∀ (l : List Nat) (i0 : Nat), allB l = true →
    (List.rec (motive := fun _ => Nat → Out) (fun _ => kn) (fun b _ ih i => Bool.rec (ih (Nat.succ i)) (k i) (Nat.beq b c)) l i0 : Out) =
      if Lib.indexByte (u8s l) (UInt8.ofNat c) = -1 then kn else k (i0 + (Lib.indexByte (u8s l) (UInt8.ofNat c)).toNat)
  | [], i0, _ => by simp [u8s, Lib.indexByte]
  | b :: l, i0, h => by
    obtain ⟨hb, hl⟩ := allB_cons h
    have hrec : (List.rec (motive := fun _ => Nat → Out) (fun _ => kn) (fun b _ ih i => Bool.rec (ih (Nat.succ i)) (k i) (Nat.beq b c)) (b :: l) i0 : Out) =
      Bool.rec (motive := fun _ => Out) (List.rec (motive := fun _ => Nat → Out) (fun _ => kn) (fun b _ ih i => Bool.rec (ih (Nat.succ i)) (k i) (Nat.beq b c)) l (i0 + 1)) (k i0) (Nat.beq b c) := rfl
    rw [hrec, idxOf_go hc l (i0 + 1) hl]
    have hu : u8s (b :: l) = UInt8.ofNat b :: u8s l := rfl
    rw [hu]
    have hge := Lib.indexByte_ge (u8s l) (UInt8.ofNat c)
    simp only [Lib.indexByte, u8_beq hb hc]
    cases hbc : Nat.beq b c with
    | true => simp
    | false =>
      simp only [Bool.false_eq_true, if_false, beq_iff_eq]
      by_cases he : Lib.indexByte (u8s l) (UInt8.ofNat c) = -1
      · simp [he]
      · rw [if_neg he, if_neg he, if_neg (by omega)]
        congr 1
        omega

theorem cntOf_go {c : Nat} (hc : c < 256) {k : Nat → Out} : ∀ (l : List Nat) (n : Nat), allB l = true →
    (List.rec (motive := fun _ => Nat → Out) (fun n => k n) (fun b _ ih n => Bool.rec (ih n) (ih (Nat.succ n)) (Nat.beq b c)) l n : Out) = k (n + (u8s l).count (UInt8.ofNat c))
  | [], n, _ => by simp [u8s]
  | b :: l, n, h => by
    obtain ⟨hb, hl⟩ := allB_cons h
    have hrec : (List.rec (motive := fun _ => Nat → Out) (fun n => k n) (fun b _ ih n => Bool.rec (ih n) (ih (Nat.succ n)) (Nat.beq b c)) (b :: l) n : Out) =
      Bool.rec (motive := fun _ => Out) (List.rec (motive := fun _ => Nat → Out) (fun n => k n) (fun b _ ih n => Bool.rec (ih n) (ih (Nat.succ n)) (Nat.beq b c)) l n)
        (List.rec (motive := fun _ => Nat → Out) (fun n => k n) (fun b _ ih n => Bool.rec (ih n) (ih (Nat.succ n)) (Nat.beq b c)) l (n + 1)) (Nat.beq b c) := rfl
    rw [hrec, cntOf_go hc l n hl, cntOf_go hc l (n + 1) hl]
    have hu : u8s (b :: l) = UInt8.ofNat b :: u8s l := rfl
    rw [hu, List.count_cons, u8_beq hb hc]
    cases hbc : Nat.beq b c with
    | true => simp; congr 1; omega
    | false => simp

theorem cmpL_eq : ∀ (a b : List Nat), allB a = true → allB b = true → cmpL a b = Lib.compareBytes (u8s a) (u8s b)
  | [], [], _, _ => rfl
  | [], _ :: _, _, _ => rfl
  | _ :: _, [], _, _ => rfl
  | x :: a, y :: b, ha, hb => by
    obtain ⟨hx, ha⟩ := allB_cons ha
    obtain ⟨hy, hb⟩ := allB_cons hb
    have hrec : cmpL (x :: a) (y :: b) = Bool.rec (motive := fun _ => Int) (Bool.rec (motive := fun _ => Int) (.ofNat 1) (.negSucc 0) (Nat.ble x y)) (cmpL a b) (Nat.beq x y) := rfl
    have hu : Lib.compareBytes (u8s (x :: a)) (u8s (y :: b)) = if UInt8.ofNat x < UInt8.ofNat y then -1 else if UInt8.ofNat y < UInt8.ofNat x then 1 else Lib.compareBytes (u8s a) (u8s b) := rfl
    rw [hrec, hu]
    simp only [ofNat_lt hx hy, ofNat_lt hy hx]
    cases hxy : Nat.beq x y with
    | true =>
      have := beq_of hxy
      subst this
      simp [cmpL_eq a b ha ‹allB b = true›]
    | false =>
      have hne : x ≠ y := fun e => by subst e; simp at hxy
      cases hle : Nat.ble x y with
      | true =>
        have := Nat.le_of_ble_eq_true hle
        rw [if_pos (by omega)]; rfl
      | false =>
        have : ¬ x ≤ y := fun h => by rw [Nat.ble_eq_true_of_le h] at hle; cases hle
        rw [if_neg (by omega), if_pos (by omega)]; rfl

/-- a function without a body -/
theorem extK_ok {P : Program} {e : Ext} {args : List V} {h : T O} {n : Nat} {k : Kv} {r : Rz} (e0 : extK e args h n k = .ok r) :
    ∃ v h' n', k v h' n' = .ok r ∧ ∀ W0 β w, HR W0 β h n w → ∀ vs, concL β args = some vs → ∃ val w' β', (extFn e vs.toArray).run P w = .ok val w' ∧ conc β' v = some val ∧ HR W0 β' h' n' w' ∧ More β h n β' h' n' := by
  unfold extK at e0
  split at e0
  · rename_i b c
    replace e0 := need_ok e0; obtain ⟨hc, e0⟩ := e0
    have hc : c ≤ 255 := Nat.le_of_ble_eq_true hc
    have hc' : c < 256 := by omega
    have hvs : ∀ β vs, concL β [.str b, .int .u8 (.ofNat c)] = some vs → allB b = true ∧ vs = [.string (bytesOf b), .int .u8 (c : Int)] := by
      intro β vs hv
      simp only [concL, conc] at hv
      split at hv
      · rename_i hb; simp at hv; exact ⟨hb, hv.symm⟩
      · simp at hv
    unfold extBytes at e0
    split at e0
    · by_cases hb : allB b = true
      · rw [show idxOf b c (k (.int .i64 (.negSucc 0)) h n) (fun i => kN (fun v => k v h n) i) = _ from idxOf_go hc' b 0 hb] at e0
        have hge := Lib.indexByte_ge (u8s b) (UInt8.ofNat c)
        have hrun : ∀ w, (Extern.BytealgIndexByte.indexByte #[.string (bytesOf b), .int .u8 (c : Int)]).run P w = .ok (.int .i64 (Lib.indexByte (u8s b) (UInt8.ofNat c))) w := fun w => by
          rw [Lib.run_indexByteString, data_bytesOf]; rfl
        by_cases he : Lib.indexByte (u8s b) (UInt8.ofNat c) = -1
        · rw [if_pos he] at e0
          refine ⟨_, h, n, e0, fun W0 β w H vs hv => ?_⟩
          obtain ⟨_, rfl⟩ := hvs β vs hv
          exact ⟨_, w, β, hrun w, by rw [he]; rfl, H, More.refl _ _ _⟩
        · rw [if_neg he] at e0
          simp only [kN, fNat_eq, Nat.zero_add] at e0
          refine ⟨_, h, n, e0, fun W0 β w H vs hv => ?_⟩
          obtain ⟨_, rfl⟩ := hvs β vs hv
          refine ⟨_, w, β, hrun w, ?_, H, More.refl _ _ _⟩
          simp only [conc, Option.some.injEq, Value.int.injEq, true_and]
          show ((Lib.indexByte (u8s b) (UInt8.ofNat c)).toNat : Int) = _
          omega
      · have : ∃ v h' n', k v h' n' = .ok r := by
          have gen : ∀ (l : List Nat) (i0 : Nat), (List.rec (motive := fun _ => Nat → Out) (fun _ => k (.int .i64 (.negSucc 0)) h n) (fun b _ ih i => Bool.rec (ih (Nat.succ i)) (kN (fun v => k v h n) i) (Nat.beq b c)) l i0 : Out) = .ok r → ∃ v h' n', k v h' n' = .ok r := by
            intro l
            induction l with
            | nil => intro i0 h'; exact ⟨_, _, _, h'⟩
            | cons a l ih =>
              intro i0 h'
              rcases rec_ok h' with ⟨_, h'⟩ | ⟨_, h'⟩
              · simp only [kN, fNat_eq] at h'; exact ⟨_, _, _, h'⟩
              · exact ih _ h'
          exact gen b 0 e0
        obtain ⟨v, h', n', e0⟩ := this
        exact ⟨v, h', n', e0, fun W0 β w H vs hv => absurd (hvs β vs hv).1 hb⟩
    · by_cases hb : allB b = true
      · rw [show cntOf b c (fun i => kN (fun v => k v h n) i) = _ from cntOf_go hc' b 0 hb] at e0
        simp only [kN, fNat_eq, Nat.zero_add] at e0
        refine ⟨_, h, n, e0, fun W0 β w H vs hv => ?_⟩
        obtain ⟨_, rfl⟩ := hvs β vs hv
        have hrun := Lib.run_countString (P := P) (bytesOf b) (c : Int) w
        rw [data_bytesOf] at hrun
        exact ⟨_, w, β, hrun, rfl, H, More.refl _ _ _⟩
      · have : ∃ v h' n', k v h' n' = .ok r := by
          have gen : ∀ (l : List Nat) (i0 : Nat), (List.rec (motive := fun _ => Nat → Out) (fun n0 => kN (fun v => k v h n) n0) (fun b _ ih i => Bool.rec (ih i) (ih (Nat.succ i)) (Nat.beq b c)) l i0 : Out) = .ok r → ∃ v h' n', k v h' n' = .ok r := by
            intro l
            induction l with
            | nil => intro i0 h'; simp only [kN, fNat_eq] at h'; exact ⟨_, _, _, h'⟩
            | cons a l ih =>
              intro i0 h'
              rcases rec_ok h' with ⟨_, h'⟩ | ⟨_, h'⟩
              · exact ih _ h'
              · exact ih _ h'
          exact gen b 0 e0
        obtain ⟨v, h', n', e0⟩ := this
        exact ⟨v, h', n', e0, fun W0 β w H vs hv => absurd (hvs β vs hv).1 hb⟩
    · exact (bad_ne e0).elim
  · rename_i a b
    split at e0
    · rw [fInt_eq] at e0
      refine ⟨_, h, n, e0, fun W0 β w H vs hv => ?_⟩
      simp only [concL, conc] at hv
      split at hv
      · split at hv
        · rename_i ha hb
          simp at hv; subst hv
          have hrun := Lib.run_compareString (P := P) (bytesOf a) (bytesOf b) w
          rw [data_bytesOf, data_bytesOf, ← cmpL_eq a b ha hb] at hrun
          exact ⟨_, w, β, hrun, rfl, H, More.refl _ _ _⟩
        · simp at hv
      · simp at hv
    · exact (bad_ne e0).elim
  · rename_i t id
    split at e0
    · replace e0 := om_ok e0; obtain ⟨o, ho, e0⟩ := e0
      cases o with
      | map es c =>
        replace e0 := setK_ok e0; obtain ⟨h', e0, hg⟩ := e0
        rw [fNat_eq] at e0
        refine ⟨_, h', n + 1, e0, fun W0 β w H vs hv => ?_⟩
        simp only [concL, conc, Option.bind_eq_some_iff, Option.map_eq_some_iff] at hv
        obtain ⟨x, ⟨y, ⟨b, hb, rfl⟩, rfl⟩, z, hz, rfl⟩ := hv
        cases hz
        obtain ⟨ms, hget, _, hE⟩ := run_getMap (P := P) H ho hb
        have hfree : β n = none := H.free (Nat.le_refl n)
        refine ⟨.iface t (.map (some w.heap.size)), w.alloc (.map ms c), upd β n ⟨w.heap.size, 0, 0⟩, ?_, ?_, ?_, ext_new hfree hg⟩
        · show (((do
            let .map entries clock ← getObj b.blk | stuck "maps.clone: a map expected"
            pure (.iface t (.map (some (← newObj (.map entries clock)))))) : Sem Value)).run P w = _
          simp only [Sem.run_bind, hget, Result.andThen_ok, newObj, Sem.run]; rfl
        · simp [conc, upd_self]
        · refine (H.new hg).alloc (o := .map es c) (by omega) hfree (by rw [hg, if_pos rfl]) rfl ?_
          exact ⟨ms, rfl, hE.mono (upd_le hfree)⟩
      | cells => exact (bad_ne e0).elim
      | loop => exact (bad_ne e0).elim
      | deferred => exact (bad_ne e0).elim
      | iter => exact (bad_ne e0).elim
      | ro => exact (bad_ne e0).elim
    · exact (bad_ne e0).elim
  · exact (bad_ne e0).elim

end Go.Mir
namespace Go.Mir
open Go Go.RowKit

def invV (f : Value) (args : Array Value) : Sem Next := do let d ← Deferred.ofValue f args; invoke d.target d.args

def FnsR (P : Program) (fns : T Func) : Prop := ∀ f fn, fns.get f = some fn → P.funcs[f]? = some fn ∧ (fn.name == "runtime.NumGoroutine") = false

/-- a call that is known: of function f, at these arguments, in this memory -/
def HookR (P : Program) (hook : Nat → List V → T O → Option V) : Prop := ∀ f args h v, hook f args h = some v →
  (∃ fn, P.funcs[f]? = some fn ∧ (fn.name == "runtime.NumGoroutine") = false ∧ fn.body.isNone = false) ∧
  ∀ W0 β n w vs, HR W0 β h n w → concL β args = some vs → ∃ val, conc β v = some val ∧ Calls P f vs.toArray w fun e w' => e = .returned val ∧ Below w.heap.size w w'

/-- the bottom call comes to its end with 'r' -/
def Ends (P : Program) (W0 : World) (f0 : Nat) (cs0 : List Frame) (B0 : Bs) (r : Rz) (F : Frame) (CS : List Frame) (w : World) : Prop :=
  ∃ r', Rz.le r r' ∧ ∃ β v w' F', conc β r'.v = some v ∧ Steps P (lone F CS w) (lone F' cs0 w') ∧ F'.leaving P w' (.returned v) ∧ F'.fn = f0 ∧ HR W0 β r'.h r'.n w' ∧ BaseR B0 β r'.h B0.n ∧ B0.n ≤ r'.n

section
variable {P : Program} {W0 : World} {f0 : Nat} {cs0 : List Frame} {B0 : Bs} {r : Rz}

theorem Ends.steps {F F1 : Frame} {CS CS1 : List Frame} {w w1 : World} (h : Steps P (lone F CS w) (lone F1 CS1 w1)) (h' : Ends P W0 f0 cs0 B0 r F1 CS1 w1) : Ends P W0 f0 cs0 B0 r F CS w := by
  obtain ⟨r', hle, β, v, w', F', a, b, c⟩ := h'
  exact ⟨r', hle, β, v, w', F', a, h.trans b, c⟩

theorem Ends.step {F F1 : Frame} {CS CS1 : List Frame} {w w1 : World} (h : Go.step P (lone F CS w) = .next (lone F1 CS1 w1)) (h' : Ends P W0 f0 cs0 B0 r F1 CS1 w1) : Ends P W0 f0 cs0 B0 r F CS w :=
  h'.steps (.one h)

theorem Ends.weak {r1 : Rz} {F : Frame} {CS : List Frame} {w : World} (hle : Rz.le r r1) (h : Ends P W0 f0 cs0 B0 r1 F CS w) : Ends P W0 f0 cs0 B0 r F CS w := by
  obtain ⟨r', h1, h2⟩ := h
  exact ⟨r', hle.trans h1, h2⟩
end

structure Sim (P : Program) (tys : T TI) (W0 : World) (f0 : Nat) (cs0 : List Frame) (B0 : Bs) (lo : Nat) (β : Beta) (i : Fi) (regs : T V) (todo : List It) (cs : List Fr) (h : T O) (n : Nat) (F : Frame) (CS : List Frame) (w : World) : Prop where
  hr : HR W0 β h n w
  fr : FrR P tys lo n β h ⟨i, regs, todo⟩ F
  st : StackR P tys f0 cs0 B0 β h lo i cs CS
  le : lo ≤ n

def Good (P : Program) (tys : T TI) (W0 : World) (f0 : Nat) (cs0 : List Frame) (B0 : Bs) (go : Go_) : Prop :=
  ∀ r i regs todo cs h n, go i regs todo cs h n = .ok r → ∀ β F CS w lo, Sim P tys W0 f0 cs0 B0 lo β i regs todo cs h n F CS w → Ends P W0 f0 cs0 B0 r F CS w

structure EnvR (P : Program) (E : Env) : Prop where
  tys : TysR P E.tys
  fns : FnsR P E.fns
  ext : ExtR P E.ext
  hook : HookR P E.hook
  mixed : P.follows .mixedOrders = true
  sub : ∀ f args h n z, E.subF f args h n = .ok z → ∃ go r, (∀ W0 f0 cs0 B0, Good P E.tys W0 f0 cs0 B0 go) ∧ Rz.le z r ∧
    (om (E.fns.get f) fun fn => om fn.body fun body => fNat fn.ntmps fun sz => regsOf args sz fun regs => go ⟨f, sz, [], none⟩ regs [.code body] [] h n) = .ok r
  comb : ∀ outs r, E.comb outs = .ok r → ∀ o ∈ outs, ∃ z, o = .ok z ∧ Rz.le r z

/-- a frame is entered -/
def Entering (P : Program) (nx : Next) (F : Frame) : Prop :=
  (∃ f args, nx = .enter f args ∧ F = Frame.enter P f args .normal) ∨ (∃ l f tmps a b, nx = .round l f tmps a b ∧ F = Frame.round l f tmps a b .normal)

/-- how a computation of the model's may go on, and the machine's with it -/
def Outc (P : Program) (tys : T TI) (h : T O) (n : Nat) (fr : Fr) (cs : List Fr) (go : Go_) (fin : Kv) (r : Rz) (Pre : Beta → Sem Next → Prop) : Prop :=
  (∀ W0 β w s, HR W0 β h n w → Pre β s → ∃ v h' n' r', fin v h' n' = .ok r' ∧ Rz.le r r' ∧ ∃ nx val w' β', s.run P w = .ok nx w' ∧ (nx = .value val ∨ (nx = .skip ∧ val = undef)) ∧ conc β' v = some val ∧ HR W0 β' h' n' w' ∧ More β h n β' h' n') ∨
  (∃ i' regs' todo', go i' regs' todo' (fr :: cs) h n = .ok r ∧ ∀ W0 β w s, HR W0 β h n w → Pre β s → ∃ nx F', s.run P w = .ok nx w ∧ Entering P nx F' ∧ ∀ lo hi, FrR P tys lo hi β h ⟨i', regs', todo'⟩ F') ∨
  (∃ v h' n', fin v h' n' = .ok r ∧ ∀ W0 β w s, HR W0 β h n w → Pre β s → ∃ f as, s.run P w = .ok (.enter f as) w ∧ ∀ CS, ∃ val w' β' F', Steps P (lone (Frame.enter P f as .normal) CS w) (lone F' CS w') ∧ F'.leaving P w' (.returned val) ∧
    conc β' v = some val ∧ HR W0 β' h' n' w' ∧ More β h n β' h' n')

theorem Outc.mono {P : Program} {tys : T TI} {h : T O} {n : Nat} {fr : Fr} {cs : List Fr} {go : Go_} {fin : Kv} {r : Rz} {Pre Pre' : Beta → Sem Next → Prop}
    (H : Outc P tys h n fr cs go fin r Pre) (hp : ∀ β s, Pre' β s → Pre β s) : Outc P tys h n fr cs go fin r Pre' := by
  rcases H with b | ⟨i', regs', todo', a, b⟩ | ⟨v, h', n', a, b⟩
  · exact .inl fun W0 β w s H hs => b W0 β w s H (hp β s hs)
  · exact .inr (.inl ⟨i', regs', todo', a, fun W0 β w s H hs => b W0 β w s H (hp β s hs)⟩)
  · exact .inr (.inr ⟨v, h', n', a, fun W0 β w s H hs => b W0 β w s H (hp β s hs)⟩)

theorem HR.quiet {W0 : World} {β : Beta} {h : T O} {n : Nat} {w w' : World} (H : HR W0 β h n w) (hb : Below w.heap.size w w') : HR W0 β h n w' where
  obj id o b h1 h2 := by rw [hb.block _ (H.dom id b h2).2]; exact H.obj id o b h1 h2
  inj := H.inj
  dom id b h2 := let ⟨a, d⟩ := H.dom id b h2; ⟨a, Nat.lt_of_lt_of_le d hb.size⟩
  below := H.below.trans (hb.mono H.base)
  laid := H.laid
  above := H.above
  own := H.own

theorem outK_ok {o : Out} {k : Rz → Out} {r : Rz} (e : outK o k = .ok r) : ∃ z, o = .ok z ∧ k z = .ok r := by
  cases o with
  | ok z => exact ⟨z, rfl, e⟩
  | bad c fr => cases e

theorem keepB_go {h : T O} : ∀ {h0 : T O} {ix : Nat → Nat}, (T.rec (motive := fun _ => (Nat → Nat) → Bool) (fun _ => true)
    (fun v _ _ gl gr ix => and (Option.rec (motive := fun _ => Bool) true (fun o => or (not (plainO o)) (Option.isSome (h.get (ix 0)))) v) (and (gl fun j => ix (Nat.succ (Nat.mul 2 j))) (gr fun j => ix (Nat.succ (Nat.succ (Nat.mul 2 j)))))) (fun _ _ => false) h0 ix : Bool) = true →
    ∀ i o, h0.get i = some o → plainO o = true → ∃ x, h.get (ix i) = some x
  | .nil, _, _, i, o, hx, _ => by cases hx
  | .fn _, _, e, i, o, hx, _ => by cases e
  | .node v l r, ix, e, i, o, hx, hp => by
    have h1 := Bool.and_eq_true_iff.1 e
    have h2 := Bool.and_eq_true_iff.1 h1.2
    cases i with
    | zero =>
      have hv : v = some o := hx
      subst hv
      have h3 : or (not (plainO o)) (Option.isSome (h.get (ix 0))) = true := h1.1
      rw [hp] at h3
      exact Option.isSome_iff_exists.1 (by simpa using h3)
    | succ i =>
      rw [T.get_node_succ] at hx
      split at hx
      · have := keepB_go h2.2 _ _ hx hp
        rw [show Nat.succ (Nat.succ (Nat.mul 2 (i / 2))) = i + 1 by show 2 * (i / 2) + 1 + 1 = i + 1; omega] at this
        exact this
      · have := keepB_go h2.1 _ _ hx hp
        rw [show Nat.succ (Nat.mul 2 (i / 2)) = i + 1 by show 2 * (i / 2) + 1 = i + 1; omega] at this
        exact this

theorem keepB_ok {h0 h : T O} (e : keepB h0 h = true) : ∀ i o, h0.get i = some o → plainO o = true → ∃ x, h.get i = some x := keepB_go e

theorem regsOf_ok {args : List V} {sz : Nat} {k : T V → Out} {r : Rz} (e : regsOf args sz k = .ok r) : ∃ regs, k regs = .ok r ∧ args.length ≤ sz ∧ ∀ t, regs.get t = args[t]? := by
  replace e := need_ok e; obtain ⟨hle, e⟩ := e
  replace e := putL_go _ _ _ e; obtain ⟨regs, e, hg⟩ := e
  refine ⟨regs, e, Nat.le_of_ble_eq_true hle, fun t => ?_⟩
  rw [hg]
  simp only [Nat.zero_le, true_and, Nat.zero_add, Nat.sub_zero, T.get_blank]
  split
  · rfl
  · rw [List.getElem?_eq_none (by omega)]

theorem run_callFunc_body {P : Program} {f : FuncId} {fn : Func} (hf : P.funcs[f]? = some fn) (hn : (fn.name == "runtime.NumGoroutine") = false) (hb : fn.body.isNone = false) (args : Array Value) (w : World) :
    (callFunc f args).run P w = .ok (.enter f args) w := by
  have h1 : fn.name ≠ "runtime.NumGoroutine" := by simpa using hn
  have h2 : fn.body ≠ none := by intro h; rw [h] at hb; cases hb
  simp [callFunc, hf, h1, h2]

theorem FrR.entered {P : Program} {tys : T TI} {lo hi : Nat} {β : Beta} {h : T O} {f : Nat} {fn : Func} {body : Code} (hf : P.funcs[f]? = some fn) (hb : fn.body = some body) {args : List V} {vs : List Value} (hvs : concL β args = some vs)
    {regs : T V} (hle : args.length ≤ fn.ntmps) (hg : ∀ t, regs.get t = args[t]?) : FrR P tys lo hi β h ⟨⟨f, fn.ntmps, [], none⟩, regs, [.code body]⟩ (Frame.enter P f vs.toArray .normal) := by
  have hlen := concL_len hvs
  refine ⟨⟨rfl, ?_, rfl, trivial, rfl⟩, rfl, ⟨?_, trivial⟩, fun t v hv _ => ?_⟩
  · simp only [Frame.enter, hf, Option.map_some, Option.getD_some, Array.size_append, List.size_toArray, Array.size_replicate]; omega
  · simp [hf, hb]; exact rfl
  · rw [hg] at hv
    obtain ⟨y, hy, hc⟩ := concL_get t hvs hv
    rw [hc]
    have ht : t < vs.length := lt_of_get hy
    simp only [Frame.enter]
    rw [Array.getD_eq_getD_getElem?, Array.getElem?_append, if_pos (by simpa using ht)]
    simp [hy]

theorem putParams_ok {sz : Nat} {k : T V → Out} {r : Rz} : ∀ (ps : List Nat) (args : List V) (regs : T V), putParams regs sz ps args k = .ok r →
    ∃ regs', k regs' = .ok r ∧ ps.length = args.length ∧ ∀ β (tmps : Array Value) vs, tmps.size = sz → RegsR β regs tmps no → concL β args = some vs →
      RegsR β regs' ((ps.zip vs).foldl (fun tmps p => tmps.setIfInBounds p.1 p.2) tmps) no ∧ ((ps.zip vs).foldl (fun (tmps : Array Value) p => tmps.setIfInBounds p.1 p.2) tmps).size = sz
  | [], args, regs, e => by
    cases args with
    | nil => exact ⟨regs, e, rfl, fun β tmps vs hs hr hv => ⟨by simpa using hr, by simpa using hs⟩⟩
    | cons => exact (bad_ne e).elim
  | p :: ps, args, regs, e => by
    cases args with
    | nil => exact (bad_ne e).elim
    | cons a args =>
      replace e : need (Nat.ble (Nat.succ p) sz) (T.setK regs p (some a) (bad 146) fun regs => putParams regs sz ps args k) = .ok r := e
      replace e := need_ok e; obtain ⟨hp, e⟩ := e
      have hp : p < sz := Nat.le_of_ble_eq_true hp
      replace e := setK_ok e; obtain ⟨t', e, hg⟩ := e
      replace e := putParams_ok ps args t' e; obtain ⟨regs', e, hlen, hsp⟩ := e
      refine ⟨regs', e, by simp [hlen], fun β tmps vs hs hr hv => ?_⟩
      simp only [concL, Option.bind_eq_some_iff, Option.map_eq_some_iff] at hv
      obtain ⟨x, hx, z, hz, rfl⟩ := hv
      have h1 : RegsR β t' (putT tmps (some p) x) no := hr.set (dst := some p) (fun t => by
        rw [hg]
        by_cases e : t = p
        · rw [if_pos e, if_pos (by rw [e])]
        · rw [if_neg e, if_neg (by simpa using fun h => e h.symm)]) hx (fun d hd => by cases hd; omega) fun t ht => ht.elim
      have := hsp β (putT tmps (some p) x) z (by rw [putT_size]; exact hs) h1 hz
      simpa [putT] using this

section
variable {P : Program} {E : Env} (HE : EnvR P E) {fr : Fr} {cs : List Fr} {h : T O} {n : Nat} {go : Go_} {fin : Kv} {r : Rz}

def CallPre (f : V) (args : List V) (β : Beta) (s : Sem Next) : Prop := ∃ vf vs, conc β f = some vf ∧ concL β args = some vs ∧ s = invV vf vs.toArray

include HE in
theorem enterK_ok {f : Nat} {args : List V} (e : enterK E f args fr cs h n go fin = .ok r) :
    Outc P E.tys h n fr cs go fin r fun β s => ∃ vs, concL β args = some vs ∧ s = callFunc f vs.toArray := by
  unfold enterK hookK at e
  cases hh : E.hook f args h with
  | some v =>
    rw [hh] at e
    obtain ⟨⟨fn, h1, h2, h3⟩, h4⟩ := HE.hook f args h v hh
    refine .inr (.inr ⟨v, h, n, e, fun W0 β w s H hs => ?_⟩)
    obtain ⟨vs, hvs, rfl⟩ := hs
    obtain ⟨val, hv, hc⟩ := h4 W0 β n w vs H hvs
    refine ⟨f, vs.toArray, run_callFunc_body h1 h2 h3 _ w, fun CS => ?_⟩
    obtain ⟨en, w', fr', ⟨rfl, hb⟩, hcm, _, hl⟩ := hc CS
    exact ⟨val, w', β, fr', hcm, hl, hv, H.quiet hb, More.refl _ _ _⟩
  | none =>
    rw [hh] at e
    replace e : om (E.fns.get f) (fun fn => Option.rec (motive := fun _ => Out) (enterB E f fn args fr cs h n go fin) (fun _ => subK E f args h n fin) (E.subs.get f)) = .ok r := e
    replace e := om_ok e; obtain ⟨fn, hfn, e⟩ := e
    obtain ⟨hf, hn⟩ := HE.fns f fn hfn
    cases hsub : E.subs.get f with
    | some _ =>
      rw [hsub] at e
      replace e : subK E f args h n fin = .ok r := e
      replace e := outK_ok e; obtain ⟨z, es, e⟩ := e
      replace e := need_ok e; obtain ⟨hkeep, e⟩ := e
      obtain ⟨go', r1, hG, hz1, es⟩ := HE.sub f args h n z es
      rw [hfn] at es
      replace es : (om fn.body fun body => fNat fn.ntmps fun sz => regsOf args sz fun regs => go' ⟨f, sz, [], none⟩ regs [.code body] [] h n) = .ok r1 := es
      replace es := om_ok es; obtain ⟨body, hb, es⟩ := es
      rw [fNat_eq] at es
      replace es := regsOf_ok es; obtain ⟨regs, es, hle, hg⟩ := es
      refine .inr (.inr ⟨z.v, z.h, z.n, e, fun W0 β w s H hs => ?_⟩)
      obtain ⟨vs, hvs, rfl⟩ := hs
      refine ⟨f, vs.toArray, run_callFunc_body hf hn (by rw [hb]; rfl) _ w, fun CS => ?_⟩
      obtain ⟨r', hzr, β', v, w', F', a1, a2, a3, a4, a5, a6, a7⟩ := hG W0 f CS ⟨β, h, n⟩ r1 _ _ _ _ _ _ es β (Frame.enter P f vs.toArray .normal) CS w n
        ⟨H, FrR.entered hf hb hvs hle hg, ⟨rfl, rfl, rfl, BaseR.start β h n⟩, Nat.le_refl n⟩
      replace hzr := hz1.trans hzr
      have hn' := hzr.n
      refine ⟨v, w', β', F', a2, a3, by rw [hzr.v]; exact a1, (a5.sub hzr.h).up hn', a6.sub, Nat.le_trans a7 hn', fun id hid hb0 => ?_⟩
      obtain ⟨p1, p2⟩ := a6.pend id hid hb0
      refine ⟨p1, fun o hp ho => ?_⟩
      obtain ⟨x, hx⟩ := keepB_ok hkeep id o ho hp
      have h1 := hzr.h id x hx
      rw [p2 o hp ho] at h1
      cases h1; exact hx
    | none =>
    rw [hsub] at e
    replace e : enterB E f fn args fr cs h n go fin = .ok r := e
    unfold enterB at e
    split at e
    · rename_i body hb
      rw [fNat_eq] at e
      replace e := regsOf_ok e; obtain ⟨regs, e, hle, hg⟩ := e
      refine .inr (.inl ⟨_, _, _, e, fun W0 β w s H hs => ?_⟩)
      obtain ⟨vs, hvs, rfl⟩ := hs
      exact ⟨_, _, run_callFunc_body hf hn (by rw [hb]; rfl) _ w, .inl ⟨_, _, rfl, rfl⟩, fun lo hi => FrR.entered hf hb hvs hle hg⟩
    · replace e : (match E.ext.get f with | some e => extK e args h n fin | none => .bad 143 (some ⟨⟨f, 0, [], none⟩, .nil, []⟩)) = .ok r := e
      split at e
      · rename_i x hx
        replace e := extK_ok (P := P) e; obtain ⟨v, h', n', e, hsp⟩ := e
        obtain ⟨fn', h1, h2, h3, h4, h5⟩ := HE.ext f x hx
        refine .inl fun W0 β w s H hs => ⟨v, h', n', r, e, Rz.le.refl r, ?_⟩
        obtain ⟨vs, hvs, rfl⟩ := hs
        obtain ⟨val, w', β', a1, a2, a3, a4⟩ := hsp W0 β w H vs hvs
        exact ⟨.value val, val, w', β', by rw [run_callFunc_extern h1 h2 h3 h4 h5, a1]; rfl, .inl rfl, a2, a3, a4⟩
      · cases e

include HE in
theorem callK_ok {f : V} {args : List V} (e : callK E f args fr cs h n go fin = .ok r) : Outc P E.tys h n fr cs go fin r (CallPre f args) := by
  unfold callK at e
  split at e
  · rename_i g first cap
    rw [spine_eq] at e
    refine (enterK_ok HE e).mono fun β s hs => ?_
    obtain ⟨vf, vs, hf, hvs, rfl⟩ := hs
    simp only [conc, Option.bind_eq_some_iff, Option.map_eq_some_iff] at hf
    obtain ⟨us, hus, cs', hcs, rfl⟩ := hf
    refine ⟨us ++ vs ++ cs', concL_app (concL_app hus hvs) hcs, ?_⟩
    have : (us ++ vs ++ cs').toArray = us.toArray ++ vs.toArray ++ cs'.toArray := by simp
    rw [this]; rfl
  · rename_i l
    replace e := om_ok e; obtain ⟨o, ho, e⟩ := e
    unfold roundK at e
    split at e
    · rename_i st pending fn sz regs ps assign body d
      replace e := putParams_ok _ _ _ e; obtain ⟨regs', e, hlen, hsp⟩ := e
      refine .inr (.inl ⟨_, _, _, e, fun W0 β w s H hs => ?_⟩)
      obtain ⟨vf, vs, hf, hvs, rfl⟩ := hs
      simp only [conc, Option.map_eq_some_iff] at hf
      obtain ⟨b, hb, rfl⟩ := hf
      obtain ⟨L, bd, h1, h2, h3, h4, h5, h6, h7, h8, h9, h10, h11⟩ := H.obj l _ b ho hb
      obtain ⟨g1, g2⟩ := hsp β L.tmps vs h5 h6 hvs
      have hfold : (L.params.zip vs.toArray).foldl (fun tmps p => tmps.setIfInBounds p.1 p.2) L.tmps = (ps.zip vs).foldl (fun (tmps : Array Value) p => tmps.setIfInBounds p.1 p.2) L.tmps := by
        rw [← Array.foldl_toList, Array.toList_zip, h7]
      have hl2 := concL_len hvs
      have hsz : vs.length = L.params.size := by
        have : L.params.toList.length = ps.length := by rw [h7]
        simp at this; omega
      have hrun : (invV (.func (.yield b.blk) #[] #[]) vs.toArray).run P w = .ok (.round b.blk L.fn ((ps.zip vs).foldl (fun (tmps : Array Value) p => tmps.setIfInBounds p.1 p.2) L.tmps) L.assign L.body) w := by
        have : invV (.func (.yield b.blk) #[] #[]) vs.toArray = Instr.yield b.blk (#[] ++ vs.toArray) := rfl
        rw [this]
        simp [Instr.yield, Instr.getLoop, getObj, Sem.run, h1, hsz]
        simpa [hsz] using hfold
      refine ⟨_, _, hrun, .inr ⟨_, _, _, _, _, rfl, rfl⟩, fun lo hi => ⟨⟨h4, g2, rfl, trivial, b.blk, rfl, b, hb, rfl⟩, rfl, ⟨?_, ?_, ?_, trivial⟩, g1⟩⟩
      · show Item.code L.assign = _; rw [h8]
      · rfl
      · show Item.code L.body = _; rw [h9]
    · exact (bad_ne e).elim
  · exact (bad_ne e).elim
end

end Go.Mir
