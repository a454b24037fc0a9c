/- The small machine against the model: functions without a body. No statement of the program stands here. -/
import Derived.Test.YthninknobjneeaaGreatDoorMirAL
import Derived.Lib.Bytealg
namespace Go.Mir
open Go Go.RowKit

def extFn (e : Ext) : Array Value → Sem Value :=
  match e with
  | .indexByte => Extern.BytealgIndexByte.indexByte
  | .count => Extern.BytealgCount.count
  | .cmp => Extern.BytealgCompare.compare
  | .clone => Extern.MapsClone.clone

/-- the functions without a body that the machine knows are the model's -/
def ExtR (P : Program) (ext : T Ext) : Prop := ∀ f e, ext.get f = some e → ∃ fn, P.funcs[f]? = some fn ∧ (fn.name == "runtime.NumGoroutine") = false ∧ fn.body.isNone = true ∧ Extern.findNext fn = none ∧ Extern.find fn = some (extFn e)

def u8s (l : List Nat) : List UInt8 := l.map UInt8.ofNat

theorem data_bytesOf (l : List Nat) : (bytesOf l).data.toList = u8s l := by simp [bytesOf, u8s]

theorem u8_beq {a b : Nat} (ha : a < 256) (hb : b < 256) : (UInt8.ofNat a == UInt8.ofNat b) = Nat.beq a b := by
  rw [Bool.eq_iff_iff, Nat.beq_eq, beq_iff_eq]
  constructor
  · intro h
    have := congrArg UInt8.toNat h
    simpa [UInt8.toNat_ofNat', Nat.mod_eq_of_lt ha, Nat.mod_eq_of_lt hb] using this
  · intro h; rw [h]

theorem ofNat_lt {a b : Nat} (ha : a < 256) (hb : b < 256) : (UInt8.ofNat a < UInt8.ofNat b) ↔ a < b := by
  rw [UInt8.lt_iff_toNat_lt]
  simp [UInt8.toNat_ofNat', Nat.mod_eq_of_lt ha, Nat.mod_eq_of_lt hb]

theorem allB_cons {a : Nat} {l : List Nat} (h : allB (a :: l) = true) : a < 256 ∧ allB l = true := by
  simpa [allB] using h

theorem idxOf_go {c : Nat} (hc : c < 256) {kn : Out} {k : Nat → Out} : ∀ (l : List Nat) (i0 : Nat), allB l = true →
    (List.rec (motive := fun _ => Nat → Out) (fun _ => kn) (fun b _ ih i => Bool.rec (ih (Nat.succ i)) (k i) (Nat.beq b c)) l i0 : Out) =
      if Lib.indexByte (u8s l) (UInt8.ofNat c) = -1 then kn else k (i0 + (Lib.indexByte (u8s l) (UInt8.ofNat c)).toNat)
  | [], i0, _ => by simp [u8s, Lib.indexByte]
  | b :: l, i0, h => by
    obtain ⟨hb, hl⟩ := allB_cons h
    have hrec : (List.rec (motive := fun _ => Nat → Out) (fun _ => kn) (fun b _ ih i => Bool.rec (ih (Nat.succ i)) (k i) (Nat.beq b c)) (b :: l) i0 : Out) =
      Bool.rec (motive := fun _ => Out) (List.rec (motive := fun _ => Nat → Out) (fun _ => kn) (fun b _ ih i => Bool.rec (ih (Nat.succ i)) (k i) (Nat.beq b c)) l (i0 + 1)) (k i0) (Nat.beq b c) := rfl
    rw [hrec, idxOf_go hc l (i0 + 1) hl]
    have hu : u8s (b :: l) = UInt8.ofNat b :: u8s l := rfl
    rw [hu]
    have hge := Lib.indexByte_ge (u8s l) (UInt8.ofNat c)
    simp only [Lib.indexByte, u8_beq hb hc]
    cases hbc : Nat.beq b c with
    | true => simp
    | false =>
      simp only [Bool.false_eq_true, if_false, beq_iff_eq]
      by_cases he : Lib.indexByte (u8s l) (UInt8.ofNat c) = -1
      · simp [he]
      · rw [if_neg he, if_neg he, if_neg (by omega)]
        congr 1
        omega

theorem cntOf_go {c : Nat} (hc : c < 256) {k : Nat → Out} : ∀ (l : List Nat) (n : Nat), allB l = true →
    (List.rec (motive := fun _ => Nat → Out) (fun n => k n) (fun b _ ih n => Bool.rec (ih n) (ih (Nat.succ n)) (Nat.beq b c)) l n : Out) = k (n + (u8s l).count (UInt8.ofNat c))
  | [], n, _ => by simp [u8s]
  | b :: l, n, h => by
    obtain ⟨hb, hl⟩ := allB_cons h
    have hrec : (List.rec (motive := fun _ => Nat → Out) (fun n => k n) (fun b _ ih n => Bool.rec (ih n) (ih (Nat.succ n)) (Nat.beq b c)) (b :: l) n : Out) =
      Bool.rec (motive := fun _ => Out) (List.rec (motive := fun _ => Nat → Out) (fun n => k n) (fun b _ ih n => Bool.rec (ih n) (ih (Nat.succ n)) (Nat.beq b c)) l n)
        (List.rec (motive := fun _ => Nat → Out) (fun n => k n) (fun b _ ih n => Bool.rec (ih n) (ih (Nat.succ n)) (Nat.beq b c)) l (n + 1)) (Nat.beq b c) := rfl
    rw [hrec, cntOf_go hc l n hl, cntOf_go hc l (n + 1) hl]
    have hu : u8s (b :: l) = UInt8.ofNat b :: u8s l := rfl
    rw [hu, List.count_cons, u8_beq hb hc]
    cases hbc : Nat.beq b c with
    | true => simp; congr 1; omega
    | false => simp

theorem cmpL_eq : ∀ (a b : List Nat), allB a = true → allB b = true → cmpL a b = Lib.compareBytes (u8s a) (u8s b)
  | [], [], _, _ => rfl
  | [], _ :: _, _, _ => rfl
  | _ :: _, [], _, _ => rfl
  | x :: a, y :: b, ha, hb => by
    obtain ⟨hx, ha⟩ := allB_cons ha
    obtain ⟨hy, hb⟩ := allB_cons hb
    have hrec : cmpL (x :: a) (y :: b) = Bool.rec (motive := fun _ => Int) (Bool.rec (motive := fun _ => Int) (.ofNat 1) (.negSucc 0) (Nat.ble x y)) (cmpL a b) (Nat.beq x y) := rfl
    have hu : Lib.compareBytes (u8s (x :: a)) (u8s (y :: b)) = if UInt8.ofNat x < UInt8.ofNat y then -1 else if UInt8.ofNat y < UInt8.ofNat x then 1 else Lib.compareBytes (u8s a) (u8s b) := rfl
    rw [hrec, hu]
    simp only [ofNat_lt hx hy, ofNat_lt hy hx]
    cases hxy : Nat.beq x y with
    | true =>
      have := beq_of hxy
      subst this
      simp [cmpL_eq a b ha ‹allB b = true›]
    | false =>
      have hne : x ≠ y := fun e => by subst e; simp at hxy
      cases hle : Nat.ble x y with
      | true =>
        have := Nat.le_of_ble_eq_true hle
        rw [if_pos (by omega)]; rfl
      | false =>
        have : ¬ x ≤ y := fun h => by rw [Nat.ble_eq_true_of_le h] at hle; cases hle
        rw [if_neg (by omega), if_pos (by omega)]; rfl

/-- a function without a body -/
theorem extK_ok {P : Program} {e : Ext} {args : List V} {h : T O} {n : Nat} {k : Kv} {r : Rz} (e0 : extK e args h n k = .ok r) :
    ∃ v h' n', k v h' n' = .ok r ∧ ∀ W0 β w, HR W0 β h n w → ∀ vs, concL β args = some vs → ∃ val w' β', (extFn e vs.toArray).run P w = .ok val w' ∧ conc β' v = some val ∧ HR W0 β' h' n' w' ∧ More β h n β' h' n' := by
  unfold extK at e0
  split at e0
  · rename_i b c
    replace e0 := need_ok e0; obtain ⟨hc, e0⟩ := e0
    have hc : c ≤ 255 := Nat.le_of_ble_eq_true hc
    have hc' : c < 256 := by omega
    have hvs : ∀ β vs, concL β [.str b, .int .u8 (.ofNat c)] = some vs → allB b = true ∧ vs = [.string (bytesOf b), .int .u8 (c : Int)] := by
      intro β vs hv
      simp only [concL, conc] at hv
      split at hv
      · rename_i hb; simp at hv; exact ⟨hb, hv.symm⟩
      · simp at hv
    unfold extBytes at e0
    split at e0
    · by_cases hb : allB b = true
      · rw [show idxOf b c (k (.int .i64 (.negSucc 0)) h n) (fun i => kN (fun v => k v h n) i) = _ from idxOf_go hc' b 0 hb] at e0
        have hge := Lib.indexByte_ge (u8s b) (UInt8.ofNat c)
        have hrun : ∀ w, (Extern.BytealgIndexByte.indexByte #[.string (bytesOf b), .int .u8 (c : Int)]).run P w = .ok (.int .i64 (Lib.indexByte (u8s b) (UInt8.ofNat c))) w := fun w => by
          rw [Lib.run_indexByteString, data_bytesOf]; rfl
        by_cases he : Lib.indexByte (u8s b) (UInt8.ofNat c) = -1
        · rw [if_pos he] at e0
          refine ⟨_, h, n, e0, fun W0 β w H vs hv => ?_⟩
          obtain ⟨_, rfl⟩ := hvs β vs hv
          exact ⟨_, w, β, hrun w, by rw [he]; rfl, H, More.refl _ _ _⟩
        · rw [if_neg he] at e0
          simp only [kN, fNat_eq, Nat.zero_add] at e0
          refine ⟨_, h, n, e0, fun W0 β w H vs hv => ?_⟩
          obtain ⟨_, rfl⟩ := hvs β vs hv
          refine ⟨_, w, β, hrun w, ?_, H, More.refl _ _ _⟩
          simp only [conc, Option.some.injEq, Value.int.injEq, true_and]
          show ((Lib.indexByte (u8s b) (UInt8.ofNat c)).toNat : Int) = _
          omega
      · have : ∃ v h' n', k v h' n' = .ok r := by
          have gen : ∀ (l : List Nat) (i0 : Nat), (List.rec (motive := fun _ => Nat → Out) (fun _ => k (.int .i64 (.negSucc 0)) h n) (fun b _ ih i => Bool.rec (ih (Nat.succ i)) (kN (fun v => k v h n) i) (Nat.beq b c)) l i0 : Out) = .ok r → ∃ v h' n', k v h' n' = .ok r := by
            intro l
            induction l with
            | nil => intro i0 h'; exact ⟨_, _, _, h'⟩
            | cons a l ih =>
              intro i0 h'
              rcases rec_ok h' with ⟨_, h'⟩ | ⟨_, h'⟩
              · simp only [kN, fNat_eq] at h'; exact ⟨_, _, _, h'⟩
              · exact ih _ h'
          exact gen b 0 e0
        obtain ⟨v, h', n', e0⟩ := this
        exact ⟨v, h', n', e0, fun W0 β w H vs hv => absurd (hvs β vs hv).1 hb⟩
    · by_cases hb : allB b = true
      · rw [show cntOf b c (fun i => kN (fun v => k v h n) i) = _ from cntOf_go hc' b 0 hb] at e0
        simp only [kN, fNat_eq, Nat.zero_add] at e0
        refine ⟨_, h, n, e0, fun W0 β w H vs hv => ?_⟩
        obtain ⟨_, rfl⟩ := hvs β vs hv
        have hrun := Lib.run_countString (P := P) (bytesOf b) (c : Int) w
        rw [data_bytesOf] at hrun
        exact ⟨_, w, β, hrun, rfl, H, More.refl _ _ _⟩
      · have : ∃ v h' n', k v h' n' = .ok r := by
          have gen : ∀ (l : List Nat) (i0 : Nat), (List.rec (motive := fun _ => Nat → Out) (fun n0 => kN (fun v => k v h n) n0) (fun b _ ih i => Bool.rec (ih i) (ih (Nat.succ i)) (Nat.beq b c)) l i0 : Out) = .ok r → ∃ v h' n', k v h' n' = .ok r := by
            intro l
            induction l with
            | nil => intro i0 h'; simp only [kN, fNat_eq] at h'; exact ⟨_, _, _, h'⟩
            | cons a l ih =>
              intro i0 h'
              rcases rec_ok h' with ⟨_, h'⟩ | ⟨_, h'⟩
              · exact ih _ h'
              · exact ih _ h'
          exact gen b 0 e0
        obtain ⟨v, h', n', e0⟩ := this
        exact ⟨v, h', n', e0, fun W0 β w H vs hv => absurd (hvs β vs hv).1 hb⟩
    · exact (bad_ne e0).elim
  · rename_i a b
    split at e0
    · rw [fInt_eq] at e0
      refine ⟨_, h, n, e0, fun W0 β w H vs hv => ?_⟩
      simp only [concL, conc] at hv
      split at hv
      · split at hv
        · rename_i ha hb
          simp at hv; subst hv
          have hrun := Lib.run_compareString (P := P) (bytesOf a) (bytesOf b) w
          rw [data_bytesOf, data_bytesOf, ← cmpL_eq a b ha hb] at hrun
          exact ⟨_, w, β, hrun, rfl, H, More.refl _ _ _⟩
        · simp at hv
      · simp at hv
    · exact (bad_ne e0).elim
  · rename_i t id
    split at e0
    · replace e0 := om_ok e0; obtain ⟨o, ho, e0⟩ := e0
      cases o with
      | map es c =>
        replace e0 := setK_ok e0; obtain ⟨h', e0, hg⟩ := e0
        rw [fNat_eq] at e0
        refine ⟨_, h', n + 1, e0, fun W0 β w H vs hv => ?_⟩
        simp only [concL, conc, Option.bind_eq_some_iff, Option.map_eq_some_iff] at hv
        obtain ⟨x, ⟨y, ⟨b, hb, rfl⟩, rfl⟩, z, hz, rfl⟩ := hv
        cases hz
        obtain ⟨ms, hget, _, hE⟩ := run_getMap (P := P) H ho hb
        have hfree : β n = none := H.free (Nat.le_refl n)
        refine ⟨.iface t (.map (some w.heap.size)), w.alloc (.map ms c), upd β n ⟨w.heap.size, 0, 0⟩, ?_, ?_, ?_, ext_new hfree hg⟩
        · show (((do
            let .map entries clock ← getObj b.blk | stuck "maps.clone: a map expected"
            pure (.iface t (.map (some (← newObj (.map entries clock)))))) : Sem Value)).run P w = _
          simp only [Sem.run_bind, hget, Result.andThen_ok, newObj, Sem.run]; rfl
        · simp [conc, upd_self]
        · refine (H.new hg).alloc (o := .map es c) (by omega) hfree (by rw [hg, if_pos rfl]) rfl ?_
          exact ⟨ms, rfl, hE.mono (upd_le hfree)⟩
      | cells => exact (bad_ne e0).elim
      | loop => exact (bad_ne e0).elim
      | deferred => exact (bad_ne e0).elim
      | iter => exact (bad_ne e0).elim
      | ro => exact (bad_ne e0).elim
    · exact (bad_ne e0).elim
  · exact (bad_ne e0).elim

end Go.Mir
