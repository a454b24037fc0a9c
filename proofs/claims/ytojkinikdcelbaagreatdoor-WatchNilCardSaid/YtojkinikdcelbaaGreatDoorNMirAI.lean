/- The small machine against the model: an entry of a map, written. No statement of the program stands here. -/
import Derived.Test.YtojkinikdcelbaaGreatDoorNMirAC
set_option linter.unusedSimpArgs false
set_option linter.unusedVariables false
set_option linter.defProp false
namespace Go.Mir
open Go Go.RowKit

def modLL {α : Type} (f : α → α) : List α → Nat → List α
  | [], _ => []
  | a :: t, 0 => f a :: t
  | a :: t, i + 1 => a :: modLL f t i

theorem modE_eq {β : Type} (f : V × V × Nat → V × V × Nat) : ∀ (l : List (V × V × Nat)) (i : Nat) (k : List (V × V × Nat) → β), modE f l i k = k (modLL f l i)
  | [], _, _ => rfl
  | _ :: _, 0, _ => rfl
  | a :: t, i + 1, k => by
    show modE f t i (fun l => k (a :: l)) = _
    rw [modE_eq f t i]; rfl

theorem modify_eq {α : Type} (f : α → α) : ∀ (l : List α) (i : Nat), l.modify i f = modLL f l i
  | [], i => by cases i <;> rfl
  | a :: t, 0 => by simp [modLL]
  | a :: t, i + 1 => by simp [modLL, modify_eq f t i]

theorem EntsR.mod {β : Beta} {f : V × V × Nat → V × V × Nat} {g : MapEntry → MapEntry} : ∀ {es : List (V × V × Nat)} {ms : List MapEntry} (i : Nat), EntsR β es ms →
    (∀ e m, es[i]? = some e → ms[i]? = some m → conc β (f e).1 = some (g m).key ∧ conc β (f e).2.1 = some (g m).val ∧ (g m).born = (f e).2.2) → EntsR β (modLL f es i) (modLL g ms i)
  | [], [], i, _, _ => by simp [modLL, EntsR]
  | e :: es, m :: ms, 0, h, hf => by
    obtain ⟨a, b, c⟩ := hf e m rfl rfl
    exact ⟨a, b, c, h.2.2.2⟩
  | e :: es, m :: ms, i + 1, h, hf => ⟨h.1, h.2.1, h.2.2.1, EntsR.mod i h.2.2.2 fun e m h1 h2 => hf e m (by simpa using h1) (by simpa using h2)⟩
  | [], _ :: _, _, h, _ => h.elim
  | _ :: _, [], _, h, _ => h.elim

theorem EntsR.push {β : Beta} : ∀ {es : List (V × V × Nat)} {ms : List MapEntry} {e : V × V × Nat} {m : MapEntry}, EntsR β es ms →
    conc β e.1 = some m.key → conc β e.2.1 = some m.val → m.born = e.2.2 → EntsR β (es ++ [e]) (ms ++ [m])
  | [], [], _, _, _, a, b, c => ⟨a, b, c, trivial⟩
  | _ :: _, _ :: _, _, _, h, a, b, c => ⟨h.1, h.2.1, h.2.2.1, EntsR.push h.2.2.2 a b c⟩
  | [], _ :: _, _, _, h, _, _, _ => h.elim
  | _ :: _, [], _, _, h, _, _, _ => h.elim

/-- a map, written anew -/
theorem setMap_ok {P : Program} {h : T O} {id : Nat} {es es0 : List (V × V × Nat)} {c c0 : Nat} {k : T O → Out} {r : Rz} (ho : h.get id = some (.map es0 c0)) (e : setMap h id es c k = .ok r) :
    ∃ h', k h' = .ok r ∧ ∀ W0 β n w, HR W0 β h n w → ∀ b, β id = some b → ∀ ms : Array MapEntry, EntsR β es ms.toList →
      ∃ w', (setObj b.blk (.map ms c)).run P w = .ok () w' ∧ HR W0 β h' n w' ∧ More β h n β h' n := by
  replace e := setK_ok e; obtain ⟨h', e, hg⟩ := e
  refine ⟨h', e, fun W0 β n w H b hb ms hE => ⟨{ w with heap := w.heap.setIfInBounds b.blk (.map ms c) }, ?_, ?_, ext_put hb hg⟩⟩
  · obtain ⟨ms0, hms, _⟩ := H.obj id _ b ho hb
    simp [setObj, Sem.run, hms]
  · have hd := H.dom id b hb
    have hd2 := H.own id _ b ho rfl hb
    refine H.put ho hb hg (fun k hk => ?_) (by simp) ?_ ⟨ms, ?_, hE⟩
    · simp [Ne.symm hk]
    · exact ⟨rfl, rfl, rfl, by simp, fun k hk => by
        have : ¬ b.blk = k := by omega
        simp [this]⟩
    · simp [hd.2]

end Go.Mir
namespace Go.Mir
open Go Go.RowKit

theorem beq_of {a b : Nat} (h : Nat.beq a b = true) : a = b := Nat.eq_of_beq_eq_true h

theorem boolrec_eq {a b : Bool} (h : (Bool.rec (not b) b a : Bool) = true) : a = b := by
  cases a <;> cases b <;> first | rfl | cases h

theorem sameBase_eq {x y : Value} (h : sameBase x y = true) : x = y := by
  unfold sameBase at h
  split at h
  · rw [beq_of h]
  · rfl
  · rfl
  · rfl
  · have := Bool.and_eq_true_iff.1 h
    rw [beq_of this.1, beq_of this.2]
  · obtain ⟨rfl, rfl, rfl⟩ := @of_decide_eq_true _ (Classical.propDecidable _) h
    rfl
  · cases h

theorem sameB_eq {x y : V} (h : sameB x y = true) : x = y := by
  cases x <;> simp only [sameB] at h <;> cases y <;> simp only [Bool.false_eq_true] at h
  case int.int j a k b =>
    have := Bool.and_eq_true_iff.1 h
    rw [kno_inj this.1]
    rw [ieq_eq] at this
    rw [beq_iff_eq.1 this.2]
  case bool.bool a b => rw [boolrec_eq h]
  case str.str a b => rw [eqL_eq] at h; rw [beq_iff_eq.1 h]
  case ptr.ptr a b c d => have := Bool.and_eq_true_iff.1 h; rw [beq_of this.1, beq_of this.2]
  case slice.slice a b c e f g a' b' c' e' f' g' =>
    simp only [Bool.and_eq_true] at h
    obtain ⟨h1, h2, h3, h4, h5, h6⟩ := h
    rw [beq_of h1, beq_of h2, beq_of h3, boolrec_eq h4, beq_of h5, beq_of h6]
  case tail.tail a b c e f a' b' c' e' f' =>
    simp only [Bool.and_eq_true] at h
    obtain ⟨h1, h2, h3, h4, h5⟩ := h
    rw [beq_of h1, beq_of h2, beq_of h3, beq_of h4, beq_of h5]
  case map.map a b => rw [beq_of h]
  case yield.yield a b => rw [beq_of h]
  case base.base a b => rw [sameBase_eq h]

theorem sameL_eq : ∀ {a b : List V}, sameL a b = true → a = b
  | [], [], _ => rfl
  | [], _ :: _, h => by cases h
  | _ :: _, [], h => by cases h
  | x :: a, y :: b, h => by
    replace h : (Bool.rec false (sameL a b) (sameB x y) : Bool) = true := h
    cases hs : sameB x y with
    | false => rw [hs] at h; cases h
    | true => rw [hs] at h; rw [sameB_eq hs, sameL_eq h]

theorem sameV_eq {x y : V} (h : sameV x y = true) : x = y := by
  unfold sameV at h
  split at h
  · split at h
    · rw [sameL_eq h]
    · cases h
  · split at h
    · rw [sameL_eq h]
    · cases h
  · split at h
    · have h := Bool.and_eq_true_iff.1 h
      have h2 := Bool.and_eq_true_iff.1 h.2
      rw [beq_of h.1, sameL_eq h2.1, sameL_eq h2.2]
    · cases h
  · split at h
    · have h := Bool.and_eq_true_iff.1 h
      rw [beq_of h.1, sameB_eq h.2]
    · cases h
  · exact sameB_eq h

end Go.Mir
namespace Go.Mir
open Go Go.RowKit

/-- a key that is put again stays as it is -/
theorem key_stays {P : Program} {x : V} (hk : keyOk x = true) {β : Beta} {v : Value} (h : conc β x = some v) (w : World) : (Instr.keyThatStays v v).run P w = .ok v w := by
  have hs : Instr.sameBits 10000 v v = true := by
    cases x <;> try (cases hk; done)
    case int k n =>
      simp only [conc, Option.some.injEq] at h; subst h
      simp [Instr.sameBits]
    case bool b =>
      simp only [conc, Option.some.injEq] at h; subst h
      simp [Instr.sameBits]
    case str l =>
      obtain ⟨_, rfl⟩ := conc_str h
      simp [Instr.sameBits, beq_toListBytes]
    case agg l =>
      obtain ⟨vs, hvs, rfl⟩ := conc_agg h
      have : ∀ (l : List V) (vs : List Value), (List.rec (motive := fun _ => Bool) true (fun v _ ih => match v with | .int _ _ => ih | .bool _ => ih | .str _ => ih | _ => false) l : Bool) = true →
          concL β l = some vs → (vs.zip vs).all (fun (x, y) => Instr.sameBits 9999 x y) = true := by
        intro l
        induction l with
        | nil => intro vs _ h; simp [concL] at h; subst h; rfl
        | cons a l ih =>
          intro vs hk h
          simp only [concL, Option.bind_eq_some_iff, Option.map_eq_some_iff] at h
          obtain ⟨y, hy, z, hz, rfl⟩ := h
          cases a <;> try (cases hk; done)
          case int k n =>
            simp only [conc, Option.some.injEq] at hy; subst hy
            have := ih z hk hz
            simp only [List.zip_cons_cons, List.all_cons, this, Bool.and_true]
            simp [Instr.sameBits]
          case bool b =>
            simp only [conc, Option.some.injEq] at hy; subst hy
            have := ih z hk hz
            simp only [List.zip_cons_cons, List.all_cons, this, Bool.and_true]
            simp [Instr.sameBits]
          case str s =>
            obtain ⟨_, rfl⟩ := conc_str hy
            have := ih z hk hz
            simp only [List.zip_cons_cons, List.all_cons, this, Bool.and_true]
            simp [Instr.sameBits, beq_toListBytes]
      have := this l vs hk hvs
      show Instr.sameBits (9999 + 1) (.agg vs.toArray) (.agg vs.toArray) = true
      simp only [Instr.sameBits, beq_self_eq_true, Bool.true_and]
      exact this
  simp [Instr.keyThatStays, hs]

end Go.Mir
namespace Go.Mir
open Go Go.RowKit

theorem mapObj_ok {h : T O} {m : V} {k : Nat → List (V × V × Nat) → Nat → Out} {r : Rz} (e : mapObj h m k = .ok r) : ∃ id es c, m = .map id ∧ h.get id = some (.map es c) ∧ k id es c = .ok r := by
  unfold mapObj at e
  cases m <;> try exact (bad_ne e).elim
  replace e := om_ok e; obtain ⟨o, ho, e⟩ := e
  replace e := oMap_ok e; obtain ⟨es, c, rfl, e⟩ := e
  exact ⟨_, es, c, rfl, ho, e⟩

section
variable {P : Program} {tys : T TI} (HT : TysR P tys)

/-- what is put under a key -/
def PutSpec (P : Program) (h : T O) (t : Nat) (m x : V) (f : V → V) (z : V) (h' : T O) (v : V) (b : Nat) : Prop :=
  ∀ W0 β n w, HR W0 β h n w → ∀ vm vx vz, conc β m = some vm → conc β x = some vx → conc β z = some vz →
    ∃ kt et blk ms clock, P.underlying t = some (.map kt et) ∧ vm = .map (some blk) ∧ (getObj blk).run P w = .ok (.map ms clock) w ∧ (∀ em, (Instr.checkKey em 10000 kt vx).run P w = .ok () w) ∧
      ((v = z ∧ b = clock ∧ (Instr.findKey kt vx ms.toList).run P w = .ok none w ∧
        (∀ vf, conc β (f z) = some vf → ∃ w', (setObj blk (.map (ms.push { key := vx, val := vf, born := clock }) (clock + 1))).run P w = .ok () w' ∧ HR W0 β h' n w' ∧ More β h n β h' n)) ∨
       (∃ i e, ms[i]? = some e ∧ (Instr.findKey kt vx ms.toList).run P w = .ok (some (i, e.val)) w ∧ e.key = vx ∧ conc β v = some e.val ∧ e.born = b ∧ (Instr.keyThatStays e.key vx).run P w = .ok vx w ∧
        (∀ vf, conc β (f v) = some vf → ∃ w', (setObj blk (.map (ms.modify i fun e => { e with key := vx, val := vf }) clock)).run P w = .ok () w' ∧ HR W0 β h' n w' ∧ More β h n β h' n)))

include HT in
theorem mapPut_ok {h : T O} {t : Nat} {m x : V} {f : V → V} {z : V} {k : T O → V → Nat → Out} {r : Rz} (e : mapPut tys h t m x f z k = .ok r) :
    ∃ h' v b, k h' v b = .ok r ∧ PutSpec P h t m x f z h' v b := by
  replace e := mapTy_ok e; obtain ⟨ti, kt, et, tk, te, hti, hk, htk, hte, e⟩ := e
  have Tk := HT _ _ htk
  have hu := (HT _ _ hti).map hk
  obtain ⟨dk, hdk, _⟩ := Tk.und
  replace e := need_ok e; obtain ⟨hko, e⟩ := e
  replace e := keyEq_ok HT e; obtain ⟨b, e, _, hkey⟩ := e
  replace e := need_ok e; obtain ⟨hb, e⟩ := e
  have hkey := hkey hb
  replace e := mapObj_ok e; obtain ⟨id, es, clock, rfl, ho, e⟩ := e
  replace e := find_ok HT e; obtain ⟨res, e, hres⟩ := e
  cases res with
  | none =>
    replace e : spine (es ++ [(x, f z, clock)]) (fun es => fNat (Nat.succ clock) fun c => setMap h id es c fun h => k h z clock) = .ok r := e
    rw [spine_eq, fNat_eq] at e
    replace e := setMap_ok (P := P) ho e; obtain ⟨h', e, hset⟩ := e
    refine ⟨h', z, clock, e, fun W0 β n w H vm vx vz hm hx hz => ?_⟩
    obtain ⟨bb, hbb, rfl⟩ := conc_map hm
    obtain ⟨ms, hget, _, hE⟩ := run_getMap (P := P) H ho hbb
    have hck := fun em => hkey kt Tk β vx vx hx hx 10000 w em (by omega)
    have hf := findKey_run (P := P) hdk w ms.toList (hres kt Tk β vx hx ms.toList hE w)
    refine ⟨kt, et, bb.blk, ms, clock, hu, rfl, hget, hck, .inl ⟨rfl, rfl, hf, fun vf hvf => ?_⟩⟩
    exact hset W0 β n w H bb hbb _ (by
      rw [Array.toList_push]
      exact hE.push (e := (x, f z, clock)) hx hvf rfl)
  | some p =>
    obtain ⟨i, en⟩ := p
    replace e : need (sameV en.1 x) (modE (fun e => (x, f e.2.1, e.2.2)) es i fun es => setMap h id es clock fun h => k h en.2.1 en.2.2) = .ok r := e
    replace e := need_ok e; obtain ⟨hs, e⟩ := e
    have hs := sameV_eq hs
    rw [modE_eq] at e
    replace e := setMap_ok (P := P) ho e; obtain ⟨h', e, hset⟩ := e
    refine ⟨h', _, _, e, fun W0 β n w H vm vx vz hm hx hz => ?_⟩
    obtain ⟨bb, hbb, rfl⟩ := conc_map hm
    obtain ⟨ms, hget, _, hE⟩ := run_getMap (P := P) H ho hbb
    have hck := fun em => hkey kt Tk β vx vx hx hx 10000 w em (by omega)
    obtain ⟨mm, h1, _, h2, hfa, h3, h4, h5⟩ := hres kt Tk β vx hx ms.toList hE w
    have hf := findKey_run (P := P) hdk w ms.toList hfa
    have hkv : mm.key = vx := by rw [hs, hx] at h3; exact (Option.some.inj h3).symm
    refine ⟨kt, et, bb.blk, ms, clock, hu, rfl, hget, hck, .inr ⟨i, mm, by simpa using h1, hf, hkv, h4, h5, by rw [hkv]; exact key_stays hko hx w, fun vf hvf => ?_⟩⟩
    exact hset W0 β n w H bb hbb _ (by
      rw [Array.toList_modify, modify_eq]
      refine hE.mod i fun e' m' he' hm' => ?_
      have e1 : e' = en := by
        have : es[i - 0]? = some en := h2
        rw [Nat.sub_zero, he'] at this; exact Option.some.inj this
      have e2 : m' = mm := by
        have : ms.toList[i - 0]? = some mm := h1
        rw [Nat.sub_zero, hm'] at this; exact Option.some.inj this
      subst e1; subst e2
      exact ⟨hx, hvf, h5⟩)

end

end Go.Mir
namespace Go.Mir
open Go Go.RowKit

def delLL {α : Type} : List α → Nat → List α
  | [], _ => []
  | _ :: t, 0 => t
  | a :: t, i + 1 => a :: delLL t i

theorem delE_eq {β : Type} : ∀ (l : List (V × V × Nat)) (i : Nat) (k : List (V × V × Nat) → β), delE l i k = k (delLL l i)
  | [], _, _ => rfl
  | _ :: _, 0, _ => rfl
  | a :: t, i + 1, k => by
    show delE t i (fun l => k (a :: l)) = _
    rw [delE_eq t i]; rfl

theorem erase_eq {α : Type} : ∀ (l : List α) (i : Nat), l.eraseIdx i = delLL l i
  | [], i => by cases i <;> rfl
  | a :: t, 0 => by simp [delLL]
  | a :: t, i + 1 => by simp [delLL, erase_eq t i]

theorem EntsR.del {β : Beta} : ∀ {es : List (V × V × Nat)} {ms : List MapEntry} (i : Nat), EntsR β es ms → EntsR β (delLL es i) (delLL ms i)
  | [], [], i, _ => by simp [delLL, EntsR]
  | e :: es, m :: ms, 0, h => h.2.2.2
  | e :: es, m :: ms, i + 1, h => ⟨h.1, h.2.1, h.2.2.1, EntsR.del i h.2.2.2⟩
  | [], _ :: _, _, h => h.elim
  | _ :: _, [], _, h => h.elim

section
variable {P : Program} {tys : T TI} (HT : TysR P tys)

include HT in
/-- an entry is taken away -/
theorem delK_ok {h : T O} {t : Nat} {m x : V} {k : T O → Out} {r : Rz} (e : delK tys h t m x k = .ok r) :
    ∃ h', k h' = .ok r ∧ ∀ W0 β n w, HR W0 β h n w → ∀ vm vx, conc β m = some vm → conc β x = some vx → ∀ (ts : Array TypeId), ts[0]? = some t → ∀ ty,
      ∃ w', (Builtin.delete_ ts ty #[vm, vx]).run P w = .ok (.tuple #[]) w' ∧ HR W0 β h' n w' ∧ More β h n β h' n := by
  replace e := mapTy_ok e; obtain ⟨ti, kt, et, tk, te, hti, hk, htk, hte, e⟩ := e
  have Tk := HT _ _ htk
  have hu := (HT _ _ hti).map hk
  obtain ⟨dk, hdk, _⟩ := Tk.und
  replace e := need_ok e; obtain ⟨hko, e⟩ := e
  replace e := keyEq_ok HT e; obtain ⟨b, e, _, hkey⟩ := e
  replace e := need_ok e; obtain ⟨hb, e⟩ := e
  have hkey := hkey hb
  replace e := mapObj_ok e; obtain ⟨id, es, clock, rfl, ho, e⟩ := e
  replace e := find_ok HT e; obtain ⟨res, e, hres⟩ := e
  cases res with
  | none =>
    replace e : setMap h id es clock k = .ok r := e
    replace e := setMap_ok (P := P) ho e; obtain ⟨h', e, hset⟩ := e
    refine ⟨h', e, fun W0 β n w H vm vx hm hx ts hts ty => ?_⟩
    obtain ⟨bb, hbb, rfl⟩ := conc_map hm
    obtain ⟨ms, hget, _, hE⟩ := run_getMap (P := P) H ho hbb
    have hck := fun em => hkey kt Tk β vx vx hx hx 10000 w em (by omega)
    have hf := findKey_run (P := P) hdk w ms.toList (hres kt Tk β vx hx ms.toList hE w)
    obtain ⟨w', c1, c2, c3⟩ := hset W0 β n w H bb hbb ms hE
    exact ⟨w', by simp [Builtin.delete_, hts, run_underlying hu, hget, hck, hf, c1], c2, c3⟩
  | some p =>
    obtain ⟨i, en⟩ := p
    replace e : delE es i (fun es => setMap h id es clock k) = .ok r := e
    rw [delE_eq] at e
    replace e := setMap_ok (P := P) ho e; obtain ⟨h', e, hset⟩ := e
    refine ⟨h', e, fun W0 β n w H vm vx hm hx ts hts ty => ?_⟩
    obtain ⟨bb, hbb, rfl⟩ := conc_map hm
    obtain ⟨ms, hget, _, hE⟩ := run_getMap (P := P) H ho hbb
    have hck := fun em => hkey kt Tk β vx vx hx hx 10000 w em (by omega)
    obtain ⟨mm, h1, _, h2, hfa, h3, h4, h5⟩ := hres kt Tk β vx hx ms.toList hE w
    have hf := findKey_run (P := P) hdk w ms.toList hfa
    obtain ⟨w', c1, c2, c3⟩ := hset W0 β n w H bb hbb (ms.eraseIdxIfInBounds i) (by
      have : (ms.eraseIdxIfInBounds i).toList = delLL ms.toList i := by rw [← erase_eq, Array.toList_eraseIdxIfInBounds]
      rw [this]
      exact hE.del i)
    exact ⟨w', by simp [Builtin.delete_, hts, run_underlying hu, hget, hck, hf, c1], c2, c3⟩

end

section
variable {P : Program} {tys : T TI} (HT : TysR P tys)

theorem run_mapUpdate {h : T O} {t : Nat} {m x v : V} {h' : T O} {u : V} {b : Nat} (S : PutSpec P h t m x (fun _ => v) v h' u b) {W0 : World} {β : Beta} {n : Nat} {w : World} (H : HR W0 β h n w)
    {vm vx vv : Value} (hm : conc β m = some vm) (hx : conc β x = some vx) (hv : conc β v = some vv) :
    ∃ w', (Instr.mapUpdate t vm vx vv).run P w = .ok () w' ∧ HR W0 β h' n w' ∧ More β h n β h' n := by
  obtain ⟨kt, et, blk, ms, clock, hu, rfl, hget, hck, hc⟩ := S W0 β n w H vm vx vv hm hx hv
  rcases hc with ⟨_, _, hf, hset⟩ | ⟨i, e, hi, hf, hkey, _, _, hst, hset⟩
  · obtain ⟨w', h1, h2, h3⟩ := hset vv hv
    exact ⟨w', by simp only [Instr.mapUpdate, Sem.run_bind, run_underlying hu, Result.andThen_ok, hget, hck, hf, h1], h2, h3⟩
  · obtain ⟨w', h1, h2, h3⟩ := hset vv hv
    refine ⟨w', ?_, h2, h3⟩
    simp only [Instr.mapUpdate, Sem.run_bind, run_underlying hu, Result.andThen_ok, hget, hck, hf, hi, Option.map_some, Option.getD_some, hst, h1]

theorem run_mapEntry {h : T O} {t : Nat} {m x z : V} {h' : T O} {u : V} {b : Nat} (S : PutSpec P h t m x (fun v => v) z h' u b) {W0 : World} {β : Beta} {n : Nat} {w : World} (H : HR W0 β h n w)
    {vm vx vz : Value} (hm : conc β m = some vm) (hx : conc β x = some vx) (hz : conc β z = some vz) (hzr : ∀ kt et, P.underlying t = some (.map kt et) → (zeroValue et).run P w = .ok vz w) :
    ∃ w' val, (Instr.mapEntry t vm vx).run P w = .ok val w' ∧ conc β (.tuple [u, .int .i64 (.ofNat b)]) = some val ∧ HR W0 β h' n w' ∧ More β h n β h' n := by
  obtain ⟨kt, et, blk, ms, clock, hu, rfl, hget, hck, hc⟩ := S W0 β n w H vm vx vz hm hx hz
  rcases hc with ⟨rfl, rfl, hf, hset⟩ | ⟨i, e, hi, hf, hkey, hv, hborn, hst, hset⟩
  · obtain ⟨w', h1, h2, h3⟩ := hset vz hz
    refine ⟨w', .tuple #[vz, goInt b], ?_, ?_, h2, h3⟩
    · simp only [Instr.mapEntry, Sem.run_bind, run_underlying hu, Result.andThen_ok, hget, hck, hf, hzr kt et hu, h1, Sem.run_pure]
    · simp [conc, concL, hz, goInt]
  · obtain ⟨w', h1, h2, h3⟩ := hset e.val hv
    refine ⟨w', .tuple #[e.val, goInt b], ?_, ?_, h2, h3⟩
    · have hmod : (ms.modify i fun e => { e with key := vx }) = ms.modify i fun e' => { e' with key := vx, val := e.val } := by
        apply Array.ext_getElem?
        intro j
        simp only [Array.getElem?_modify]
        by_cases hij : i = j
        · subst hij; simp [hi]
        · simp [hij]
      simp only [Instr.mapEntry, Sem.run_bind, run_underlying hu, Result.andThen_ok, hget, hck, hf, hi, Option.map_some, Option.getD_some, hst, hmod, h1, Sem.run_pure, hborn]
    · simp [conc, concL, hv, goInt]

end

end Go.Mir
namespace Go.Mir
open Go Go.RowKit

theorem findBorn_go {kn : Out} {k : Nat → Out} {r : Rz} {b : Nat} : ∀ (es : List (V × V × Nat)) (i0 : Nat),
    (List.rec (motive := fun _ => Nat → Out) (fun _ => kn) (fun e _ ih i => Bool.rec (ih (Nat.succ i)) (k i) (Nat.beq e.2.2 b)) es i0 : Out) = .ok r →
    kn = .ok r ∨ ∃ i, i0 ≤ i ∧ k i = .ok r ∧ ∀ β ms, EntsR β es ms → ms.findIdx? (fun e => (e.born : Int) == (b : Int)) = some (i - i0)
  | [], i0, h => .inl h
  | e :: es, i0, h => by
    rcases rec_ok h with ⟨hb, h⟩ | ⟨hb, h⟩
    · refine .inr ⟨i0, Nat.le_refl _, h, fun β ms hE => ?_⟩
      cases ms with
      | nil => exact hE.elim
      | cons m ms =>
        have : m.born = b := by rw [hE.2.2.1]; exact Nat.eq_of_beq_eq_true hb
        simp [List.findIdx?_cons, this]
    · rcases findBorn_go es (i0 + 1) h with h | ⟨i, hi, h, hf⟩
      · exact .inl h
      · refine .inr ⟨i, by omega, h, fun β ms hE => ?_⟩
        cases ms with
        | nil => exact hE.elim
        | cons m ms =>
          have hne : ¬ m.born = b := by
            rw [hE.2.2.1]; intro e; rw [e] at hb; simp at hb
          have hne' : ((m.born : Int) == (b : Int)) = false := by
            simp only [beq_eq_false_iff_ne, ne_eq]; omega
          simp only [List.findIdx?_cons, hne', Bool.false_eq_true, if_false, hf β ms hE.2.2.2, Option.map_some]
          congr 1; omega

theorem entryPut_ok {P : Program} {h : T O} {m b x : V} {k : T O → Out} {r : Rz} (e : entryPut h m b x k = .ok r) :
    ∃ h', k h' = .ok r ∧ ∀ W0 β n w, HR W0 β h n w → ∀ t vm vb vx, conc β m = some vm → conc β b = some vb → conc β x = some vx →
      ∃ w', (Instr.entryStore t vm vb vx).run P w = .ok () w' ∧ HR W0 β h' n w' ∧ More β h n β h' n := by
  replace e := mapObj_ok e; obtain ⟨id, es, clock, rfl, ho, e⟩ := e
  replace e := ixOf_ok e; obtain ⟨kk, q, rfl, e⟩ := e
  rcases findBorn_go es 0 e with e | ⟨i, _, e, hf⟩
  · exact (bad_ne e).elim
  · rw [modE_eq] at e
    replace e := setMap_ok (P := P) ho e; obtain ⟨h', e, hset⟩ := e
    refine ⟨h', e, fun W0 β n w H t vm vb vx hm hb hx => ?_⟩
    obtain ⟨bb, hbb, rfl⟩ := conc_map hm
    simp only [conc, Option.some.injEq] at hb; subst hb
    obtain ⟨ms, hget, _, hE⟩ := run_getMap (P := P) H ho hbb
    obtain ⟨w', h1, h2, h3⟩ := hset W0 β n w H bb hbb (ms.modify i fun e => { e with val := vx }) (by
      rw [Array.toList_modify, modify_eq]
      exact hE.mod i fun e' m' he' hm' => by
        have : ∀ {es : List (V × V × Nat)} {ms : List MapEntry} (i : Nat), EntsR β es ms → ∀ e m, es[i]? = some e → ms[i]? = some m → conc β e.1 = some m.key ∧ m.born = e.2.2 := by
          intro es
          induction es with
          | nil => intro ms i _ e m h; simp at h
          | cons e0 es ih =>
            intro ms i hE e m h1 h2
            cases ms with
            | nil => exact hE.elim
            | cons m0 ms =>
              cases i with
              | zero => simp at h1 h2; subst h1; subst h2; exact ⟨hE.1, hE.2.2.1⟩
              | succ i => exact ih i hE.2.2.2 e m (by simpa using h1) (by simpa using h2)
        have := this i hE e' m' he' hm'
        exact ⟨this.1, hx, this.2⟩)
    refine ⟨w', ?_, h2, h3⟩
    have hfi := hf β ms.toList hE
    rw [Nat.sub_zero] at hfi
    have hfa : ms.findIdx? (fun e => (e.born : Int) == (q : Int)) = some i := by
      have := hfi; rw [← List.findIdx?_toArray, Array.toArray_toList] at this; exact this
    simp only [Instr.entryStore, Sem.run_bind, Sem.run_pure, Result.andThen_ok, hget, asInt, asIntOf, Int.ofNat_eq_natCast, hfa, h1]

end Go.Mir
