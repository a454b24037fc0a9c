/- The small machine, walked with values that are not written out: maps; structs compared. No statement of the program stands here. -/
import Derived.Test.YtojkinikdcelbaaGreatDoorWD
set_option linter.unusedSimpArgs false
set_option linter.unusedVariables false
set_option linter.defProp false
namespace Go.Mir
open Go

section
variable {E : Env} {Q : Rz → Prop} {i : Fi} {regs : T V} {t : List It} {cs : List Fr} {h : T O} {n : Nat}
theorem W_goto {l : Nat} : W E Q (fun go => go i regs (.code (.goto l) :: t) cs h n) ↔ W E Q (fun go => gotoK l t fun t => go i regs t cs h n) := W_go
theorem W_rangeF {f : Operand} {ps : Array Nat} {a b : Code} : W E Q (fun go => go i regs (.code (.rangeFunc f ps a b) :: t) cs h n) ↔ W E Q (fun go => ev regs f (stRange E i regs t cs h n go ps a b)) := W_go
theorem W_beginR {f sz l : Nat} {d : List Nat} : W E Q (fun go => go ⟨f, sz, d, some l⟩ regs (.beginRound :: t) cs h n) ↔ W E Q (fun go => om (h.get l) (beginRoundK l h fun h => go ⟨f, sz, d, some l⟩ regs t cs h n)) := W_go
theorem W_endR {f sz l : Nat} {d : List Nat} : W E Q (fun go => go ⟨f, sz, d, some l⟩ regs [] cs h n) ↔ W E Q (fun go => om (h.get l) (endRoundK l none cs h n go)) := W_go
theorem W_retR {f sz l : Nat} {d : List Nat} : W E Q (fun go => go ⟨f, sz, d, some l⟩ regs (.code .ret :: t) cs h n) ↔ W E Q (fun go => om (h.get l) (endRoundK l (some .ret) cs h n go)) := W_go
/-- behind the loop: on, or the jump that waits -/
noncomputable def pendK (p : Option Code) (a : Out) (b : Code → Out) : Out := match p with | none => a | some c => b c
theorem pendK_none {a : Out} {b : Code → Out} : pendK none a b = a := rfl
theorem pendK_some {c : Code} {a : Out} {b : Code → Out} : pendK (some c) a b = b c := rfl
theorem W_endRange {l : Nat} : W E Q (fun go => go i regs (.endRange l :: t) cs h n) ↔ W E Q (fun go => om (h.get l) (endRangeK l h fun h p => pendK p (go i regs t cs h n) fun c => go i regs (.code c :: t) cs h n)) := W_go
/-- what was put off -/
noncomputable def deferredK (d : Nat) (h : T O) (o : O) (k : T O → Out) : Out := match o with | .deferred => T.setK h d none (bad 180) k | _ => bad 181
theorem deferredK_eq {d : Nat} {k : T O → Out} : deferredK d h .deferred k = k (h.put d none) := by show T.setK _ _ _ (bad 180) _ = _; rw [T.setK_eq]
theorem W_finD {f sz d : Nat} {ds : List Nat} {rd : Option Nat} : W E Q (fun go => go ⟨f, sz, d :: ds, rd⟩ regs [.fin] cs h n) ↔ W E Q (fun go => om (h.get d) fun o => deferredK d h o fun h => go ⟨f, sz, ds, rd⟩ regs [.fin] cs h n) := W_go
end

section
variable {E : Env} {regs : T V} {t : List It} {cs : List Fr} {h : T O} {n : Nat} {go : Go_}
theorem stRange_eq {fn sz : Nat} {d : List Nat} {ps : Array Nat} {a b : Code} {f : V} : stRange E ⟨fn, sz, d, none⟩ regs t cs h n go ps a b f =
    callK E f [.yield (n + 1)] ⟨⟨fn, sz, n :: d, none⟩, regs, .inRange (n + 1) :: t⟩ cs ((h.put n (some .deferred)).put (n + 1) (some (.loop .ready none fn sz regs ps.toList a b n))) (n + 1 + 1) go fun _ _ _ => bad 193 := by
  show newO _ _ _ _ = _
  rw [newO_eq, newO_eq]
theorem roundK_eq {l fn sz d : Nat} {args : List V} {fr : Fr} {st : LoopState} {pe : Option Code} {ps : List Nat} {a b : Code} :
    roundK l args fr cs h n go (.loop st pe fn sz regs ps a b d) = putParams regs sz ps args fun regs => go ⟨fn, sz, [], some l⟩ regs [.code a, .beginRound, .code b] (fr :: cs) h n := rfl
theorem putParams_nil {sz : Nat} {k : T V → Out} : putParams regs sz [] [] k = k regs := rfl
theorem putParams_cons {sz p : Nat} {ps : List Nat} {a : V} {args : List V} {k : T V → Out} : putParams regs sz (p :: ps) (a :: args) k = need (Nat.ble (p + 1) sz) (putParams (regs.put p (some a)) sz ps args k) := by
  show need _ (T.setK _ _ _ (bad 146) _) = _
  rw [T.setK_eq]; rfl
theorem beginRoundK_eq {l fn sz d : Nat} {pe : Option Code} {ps : List Nat} {a b : Code} {k : T O → Out} : beginRoundK l h k (.loop .ready pe fn sz regs ps a b d) = k (h.put l (some (.loop .busy pe fn sz regs ps a b d))) := by
  show T.setK _ _ _ (bad 201) _ = _; rw [T.setK_eq]
theorem endRoundK_on {l fn sz d : Nat} {st : LoopState} {pe : Option Code} {ps : List Nat} {a b : Code} {c : Fr} : endRoundK l none (c :: cs) h n go (.loop st pe fn sz regs ps a b d) = popK (.bool true) (c :: cs) (h.put l (some (.loop .ready none fn sz regs ps a b d))) n go := by
  show T.setK _ _ _ (bad 163) _ = _; rw [T.setK_eq]
theorem endRoundK_jump {l fn sz d : Nat} {st : LoopState} {pe : Option Code} {ps : List Nat} {a b j : Code} {c : Fr} : endRoundK l (some j) (c :: cs) h n go (.loop st pe fn sz regs ps a b d) = popK (.bool false) (c :: cs) (h.put l (some (.loop .done (some j) fn sz regs ps a b d))) n go := by
  show T.setK _ _ _ (bad 163) _ = _; rw [T.setK_eq]
theorem endRangeK_on {l fn sz d : Nat} {pe : Option Code} {ps : List Nat} {a b : Code} {k : T O → Option Code → Out} : endRangeK l h k (.loop .ready pe fn sz regs ps a b d) = k (h.put l (some (.loop .exhausted pe fn sz regs ps a b d))) pe := by
  show T.setK _ _ _ (bad 199) _ = _; rw [T.setK_eq]
theorem endRangeK_jump {l fn sz d : Nat} {pe : Option Code} {ps : List Nat} {a b : Code} {k : T O → Option Code → Out} : endRangeK l h k (.loop .done pe fn sz regs ps a b d) = k (h.put l (some (.loop .exhausted pe fn sz regs ps a b d))) pe := by
  show T.setK _ _ _ (bad 199) _ = _; rw [T.setK_eq]
theorem popK_inRange {v : V} {i : Fi} {l : Nat} : popK v (⟨i, regs, .inRange l :: t⟩ :: cs) h n go = go i regs (.endRange l :: t) cs h n := rfl
end

/- labels -/
section
variable {l : Nat} {t : List It} {k : List It → Out}
theorem gotoK_code {c : Code} : gotoK l (.code c :: t) k = gotoK l t k := rfl
theorem gotoK_reg {all rem : List Oper} : gotoK l (.reg all rem :: t) k = gotoK l t k := rfl
theorem gotoK_block {id : Nat} : gotoK l (.inBlock id :: t) k = gotoK l t k := rfl
theorem gotoK_loop {c : Code} : gotoK l (.inLoop c :: t) k = gotoK l t k := rfl
theorem gotoK_scope {b rest : Code} (h : Go.findLabel b l = some rest) : gotoK l (.inScope b :: t) k = k (.code rest :: .inScope b :: t) := by
  show (match Go.findLabel b l with | some rest => k (.code rest :: .inScope b :: t) | none => gotoK l t k) = _
  rw [h]
end

theorem wantU {w : Bool} {k : Bool → Out} : wantV w undefV k = k false := rfl

/-- the rules of rounds, in one -/
theorem mRound : type_of% (And.intro @W_rangeF <| And.intro @W_beginR <| And.intro @W_endR <| And.intro @W_retR <| And.intro @W_endRange <| @W_finD) := And.intro @W_rangeF <| And.intro @W_beginR <| And.intro @W_endR <| And.intro @W_retR <| And.intro @W_endRange <| @W_finD
theorem mRoundV : type_of% (And.intro @pendK_none <| And.intro @pendK_some <| And.intro @deferredK_eq <| And.intro @stRange_eq <| And.intro @roundK_eq <| And.intro @putParams_nil <| And.intro @putParams_cons <| And.intro @beginRoundK_eq <| And.intro @endRoundK_on <| And.intro @endRoundK_jump <| And.intro @endRangeK_on <| And.intro @endRangeK_jump <| @popK_inRange) :=
  And.intro @pendK_none <| And.intro @pendK_some <| And.intro @deferredK_eq <| And.intro @stRange_eq <| And.intro @roundK_eq <| And.intro @putParams_nil <| And.intro @putParams_cons <| And.intro @beginRoundK_eq <| And.intro @endRoundK_on <| And.intro @endRoundK_jump <| And.intro @endRangeK_on <| And.intro @endRangeK_jump <| @popK_inRange
end Go.Mir
namespace Go.Mir
open Go

section
variable {tys : T TI} {k : V → Out} {t : Nat} {kb : Bool → Out}
theorem binK_aggEq {l : List V} {y : V} : binK tys .eql t (.agg l) y k = om (tys.get t) fun ti => need (isAggK ti.kind) (eqT tys 20 ti (.agg l) y fun r => k (.bool r)) := rfl
theorem binK_aggNe {l : List V} {y : V} : binK tys .neq t (.agg l) y k = om (tys.get t) fun ti => need (isAggK ti.kind) (eqT tys 20 ti (.agg l) y fun r => k (.bool (not r))) := rfl
theorem eqInt_eq {kk : IntKind} {a b : Int} : eqInt (.int kk a) (.int kk b) kb = kb (decide (a = b)) := by
  show need _ (fB _ kb) = _
  rw [sameKind_self, fB_eq, ieq_eq, need_true]; rfl
theorem eqStr_eq {a b : List Nat} : eqStr (.str a) (.str b) kb = kb (decide (a = b)) := by
  show fB _ kb = _
  rw [fB_eq, eqL_eq]
  have : (a == b) = decide (a = b) := by rw [Bool.eq_iff_iff]; simp
  rw [this]
theorem eqBool_eq {a b : Bool} : eqBool (.bool a) (.bool b) kb = kb (decide (a = b)) := by
  show fB _ kb = _
  rw [fB_eq]; cases a <;> cases b <;> rfl
theorem eqT_int {d s b : Nat} {kk : IntKind} {z : List V} {x y : V} : eqT tys (d + 1) { kind := .int kk, size := s, bytes := b, zero := z } x y kb = eqInt x y kb := rfl
theorem eqT_str {d s b : Nat} {z : List V} {x y : V} : eqT tys (d + 1) { kind := .string, size := s, bytes := b, zero := z } x y kb = eqStr x y kb := rfl
theorem eqT_bool {d s b : Nat} {z : List V} {x y : V} : eqT tys (d + 1) { kind := .bool, size := s, bytes := b, zero := z } x y kb = eqBool x y kb := rfl
theorem eqT_struct {d s b : Nat} {fs : List (Nat × Nat × Nat × Bool)} {z xs ys : List V} : eqT tys (d + 1) { kind := .struct fs, size := s, bytes := b, zero := z } (.agg xs) (.agg ys) kb = eqFs tys (eqT tys d) fs xs ys kb := rfl
noncomputable def eqAi (te : TI) (ih : TI → V → V → (Bool → Out) → Out) (xs ys : List V) (kb : Bool → Out) (m i : Nat) : Out :=
  (Nat.rec (motive := fun _ => Nat → Out) (fun _ => kb true) (fun _ go i => partV te xs (Nat.mul i te.size) fun a => partV te ys (Nat.mul i te.size) fun b => ih te a b fun r => Bool.rec (kb false) (go (Nat.succ i)) r) m : Nat → Out) i
theorem eqT_array {d s b m e : Nat} {z xs ys : List V} : eqT tys (d + 1) { kind := .array m e, size := s, bytes := b, zero := z } (.agg xs) (.agg ys) kb = om (tys.get e) fun te => eqAi te (eqT tys d) xs ys kb m 0 := rfl
theorem eqAi_0 {te : TI} {ih : TI → V → V → (Bool → Out) → Out} {xs ys : List V} {i : Nat} : eqAi te ih xs ys kb 0 i = kb true := rfl
theorem eqAi_s {te : TI} {ih : TI → V → V → (Bool → Out) → Out} {xs ys : List V} {m i : Nat} : eqAi te ih xs ys kb (m + 1) i = partV te xs (i * te.size) fun a => partV te ys (i * te.size) fun b => ih te a b fun r => Bool.rec (kb false) (eqAi te ih xs ys kb m (i + 1)) r := rfl
theorem eqFs_nil {ih : TI → V → V → (Bool → Out) → Out} {xs ys : List V} : eqFs tys ih [] xs ys kb = kb true := rfl
theorem eqFs_cons {ih : TI → V → V → (Bool → Out) → Out} {f : Nat × Nat × Nat × Bool} {fs : List (Nat × Nat × Nat × Bool)} {xs ys : List V} : eqFs tys ih (f :: fs) xs ys kb =
    om (tys.get f.2.1) fun ti => need f.2.2.2 (partV ti xs f.1 fun a => partV ti ys f.1 fun b => ih ti a b fun r => Bool.rec (kb false) (eqFs tys ih fs xs ys kb) r) := rfl
theorem funNe {s b g : Nat} {z a c : List V} (h : tys.get t = some { kind := .func, size := s, bytes := b, zero := z }) : binK tys .neq t (.func g a c) (.base .nilFunc) k = k (.bool true) := by
  show om (tys.get t) _ = _
  rw [h]; rfl
theorem funNe0 {s b : Nat} {z : List V} (h : tys.get t = some { kind := .func, size := s, bytes := b, zero := z }) : binK tys .neq t (.base .nilFunc) (.base .nilFunc) k = k (.bool false) := by
  show om (tys.get t) _ = _
  rw [h]; rfl

/- maps -/
variable {h : T O} {tk : TI} {x : V}
noncomputable def mapIn (tys : T TI) (kd : TK) (k : TI → TI → Out) : Out := match kd with | .map kt et => om (tys.get kt) fun tk => om (tys.get et) fun te => k tk te | _ => bad 27
theorem mapTy_eq {k : TI → TI → Out} : mapTy tys t k = om (tys.get t) fun ti => mapIn tys ti.kind k := rfl
theorem mapIn_map {kt et : Nat} {k : TI → TI → Out} : mapIn tys (.map kt et) k = om (tys.get kt) fun tk => om (tys.get et) fun te => k tk te := rfl
theorem keyOk_int {kk : IntKind} {a : Int} : keyOk (.int kk a) = true := rfl
theorem keyOk_str {a : List Nat} : keyOk (.str a) = true := rfl
theorem keyEq_int {kk : IntKind} {a : Int} {y : V} : keyEq tys tk (.int kk a) y kb = eqT tys 20 tk (.int kk a) y kb := rfl
theorem keyEq_str {a : List Nat} {y : V} : keyEq tys tk (.str a) y kb = eqT tys 20 tk (.str a) y kb := rfl
theorem keyEq_bool {a : Bool} {y : V} : keyEq tys tk (.bool a) y kb = eqT tys 20 tk (.bool a) y kb := rfl
noncomputable def findI (tys : T TI) (tk : TI) (x : V) (es : List (V × V × Nat)) (i : Nat) (kn : Out) (k : Nat → V × V × Nat → Out) : Out :=
  (List.rec (motive := fun _ => Nat → Out) (fun _ => kn) (fun e _ ih i => keyEq tys tk x e.1 fun r => Bool.rec (ih (Nat.succ i)) (k i e) r) es : Nat → Out) i
theorem find_eq {es : List (V × V × Nat)} {kn : Out} {k : Nat → V × V × Nat → Out} : find tys tk x es kn k = findI tys tk x es 0 kn k := rfl
theorem findI_nil {i : Nat} {kn : Out} {k : Nat → V × V × Nat → Out} : findI tys tk x [] i kn k = kn := rfl
theorem findI_cons {e : V × V × Nat} {es : List (V × V × Nat)} {i : Nat} {kn : Out} {k : Nat → V × V × Nat → Out} : findI tys tk x (e :: es) i kn k = keyEq tys tk x e.1 fun r => Bool.rec (findI tys tk x es (i + 1) kn k) (k i e) r := rfl
theorem zeroV_eq {ti : TI} : zeroV ti k = Bool.rec (one ti.zero k) (k (.agg ti.zero)) (isAggK ti.kind) := rfl
theorem one_eq {v : V} : one [v] k = k v := rfl
theorem lookup_eq {id : Nat} : lookupK tys h t (.map id) x false k = mapTy tys t fun tk te => need (keyOk x) (om (h.get id) fun o => oMap o fun es _ => keyEq tys tk x x fun b => need b (find tys tk x es (zeroV te k) fun _ e => k e.2.1)) := rfl
theorem modE_go {f : V × V × Nat → V × V × Nat} {k : List (V × V × Nat) → Out} : ∀ {l : List (V × V × Nat)} {i : Nat}, modE f l i k = k (l.modify i f)
  | [], i => by simp [modE]
  | a :: l, 0 => rfl
  | a :: l, i + 1 => by
    show modE f l i (fun l => k (a :: l)) = _
    rw [modE_go (k := fun l => k (a :: l)), List.modify_succ_cons]
theorem mapPut_eq {id : Nat} {f : V → V} {z : V} {k : T O → V → Nat → Out} : mapPut tys h t (.map id) x f z k = mapTy tys t fun tk _ => need (keyOk x) (keyEq tys tk x x fun b => need b (om (h.get id) fun o => oMap o fun es c =>
    find tys tk x es (k (h.put id (some (.map (es ++ [(x, f z, c)]) (c + 1)))) z c) fun i e => need (sameV e.1 x) (k (h.put id (some (.map (es.modify i fun e => (x, f e.2.1, e.2.2)) c))) e.2.1 e.2.2))) := by
  unfold mapPut
  congr 1; funext tk _; congr 1; congr 1; funext b; congr 1
  show (om (h.get id) fun o => oMap o fun es c => _) = _
  congr 1; funext o; congr 1; funext es c
  show find _ _ _ _ (spine _ _) _ = _
  congr 1
  · rw [spine_eq, fNat_eq]; unfold setMap; rw [T.setK_eq]
  · funext i e; congr 1
    rw [modE_go]; unfold setMap; rw [T.setK_eq]
end

theorem need_decT {o : Out} : need (decide True) o = o := by rw [decide_true]; rfl
/-- the rules of maps, in one -/
theorem mMap : type_of% (And.intro @binK_aggEq <| And.intro @binK_aggNe <| And.intro @eqInt_eq <| And.intro @eqStr_eq <| And.intro @eqBool_eq <| And.intro @eqT_int <| And.intro @eqT_str <| And.intro @eqT_bool <| And.intro @mapTy_eq <| And.intro @mapIn_map <| And.intro @keyOk_int <| And.intro @keyOk_str <| And.intro @keyEq_int <| And.intro @keyEq_str <| And.intro @keyEq_bool <| And.intro @find_eq <| And.intro @findI_nil <| And.intro @findI_cons <| And.intro @zeroV_eq <| And.intro @one_eq <| And.intro @lookup_eq <| And.intro @need_decT <| @mapPut_eq) :=
  And.intro @binK_aggEq <| And.intro @binK_aggNe <| And.intro @eqInt_eq <| And.intro @eqStr_eq <| And.intro @eqBool_eq <| And.intro @eqT_int <| And.intro @eqT_str <| And.intro @eqT_bool <| And.intro @mapTy_eq <| And.intro @mapIn_map <| And.intro @keyOk_int <| And.intro @keyOk_str <| And.intro @keyEq_int <| And.intro @keyEq_str <| And.intro @keyEq_bool <| And.intro @find_eq <| And.intro @findI_nil <| And.intro @findI_cons <| And.intro @zeroV_eq <| And.intro @one_eq <| And.intro @lookup_eq <| And.intro @need_decT <| @mapPut_eq
end Go.Mir
